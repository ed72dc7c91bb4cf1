/- A part of the proof of the claim: the abstract layer, the contracts of the functions, the law (no condition of its own). -/
import Derived.Test.YtjjbjibbjbbeaaaK4
import Derived.Test.YtjjbjibbjbbeaaaProg
import Derived.KernelRfl
open Nat renaming reduceEqDiff → Za, reduceAdd → Zb, reduceLeDiff → Zc
open Int renaming reduceEq → Zd, reduceLT → Ze, reduceLE → Zf, reduceNeg → Zg, reduceAdd → Zh, reduceSub → Zi, reduceToNat → Zj
/- The lifter: an expression's parts. -/
set_option linter.unusedVariables false
set_option linter.unusedSimpArgs false
namespace Go.AL
def supC (p : Sup) : List AV := .str p.nm :: strs p.ps :: p.bd.cells
theorem Cr.drop9 (x : Cr) : List.drop 9 x.cells = [] := List.drop_of_length_le (by rw [x.len]; omega)
structure LiftAt (σ : Store) (fid : Nat) (v : AV) (df : ByteArray) (es : List (List AV)) : Prop where
 hd : σ.get fid = some (.cells 120 0 2 [[.str df, v]])
 sl : SliceAt σ v 71 11 es
 nv : fid ∉ slIds v
/-- The lifter behind a call. -/
def LPost (σ : Store) (fid : Nat) (v : AV) (df : ByteArray) (es : List (List AV)) (s : Store) : Prop :=
 ∃ v', LiftAt s fid v' df es ∧ σ.next ≤ s.next ∧ (∀ j, j < σ.next → j ≠ fid → j ∉ slIds v → s.get j = σ.get j) ∧ (∀ j, j ∈ slIds v' → j ∈ slIds v ∨ σ.next ≤ j)
@[congr] theorem LPost_congr {w : Prop} (hw : Visit = w) {σ : Store} {fid : Nat} {v : AV} {df : ByteArray} {es : List (List AV)} {s s' : Store} (h : s = s') : LPost σ fid v df es s = LPost σ fid v df es s' := by rw [h]
/-- The lifter amid a function's own variables (those from N on are newer). -/
structure MS (σ s : Store) (N fid : Nat) (v v' : AV) (df : ByteArray) (es : List (List AV)) : Prop where
 la : LiftAt s fid v' df es
 le : σ.next ≤ N
 next : N ≤ s.next
 keep : ∀ j, j < σ.next → j ≠ fid → j ∉ slIds v → s.get j = σ.get j
 fresh : ∀ j, j ∈ slIds v' → (j ∈ slIds v ∧ j < σ.next) ∨ N ≤ j
 fid : fid < σ.next
theorem MS.start {σ s : Store} {N fid : Nat} {v : AV} {df : ByteArray} {es : List (List AV)} (h : LiftAt σ fid v df es) (k : Kp σ s) (hN : N = s.next) : MS σ s N fid v v df es :=
 ⟨⟨k.get h.hd, h.sl.keep fun i hi => k.keep i (h.sl.lt hi), h.nv⟩, by have := k.next; omega, by omega, fun j hj _ _ => k.keep j hj, fun j hj => .inl ⟨hj, h.sl.lt hj⟩, σ.lt h.hd⟩
section
variable {σ s s2 : Store} {N fid : Nat} {v v' : AV} {df : ByteArray} {es es2 : List (List AV)}
theorem MS.out (h : MS σ s N fid v v' df es) : LPost σ fid v df es s := ⟨v', h.la, by have := h.le; have := h.next; omega, h.keep, fun j hj => (h.fresh j hj).elim (fun a => .inl a.1) (fun a => .inr (by have := h.le; omega))⟩
theorem MS.push (h : MS σ s N fid v v' df es) (o : AObj) : MS σ (s.push o) N fid v v' df es :=
 ⟨⟨(Kp.pushed s o).get h.la.hd, h.la.sl.keep fun i hi => (Kp.pushed s o).keep i (h.la.sl.lt hi), h.la.nv⟩, h.le, by rw [Store.push_next]; have := h.next; omega, fun j hj h1 h2 => by rw [(Kp.pushed s o).keep j (by have := h.le; have := h.next; omega), h.keep j hj h1 h2], h.fresh, h.fid⟩
theorem MS.chg (h : MS σ s N fid v v' df es) {s2 : Store} {id : Nat} (h1 : σ.next ≤ id) (h2 : id ∉ slIds v') (hn : s2.next = s.next) (hg : ∀ j, j ≠ id → s2.get j = s.get j) : MS σ s2 N fid v v' df es :=
 ⟨⟨by rw [hg _ (by have := h.fid; omega)]; exact h.la.hd, h.la.sl.keep fun i hi => hg i (fun e => h2 (e ▸ hi)), h.la.nv⟩, h.le, by rw [hn]; exact h.next, fun j hj a b => by rw [hg j (by omega), h.keep j hj a b], h.fresh, h.fid⟩
theorem MS.upd (h : MS σ s N fid v v' df es) {id : Nat} (o : AObj) (h1 : σ.next ≤ id) (h2 : id ∉ slIds v') : MS σ (s.upd id o) N fid v v' df es :=
 h.chg h1 h2 rfl fun j hj => Store.get_upd_ne _ _ hj
theorem MS.call (h : MS σ s N fid v v' df es) (k : LPost s fid v' df es2 s2) : ∃ v2, MS σ s2 N fid v v2 df es2 ∧ (∀ j, j < s.next → j ≠ fid → j ∉ slIds v' → s2.get j = s.get j) ∧ (∀ j, j ∈ slIds v2 → j ∈ slIds v' ∨ s.next ≤ j) ∧ s.next ≤ s2.next := by
 obtain ⟨v2, hl, hn, hk, hf⟩ := k
 refine ⟨v2, ⟨hl, h.le, by have := h.next; omega, fun j hj a b => ?_, fun j hj => ?_, h.fid⟩, hk, hf, hn⟩
 · rw [hk j (by have := h.le; have := h.next; omega) a (fun hm => (h.fresh j hm).elim (fun q => b q.1) (fun q => by have := h.le; omega)), h.keep j hj a b]
 · rcases hf j hj with q | q
   · exact h.fresh j q
   · exact .inr (by have := h.next; omega)
/-- An own variable is none of the lifter's. -/
theorem MS.loc (h : MS σ s N fid v v' df es) {j : Nat} (h1 : σ.next ≤ j) (h2 : j < N) : j ∉ slIds v' := fun hm => (h.fresh j hm).elim (fun q => by omega) (fun q => by omega)
/-- A slice that is built beside. -/
structure Bes (s : Store) (N : Nat) (v' u : AV) (ty sz : Nat) (us : List (List AV)) : Prop where
 sl : SliceAt s u ty sz us
 new : ∀ j, j ∈ slIds u → N ≤ j
 dj : ∀ j, j ∈ slIds u → j ∉ slIds v'
theorem Bes.start (s : Store) (N : Nat) (v' : AV) (ty sz : Nat) : Bes s N v' .nils ty sz [] := ⟨.nil _ _ _, by simp [slIds], by simp [slIds]⟩
theorem ok_bes {u : AV} {ty sz bytes : Nat} {us us2 : List (List AV)} {K : AV → Store → Prop} (h : MS σ s N fid v v' df es) (hB : Bes s N v' u ty sz us) (h2 : ∀ q, q ∈ us2 → q.length = sz) (hb : (us.length + us2.length) * bytes ≤ 140737488355328) (hm : us.length + us2.length ≤ maxLen)
 (hk : ∀ u' s', MS σ s' N fid v v' df es → Bes s' N v' u' ty sz (us ++ us2) → (∀ j, j < s.next → j ∉ slIds u → s'.get j = s.get j) → s.next ≤ s'.next → K u' s') : ok (eApp ty sz bytes u (some us2) s) K := by
 refine ok_app hB.sl h2 hb hm fun u' s' h3 h4 => hk u' s' ?_ ⟨h3, fun j hj => ?_, fun j hj => ?_⟩ h4.keep h4.next
 · have hle := h.le
   have hf := h.fid
   have hne : ∀ j, j < σ.next → j ∉ slIds u := fun j hj hm => by have := hB.new j hm; omega
   refine ⟨⟨?_, h.la.sl.keep fun i hi => h4.keep i (h.la.sl.lt hi) (fun hm => hB.dj i hm hi), h.la.nv⟩, h.le, by have := h.next; have := h4.next; omega, fun j hj a b => ?_, h.fresh, h.fid⟩
   · rw [h4.keep _ (s.lt h.la.hd) (hne _ hf)]; exact h.la.hd
   · rw [h4.keep j (by have := h.next; omega) (hne j hj), h.keep j hj a b]
 · rcases h4.fresh j hj with q | q
   · exact hB.new j q
   · have := h.next; omega
 · rcases h4.fresh j hj with q | q
   · exact hB.dj j q
   · intro hm
     have := h.la.sl.lt hm
     omega
theorem Bes.call {u : AV} {ty sz : Nat} {us : List (List AV)} (hB : Bes s N v' u ty sz us) {v2 : AV} (hf : N > fid) (hk : ∀ j, j < s.next → j ≠ fid → j ∉ slIds v' → s2.get j = s.get j) (hfr : ∀ j, j ∈ slIds v2 → j ∈ slIds v' ∨ s.next ≤ j) : Bes s2 N v2 u ty sz us :=
 ⟨hB.sl.keep fun j hj => hk j (hB.sl.lt hj) (by have := hB.new j hj; omega) (hB.dj j hj), hB.new, fun j hj hm => (hfr j hm).elim (hB.dj j hj) (fun q => by have := hB.sl.lt hj; omega)⟩
theorem Bes.push {u : AV} {ty sz : Nat} {us : List (List AV)} (hB : Bes s N v' u ty sz us) (o : AObj) : Bes (s.push o) N v' u ty sz us :=
 ⟨hB.sl.keep fun j hj => (Kp.pushed s o).keep j (hB.sl.lt hj), hB.new, hB.dj⟩
theorem Bes.upd {u : AV} {ty sz : Nat} {us : List (List AV)} (hB : Bes s N v' u ty sz us) {id : Nat} (o : AObj) (h : id ∉ slIds u) : Bes (s.upd id o) N v' u ty sz us :=
 ⟨hB.sl.keep fun j hj => Store.get_upd_ne _ _ (fun e => h (e ▸ hj)), hB.new, hB.dj⟩
/-- Such a slice becomes a value. -/
theorem AWP_bes {P : Program} {n : Nat} {Q : AEx → (Nat → AV) → Store → Prop} {tm : Nat → AV} {c : ACode} (d : Nat) {u : AV} {ty sz : Nat} {us : List (List AV)} (hv : tm d = u) (h : MS σ s N fid v v' df es) (hB : Bes s N v' u ty sz us)
 (hk : ∀ s2 : Store, MS σ s2 N fid v v' df es → s2.next = s.next → (∀ j, j < N → s2.get j = s.get j) → AWP P n c Q (put tm (some d) (.list us)) s2) : AWP P n c Q tm s :=
 AWP_frozen d hv hB.sl fun s2 hn hg => hk s2 ⟨⟨by rw [hg _ (fun hm => by have := hB.new _ hm; have := h.fid; have := h.le; omega)]; exact h.la.hd, h.la.sl.keep fun i hi => hg i (fun hm => hB.dj i hm hi), h.la.nv⟩, h.le, by rw [hn]; exact h.next,
  fun j hj a b => by rw [hg j (fun hm => by have := hB.new _ hm; have := h.le; omega), h.keep j hj a b], h.fresh, h.fid⟩ hn fun j hj => hg j (fun hm => by have := hB.new _ hm; omega)
end
end Go.AL
namespace Go.Proofs.Ytjjbjibbjbbeaaa
open Go.AL
def fnL (b : Bool) : Nat := if b then 48 else 89
/-- What is made of an expression. -/
abbrev LiftC (b : Bool) (x : Cr) : Prop := ∀ (σ : Store) (fid : Nat) (v : AV) (df : ByteArray) (es : List (List AV)), LiftAt σ fid v df es → df.size ≤ 1000000000 → es.length + 2 * x.bulk ≤ 20000000 + b.toNat →
 ACalls Try.prog (fnL b) [.ptr fid 0 0 0, .agg x.cells] σ fun r s => (∃ z : Unit, r = .agg (liftS df textOf b es.length x).1.cells ∧ LPost σ fid v df (es ++ (liftS df textOf b es.length x).2.map supC) s)
theorem mapped_ok (b : Bool) (k : Int) (nm : ByteArray) (m ar : Int) (ps : List ByteArray) (gs : List Cr) (al : List (AltH × Cr)) (bs : List (ByteArray × Cr)) (pk : List (Int × Cr))
 (ih1 : ∀ x, x ∈ gs → ∀ b, LiftC b x) (ih2 : ∀ x, x ∈ al → ∀ b, LiftC b x.2) (ih3 : ∀ x, x ∈ bs → ∀ b, LiftC b x.2) (ih4 : ∀ x, x ∈ pk → ∀ b, LiftC b x.2)
 (σ : Store) (fid : Nat) (v : AV) (df : ByteArray) (es : List (List AV)) (h : LiftAt σ fid v df es) (hdf : df.size ≤ 1000000000) (hb : es.length + 2 * (Cr.bulkL gs + Cr.bulkA al + Cr.bulkB bs + Cr.bulkP pk) ≤ 20000000) :
 ACalls Try.prog 88 [.ptr fid 0 0 0, .agg (Cr.mk k nm m ar ps gs al bs pk).cells, .fn (.func (fnL b)) [.ptr fid 0 0 0] [], .fn (.func 89) [.ptr fid 0 0 0] []] σ
  fun r s => (∃ z : Unit, r = .agg (mapS df textOf b es.length (Cr.mk k nm m ar ps gs al bs pk)).1.cells ∧ LPost σ fid v df (es ++ (mapS df textOf b es.length (Cr.mk k nm m ar ps gs al bs pk)).2.map supC) s) := by
 refine in88 (by simp) ?_
 unfold c88
 rw [Cr.cells_eq]
 have l1 := Cr.lenL gs; have l2 := Cr.lenA al; have l3 := Cr.lenB bs; have l4 := Cr.lenP pk
 try simp only [YY, ↓reduceIte, Za, Zb, Zc, reduceCtorEq, Zd, Ze, Zf, Zg, Zh, Zi, Zj]
 iterate 4 ((with_reducible refine WW (by decide) ?_); refine unr ?_; try simp only [YY, ↓reduceIte, Za, Zb, Zc, reduceCtorEq, Zd, Ze, Zf, Zg, Zh, Zi, Zj])
 generalize hs : Store.push _ _ = s1
 have k1 : Kp σ s1 := by rw [← hs]; exact (Kp.pushed _ _).push _
 have hn1 : s1.next = σ.next + 2 := by rw [← hs]; rfl
 have M0 := MS.start h k1 (N := σ.next + 2) (by omega)
 have e1 : s1.get σ.next = some (.cells 54 0 9 [[.int .i64 k, .str nm, .int .i64 m, .int .i64 ar, strs ps, .list (gs.map Cr.cells), .list (al.map altC), .list (bs.map bindC), .list (pk.map pickC)]]) := by rw [← hs]; simp [Store.push_get, Store.push_next]
 have e2 : s1.get (σ.next + 1) = some (.cells 54 0 9 [[.int .i64 0, .str ⟨#[]⟩, .int .i64 0, .int .i64 0, .nils, .nils, .nils, .nils, .nils]]) := by rw [← hs]; simp [Store.push_get, Store.push_next]
 clear hs
 have hi : ∀ j, σ.next ≤ j → j ≠ fid := fun j hj e => by have := σ.lt h.hd; omega
 refine AWP_cut [2, 3, 5, 8, 9] (fun _ : Unit => [.fn (.func (fnL b)) [.ptr fid 0 0 0] [], .fn (.func 89) [.ptr fid 0 0 0] [], .ptr σ.next 0 0 0, .ptr (σ.next + 1) 0 0 0, .fn (.func (fnL (b && k != 5))) [.ptr fid 0 0 0] []]) (fun _ s => s1 = s) ?_ ?_
 · by_cases hk : k = 5
   · refine raw ?_
     repeat (first | (with_reducible refine unr ?_; try simp only [YY, ↓reduceIte, Za, Zb, Zc, reduceCtorEq, Zd, Ze, Zf, Zg, Zh, Zi, Zj, e1, hk]) | (with_reducible refine WW (by decide) ?_))
     have : (b && (5 : Int) != 5) = false := by simp
     exact ⟨(), by rw [this]; rfl⟩
   · refine raw ?_
     repeat (first | (with_reducible refine unr ?_; try simp only [YY, ↓reduceIte, Za, Zb, Zc, reduceCtorEq, Zd, Ze, Zf, Zg, Zh, Zi, Zj, e1, hk]) | (with_reducible refine WW (by decide) ?_))
     have : (b && k != 5) = b := by simp [hk]
     exact ⟨(), by rw [this]⟩
 rintro _ _ rfl
 try simp only [YY, ↓reduceIte, Za, Zb, Zc, reduceCtorEq, Zd, Ze, Zf, Zg, Zh, Zi, Zj]
 iterate 2 ((with_reducible refine WW (by decide) ?_); refine unr ?_; try simp only [YY, ↓reduceIte, Za, Zb, Zc, reduceCtorEq, Zd, Ze, Zf, Zg, Zh, Zi, Zj])
 refine AWP_cut [2, 3, 5, 8, 10] (fun y : AV × AV => [.fn (.func (fnL b)) [.ptr fid 0 0 0] [], .fn (.func 89) [.ptr fid 0 0 0] [], .ptr σ.next 0 0 0, .ptr (σ.next + 1) 0 0 0, y.2])
  (fun y s => MS σ s (σ.next + 2) fid v y.1 df ((es) ++ (liftL df textOf (b && k != 5) (es).length gs).2.map supC) ∧ Bes s (σ.next + 2) y.1 y.2 54 9 ((liftL df textOf (b && k != 5) (es).length gs).1.map Cr.cells) ∧ s.get σ.next = some (.cells 54 0 9 [[.int .i64 k, .str nm, .int .i64 m, .int .i64 ar, strs ps, .list (gs.map Cr.cells), .list (al.map altC), .list (bs.map bindC), .list (pk.map pickC)]]) ∧ s.get (σ.next + 1) = some (.cells 54 0 9 [[.int .i64 0, .str ⟨#[]⟩, .int .i64 0, .int .i64 0, .nils, .nils, .nils, .nils, .nils]])) ?_ ?_
 · refine raw ?_
   repeat (first | (with_reducible refine unr ?_; try simp only [YY, ↓reduceIte, Za, Zb, Zc, reduceCtorEq, Zd, Ze, Zf, Zg, Zh, Zi, Zj, e1]) | (with_reducible refine WW (by decide) ?_))
   refine AWP_while [2, 3, 5, 8, 9, 10, 28, 29, 30] (fun y : (AV × AV) × Nat => gs.length - y.2) (fun y => [.fn (.func (fnL b)) [.ptr fid 0 0 0] [], .fn (.func 89) [.ptr fid 0 0 0] [], .ptr σ.next 0 0 0, .ptr (σ.next + 1) 0 0 0, .fn (.func (fnL (b && k != 5))) [.ptr fid 0 0 0] [], y.1.2, .list (gs.map Cr.cells), .int .i64 gs.length, .int .i64 y.2])
    (fun y s => y.2 ≤ gs.length ∧ MS σ s (σ.next + 2) fid v y.1.1 df ((es) ++ (liftL df textOf (b && k != 5) (es).length (gs.take y.2)).2.map supC) ∧ Bes s (σ.next + 2) y.1.1 y.1.2 54 9 ((liftL df textOf (b && k != 5) (es).length (gs.take y.2)).1.map Cr.cells) ∧ s.get σ.next = some (.cells 54 0 9 [[.int .i64 k, .str nm, .int .i64 m, .int .i64 ar, strs ps, .list (gs.map Cr.cells), .list (al.map altC), .list (bs.map bindC), .list (pk.map pickC)]]) ∧ s.get (σ.next + 1) = some (.cells 54 0 9 [[.int .i64 0, .str ⟨#[]⟩, .int .i64 0, .int .i64 0, .nils, .nils, .nils, .nils, .nils]]))
    ((v, .nils), 0) ⟨by simp, by simpa [liftL] using M0, by simpa [liftL] using Bes.start _ _ _ _ _, e1, e2⟩ ?_ ?_
   · refine raw ?_
     repeat (first | (with_reducible refine unr ?_; try simp only [YY, ↓reduceIte, Za, Zb, Zc, reduceCtorEq, Zd, Ze, Zf, Zg, Zh, Zi, Zj]) | (with_reducible refine WW (by decide) ?_))
     rfl
   rintro ⟨⟨w, u⟩, i⟩ s ⟨hil0, M, B, g1, g2⟩
   simp only at hil0 M B g1 g2
   have hw := wrap_succ (i := i) (by omega)
   by_cases hil : i < gs.length
   · have hil' : (i : Int) < (gs.length : Int) := by omega
     obtain ⟨x, hx⟩ : ∃ x, gs[i]? = some x := ⟨_, List.getElem?_eq_getElem hil⟩
     have hxm := List.mem_of_getElem? hx
     have hbx := Cr.bulkL_take hx
     have hll := liftL_len df textOf (gs.take i) (b && k != 5) (es).length
     have hl1 := liftL_l df textOf (b && k != 5) (es).length (gs.take i)
     have hlt : (gs.take i).length = i := by simp; omega
     have q1 := s.lt g1
     have q2 := s.lt g2
     have hnx := M.next
     have hgl := M.la.sl
     have hg : (gs.map Cr.cells)[i]? = some (Cr.cells x) := by simp [hx]
     refine raw ?_
     repeat (first | (with_reducible refine unr ?_; try simp only [YY, ↓reduceIte, Za, Zb, Zc, reduceCtorEq, Zd, Ze, Zf, Zg, Zh, Zi, Zj, hil', hg, Cr.len, Cr.take9, wp_callv, callvW_fn]) | (with_reducible refine WW (by decide) ?_))
     refine (ih1 x hxm (b && k != 5) _ fid w df _ (M.push _).la hdf (by simp only [List.length_append, List.length_map]; omega)).mono ?_
     rintro _ s2 ⟨_, rfl, hP⟩
     obtain ⟨w2, M2, hk2, hf2, hn2⟩ := (M.push _).call hP
     have B2 := (B.push _).call (by have := M.le; have := M.fid; omega) hk2 hf2
     have g1' := hk2 σ.next (by rw [Store.push_next]; omega) (hi _ (Nat.le_refl _)) (M.loc (Nat.le_refl _) (by omega))
     have g2' := hk2 (σ.next + 1) (by rw [Store.push_next]; omega) (hi _ (by omega)) (M.loc (by omega) (by omega))
     rw [Store.push_get, if_neg (by omega), g1] at g1'
     rw [Store.push_get, if_neg (by omega), g2] at g2'
     have hlen : ((es) ++ List.map supC (liftL df textOf (b && k != 5) (es).length (gs.take i)).2).length = (es).length + (liftL df textOf (b && k != 5) (es).length (gs.take i)).2.length := by simp
     rw [hlen] at M2 ⊢
     have hone := liftL_app df textOf (b && k != 5) (es).length (gs.take i) [x]
     rw [liftL_one, ← take_succ_at hx] at hone
     generalize liftS df textOf (b && k != 5) ((es).length + (liftL df textOf (b && k != 5) (es).length (gs.take i)).2.length) x = z at M2 hone ⊢
     refine raw ?_
     repeat (first | (with_reducible refine unr ?_; try simp only [YY, ↓reduceIte, Za, Zb, Zc, reduceCtorEq, Zd, Ze, Zf, Zg, Zh, Zi, Zj, Cr.len]) | (with_reducible refine WW (by decide) ?_))
     refine ok_bes M2 B2 (us2 := [z.1.cells]) (by simp [Cr.len]) (by simp; omega) (by simp [maxLen]; omega) ?_
     intro u' s3 M3 B3 hk3 hn3
     have a1 := hk3 σ.next (s2.lt g1') (fun hm => by have := B2.new _ hm; omega)
     have a2 := hk3 (σ.next + 1) (s2.lt g2') (fun hm => by have := B2.new _ hm; omega)
     refine raw ?_
     repeat (first | (with_reducible refine unr ?_; try simp only [YY, ↓reduceIte, Za, Zb, Zc, reduceCtorEq, Zd, Ze, Zf, Zg, Zh, Zi, Zj, hw]) | (with_reducible refine WW (by decide) ?_))
     refine ⟨((w2, u'), i + 1), rfl, ⟨by simp only; omega, ?_, ?_, by rw [a1, g1'], by rw [a2, g2']⟩, by simp only; omega⟩
     · simp only [hone, List.map_append, ← List.append_assoc]; simpa [List.append_assoc] using M3
     · simp only [hone, List.map_append]; exact B3
   · have hil' : ¬ (i : Int) < (gs.length : Int) := by omega
     rw [List.take_of_length_le (by omega)] at M B
     refine raw ?_
     repeat (first | (with_reducible refine unr ?_; try simp only [YY, ↓reduceIte, Za, Zb, Zc, reduceCtorEq, Zd, Ze, Zf, Zg, Zh, Zi, Zj, hil']) | (with_reducible refine WW (by decide) ?_))
     exact ⟨(w, u), rfl, M, B, g1, g2⟩
 rintro ⟨w0, u0⟩ s0 ⟨M, B, g1, g2⟩
 simp only at M B
 clear M0 e1 e2
 refine AWP_bes 10 rfl M B ?_
 intro t0 M' hn hg
 have hne := M.next
 have g1' := hg σ.next (by omega)
 have g2' := hg (σ.next + 1) (by omega)
 rw [g1] at g1'
 rw [g2] at g2'
 have hlt := t0.lt g1'
 simp only [List.zip_cons_cons, List.zip_nil_right]
 try simp only [YY, ↓reduceIte, Za, Zb, Zc, reduceCtorEq, Zd, Ze, Zf, Zg, Zh, Zi, Zj, g1']
 iterate 2 ((with_reducible refine WW (by decide) ?_); refine unr ?_; try simp only [YY, ↓reduceIte, Za, Zb, Zc, reduceCtorEq, Zd, Ze, Zf, Zg, Zh, Zi, Zj, g1'])
 have M1 := M'.upd (.cells 54 0 9 [[.int .i64 k, .str nm, .int .i64 m, .int .i64 ar, strs ps, .list ((liftL df textOf (b && k != 5) (es).length gs).1.map Cr.cells), .list (al.map altC), .list (bs.map bindC), .list (pk.map pickC)]]) (Nat.le_refl _) (M'.loc (Nat.le_refl _) (by omega))
 have e1 := Store.get_upd_self t0 (.cells 54 0 9 [[.int .i64 k, .str nm, .int .i64 m, .int .i64 ar, strs ps, .list ((liftL df textOf (b && k != 5) (es).length gs).1.map Cr.cells), .list (al.map altC), .list (bs.map bindC), .list (pk.map pickC)]]) hlt
 have e2 : (t0.upd σ.next (.cells 54 0 9 [[.int .i64 k, .str nm, .int .i64 m, .int .i64 ar, strs ps, .list ((liftL df textOf (b && k != 5) (es).length gs).1.map Cr.cells), .list (al.map altC), .list (bs.map bindC), .list (pk.map pickC)]])).get (σ.next + 1) = _ := (Store.get_upd_ne t0 _ (by omega)).trans g2'
 have hlx0 := liftL_len df textOf gs (b && k != 5) (es).length
 clear M M' B g1 g2 g1' g2' hg hne hlt hn
 have hE0 : ((es) ++ (liftL df textOf (b && k != 5) (es).length gs).2.map supC).length = (es).length + (liftL df textOf (b && k != 5) (es).length gs).2.length := by simp
 generalize hD0 : (es) ++ (liftL df textOf (b && k != 5) (es).length gs).2.map supC = E0 at M1 hE0
 try simp only [YY, ↓reduceIte, Za, Zb, Zc, reduceCtorEq, Zd, Ze, Zf, Zg, Zh, Zi, Zj]
 iterate 2 ((with_reducible refine WW (by decide) ?_); refine unr ?_; try simp only [YY, ↓reduceIte, Za, Zb, Zc, reduceCtorEq, Zd, Ze, Zf, Zg, Zh, Zi, Zj])
 refine AWP_cut [2, 3, 5, 8, 13] (fun y : AV × AV => [.fn (.func (fnL b)) [.ptr fid 0 0 0] [], .fn (.func 89) [.ptr fid 0 0 0] [], .ptr σ.next 0 0 0, .ptr (σ.next + 1) 0 0 0, y.2])
  (fun y s => MS σ s (σ.next + 2) fid v y.1 df ((E0) ++ (liftA df textOf b (E0).length al).2.map supC) ∧ Bes s (σ.next + 2) y.1 y.2 113 13 ((liftA df textOf b (E0).length al).1.map altC) ∧ s.get σ.next = some (.cells 54 0 9 [[.int .i64 k, .str nm, .int .i64 m, .int .i64 ar, strs ps, .list ((liftL df textOf (b && k != 5) (es).length gs).1.map Cr.cells), .list (al.map altC), .list (bs.map bindC), .list (pk.map pickC)]]) ∧ s.get (σ.next + 1) = some (.cells 54 0 9 [[.int .i64 0, .str ⟨#[]⟩, .int .i64 0, .int .i64 0, .nils, .nils, .nils, .nils, .nils]])) ?_ ?_
 · refine raw ?_
   repeat (first | (with_reducible refine unr ?_; try simp only [YY, ↓reduceIte, Za, Zb, Zc, reduceCtorEq, Zd, Ze, Zf, Zg, Zh, Zi, Zj, e1]) | (with_reducible refine WW (by decide) ?_))
   refine AWP_while [2, 3, 5, 8, 13, 44, 45, 46] (fun y : (AV × AV) × Nat => al.length - y.2) (fun y => [.fn (.func (fnL b)) [.ptr fid 0 0 0] [], .fn (.func 89) [.ptr fid 0 0 0] [], .ptr σ.next 0 0 0, .ptr (σ.next + 1) 0 0 0, y.1.2, .list (al.map altC), .int .i64 al.length, .int .i64 y.2])
    (fun y s => y.2 ≤ al.length ∧ MS σ s (σ.next + 2) fid v y.1.1 df ((E0) ++ (liftA df textOf b (E0).length (al.take y.2)).2.map supC) ∧ Bes s (σ.next + 2) y.1.1 y.1.2 113 13 ((liftA df textOf b (E0).length (al.take y.2)).1.map altC) ∧ s.get σ.next = some (.cells 54 0 9 [[.int .i64 k, .str nm, .int .i64 m, .int .i64 ar, strs ps, .list ((liftL df textOf (b && k != 5) (es).length gs).1.map Cr.cells), .list (al.map altC), .list (bs.map bindC), .list (pk.map pickC)]]) ∧ s.get (σ.next + 1) = some (.cells 54 0 9 [[.int .i64 0, .str ⟨#[]⟩, .int .i64 0, .int .i64 0, .nils, .nils, .nils, .nils, .nils]]))
    ((w0, .nils), 0) ⟨by simp, by simpa [liftA] using M1, by simpa [liftA] using Bes.start _ _ _ _ _, e1, e2⟩ ?_ ?_
   · refine raw ?_
     repeat (first | (with_reducible refine unr ?_; try simp only [YY, ↓reduceIte, Za, Zb, Zc, reduceCtorEq, Zd, Ze, Zf, Zg, Zh, Zi, Zj]) | (with_reducible refine WW (by decide) ?_))
     rfl
   rintro ⟨⟨w, u⟩, i⟩ s ⟨hil0, M, B, g1, g2⟩
   simp only at hil0 M B g1 g2
   have hw := wrap_succ (i := i) (by omega)
   by_cases hil : i < al.length
   · have hil' : (i : Int) < (al.length : Int) := by omega
     obtain ⟨x, hx⟩ : ∃ x, al[i]? = some x := ⟨_, List.getElem?_eq_getElem hil⟩
     have hxm := List.mem_of_getElem? hx
     have hbx := Cr.bulkA_take hx
     have hll := liftA_len df textOf (al.take i) b (E0).length
     have hl1 := liftA_l df textOf b (E0).length (al.take i)
     have hlt : (al.take i).length = i := by simp; omega
     have q1 := s.lt g1
     have q2 := s.lt g2
     have hnx := M.next
     have hgl := M.la.sl
     obtain ⟨hh, x⟩ := x
     simp only at hbx
     have hg : (al.map altC)[i]? = some (altC (hh, x)) := by simp [hx]
     refine raw ?_
     repeat (first | (with_reducible refine unr ?_; try simp only [YY, ↓reduceIte, Za, Zb, Zc, reduceCtorEq, Zd, Ze, Zf, Zg, Zh, Zi, Zj, hil', hg, altC, AltH.cells, Cr.len, Cr.take9, wp_callv, callvW_fn]) | (with_reducible refine WW (by decide) ?_))
     refine (ih2 (hh, x) hxm b _ fid w df _ (M.push _).la hdf (by simp only [List.length_append, List.length_map]; omega)).mono ?_
     rintro _ s2 ⟨_, rfl, hP⟩
     obtain ⟨w2, M2, hk2, hf2, hn2⟩ := (M.push _).call hP
     have B2 := (B.push _).call (by have := M.le; have := M.fid; omega) hk2 hf2
     have g1' := hk2 σ.next (by rw [Store.push_next]; omega) (hi _ (Nat.le_refl _)) (M.loc (Nat.le_refl _) (by omega))
     have g2' := hk2 (σ.next + 1) (by rw [Store.push_next]; omega) (hi _ (by omega)) (M.loc (by omega) (by omega))
     have hsv : s.next ∉ slIds w := fun hm => by have := M.la.sl.lt hm; omega
     have hsu : s.next ∉ slIds u := fun hm => by have := B.sl.lt hm; omega
     have hsv2 : s.next ∉ slIds w2 := fun hm => (hf2 _ hm).elim hsv (fun hh => by rw [Store.push_next] at hh; omega)
     have g3' := hk2 s.next (by rw [Store.push_next]; omega) (hi _ (by have := M.le; omega)) hsv
     rw [Store.push_get, if_neg (by omega), g1] at g1'
     rw [Store.push_get, if_neg (by omega), g2] at g2'
     rw [Store.push_get, if_pos rfl] at g3'
     have hlen : ((E0) ++ List.map supC (liftA df textOf b (E0).length (al.take i)).2).length = (E0).length + (liftA df textOf b (E0).length (al.take i)).2.length := by simp
     rw [hlen] at M2 ⊢
     have hone := liftA_app df textOf b (E0).length (al.take i) [(hh, x)]
     rw [liftA_one, ← take_succ_at hx] at hone
     generalize liftS df textOf b ((E0).length + (liftA df textOf b (E0).length (al.take i)).2.length) x = z at M2 hone ⊢
     have hu3 : ∀ o, (s2.upd s.next o).get s.next = some o := fun o => Store.get_upd_self _ _ (s2.lt g3')
     refine raw ?_
     repeat (first | (with_reducible refine unr ?_; try simp only [YY, ↓reduceIte, Za, Zb, Zc, reduceCtorEq, Zd, Ze, Zf, Zg, Zh, Zi, Zj, Cr.len, g3', hu3, Cr.drop9, Cr.take9]) | (with_reducible refine WW (by decide) ?_))
     refine ok_bes (M2.upd _ (by have := M.le; omega) hsv2) (B2.upd _ hsu) (us2 := [AV.int .i64 hh.k :: AV.str hh.nm :: AV.int .i64 hh.n :: strs hh.ps :: z.1.cells]) (by simp [Cr.len]) (by simp; omega) (by simp [maxLen]; omega) ?_
     intro u' s3 M3 B3 hk3 hn3
     have a1 := hk3 σ.next (s2.lt g1') (fun hm => by have := B2.new _ hm; omega)
     have a2 := hk3 (σ.next + 1) (s2.lt g2') (fun hm => by have := B2.new _ hm; omega)
     rw [Store.get_upd_ne _ _ (by have := M.le; omega)] at a1
     rw [Store.get_upd_ne _ _ (by have := M.le; omega)] at a2
     refine raw ?_
     repeat (first | (with_reducible refine unr ?_; try simp only [YY, ↓reduceIte, Za, Zb, Zc, reduceCtorEq, Zd, Ze, Zf, Zg, Zh, Zi, Zj, hw]) | (with_reducible refine WW (by decide) ?_))
     refine ⟨((w2, u'), i + 1), rfl, ⟨by simp only; omega, ?_, ?_, by rw [a1, g1'], by rw [a2, g2']⟩, by simp only; omega⟩
     · simp only [hone, List.map_append, ← List.append_assoc]; simpa [List.append_assoc] using M3
     · simp only [hone, List.map_append]; exact B3
   · have hil' : ¬ (i : Int) < (al.length : Int) := by omega
     rw [List.take_of_length_le (by omega)] at M B
     refine raw ?_
     repeat (first | (with_reducible refine unr ?_; try simp only [YY, ↓reduceIte, Za, Zb, Zc, reduceCtorEq, Zd, Ze, Zf, Zg, Zh, Zi, Zj, hil']) | (with_reducible refine WW (by decide) ?_))
     exact ⟨(w, u), rfl, M, B, g1, g2⟩
 rintro ⟨w1, u1⟩ s1 ⟨M, B, g1, g2⟩
 simp only at M B
 clear M1 e1 e2
 refine AWP_bes 13 rfl M B ?_
 intro t1 M' hn hg
 have hne := M.next
 have g1' := hg σ.next (by omega)
 have g2' := hg (σ.next + 1) (by omega)
 rw [g1] at g1'
 rw [g2] at g2'
 have hlt := t1.lt g1'
 simp only [List.zip_cons_cons, List.zip_nil_right]
 try simp only [YY, ↓reduceIte, Za, Zb, Zc, reduceCtorEq, Zd, Ze, Zf, Zg, Zh, Zi, Zj, g1']
 iterate 2 ((with_reducible refine WW (by decide) ?_); refine unr ?_; try simp only [YY, ↓reduceIte, Za, Zb, Zc, reduceCtorEq, Zd, Ze, Zf, Zg, Zh, Zi, Zj, g1'])
 have M2 := M'.upd (.cells 54 0 9 [[.int .i64 k, .str nm, .int .i64 m, .int .i64 ar, strs ps, .list ((liftL df textOf (b && k != 5) (es).length gs).1.map Cr.cells), .list ((liftA df textOf b (E0).length al).1.map altC), .list (bs.map bindC), .list (pk.map pickC)]]) (Nat.le_refl _) (M'.loc (Nat.le_refl _) (by omega))
 have e1 := Store.get_upd_self t1 (.cells 54 0 9 [[.int .i64 k, .str nm, .int .i64 m, .int .i64 ar, strs ps, .list ((liftL df textOf (b && k != 5) (es).length gs).1.map Cr.cells), .list ((liftA df textOf b (E0).length al).1.map altC), .list (bs.map bindC), .list (pk.map pickC)]]) hlt
 have e2 : (t1.upd σ.next (.cells 54 0 9 [[.int .i64 k, .str nm, .int .i64 m, .int .i64 ar, strs ps, .list ((liftL df textOf (b && k != 5) (es).length gs).1.map Cr.cells), .list ((liftA df textOf b (E0).length al).1.map altC), .list (bs.map bindC), .list (pk.map pickC)]])).get (σ.next + 1) = _ := (Store.get_upd_ne t1 _ (by omega)).trans g2'
 have hlx1 := liftA_len df textOf al b (E0).length
 clear M M' B g1 g2 g1' g2' hg hne hlt hn
 have hE1 : ((E0) ++ (liftA df textOf b (E0).length al).2.map supC).length = (E0).length + (liftA df textOf b (E0).length al).2.length := by simp
 generalize hD1 : (E0) ++ (liftA df textOf b (E0).length al).2.map supC = E1 at M2 hE1
 try simp only [YY, ↓reduceIte, Za, Zb, Zc, reduceCtorEq, Zd, Ze, Zf, Zg, Zh, Zi, Zj]
 iterate 2 ((with_reducible refine WW (by decide) ?_); refine unr ?_; try simp only [YY, ↓reduceIte, Za, Zb, Zc, reduceCtorEq, Zd, Ze, Zf, Zg, Zh, Zi, Zj])
 refine AWP_cut [2, 3, 5, 8, 16] (fun y : AV × AV => [.fn (.func (fnL b)) [.ptr fid 0 0 0] [], .fn (.func 89) [.ptr fid 0 0 0] [], .ptr σ.next 0 0 0, .ptr (σ.next + 1) 0 0 0, y.2])
  (fun y s => MS σ s (σ.next + 2) fid v y.1 df ((E1) ++ (liftB df textOf false (E1).length bs).2.map supC) ∧ Bes s (σ.next + 2) y.1 y.2 114 10 ((liftB df textOf false (E1).length bs).1.map bindC) ∧ s.get σ.next = some (.cells 54 0 9 [[.int .i64 k, .str nm, .int .i64 m, .int .i64 ar, strs ps, .list ((liftL df textOf (b && k != 5) (es).length gs).1.map Cr.cells), .list ((liftA df textOf b (E0).length al).1.map altC), .list (bs.map bindC), .list (pk.map pickC)]]) ∧ s.get (σ.next + 1) = some (.cells 54 0 9 [[.int .i64 0, .str ⟨#[]⟩, .int .i64 0, .int .i64 0, .nils, .nils, .nils, .nils, .nils]])) ?_ ?_
 · refine raw ?_
   repeat (first | (with_reducible refine unr ?_; try simp only [YY, ↓reduceIte, Za, Zb, Zc, reduceCtorEq, Zd, Ze, Zf, Zg, Zh, Zi, Zj, e1]) | (with_reducible refine WW (by decide) ?_))
   refine AWP_while [2, 3, 5, 8, 16, 63, 64, 65] (fun y : (AV × AV) × Nat => bs.length - y.2) (fun y => [.fn (.func (fnL b)) [.ptr fid 0 0 0] [], .fn (.func 89) [.ptr fid 0 0 0] [], .ptr σ.next 0 0 0, .ptr (σ.next + 1) 0 0 0, y.1.2, .list (bs.map bindC), .int .i64 bs.length, .int .i64 y.2])
    (fun y s => y.2 ≤ bs.length ∧ MS σ s (σ.next + 2) fid v y.1.1 df ((E1) ++ (liftB df textOf false (E1).length (bs.take y.2)).2.map supC) ∧ Bes s (σ.next + 2) y.1.1 y.1.2 114 10 ((liftB df textOf false (E1).length (bs.take y.2)).1.map bindC) ∧ s.get σ.next = some (.cells 54 0 9 [[.int .i64 k, .str nm, .int .i64 m, .int .i64 ar, strs ps, .list ((liftL df textOf (b && k != 5) (es).length gs).1.map Cr.cells), .list ((liftA df textOf b (E0).length al).1.map altC), .list (bs.map bindC), .list (pk.map pickC)]]) ∧ s.get (σ.next + 1) = some (.cells 54 0 9 [[.int .i64 0, .str ⟨#[]⟩, .int .i64 0, .int .i64 0, .nils, .nils, .nils, .nils, .nils]]))
    ((w1, .nils), 0) ⟨by simp, by simpa [liftB] using M2, by simpa [liftB] using Bes.start _ _ _ _ _, e1, e2⟩ ?_ ?_
   · refine raw ?_
     repeat (first | (with_reducible refine unr ?_; try simp only [YY, ↓reduceIte, Za, Zb, Zc, reduceCtorEq, Zd, Ze, Zf, Zg, Zh, Zi, Zj]) | (with_reducible refine WW (by decide) ?_))
     rfl
   rintro ⟨⟨w, u⟩, i⟩ s ⟨hil0, M, B, g1, g2⟩
   simp only at hil0 M B g1 g2
   have hw := wrap_succ (i := i) (by omega)
   by_cases hil : i < bs.length
   · have hil' : (i : Int) < (bs.length : Int) := by omega
     obtain ⟨x, hx⟩ : ∃ x, bs[i]? = some x := ⟨_, List.getElem?_eq_getElem hil⟩
     have hxm := List.mem_of_getElem? hx
     have hbx := Cr.bulkB_take hx
     have hll := liftB_len df textOf (bs.take i) false (E1).length
     have hl1 := liftB_l df textOf false (E1).length (bs.take i)
     have hlt : (bs.take i).length = i := by simp; omega
     have q1 := s.lt g1
     have q2 := s.lt g2
     have hnx := M.next
     have hgl := M.la.sl
     obtain ⟨hh, x⟩ := x
     simp only at hbx
     have hg : (bs.map bindC)[i]? = some (bindC (hh, x)) := by simp [hx]
     refine raw ?_
     repeat (first | (with_reducible refine unr ?_; try simp only [YY, ↓reduceIte, Za, Zb, Zc, reduceCtorEq, Zd, Ze, Zf, Zg, Zh, Zi, Zj, hil', hg, bindC, Cr.len, Cr.take9, wp_callv, callvW_fn]) | (with_reducible refine WW (by decide) ?_))
     refine (ih3 (hh, x) hxm false _ fid w df _ (M.push _).la hdf (by simp only [List.length_append, List.length_map]; omega)).mono ?_
     rintro _ s2 ⟨_, rfl, hP⟩
     obtain ⟨w2, M2, hk2, hf2, hn2⟩ := (M.push _).call hP
     have B2 := (B.push _).call (by have := M.le; have := M.fid; omega) hk2 hf2
     have g1' := hk2 σ.next (by rw [Store.push_next]; omega) (hi _ (Nat.le_refl _)) (M.loc (Nat.le_refl _) (by omega))
     have g2' := hk2 (σ.next + 1) (by rw [Store.push_next]; omega) (hi _ (by omega)) (M.loc (by omega) (by omega))
     have hsv : s.next ∉ slIds w := fun hm => by have := M.la.sl.lt hm; omega
     have hsu : s.next ∉ slIds u := fun hm => by have := B.sl.lt hm; omega
     have hsv2 : s.next ∉ slIds w2 := fun hm => (hf2 _ hm).elim hsv (fun hh => by rw [Store.push_next] at hh; omega)
     have g3' := hk2 s.next (by rw [Store.push_next]; omega) (hi _ (by have := M.le; omega)) hsv
     rw [Store.push_get, if_neg (by omega), g1] at g1'
     rw [Store.push_get, if_neg (by omega), g2] at g2'
     rw [Store.push_get, if_pos rfl] at g3'
     have hlen : ((E1) ++ List.map supC (liftB df textOf false (E1).length (bs.take i)).2).length = (E1).length + (liftB df textOf false (E1).length (bs.take i)).2.length := by simp
     rw [hlen] at M2 ⊢
     have hone := liftB_app df textOf false (E1).length (bs.take i) [(hh, x)]
     rw [liftB_one, ← take_succ_at hx] at hone
     generalize liftS df textOf false ((E1).length + (liftB df textOf false (E1).length (bs.take i)).2.length) x = z at M2 hone ⊢
     have hu3 : ∀ o, (s2.upd s.next o).get s.next = some o := fun o => Store.get_upd_self _ _ (s2.lt g3')
     refine raw ?_
     repeat (first | (with_reducible refine unr ?_; try simp only [YY, ↓reduceIte, Za, Zb, Zc, reduceCtorEq, Zd, Ze, Zf, Zg, Zh, Zi, Zj, Cr.len, g3', hu3, Cr.drop9, Cr.take9]) | (with_reducible refine WW (by decide) ?_))
     refine ok_bes (M2.upd _ (by have := M.le; omega) hsv2) (B2.upd _ hsu) (us2 := [AV.str hh :: z.1.cells]) (by simp [Cr.len]) (by simp; omega) (by simp [maxLen]; omega) ?_
     intro u' s3 M3 B3 hk3 hn3
     have a1 := hk3 σ.next (s2.lt g1') (fun hm => by have := B2.new _ hm; omega)
     have a2 := hk3 (σ.next + 1) (s2.lt g2') (fun hm => by have := B2.new _ hm; omega)
     rw [Store.get_upd_ne _ _ (by have := M.le; omega)] at a1
     rw [Store.get_upd_ne _ _ (by have := M.le; omega)] at a2
     refine raw ?_
     repeat (first | (with_reducible refine unr ?_; try simp only [YY, ↓reduceIte, Za, Zb, Zc, reduceCtorEq, Zd, Ze, Zf, Zg, Zh, Zi, Zj, hw]) | (with_reducible refine WW (by decide) ?_))
     refine ⟨((w2, u'), i + 1), rfl, ⟨by simp only; omega, ?_, ?_, by rw [a1, g1'], by rw [a2, g2']⟩, by simp only; omega⟩
     · simp only [hone, List.map_append, ← List.append_assoc]; simpa [List.append_assoc] using M3
     · simp only [hone, List.map_append]; exact B3
   · have hil' : ¬ (i : Int) < (bs.length : Int) := by omega
     rw [List.take_of_length_le (by omega)] at M B
     refine raw ?_
     repeat (first | (with_reducible refine unr ?_; try simp only [YY, ↓reduceIte, Za, Zb, Zc, reduceCtorEq, Zd, Ze, Zf, Zg, Zh, Zi, Zj, hil']) | (with_reducible refine WW (by decide) ?_))
     exact ⟨(w, u), rfl, M, B, g1, g2⟩
 rintro ⟨w2, u2⟩ s2 ⟨M, B, g1, g2⟩
 simp only at M B
 clear M2 e1 e2
 refine AWP_bes 16 rfl M B ?_
 intro t2 M' hn hg
 have hne := M.next
 have g1' := hg σ.next (by omega)
 have g2' := hg (σ.next + 1) (by omega)
 rw [g1] at g1'
 rw [g2] at g2'
 have hlt := t2.lt g1'
 simp only [List.zip_cons_cons, List.zip_nil_right]
 try simp only [YY, ↓reduceIte, Za, Zb, Zc, reduceCtorEq, Zd, Ze, Zf, Zg, Zh, Zi, Zj, g1']
 iterate 2 ((with_reducible refine WW (by decide) ?_); refine unr ?_; try simp only [YY, ↓reduceIte, Za, Zb, Zc, reduceCtorEq, Zd, Ze, Zf, Zg, Zh, Zi, Zj, g1'])
 have M3 := M'.upd (.cells 54 0 9 [[.int .i64 k, .str nm, .int .i64 m, .int .i64 ar, strs ps, .list ((liftL df textOf (b && k != 5) (es).length gs).1.map Cr.cells), .list ((liftA df textOf b (E0).length al).1.map altC), .list ((liftB df textOf false (E1).length bs).1.map bindC), .list (pk.map pickC)]]) (Nat.le_refl _) (M'.loc (Nat.le_refl _) (by omega))
 have e1 := Store.get_upd_self t2 (.cells 54 0 9 [[.int .i64 k, .str nm, .int .i64 m, .int .i64 ar, strs ps, .list ((liftL df textOf (b && k != 5) (es).length gs).1.map Cr.cells), .list ((liftA df textOf b (E0).length al).1.map altC), .list ((liftB df textOf false (E1).length bs).1.map bindC), .list (pk.map pickC)]]) hlt
 have e2 : (t2.upd σ.next (.cells 54 0 9 [[.int .i64 k, .str nm, .int .i64 m, .int .i64 ar, strs ps, .list ((liftL df textOf (b && k != 5) (es).length gs).1.map Cr.cells), .list ((liftA df textOf b (E0).length al).1.map altC), .list ((liftB df textOf false (E1).length bs).1.map bindC), .list (pk.map pickC)]])).get (σ.next + 1) = _ := (Store.get_upd_ne t2 _ (by omega)).trans g2'
 have hlx2 := liftB_len df textOf bs false (E1).length
 clear M M' B g1 g2 g1' g2' hg hne hlt hn
 have hE2 : ((E1) ++ (liftB df textOf false (E1).length bs).2.map supC).length = (E1).length + (liftB df textOf false (E1).length bs).2.length := by simp
 generalize hD2 : (E1) ++ (liftB df textOf false (E1).length bs).2.map supC = E2 at M3 hE2
 try simp only [YY, ↓reduceIte, Za, Zb, Zc, reduceCtorEq, Zd, Ze, Zf, Zg, Zh, Zi, Zj]
 iterate 2 ((with_reducible refine WW (by decide) ?_); refine unr ?_; try simp only [YY, ↓reduceIte, Za, Zb, Zc, reduceCtorEq, Zd, Ze, Zf, Zg, Zh, Zi, Zj])
 refine AWP_cut [2, 3, 5, 8, 19] (fun y : AV × AV => [.fn (.func (fnL b)) [.ptr fid 0 0 0] [], .fn (.func 89) [.ptr fid 0 0 0] [], .ptr σ.next 0 0 0, .ptr (σ.next + 1) 0 0 0, y.2])
  (fun y s => MS σ s (σ.next + 2) fid v y.1 df ((E2) ++ (liftP df textOf b (E2).length pk).2.map supC) ∧ Bes s (σ.next + 2) y.1 y.2 116 10 ((liftP df textOf b (E2).length pk).1.map pickC) ∧ s.get σ.next = some (.cells 54 0 9 [[.int .i64 k, .str nm, .int .i64 m, .int .i64 ar, strs ps, .list ((liftL df textOf (b && k != 5) (es).length gs).1.map Cr.cells), .list ((liftA df textOf b (E0).length al).1.map altC), .list ((liftB df textOf false (E1).length bs).1.map bindC), .list (pk.map pickC)]]) ∧ s.get (σ.next + 1) = some (.cells 54 0 9 [[.int .i64 0, .str ⟨#[]⟩, .int .i64 0, .int .i64 0, .nils, .nils, .nils, .nils, .nils]])) ?_ ?_
 · refine raw ?_
   repeat (first | (with_reducible refine unr ?_; try simp only [YY, ↓reduceIte, Za, Zb, Zc, reduceCtorEq, Zd, Ze, Zf, Zg, Zh, Zi, Zj, e1]) | (with_reducible refine WW (by decide) ?_))
   refine AWP_while [2, 3, 5, 8, 19, 82, 83, 84] (fun y : (AV × AV) × Nat => pk.length - y.2) (fun y => [.fn (.func (fnL b)) [.ptr fid 0 0 0] [], .fn (.func 89) [.ptr fid 0 0 0] [], .ptr σ.next 0 0 0, .ptr (σ.next + 1) 0 0 0, y.1.2, .list (pk.map pickC), .int .i64 pk.length, .int .i64 y.2])
    (fun y s => y.2 ≤ pk.length ∧ MS σ s (σ.next + 2) fid v y.1.1 df ((E2) ++ (liftP df textOf b (E2).length (pk.take y.2)).2.map supC) ∧ Bes s (σ.next + 2) y.1.1 y.1.2 116 10 ((liftP df textOf b (E2).length (pk.take y.2)).1.map pickC) ∧ s.get σ.next = some (.cells 54 0 9 [[.int .i64 k, .str nm, .int .i64 m, .int .i64 ar, strs ps, .list ((liftL df textOf (b && k != 5) (es).length gs).1.map Cr.cells), .list ((liftA df textOf b (E0).length al).1.map altC), .list ((liftB df textOf false (E1).length bs).1.map bindC), .list (pk.map pickC)]]) ∧ s.get (σ.next + 1) = some (.cells 54 0 9 [[.int .i64 0, .str ⟨#[]⟩, .int .i64 0, .int .i64 0, .nils, .nils, .nils, .nils, .nils]]))
    ((w2, .nils), 0) ⟨by simp, by simpa [liftP] using M3, by simpa [liftP] using Bes.start _ _ _ _ _, e1, e2⟩ ?_ ?_
   · refine raw ?_
     repeat (first | (with_reducible refine unr ?_; try simp only [YY, ↓reduceIte, Za, Zb, Zc, reduceCtorEq, Zd, Ze, Zf, Zg, Zh, Zi, Zj]) | (with_reducible refine WW (by decide) ?_))
     rfl
   rintro ⟨⟨w, u⟩, i⟩ s ⟨hil0, M, B, g1, g2⟩
   simp only at hil0 M B g1 g2
   have hw := wrap_succ (i := i) (by omega)
   by_cases hil : i < pk.length
   · have hil' : (i : Int) < (pk.length : Int) := by omega
     obtain ⟨x, hx⟩ : ∃ x, pk[i]? = some x := ⟨_, List.getElem?_eq_getElem hil⟩
     have hxm := List.mem_of_getElem? hx
     have hbx := Cr.bulkP_take hx
     have hll := liftP_len df textOf (pk.take i) b (E2).length
     have hl1 := liftP_l df textOf b (E2).length (pk.take i)
     have hlt : (pk.take i).length = i := by simp; omega
     have q1 := s.lt g1
     have q2 := s.lt g2
     have hnx := M.next
     have hgl := M.la.sl
     obtain ⟨hh, x⟩ := x
     simp only at hbx
     have hg : (pk.map pickC)[i]? = some (pickC (hh, x)) := by simp [hx]
     refine raw ?_
     repeat (first | (with_reducible refine unr ?_; try simp only [YY, ↓reduceIte, Za, Zb, Zc, reduceCtorEq, Zd, Ze, Zf, Zg, Zh, Zi, Zj, hil', hg, pickC, Cr.len, Cr.take9, wp_callv, callvW_fn]) | (with_reducible refine WW (by decide) ?_))
     refine (ih4 (hh, x) hxm b _ fid w df _ (M.push _).la hdf (by simp only [List.length_append, List.length_map]; omega)).mono ?_
     rintro _ s2 ⟨_, rfl, hP⟩
     obtain ⟨w2, M2, hk2, hf2, hn2⟩ := (M.push _).call hP
     have B2 := (B.push _).call (by have := M.le; have := M.fid; omega) hk2 hf2
     have g1' := hk2 σ.next (by rw [Store.push_next]; omega) (hi _ (Nat.le_refl _)) (M.loc (Nat.le_refl _) (by omega))
     have g2' := hk2 (σ.next + 1) (by rw [Store.push_next]; omega) (hi _ (by omega)) (M.loc (by omega) (by omega))
     have hsv : s.next ∉ slIds w := fun hm => by have := M.la.sl.lt hm; omega
     have hsu : s.next ∉ slIds u := fun hm => by have := B.sl.lt hm; omega
     have hsv2 : s.next ∉ slIds w2 := fun hm => (hf2 _ hm).elim hsv (fun hh => by rw [Store.push_next] at hh; omega)
     have g3' := hk2 s.next (by rw [Store.push_next]; omega) (hi _ (by have := M.le; omega)) hsv
     rw [Store.push_get, if_neg (by omega), g1] at g1'
     rw [Store.push_get, if_neg (by omega), g2] at g2'
     rw [Store.push_get, if_pos rfl] at g3'
     have hlen : ((E2) ++ List.map supC (liftP df textOf b (E2).length (pk.take i)).2).length = (E2).length + (liftP df textOf b (E2).length (pk.take i)).2.length := by simp
     rw [hlen] at M2 ⊢
     have hone := liftP_app df textOf b (E2).length (pk.take i) [(hh, x)]
     rw [liftP_one, ← take_succ_at hx] at hone
     generalize liftS df textOf b ((E2).length + (liftP df textOf b (E2).length (pk.take i)).2.length) x = z at M2 hone ⊢
     have hu3 : ∀ o, (s2.upd s.next o).get s.next = some o := fun o => Store.get_upd_self _ _ (s2.lt g3')
     refine raw ?_
     repeat (first | (with_reducible refine unr ?_; try simp only [YY, ↓reduceIte, Za, Zb, Zc, reduceCtorEq, Zd, Ze, Zf, Zg, Zh, Zi, Zj, Cr.len, g3', hu3, Cr.drop9, Cr.take9]) | (with_reducible refine WW (by decide) ?_))
     refine ok_bes (M2.upd _ (by have := M.le; omega) hsv2) (B2.upd _ hsu) (us2 := [AV.int .i64 hh :: z.1.cells]) (by simp [Cr.len]) (by simp; omega) (by simp [maxLen]; omega) ?_
     intro u' s3 M3 B3 hk3 hn3
     have a1 := hk3 σ.next (s2.lt g1') (fun hm => by have := B2.new _ hm; omega)
     have a2 := hk3 (σ.next + 1) (s2.lt g2') (fun hm => by have := B2.new _ hm; omega)
     rw [Store.get_upd_ne _ _ (by have := M.le; omega)] at a1
     rw [Store.get_upd_ne _ _ (by have := M.le; omega)] at a2
     refine raw ?_
     repeat (first | (with_reducible refine unr ?_; try simp only [YY, ↓reduceIte, Za, Zb, Zc, reduceCtorEq, Zd, Ze, Zf, Zg, Zh, Zi, Zj, hw]) | (with_reducible refine WW (by decide) ?_))
     refine ⟨((w2, u'), i + 1), rfl, ⟨by simp only; omega, ?_, ?_, by rw [a1, g1'], by rw [a2, g2']⟩, by simp only; omega⟩
     · simp only [hone, List.map_append, ← List.append_assoc]; simpa [List.append_assoc] using M3
     · simp only [hone, List.map_append]; exact B3
   · have hil' : ¬ (i : Int) < (pk.length : Int) := by omega
     rw [List.take_of_length_le (by omega)] at M B
     refine raw ?_
     repeat (first | (with_reducible refine unr ?_; try simp only [YY, ↓reduceIte, Za, Zb, Zc, reduceCtorEq, Zd, Ze, Zf, Zg, Zh, Zi, Zj, hil']) | (with_reducible refine WW (by decide) ?_))
     exact ⟨(w, u), rfl, M, B, g1, g2⟩
 rintro ⟨w3, u3⟩ s3 ⟨M, B, g1, g2⟩
 simp only at M B
 clear M3 e1 e2
 refine AWP_bes 19 rfl M B ?_
 intro t3 M' hn hg
 have hne := M.next
 have g1' := hg σ.next (by omega)
 have g2' := hg (σ.next + 1) (by omega)
 rw [g1] at g1'
 rw [g2] at g2'
 have hlt := t3.lt g1'
 simp only [List.zip_cons_cons, List.zip_nil_right]
 try simp only [YY, ↓reduceIte, Za, Zb, Zc, reduceCtorEq, Zd, Ze, Zf, Zg, Zh, Zi, Zj, g1']
 iterate 2 ((with_reducible refine WW (by decide) ?_); refine unr ?_; try simp only [YY, ↓reduceIte, Za, Zb, Zc, reduceCtorEq, Zd, Ze, Zf, Zg, Zh, Zi, Zj, g1'])
 have M4 := M'.upd (.cells 54 0 9 [[.int .i64 k, .str nm, .int .i64 m, .int .i64 ar, strs ps, .list ((liftL df textOf (b && k != 5) (es).length gs).1.map Cr.cells), .list ((liftA df textOf b (E0).length al).1.map altC), .list ((liftB df textOf false (E1).length bs).1.map bindC), .list ((liftP df textOf b (E2).length pk).1.map pickC)]]) (Nat.le_refl _) (M'.loc (Nat.le_refl _) (by omega))
 have e1 := Store.get_upd_self t3 (.cells 54 0 9 [[.int .i64 k, .str nm, .int .i64 m, .int .i64 ar, strs ps, .list ((liftL df textOf (b && k != 5) (es).length gs).1.map Cr.cells), .list ((liftA df textOf b (E0).length al).1.map altC), .list ((liftB df textOf false (E1).length bs).1.map bindC), .list ((liftP df textOf b (E2).length pk).1.map pickC)]]) hlt
 have e2 : (t3.upd σ.next (.cells 54 0 9 [[.int .i64 k, .str nm, .int .i64 m, .int .i64 ar, strs ps, .list ((liftL df textOf (b && k != 5) (es).length gs).1.map Cr.cells), .list ((liftA df textOf b (E0).length al).1.map altC), .list ((liftB df textOf false (E1).length bs).1.map bindC), .list ((liftP df textOf b (E2).length pk).1.map pickC)]])).get (σ.next + 1) = _ := (Store.get_upd_ne t3 _ (by omega)).trans g2'
 have hlx3 := liftP_len df textOf pk b (E2).length
 clear M M' B g1 g2 g1' g2' hg hne hlt hn
 have hE3 : ((E2) ++ (liftP df textOf b (E2).length pk).2.map supC).length = (E2).length + (liftP df textOf b (E2).length pk).2.length := by simp
 generalize hD3 : (E2) ++ (liftP df textOf b (E2).length pk).2.map supC = E3 at M4 hE3
 generalize Store.upd t3 _ _ = T at M4 e1 e2 ⊢
 have q4 := T.lt e2
 have hu4 : ∀ o, (T.upd (σ.next + 1) o).get (σ.next + 1) = some o := fun o => Store.get_upd_self _ _ q4
 refine raw ?_
 repeat (first | (with_reducible refine unr ?_; try simp only [YY, ↓reduceIte, Za, Zb, Zc, reduceCtorEq, Zd, Ze, Zf, Zg, Zh, Zi, Zj, e1, e2, hu4]) | (with_reducible refine WW (by decide) ?_))
 have M5 := M4.upd (.cells 54 0 9 [[.int .i64 k, .str nm, .int .i64 m, .int .i64 ar, strs ps, .list ((liftL df textOf (b && k != 5) es.length gs).1.map Cr.cells), .list ((liftA df textOf b E0.length al).1.map altC), .list ((liftB df textOf false E1.length bs).1.map bindC), .list ((liftP df textOf b E2.length pk).1.map pickC)]]) (show σ.next ≤ σ.next + 1 by omega) (M4.loc (by omega) (by omega))
 refine ⟨(), ?_, ?_⟩
 · simp only [mapS, ← hE0, ← hE1, ← hE2, Cr.cells_eq]
 · have : es ++ List.map supC (mapS df textOf b es.length (Cr.mk k nm m ar ps gs al bs pk)).2 = E3 := by
    simp only [mapS, ← hE0, ← hE1, ← hE2, List.map_append, ← List.append_assoc, hD0, hD1, hD2, hD3]
   rw [this]
   exact M5.out
end Go.Proofs.Ytjjbjibbjbbeaaa
/- The lifter: named, now, later. -/
set_option linter.unusedVariables false
set_option linter.unusedSimpArgs false
namespace Go.AL
theorem take_one {es : List (List AV)} {n : Nat} (h : n = es.length) (q : List AV) (m : List (List AV)) : (es ++ [q] ++ m)[n]? = some q := by
 subst h; simp
theorem set_one {es : List (List AV)} {n : Nat} (h : n = es.length) (q q' : List AV) (m : List (List AV)) : (es ++ [q] ++ m).set n q' = es ++ [q'] ++ m := by
 subst h
 rw [List.append_assoc, List.set_append_right _ _ (Nat.le_refl _)]
 simp
def zeroC : List AV := [.int .i64 0, .str ⟨#[]⟩, .int .i64 0, .int .i64 0, .nils, .nils, .nils, .nils, .nils]
def rawG (s : ByteArray) : List AV := [.int .i64 2, .str s, .int .i64 0, .int .i64 0, .nils, .nils, .nils, .nils, .nils]
def rawV (s : ByteArray) : List AV := [.int .i64 1, .str s, .int .i64 0, .int .i64 0, .nils, .nils, .nils, .nils, .nils]
def rawApp (f : List AV) (s : ByteArray) : List AV := [.int .i64 5, .str ⟨#[]⟩, .int .i64 0, .int .i64 0, .nils, .list [f, rawV s], .nils, .nils, .nils]
def raws (f : List AV) (l : List ByteArray) : List AV := l.foldl rawApp f
theorem raws_len (f : List AV) (h : f.length = 9) (l : List ByteArray) : (raws f l).length = 9 := by
 induction l generalizing f with
 | nil => exact h
 | cons s l ih => exact ih (rawApp f s) rfl
theorem raws_app (f : List AV) (l m : List ByteArray) : raws f (l ++ m) = raws (raws f l) m := by simp [raws]
theorem leD_glob (s : ByteArray) : LeDL (rawG s) (Cr.glob s).cells := by
 rw [Cr.glob, Cr.cells_eq]
 exact .cons (.refl _) (.cons (.refl _) (.cons (.refl _) (.cons (.refl _) (.cons .nil (.cons .nil (.cons .nil (.cons .nil (.cons .nil .nil))))))))
theorem leD_var (s : ByteArray) : LeDL (rawV s) (Cr.var s).cells := by
 rw [Cr.var, Cr.cells_eq]
 exact .cons (.refl _) (.cons (.refl _) (.cons (.refl _) (.cons (.refl _) (.cons .nil (.cons .nil (.cons .nil (.cons .nil (.cons .nil .nil))))))))
theorem leD_app {f : List AV} {g : Cr} (h : LeDL f g.cells) (s : ByteArray) : LeDL (rawApp f s) (g.app (.var s)).cells := by
 rw [Cr.app, Cr.cells_eq]
 exact .cons (.refl _) (.cons (.refl _) (.cons (.refl _) (.cons (.refl _) (.cons .nil (.cons (.list (.cons h (.cons (leD_var s) .nil))) (.cons .nil (.cons .nil (.cons .nil .nil))))))))
theorem leD_apps {f : List AV} {g : Cr} (h : LeDL f g.cells) (l : List ByteArray) : LeDL (raws f l) (Cr.apps g l).cells := by
 induction l generalizing f g with
 | nil => exact h
 | cons s l ih => exact ih (leD_app h s)
section
variable {σ s s2 : Store} {N fid : Nat} {v v' : AV} {df : ByteArray} {es es2 : List (List AV)}
theorem ok_msapp {K : AV → Store → Prop} (h : MS σ s N fid v v' df es) (q : List AV) (hq : q.length = 11) (hm : es.length + 1 ≤ 100000000)
 (hk : ∀ v1 s', s'.get fid = some (.cells 120 0 2 [[.str df, v']]) → s.next ≤ s'.next → (∀ j, j < s.next → j ∉ slIds v' → s'.get j = s.get j) → v1.cellsOf = some [v1] →
  MS σ (s'.upd fid (.cells 120 0 2 [[.str df, v1]])) N fid v v1 df (es ++ [q]) → K v1 s') : ok (eApp 71 11 200 v' (some [q]) s) K := by
 refine ok_app h.la.sl (by simpa using hq) (by simp; omega) (by simp [maxLen]; omega) fun v1 s' h3 h4 => ?_
 have hlt := s.lt h.la.hd
 have hd : s'.get fid = some (.cells 120 0 2 [[.str df, v']]) := by rw [h4.keep _ hlt h.la.nv]; exact h.la.hd
 have hnv : fid ∉ slIds v1 := fun hm => (h4.fresh _ hm).elim h.la.nv (fun q => by omega)
 have hu : ∀ j, j ≠ fid → (s'.upd fid (.cells 120 0 2 [[.str df, v1]])).get j = s'.get j := fun j hj => Store.get_upd_ne _ _ hj
 refine hk v1 s' hd h4.next h4.keep h3.co ⟨⟨Store.get_upd_self _ _ (s'.lt hd), h3.keep fun j hj => hu j (fun e => hnv (e ▸ hj)), hnv⟩, h.le, by rw [Store.upd_next]; have := h.next; have := h4.next; omega, fun j hj a b => ?_, fun j hj => ?_, h.fid⟩
 · rw [hu j a, h4.keep j (by have := h.le; have := h.next; omega) (fun hm => (h.fresh j hm).elim (fun q => b q.1) (fun q => by have := h.le; omega)), h.keep j hj a b]
 · rcases h4.fresh j hj with q | q
   · exact h.fresh j q
   · exact .inr (by have := h.next; omega)
theorem MS.sset {id ver n : Nat} {es' : List (List AV)} (h : MS σ s N fid v (.own id ver 11 0 n) df es) (hn : n = es.length) (hg : s.get id = some (.cells 71 ver 11 (es ++ es'))) (hl : es2.length = es.length) :
 MS σ (s.upd id (.cells 71 ver 11 (es2 ++ es'))) N fid v (.own id ver 11 0 n) df es2 := by
 have hne : id ≠ fid := fun e => h.la.nv (by simp [slIds, e])
 refine ⟨⟨by rw [Store.get_upd_ne _ _ (fun e => hne e.symm)]; exact h.la.hd, .inr ⟨id, ver, es', by rw [hl, ← hn], Store.get_upd_self _ _ (s.lt hg)⟩, h.la.nv⟩, h.le, h.next, fun j hj a b => ?_, h.fresh, h.fid⟩
 rw [Store.get_upd_ne _ _ (fun e => ?_), h.keep j hj a b]
 subst e
 exact (h.fresh j (by simp [slIds])).elim (fun q => b q.1) (fun q => by have := h.le; omega)
end
end Go.AL
namespace Go.Proofs.Ytjjbjibbjbbeaaa
open Go.AL
set_option maxHeartbeats 1000000 in
theorem named_ok (c body : Cr) (ps : List ByteArray) (hB : LiftC true body) (hc : c.bulk ≤ 10000000) (hps : ps.length ≤ 10000000)
 (σ : Store) (fid : Nat) (v : AV) (df : ByteArray) (es : List (List AV)) (h : LiftAt σ fid v df es) (hdf : df.size ≤ 1000000000) (hb : es.length + 1 + 2 * body.bulk ≤ 20000001) :
 ACalls Try.prog 87 [.ptr fid 0 0 0, .agg c.cells, strs ps, .agg body.cells] σ fun r s => (∃ z : Unit, r = .agg (Cr.apps (.glob (supName df textOf es.length)) (freeS [] [] c)).cells ∧
  LPost σ fid v df (es ++ (Sup.mk (supName df textOf es.length) (freeS [] [] c ++ ps) (liftS df textOf true (es.length + 1) body).1 :: (liftS df textOf true (es.length + 1) body).2).map supC) s) := by
 refine ACalls_leD ?_
 refine in87 (by simp) ?_
 unfold c87
 have hfl := freeS_len c [] []
 simp at hfl
 try simp only [YY, ↓reduceIte, Za, Zb, Zc, reduceCtorEq, Zd, Ze, Zf, Zg, Zh, Zi, Zj, Cr.len]
 iterate 2 ((with_reducible refine WW (by decide) ?_); refine unr ?_; try simp only [YY, ↓reduceIte, Za, Zb, Zc, reduceCtorEq, Zd, Ze, Zf, Zg, Zh, Zi, Zj, Cr.len])
 generalize hs : Store.push _ _ = s1
 have k1 : Kp σ s1 := by rw [← hs]; exact ((Kp.pushed _ _).push _).push _
 have hn1 : s1.next = σ.next + 3 := by rw [← hs]; rfl
 have M0 := MS.start h k1 (N := σ.next + 3) (by omega)
 have e1 : s1.get σ.next = some (.cells 54 0 9 [c.cells]) := by rw [← hs]; simp [Store.push_get, Store.push_next]; intro hh; omega
 have e2 : s1.get (σ.next + 1) = some (.cells 54 0 9 [body.cells]) := by rw [← hs]; simp [Store.push_get, Store.push_next]
 have e3 : s1.get (σ.next + 2) = some (.cells 54 0 9 [[.int .i64 0, .str ⟨#[]⟩, .int .i64 0, .int .i64 0, .nils, .nils, .nils, .nils, .nils]]) := by rw [← hs]; simp [Store.push_get, Store.push_next]
 clear hs
 have hlen := M0.la.sl.len
 refine raw ?_
 repeat (first | (with_reducible refine unr ?_; try simp only [YY, ↓reduceIte, Za, Zb, Zc, reduceCtorEq, Zd, Ze, Zf, Zg, Zh, Zi, Zj, e1, Cr.len, Cr.take9]) | (with_reducible refine WW (by decide) ?_))
 refine (free_ok c (by omega) _).mono ?_
 rintro _ _ ⟨rfl, rfl⟩
 rename_i s1
 generalize hfr : freeS [] [] c = fr at *
 have hw := wrap_succ (i := es.length) (by omega)
 have h35 : (⟨#[35]⟩ : ByteArray).size = 1 := rfl
 have hts := textOf_size ((es.length + 1 : Nat) : Int)
 have z1 : df.size + (⟨#[35]⟩ : ByteArray).size ≤ maxLen := by simp only [maxLen]; omega
 have z2 : (df ++ ⟨#[35]⟩).size + (textOf ((es.length + 1 : Nat) : Int)).size ≤ maxLen := by rw [ByteArray.size_append]; simp only [maxLen]; omega
 refine raw ?_
 repeat (first | (with_reducible refine unr ?_; try simp only [YY, ↓reduceIte, Za, Zb, Zc, reduceCtorEq, Zd, Ze, Zf, Zg, Zh, Zi, Zj, M0.la.hd, hlen, hw, z1]) | (with_reducible refine WW (by decide) ?_))
 refine (text_ok _ _).mono ?_
 rintro _ _ ⟨rfl, rfl⟩
 rename_i s1
 refine raw ?_
 repeat (first | (with_reducible refine unr ?_; try simp only [YY, ↓reduceIte, Za, Zb, Zc, reduceCtorEq, Zd, Ze, Zf, Zg, Zh, Zi, Zj, M0.la.hd, z1, z2]) | (with_reducible refine WW (by decide) ?_))
 refine (joined_ok fr ps (by omega) _).mono ?_
 rintro _ _ ⟨rfl, rfl⟩
 rename_i s1
 refine raw ?_
 repeat (first | (with_reducible refine unr ?_; try simp only [YY, ↓reduceIte, Za, Zb, Zc, reduceCtorEq, Zd, Ze, Zf, Zg, Zh, Zi, Zj, M0.la.hd]) | (with_reducible refine WW (by decide) ?_))
 refine ok_msapp M0 (q := .str (supName df textOf es.length) :: strs (fr ++ ps) :: zeroC) rfl (by omega) ?_
 intro v1 s2 hd2 hn2 hk2 hco M1
 have hv1 : σ.next + 1 ∉ slIds v := M0.loc (by omega) (by omega)
 have hv2 : σ.next + 2 ∉ slIds v := M0.loc (by omega) (by omega)
 have hf := M0.fid
 have e2' := hk2 (σ.next + 1) (by omega) hv1
 have e3' := hk2 (σ.next + 2) (by omega) hv2
 rw [e2] at e2'
 rw [e3] at e3'
 refine raw ?_
 repeat (first | (with_reducible refine unr ?_; try simp only [YY, ↓reduceIte, Za, Zb, Zc, reduceCtorEq, Zd, Ze, Zf, Zg, Zh, Zi, Zj, M0.la.hd, hd2, hco]) | (with_reducible refine WW (by decide) ?_))
 generalize hpd : AV.str (supName df textOf es.length) :: strs (fr ++ ps) :: zeroC = pd at M1
 generalize hs3 : s2.upd fid _ = s3 at M1 ⊢
 have e2'' : s3.get (σ.next + 1) = some (.cells 54 0 9 [body.cells]) := by rw [← hs3, Store.get_upd_ne _ _ (by omega)]; exact e2'
 have e3'' : s3.get (σ.next + 2) = some (.cells 54 0 9 [zeroC]) := by rw [← hs3, Store.get_upd_ne _ _ (by omega)]; exact e3'
 clear hs3 hd2 hk2 e2' e3' e1 e2 e3 M0 hn1 hn2 k1
 refine raw ?_
 repeat (first | (with_reducible refine unr ?_; try simp only [YY, ↓reduceIte, Za, Zb, Zc, reduceCtorEq, Zd, Ze, Zf, Zg, Zh, Zi, Zj, e2'', Cr.len, Cr.take9]) | (with_reducible refine WW (by decide) ?_))
 have hcall := hB s3 fid v1 df (es ++ [pd]) M1.la hdf (by simp; omega)
 refine hcall.mono ?_
 rintro _ s4 ⟨_, rfl, hP⟩
 obtain ⟨v2, M2, hk4, hf4, hn4⟩ := M1.call hP
 have hel : (es ++ [pd]).length = es.length + 1 := by simp
 rw [hel] at M2 ⊢
 generalize liftS df textOf true (es.length + 1) body = z at M2 ⊢
 have h1n : s3.next ≤ s4.next := hn4
 have g3 := hk4 (σ.next + 2) (s3.lt e3'') (by omega) (M1.loc (by omega) (by omega))
 rw [e3''] at g3
 clear hP hcall
 rcases M2.la.sl with ⟨_, h0⟩ | ⟨id, ver, es', rfl, hg4⟩
 · exact absurd h0 (by simp)
 have hidf : id ≠ fid := fun e => M2.la.nv (by simp [slIds, e])
 have hid2 : id ≠ σ.next + 2 := fun e => M2.loc (j := σ.next + 2) (by omega) (by omega) (by simp [slIds, e])
 have hL : (es.length : Int) < ((es ++ [pd] ++ z.2.map supC).length : Int) := by simp; omega
 generalize hLL : (es ++ [pd] ++ z.2.map supC).length = L at M2 hL hg4 ⊢
 have q1 := s4.lt hg4
 have q2 := s4.lt M2.la.hd
 have q3 := lt_ne q2
 have q4 := lt_ne q1
 have hat : (es ++ [pd] ++ z.2.map supC ++ es')[es.length]? = some pd := by rw [List.append_assoc]; exact take_one rfl _ _
 have hpl : (11 ≤ pd.length) = True := by subst hpd; simp [zeroC]
 have hM4 := M2.sset (es2 := es ++ [.str (supName df textOf es.length) :: strs (fr ++ ps) :: z.1.cells] ++ z.2.map supC) hLL.symm hg4 (by simp)
 have hset : (es ++ [pd] ++ z.2.map supC ++ es').set es.length (.str (supName df textOf es.length) :: strs (fr ++ ps) :: z.1.cells) = es ++ [.str (supName df textOf es.length) :: strs (fr ++ ps) :: z.1.cells] ++ z.2.map supC ++ es' := by
  rw [List.append_assoc _ _ es', set_one rfl, ← List.append_assoc]
 refine raw ?_
 repeat (first | (with_reducible refine unr ?_; try simp only [YY, ↓reduceIte, Za, Zb, Zc, reduceCtorEq, Zd, Ze, Zf, Zg, Zh, Zi, Zj, Cr.len, Cr.take9, M2.la.hd, hg4, hL, q3, q4, hat, hpl]) | (with_reducible refine WW (by decide) ?_))
 subst hpd
 simp only [zeroC, List.take_succ_cons, List.take_zero, List.drop_succ_cons, List.drop_zero, List.cons_append, List.nil_append, List.drop_nil, List.append_nil] at hset hat ⊢
 rw [hset]
 have hM5 := (hM4.push (.cells 54 0 9 [z.1.cells])).push (.cells 54 0 9 [rawG (supName df textOf es.length)])
 have g5 : ((s4.upd id (.cells 71 ver 11 (es ++ [.str (supName df textOf es.length) :: strs (fr ++ ps) :: z.1.cells] ++ z.2.map supC ++ es'))).get (σ.next + 2)) = some (.cells 54 0 9 [zeroC]) := by rw [Store.get_upd_ne _ _ (by omega)]; exact g3
 have hs5 : (s4.upd id (.cells 71 ver 11 (es ++ [.str (supName df textOf es.length) :: strs (fr ++ ps) :: z.1.cells] ++ z.2.map supC ++ es'))).next = s4.next := rfl
 generalize s4.upd id _ = s5 at hM5 hM4 g5 hs5 ⊢
 have hn5 := hM4.next
 have e1 : ((s5.push (.cells 54 0 9 [z.1.cells])).push (.cells 54 0 9 [rawG (supName df textOf es.length)])).get (s5.next + 1) = some (.cells 54 0 9 [rawG (supName df textOf es.length)]) := by rw [Store.push_get, if_pos (by rw [Store.push_next])]
 have e2 : ((s5.push (.cells 54 0 9 [z.1.cells])).push (.cells 54 0 9 [rawG (supName df textOf es.length)])).get (σ.next + 2) = some (.cells 54 0 9 [zeroC]) := by
  rw [Store.push_get, if_neg (by rw [Store.push_next]; omega), Store.push_get, if_neg (by omega)]; exact g5
 generalize hnm : supName df textOf es.length = nmm at *
 refine AWP_while [8, 13, 60, 61, 62] (fun i : Nat => fr.length - i) (fun i => [.ptr (σ.next + 2) 0 0 0, .ptr (s5.next + 1) 0 0 0, strs fr, .int .i64 fr.length, .int .i64 i])
  (fun i s => i ≤ fr.length ∧ MS σ s (σ.next + 3) fid v (.own id ver 11 0 L) df (es ++ [.str nmm :: strs (fr ++ ps) :: z.1.cells] ++ z.2.map supC) ∧ s.get (s5.next + 1) = some (.cells 54 0 9 [raws (rawG nmm) (fr.take i)]) ∧ s.get (σ.next + 2) = some (.cells 54 0 9 [zeroC])) 0 ⟨by simp, ?_, ?_, ?_⟩ ?_ ?_
 · subst hnm; exact hM5
 · subst hnm; exact e1
 · subst hnm; exact e2
 · subst hnm
   refine raw ?_
   repeat (first | (with_reducible refine unr ?_; try simp only [YY, ↓reduceIte, Za, Zb, Zc, reduceCtorEq, Zd, Ze, Zf, Zg, Zh, Zi, Zj]) | (with_reducible refine WW (by decide) ?_))
   rw [hs5]; rfl
 rintro i s ⟨hi, M, f1, f2⟩
 have hwi := wrap_succ (i := i) (by omega)
 by_cases hil : i < fr.length
 · have hil' : (i : Int) < (fr.length : Int) := by omega
   obtain ⟨x, hx⟩ : ∃ x, fr[i]? = some x := ⟨_, List.getElem?_eq_getElem hil⟩
   have hg : (fr.map fun s => [AV.str s])[i]? = some [.str x] := by simp [hx]
   have hrl := raws_len (rawG nmm) rfl (fr.take i)
   have htk : List.take 9 (raws (rawG nmm) (fr.take i)) = raws (rawG nmm) (fr.take i) := List.take_of_length_le (by omega)
   have r1 := s.lt f1
   have r1' := lt_ne r1
   have hMx := (M.upd (.cells 54 0 9 [rawApp (raws (rawG nmm) (fr.take i)) x]) (id := s5.next + 1) (by omega) (fun hm => by simp [slIds] at hm; omega)).push (.cells 54 0 9 [raws (rawG nmm) (fr.take i)])
   have r2 : ∀ o, (s.upd (s5.next + 1) o).get (s5.next + 1) = some o := fun o => Store.get_upd_self _ _ r1
   have hdr : List.drop 9 (raws (rawG nmm) (fr.take i)) = [] := List.drop_of_length_le (by omega)
   have r3' := lt_ne (s.lt f2)
   refine raw ?_
   repeat (first | (with_reducible refine unr ?_; try simp only [YY, ↓reduceIte, Za, Zb, Zc, reduceCtorEq, Zd, Ze, Zf, Zg, Zh, Zi, Zj, hil', hg, f1, hrl, htk, r1', hwi, hdr, r3']) | (with_reducible refine WW (by decide) ?_))
   refine ⟨i + 1, rfl, ⟨by omega, hMx, ?_, ?_⟩, by omega⟩
   · rw [r2, take_succ_at hx, raws_app]
     rfl
   · rw [Store.get_upd_ne _ _ (by omega)]; exact f2
 · have hil' : ¬ (i : Int) < (fr.length : Int) := by omega
   rw [List.take_of_length_le (by omega)] at f1
   have hrl := raws_len (rawG nmm) rfl fr
   have htk : List.take 9 (raws (rawG nmm) fr) = raws (rawG nmm) fr := List.take_of_length_le (by omega)
   have r2 : ∀ o, (s.upd (σ.next + 2) o).get (σ.next + 2) = some o := fun o => Store.get_upd_self _ _ (s.lt f2)
   have hMx := M.upd (.cells 54 0 9 [raws (rawG nmm) fr]) (id := σ.next + 2) (by omega) (M.loc (by omega) (by omega))
   have hz : zeroC.length = 9 := rfl
   have hz9 : List.drop 9 zeroC = [] := rfl
   refine raw ?_
   repeat (first | (with_reducible refine unr ?_; try simp only [YY, ↓reduceIte, Za, Zb, Zc, reduceCtorEq, Zd, Ze, Zf, Zg, Zh, Zi, Zj, hil', f1, f2, hrl, htk, r2, hz, hz9]) | (with_reducible refine WW (by decide) ?_))
   refine ⟨_, .agg (leD_apps (leD_glob _) _), (), rfl, ?_⟩
   have := hMx.out
   simp only [List.map_cons, supC]
   rw [List.append_assoc] at this
   exact this
theorem lift_ok : ∀ x : Cr, x.Sh → ∀ b, LiftC b x := by
 intro x
 induction x using Cr.ind with
 | _ k nm n ar ps gs al bs pk ih1 ih2 ih3 ih4 =>
  intro hsh
  cases hsh with
  | mk h6 h1 h2 h3 h4 =>
  have i1 := fun x hx => ih1 x hx (h1 x hx)
  have i2 := fun x hx => ih2 x hx (h2 x hx)
  have i3 := fun x hx => ih3 x hx (h3 x hx)
  have i4 := fun x hx => ih4 x hx (h4 x hx)
  have hnow : LiftC true (.mk k nm n ar ps gs al bs pk) := by
   intro σ fid v df es h hdf hb
   have hb0 := hb
   rw [Cr.bulk] at hb
   simp only [Bool.toNat_true] at hb
   show ACalls Try.prog 48 _ _ _
   refine in48 (by simp) ?_
   unfold c48
   rw [Cr.cells_eq]
   try simp only [YY, ↓reduceIte, Za, Zb, Zc, reduceCtorEq, Zd, Ze, Zf, Zg, Zh, Zi, Zj]
   iterate 2 ((with_reducible refine WW (by decide) ?_); refine unr ?_; try simp only [YY, ↓reduceIte, Za, Zb, Zc, reduceCtorEq, Zd, Ze, Zf, Zg, Zh, Zi, Zj])
   generalize hs : Store.push _ _ = s1
   have k1 : Kp σ s1 := by rw [← hs]; exact (Kp.pushed _ _).push _
   have hn1 : s1.next = σ.next + 2 := by rw [← hs]; rfl
   have M0 := MS.start h k1 (N := σ.next + 2) (by omega)
   have hff := M0.fid
   have e1 : s1.get σ.next = some (.cells 54 0 9 [[.int .i64 k, .str nm, .int .i64 n, .int .i64 ar, strs ps, .list (gs.map Cr.cells), .list (al.map altC), .list (bs.map bindC), .list (pk.map pickC)]]) := by rw [← hs]; simp [Store.push_get, Store.push_next]
   have e2 : s1.get (σ.next + 1) = some (.cells 54 0 9 [zeroC]) := by rw [← hs]; simp [Store.push_get, Store.push_next, zeroC]
   clear hs
   by_cases hk : k = 6
   · obtain ⟨y, rfl⟩ : ∃ y, gs = [y] := by
      match gs, h6 hk with
      | [y], _ => exact ⟨y, rfl⟩
     subst hk
     rw [liftS_lam]
     refine raw ?_
     repeat (first | (with_reducible refine unr ?_; try simp only [YY, ↓reduceIte, Za, Zb, Zc, reduceCtorEq, Zd, Ze, Zf, Zg, Zh, Zi, Zj, e1, Cr.len, Cr.take9]) | (with_reducible refine WW (by decide) ?_))
     have hby := Cr.bulkL_le (l := [y]) (x := y) (by simp)
     have hc := named_ok (.mk 6 nm n ar ps [y] al bs pk) y ps (i1 y (by simp) true) (by rw [Cr.bulk]; omega) (by omega) s1 fid v df es M0.la hdf (by omega)
     rw [Cr.cells_eq] at hc
     generalize Cr.apps _ _ = z at hc ⊢
     refine hc.mono ?_
     rintro _ s2 ⟨_, rfl, hP⟩
     obtain ⟨v2, M2, hk2, hf2, hn2⟩ := M0.call hP
     have g2 := hk2 (σ.next + 1) (by omega) (by omega) (M0.loc (by omega) (by omega))
     rw [e2] at g2
     have hu : ∀ o, (s2.upd (σ.next + 1) o).get (σ.next + 1) = some o := fun o => Store.get_upd_self _ _ (s2.lt g2)
     have hMx := M2.upd (.cells 54 0 9 [z.cells]) (id := σ.next + 1) (by omega) (M2.loc (by omega) (by omega))
     have hz : zeroC.length = 9 := rfl
     have hz9 : List.drop 9 zeroC = [] := rfl
     refine raw ?_
     repeat (first | (with_reducible refine unr ?_; try simp only [YY, ↓reduceIte, Za, Zb, Zc, reduceCtorEq, Zd, Ze, Zf, Zg, Zh, Zi, Zj, g2, Cr.len, Cr.take9, hz, hz9, hu]) | (with_reducible refine WW (by decide) ?_))
     exact ⟨(), hMx.out⟩
   · rw [liftS_map _ _ _ _ _ _ _ _ _ _ _ _ _ hk (by simp)]
     refine raw ?_
     repeat (first | (with_reducible refine unr ?_; try simp only [YY, ↓reduceIte, Za, Zb, Zc, reduceCtorEq, Zd, Ze, Zf, Zg, Zh, Zi, Zj, e1, hk, Cr.len, Cr.take9]) | (with_reducible refine WW (by decide) ?_))
     have hc := mapped_ok true k nm n ar ps gs al bs pk i1 i2 i3 i4 s1 fid v df es M0.la hdf (by omega)
     rw [Cr.cells_eq] at hc
     generalize (mapS df textOf true es.length (Cr.mk k nm n ar ps gs al bs pk)).1 = z at hc ⊢
     refine hc.mono ?_
     rintro _ s2 ⟨_, rfl, hP⟩
     obtain ⟨v2, M2, hk2, hf2, hn2⟩ := M0.call hP
     have g2 := hk2 (σ.next + 1) (by omega) (by omega) (M0.loc (by omega) (by omega))
     rw [e2] at g2
     have hu : ∀ o, (s2.upd (σ.next + 1) o).get (σ.next + 1) = some o := fun o => Store.get_upd_self _ _ (s2.lt g2)
     have hMx := M2.upd (.cells 54 0 9 [z.cells]) (id := σ.next + 1) (by omega) (M2.loc (by omega) (by omega))
     have hz : zeroC.length = 9 := rfl
     have hz9 : List.drop 9 zeroC = [] := rfl
     refine raw ?_
     repeat (first | (with_reducible refine unr ?_; try simp only [YY, ↓reduceIte, Za, Zb, Zc, reduceCtorEq, Zd, Ze, Zf, Zg, Zh, Zi, Zj, g2, Cr.len, Cr.take9, hz, hz9, hu]) | (with_reducible refine WW (by decide) ?_))
     exact ⟨(), hMx.out⟩
  intro b
  cases b with
  | true => exact hnow
  | false =>
   intro σ fid v df es h hdf hb
   have hb0 := hb
   rw [Cr.bulk] at hb
   simp only [Bool.toNat_false] at hb
   show ACalls Try.prog 89 _ _ _
   refine in89 (by simp) ?_
   unfold c89
   rw [Cr.cells_eq]
   try simp only [YY, ↓reduceIte, Za, Zb, Zc, reduceCtorEq, Zd, Ze, Zf, Zg, Zh, Zi, Zj]
   iterate 2 ((with_reducible refine WW (by decide) ?_); refine unr ?_; try simp only [YY, ↓reduceIte, Za, Zb, Zc, reduceCtorEq, Zd, Ze, Zf, Zg, Zh, Zi, Zj])
   generalize hs : Store.push _ _ = s1
   have k1 : Kp σ s1 := by rw [← hs]; exact (Kp.pushed _ _).push _
   have hn1 : s1.next = σ.next + 2 := by rw [← hs]; rfl
   have M0 := MS.start h k1 (N := σ.next + 2) (by omega)
   have hff := M0.fid
   have e1 : s1.get σ.next = some (.cells 54 0 9 [[.int .i64 k, .str nm, .int .i64 n, .int .i64 ar, strs ps, .list (gs.map Cr.cells), .list (al.map altC), .list (bs.map bindC), .list (pk.map pickC)]]) := by rw [← hs]; simp [Store.push_get, Store.push_next]
   have e2 : s1.get (σ.next + 1) = some (.cells 54 0 9 [zeroC]) := by rw [← hs]; simp [Store.push_get, Store.push_next, zeroC]
   clear hs
   by_cases hk : k = 6
   · obtain ⟨y, rfl⟩ : ∃ y, gs = [y] := by
      match gs, h6 hk with
      | [y], _ => exact ⟨y, rfl⟩
     subst hk
     rw [liftS_lam]
     refine raw ?_
     repeat (first | (with_reducible refine unr ?_; try simp only [YY, ↓reduceIte, Za, Zb, Zc, reduceCtorEq, Zd, Ze, Zf, Zg, Zh, Zi, Zj, e1, Cr.len, Cr.take9]) | (with_reducible refine WW (by decide) ?_))
     have hby := Cr.bulkL_le (l := [y]) (x := y) (by simp)
     have hc := named_ok (.mk 6 nm n ar ps [y] al bs pk) y ps (i1 y (by simp) true) (by rw [Cr.bulk]; omega) (by omega) s1 fid v df es M0.la hdf (by omega)
     rw [Cr.cells_eq] at hc
     generalize Cr.apps _ _ = z at hc ⊢
     refine hc.mono ?_
     rintro _ s2 ⟨_, rfl, hP⟩
     obtain ⟨v2, M2, hk2, hf2, hn2⟩ := M0.call hP
     have g2 := hk2 (σ.next + 1) (by omega) (by omega) (M0.loc (by omega) (by omega))
     rw [e2] at g2
     have hu : ∀ o, (s2.upd (σ.next + 1) o).get (σ.next + 1) = some o := fun o => Store.get_upd_self _ _ (s2.lt g2)
     have hMx := M2.upd (.cells 54 0 9 [z.cells]) (id := σ.next + 1) (by omega) (M2.loc (by omega) (by omega))
     have hz : zeroC.length = 9 := rfl
     have hz9 : List.drop 9 zeroC = [] := rfl
     refine raw ?_
     repeat (first | (with_reducible refine unr ?_; try simp only [YY, ↓reduceIte, Za, Zb, Zc, reduceCtorEq, Zd, Ze, Zf, Zg, Zh, Zi, Zj, g2, Cr.len, Cr.take9, hz, hz9, hu]) | (with_reducible refine WW (by decide) ?_))
     exact ⟨(), hMx.out⟩
   by_cases hk2 : k = 8 ∨ k = 11 ∨ k = 10
   · rw [liftS_late _ _ _ _ _ _ _ _ _ _ _ _ hk2]
     have hc := named_ok (.mk k nm n ar ps gs al bs pk) (.mk k nm n ar ps gs al bs pk) [] hnow (by rw [Cr.bulk]; omega) (by simp) s1 fid v df es M0.la hdf (by rw [Cr.bulk]; omega)
     rw [liftS_map _ _ _ _ _ _ _ _ _ _ _ _ _ hk (by simp), List.append_nil] at hc
     have hc := ACalls_argsD (args := [.ptr fid 0 0 0, .agg (Cr.mk k nm n ar ps gs al bs pk).cells, .nils, .agg (Cr.mk k nm n ar ps gs al bs pk).cells]) (.cons (.refl _) (.cons (.refl _) (.cons .nil (.cons (.refl _) .nil)))) hc
     rw [Cr.cells_eq] at hc
     generalize Cr.apps _ _ = z at hc ⊢
     rcases hk2 with rfl | rfl | rfl
     · refine raw ?_
       repeat (first | (with_reducible refine unr ?_; try simp only [YY, ↓reduceIte, Za, Zb, Zc, reduceCtorEq, Zd, Ze, Zf, Zg, Zh, Zi, Zj, e1, hk, Cr.len, Cr.take9]) | (with_reducible refine WW (by decide) ?_))
       refine hc.mono ?_
       rintro _ s2 ⟨_, rfl, hP⟩
       obtain ⟨v2, M2, hk2, hf2, hn2⟩ := M0.call hP
       have g2 := hk2 (σ.next + 1) (by omega) (by omega) (M0.loc (by omega) (by omega))
       rw [e2] at g2
       have hu : ∀ o, (s2.upd (σ.next + 1) o).get (σ.next + 1) = some o := fun o => Store.get_upd_self _ _ (s2.lt g2)
       have hMx := M2.upd (.cells 54 0 9 [z.cells]) (id := σ.next + 1) (by omega) (M2.loc (by omega) (by omega))
       have hz : zeroC.length = 9 := rfl
       have hz9 : List.drop 9 zeroC = [] := rfl
       refine raw ?_
       repeat (first | (with_reducible refine unr ?_; try simp only [YY, ↓reduceIte, Za, Zb, Zc, reduceCtorEq, Zd, Ze, Zf, Zg, Zh, Zi, Zj, g2, Cr.len, Cr.take9, hz, hz9, hu]) | (with_reducible refine WW (by decide) ?_))
       exact ⟨(), hMx.out⟩
     · refine raw ?_
       repeat (first | (with_reducible refine unr ?_; try simp only [YY, ↓reduceIte, Za, Zb, Zc, reduceCtorEq, Zd, Ze, Zf, Zg, Zh, Zi, Zj, e1, hk, Cr.len, Cr.take9]) | (with_reducible refine WW (by decide) ?_))
       refine hc.mono ?_
       rintro _ s2 ⟨_, rfl, hP⟩
       obtain ⟨v2, M2, hk2, hf2, hn2⟩ := M0.call hP
       have g2 := hk2 (σ.next + 1) (by omega) (by omega) (M0.loc (by omega) (by omega))
       rw [e2] at g2
       have hu : ∀ o, (s2.upd (σ.next + 1) o).get (σ.next + 1) = some o := fun o => Store.get_upd_self _ _ (s2.lt g2)
       have hMx := M2.upd (.cells 54 0 9 [z.cells]) (id := σ.next + 1) (by omega) (M2.loc (by omega) (by omega))
       have hz : zeroC.length = 9 := rfl
       have hz9 : List.drop 9 zeroC = [] := rfl
       refine raw ?_
       repeat (first | (with_reducible refine unr ?_; try simp only [YY, ↓reduceIte, Za, Zb, Zc, reduceCtorEq, Zd, Ze, Zf, Zg, Zh, Zi, Zj, g2, Cr.len, Cr.take9, hz, hz9, hu]) | (with_reducible refine WW (by decide) ?_))
       exact ⟨(), hMx.out⟩
     · refine raw ?_
       repeat (first | (with_reducible refine unr ?_; try simp only [YY, ↓reduceIte, Za, Zb, Zc, reduceCtorEq, Zd, Ze, Zf, Zg, Zh, Zi, Zj, e1, hk, Cr.len, Cr.take9]) | (with_reducible refine WW (by decide) ?_))
       refine hc.mono ?_
       rintro _ s2 ⟨_, rfl, hP⟩
       obtain ⟨v2, M2, hk2, hf2, hn2⟩ := M0.call hP
       have g2 := hk2 (σ.next + 1) (by omega) (by omega) (M0.loc (by omega) (by omega))
       rw [e2] at g2
       have hu : ∀ o, (s2.upd (σ.next + 1) o).get (σ.next + 1) = some o := fun o => Store.get_upd_self _ _ (s2.lt g2)
       have hMx := M2.upd (.cells 54 0 9 [z.cells]) (id := σ.next + 1) (by omega) (M2.loc (by omega) (by omega))
       have hz : zeroC.length = 9 := rfl
       have hz9 : List.drop 9 zeroC = [] := rfl
       refine raw ?_
       repeat (first | (with_reducible refine unr ?_; try simp only [YY, ↓reduceIte, Za, Zb, Zc, reduceCtorEq, Zd, Ze, Zf, Zg, Zh, Zi, Zj, g2, Cr.len, Cr.take9, hz, hz9, hu]) | (with_reducible refine WW (by decide) ?_))
       exact ⟨(), hMx.out⟩
   · rw [liftS_map _ _ _ _ _ _ _ _ _ _ _ _ _ hk (by simpa using hk2)]
     have hk8 : k ≠ 8 := fun e => hk2 (.inl e)
     have hk11 : k ≠ 11 := fun e => hk2 (.inr (.inl e))
     have hk10 : k ≠ 10 := fun e => hk2 (.inr (.inr e))
     refine raw ?_
     repeat (first | (with_reducible refine unr ?_; try simp only [YY, ↓reduceIte, Za, Zb, Zc, reduceCtorEq, Zd, Ze, Zf, Zg, Zh, Zi, Zj, e1, hk, hk8, hk11, hk10, Cr.len, Cr.take9]) | (with_reducible refine WW (by decide) ?_))
     have hc := mapped_ok false k nm n ar ps gs al bs pk i1 i2 i3 i4 s1 fid v df es M0.la hdf (by omega)
     rw [Cr.cells_eq] at hc
     generalize (mapS df textOf false es.length (Cr.mk k nm n ar ps gs al bs pk)).1 = z at hc ⊢
     refine hc.mono ?_
     rintro _ s2 ⟨_, rfl, hP⟩
     obtain ⟨v2, M2, hk2, hf2, hn2⟩ := M0.call hP
     have g2 := hk2 (σ.next + 1) (by omega) (by omega) (M0.loc (by omega) (by omega))
     rw [e2] at g2
     have hu : ∀ o, (s2.upd (σ.next + 1) o).get (σ.next + 1) = some o := fun o => Store.get_upd_self _ _ (s2.lt g2)
     have hMx := M2.upd (.cells 54 0 9 [z.cells]) (id := σ.next + 1) (by omega) (M2.loc (by omega) (by omega))
     have hz : zeroC.length = 9 := rfl
     have hz9 : List.drop 9 zeroC = [] := rfl
     refine raw ?_
     repeat (first | (with_reducible refine unr ?_; try simp only [YY, ↓reduceIte, Za, Zb, Zc, reduceCtorEq, Zd, Ze, Zf, Zg, Zh, Zi, Zj, g2, Cr.len, Cr.take9, hz, hz9, hu]) | (with_reducible refine WW (by decide) ?_))
     exact ⟨(), hMx.out⟩
end Go.Proofs.Ytjjbjibbjbbeaaa
/- Lift: each definition alone. -/
set_option linter.unusedVariables false
set_option linter.unusedSimpArgs false
namespace Go.AL
def defBody : Cr → List ByteArray × Cr
 | .mk k nm n ar ps gs al bs pk => if k = 6 then (ps, gs.headD .zero) else ([], .mk k nm n ar ps gs al bs pk)
def defPc : Cr → AV
 | .mk k nm n ar ps gs al bs pk => if k = 6 then strs ps else .nils
noncomputable def liftDef (d : ByteArray × Cr) : List Sup :=
 ⟨d.1, (defBody d.2).1, (liftS d.1 textOf true 0 (defBody d.2).2).1⟩ :: (liftS d.1 textOf true 0 (defBody d.2).2).2
noncomputable def liftAll (ds : List (ByteArray × Cr)) : List Sup := (ds.map liftDef).flatten
noncomputable def rawDef (d : ByteArray × Cr) : List (List AV) :=
 (.str d.1 :: defPc d.2 :: (liftS d.1 textOf true 0 (defBody d.2).2).1.cells) :: (liftS d.1 textOf true 0 (defBody d.2).2).2.map supC
noncomputable def rawAll (ds : List (ByteArray × Cr)) : List (List AV) := (ds.map rawDef).flatten
theorem rawAll_succ {ds : List (ByteArray × Cr)} {i : Nat} {x : ByteArray × Cr} (h : ds[i]? = some x) : rawAll (ds.take (i + 1)) = rawAll (ds.take i) ++ rawDef x := by
 rw [take_succ_at h]; simp [rawAll]
theorem supC_len (p : Sup) : (supC p).length = 11 := by simp [supC, Cr.len]
mutual
theorem LeD.rf (a : AV) : LeD a a := .refl a
theorem LeDL.rf : ∀ a : List AV, LeDL a a
 | [] => .nil
 | x :: r => .cons (.refl x) (LeDL.rf r)
end
theorem SubL.rf {v w : AV} : ∀ a : List AV, SubL v w a a
 | [] => .nil
 | x :: r => .cons (.refl x) (SubL.rf r)
theorem LeDE.rf : ∀ a : List (List AV), LeDE a a
 | [] => .nil
 | x :: r => .cons (LeDL.rf x) (LeDE.rf r)
theorem LeDE.app {a b c d : List (List AV)} (h : LeDE a b) (k : LeDE c d) : LeDE (a ++ c) (b ++ d) := by
 induction a generalizing b with
 | nil => cases h; exact k
 | cons x r ih => cases h with | cons h t => exact .cons h (ih t)
theorem leD_pc (x : Cr) : LeD (defPc x) (strs (defBody x).1) := by
 cases x with
 | mk k nm n ar ps gs al bs pk =>
  rw [defPc, defBody]
  split
  · exact .refl _
  · exact .nil
theorem leD_def (d : ByteArray × Cr) : LeDE (rawDef d) ((liftDef d).map supC) := by
 rw [rawDef, liftDef, List.map_cons]
 exact .cons (.cons (.refl _) (.cons (leD_pc _) (LeDL.rf _))) (LeDE.rf _)
theorem leD_all : ∀ ds : List (ByteArray × Cr), LeDE (rawAll ds) ((liftAll ds).map supC)
 | [] => .nil
 | d :: r => by
  have e1 : rawAll (d :: r) = rawDef d ++ rawAll r := by simp [rawAll]
  have e2 : liftAll (d :: r) = liftDef d ++ liftAll r := by simp [liftAll]
  rw [e1, e2, List.map_append]
  exact (leD_def d).app (leD_all r)
theorem defBody_bulk (x : Cr) : (defBody x).2.bulk ≤ x.bulk := by
 cases x with
 | mk k nm n ar ps gs al bs pk =>
  rw [defBody]
  split
  · cases gs with
    | nil => 
     have : (⟨#[]⟩ : ByteArray).size = 0 := rfl
     simp only [List.headD_nil]; rw [Cr.zero, Cr.bulk, Cr.bulk]
     simp only [Cr.bulkL, Cr.bulkA, Cr.bulkB, Cr.bulkP, List.length_nil]; omega
    | cons y r => simp only [List.headD_cons]; rw [Cr.bulk, Cr.bulkL]; omega
  · exact Nat.le_refl _
theorem rawDef_len (d : ByteArray × Cr) : (rawDef d).length ≤ 1 + d.2.bulk := by
 have := liftS_len d.1 textOf (defBody d.2).2 true 0
 have := defBody_bulk d.2
 simp [rawDef]; omega
theorem rawAll_len : ∀ ds : List (ByteArray × Cr), (rawAll ds).length ≤ bulkD ds
 | [] => by simp [rawAll]
 | (s, x) :: r => by
  have e1 : rawAll ((s, x) :: r) = rawDef (s, x) ++ rawAll r := by simp [rawAll]
  rw [e1, bulkD, List.length_append]
  have := rawAll_len r
  have := rawDef_len (s, x)
  simp only at this
  omega
theorem bulkD_take {l : List (ByteArray × Cr)} {i : Nat} {x : ByteArray × Cr} (h : l[i]? = some x) : bulkD (l.take i) + x.1.size + 1 + x.2.bulk ≤ bulkD l := by
 conv => rhs; rw [split_at h, bulkD_app]
 obtain ⟨h, y⟩ := x
 rw [bulkD]; simp only; omega
theorem SliceAt.elems {σ : Store} {v : AV} {ty sz : Nat} {es : List (List AV)} (h : SliceAt σ v ty sz es) : elemsOf σ sz v = some es := by
 rcases h with ⟨rfl, rfl⟩ | ⟨id, ver, es', rfl, h⟩
 · rfl
 · rw [elems_own, h, elems2_some, if_pos ⟨rfl, rfl, by simp⟩, List.drop_zero, List.take_left']
   rfl
theorem Cr.Sh.body {x : Cr} (h : x.Sh) : (defBody x).2.Sh := by
 cases h with
 | mk h6 h1 h2 h3 h4 =>
  rename_i k nm n ar ps gs al bs pk
  rw [defBody]
  split
  · rename_i hk
    match gs, h6 hk with
    | [y], _ => exact h1 y (by simp)
  · exact .mk h6 h1 h2 h3 h4
theorem Cr.parts (x : Cr) : ∃ (k : Int) (ps : List ByteArray) (gs : List Cr), x.cells[0]? = some (.int .i64 k) ∧ x.cells[4]? = some (strs ps) ∧ x.cells[5]? = some (.list (gs.map Cr.cells)) ∧
 defBody x = (if k = 6 then (ps, gs.headD .zero) else ([], x)) ∧ defPc x = (if k = 6 then strs ps else .nils) ∧ (x.Sh → k = 6 → ∃ y, gs = [y]) ∧ ps.length ≤ x.bulk := by
 obtain ⟨k, nm, n, ar, ps, gs, al, bs, pk⟩ := x
 refine ⟨k, ps, gs, by rw [Cr.cells_eq]; rfl, by rw [Cr.cells_eq]; rfl, by rw [Cr.cells_eq]; rfl, rfl, rfl, fun h h6 => ?_, by rw [Cr.bulk]; omega⟩
 cases h with
 | mk hh h1 h2 h3 h4 =>
  match gs, hh h6 with
  | [y], _ => exact ⟨y, rfl⟩
theorem supC_cln {n : Nat} (p : Sup) : ∀ c, c ∈ supC p → Cln n c := by
 intro c hc
 simp only [supC, List.mem_cons] at hc
 rcases hc with rfl | rfl | hc
 · exact .str _
 · exact cln_strs _
 · exact p.bd.cln c hc
theorem rawDef_cln {n : Nat} (d : ByteArray × Cr) : ∀ e, e ∈ rawDef d → ∀ c, c ∈ e → Cln n c := by
 intro e he c hc
 rw [rawDef] at he
 rcases List.mem_cons.1 he with rfl | he
 · simp only [List.mem_cons] at hc
   rcases hc with rfl | rfl | hc
   · exact .str _
   · obtain ⟨k, ps, gs, _, _, _, _, hdp, _⟩ := d.2.parts
     rw [hdp]
     split
     · exact cln_strs _
     · exact .nils
   · exact Cr.cln _ c hc
 · obtain ⟨y, _, rfl⟩ := List.mem_map.1 he
   exact supC_cln y c hc
theorem rawAll_cln {n : Nat} (ds : List (ByteArray × Cr)) : ∀ e, e ∈ rawAll ds → ∀ c, c ∈ e → Cln n c := by
 intro e he c hc
 simp only [rawAll, List.mem_flatten, List.mem_map] at he
 obtain ⟨l, ⟨d, _, rfl⟩, he⟩ := he
 exact rawDef_cln d e he c hc
end Go.AL
namespace Go.Proofs.Ytjjbjibbjbbeaaa
open Go.AL
theorem liftQ_ok (QT QF : Prop) (ds : List (ByteArray × Cr)) (hb : bulkD ds ≤ 9000000) (hR : ∀ σ : Store, ACalls Try.prog 47 [.list (ds.map defC)] σ fun r σ' => (∃ b : Bool, r = .bool b ∧ (b = true → (∀ x, x ∈ ds → x.2.Sh) ∧ QT) ∧ (b = false → QF)) ∧ σ' = σ) (σ : Store) :
 ACalls Try.prog 19 [.list (ds.map defC)] σ fun r σ' => ((QF ∧ r = .tuple [.list [], .int .i64 1]) ∨ (QT ∧ r = .tuple [.list (rawAll ds), .int .i64 0])) ∧ σ' = σ := by
 refine ACalls_fp (p := fun r => (QF ∧ r = .tuple [.list [], .int .i64 1]) ∨ (QT ∧ r = .tuple [.list (rawAll ds), .int .i64 0])) ?_
 refine in19 (by simp) ?_
 unfold c19
 have hdl := lenD ds
 refine raw ?_
 repeat (first | (with_reducible refine unr ?_; try simp only [YY, ↓reduceIte, Za, Zb, Zc, reduceCtorEq, Zd, Ze, Zf, Zg, Zh, Zi, Zj]) | (with_reducible refine WW (by decide) ?_))
 refine (hR _).mono ?_
 rintro _ _ ⟨⟨b, rfl, hsh, hqf⟩, rfl⟩
 rename_i σ
 cases b with
 | false =>
  refine raw ?_
  repeat (first | (with_reducible refine unr ?_; try simp only [YY, ↓reduceIte, Za, Zb, Zc, reduceCtorEq, Zd, Ze, Zf, Zg, Zh, Zi, Zj]) | (with_reducible refine WW (by decide) ?_))
  exact FP.mk (.tuple [.list [], .int .i64 1]) (.nil _ 0 0) (.tuple (.cons .here (.cons (.refl _) .nil))) (.inl ⟨hqf rfl, rfl⟩) (.tuple' (by simp; exact ⟨.list' (by simp), .int _ _⟩)) (.refl _) (by simp [slIds])
 | true =>
 obtain ⟨hsh, hqt⟩ := hsh rfl
 refine raw ?_
 repeat (first | (with_reducible refine unr ?_; try simp only [YY, ↓reduceIte, Za, Zb, Zc, reduceCtorEq, Zd, Ze, Zf, Zg, Zh, Zi, Zj]) | (with_reducible refine WW (by decide) ?_))
 refine AWP_while [4, 13, 14, 15] (fun y : AV × Nat => ds.length - y.2) (fun y => [y.1, .list (ds.map defC), .int .i64 ds.length, .int .i64 y.2])
  (fun y s => y.2 ≤ ds.length ∧ Grow σ s y.1 71 11 (rawAll (ds.take y.2))) (.nils, 0) ⟨by simp, .start _ _ _⟩ ?_ ?_
 · refine raw ?_
   repeat (first | (with_reducible refine unr ?_; try simp only [YY, ↓reduceIte, Za, Zb, Zc, reduceCtorEq, Zd, Ze, Zf, Zg, Zh, Zi, Zj]) | (with_reducible refine WW (by decide) ?_))
   rfl
 rintro ⟨v, i⟩ s ⟨hi, hG⟩
 simp only at hi hG
 have hw := wrap_succ (i := i) (by omega)
 by_cases hil : i < ds.length
 · have hil' : (i : Int) < (ds.length : Int) := by omega
   obtain ⟨x, hx⟩ : ∃ x, ds[i]? = some x := ⟨_, List.getElem?_eq_getElem hil⟩
   have hxm := List.mem_of_getElem? hx
   have hg : (ds.map defC)[i]? = some (defC x) := by simp [hx]
   have hbx := bulkD_take hx
   have hrl := rawAll_len (ds.take i)
   have hxs := hsh x hxm
   obtain ⟨nm, x⟩ := x
   simp only at hbx hxs
   obtain ⟨k, ps, gs, c0, c4, c5, hdb, hdp, hone, hpl⟩ := x.parts
   try simp only [YY, ↓reduceIte, Za, Zb, Zc, reduceCtorEq, Zd, Ze, Zf, Zg, Zh, Zi, Zj, hil', hg, defC, Cr.len, Cr.take9, Cr.drop9]
   iterate 15 ((with_reducible refine WW (by decide) ?_); refine unr ?_; try simp only [YY, ↓reduceIte, Za, Zb, Zc, reduceCtorEq, Zd, Ze, Zf, Zg, Zh, Zi, Zj, hil', hg, defC, Cr.len, Cr.take9, Cr.drop9])
   have kp : Kp s ((((s.push (.cells 58 0 10 [.str nm :: x.cells])).push (.cells 120 0 2 [[.str nm, .nils]])).push (.cells 71 0 11 [.str nm :: .nils :: zeroC])).push (.cells 54 0 9 [x.cells])) := (((Kp.pushed _ _).push _).push _).push _
   refine AWP_cut [4, 6, 7, 8, 9, 13, 14, 15] (fun _ : Unit => [v, .ptr s.next 0 0 0, .ptr (s.next + 1) 0 0 0, .ptr (s.next + 2) 0 0 0, .ptr (s.next + 3) 0 0 0, .list (ds.map defC), .int .i64 ds.length, .int .i64 i])
    (fun _ u => Kp s u ∧ s.next + 4 ≤ u.next ∧ u.get (s.next + 1) = some (.cells 120 0 2 [[.str nm, .nils]]) ∧ u.get (s.next + 2) = some (.cells 71 0 11 [.str nm :: defPc x :: zeroC]) ∧ u.get (s.next + 3) = some (.cells 54 0 9 [(defBody x).2.cells])) ?_ ?_
   · by_cases hk : k = 6
     · obtain ⟨y, rfl⟩ := hone hxs hk
       rw [if_pos hk] at hdb hdp
       rw [hdb, hdp]
       refine raw ?_
       repeat (first | (with_reducible refine unr ?_; try simp only [YY, ↓reduceIte, Za, Zb, Zc, reduceCtorEq, Zd, Ze, Zf, Zg, Zh, Zi, Zj, c0, hk, c4]) | (with_reducible refine WW (by decide) ?_))
       simp only [zeroC] at kp
       generalize hs1 : Store.push _ _ = s1 at kp ⊢
       have n1 : s1.next = s.next + 4 := by rw [← hs1]; rfl
       have g0 : s1.get (s.next + 1) = some (.cells 120 0 2 [[.str nm, .nils]]) := by rw [← hs1]; simp [Store.push_get, Store.push_next]
       have g1 : s1.get (s.next + 2) = some (.cells 71 0 11 [.str nm :: .nils :: zeroC]) := by rw [← hs1]; simp [Store.push_get, Store.push_next, zeroC]
       have g2 : s1.get (s.next + 3) = some (.cells 54 0 9 [x.cells]) := by rw [← hs1]; simp [Store.push_get, Store.push_next]
       clear hs1
       refine ok_app (.nil s1 9 1) (es2 := ps.map fun s => [.str s]) (by intro q hq; exact mem_strs hq) (by simp; omega) (by simp [maxLen]; omega) ?_
       intro w s2 hsl hfr
       have f0 := hfr.keep (s.next + 1) (by omega) (by simp [slIds])
       have f1 := hfr.keep (s.next + 2) (by omega) (by simp [slIds])
       have f2 := hfr.keep (s.next + 3) (by omega) (by simp [slIds])
       rw [g0] at f0
       rw [g1] at f1
       rw [g2] at f2
       have hwn : ∀ j, j ∈ slIds w → s1.next ≤ j := fun j hj => (hfr.fresh j hj).elim (fun a => by simp [slIds] at a) id
       have hu : ∀ o, (s2.upd (s.next + 2) o).get (s.next + 3) = some (.cells 54 0 9 [x.cells]) := fun o => by rw [Store.get_upd_ne _ _ (by omega)]; exact f2
       try simp only [YY, ↓reduceIte, Za, Zb, Zc, reduceCtorEq, Zd, Ze, Zf, Zg, Zh, Zi, Zj, f1, zeroC, hsl.co]
       iterate 0 ((with_reducible refine WW (by decide) ?_); refine unr ?_; try simp only [YY, ↓reduceIte, Za, Zb, Zc, reduceCtorEq, Zd, Ze, Zf, Zg, Zh, Zi, Zj, f1, zeroC, hsl.co])
       generalize ht : s2.upd (s.next + 2) _ = t2
       have t1 : t2.get (s.next + 2) = some (.cells 71 0 11 [.str nm :: w :: zeroC]) := by rw [← ht]; exact Store.get_upd_self _ _ (s2.lt f1)
       have t0 : t2.get (s.next + 1) = some (.cells 120 0 2 [[.str nm, .nils]]) := by rw [← ht, Store.get_upd_ne _ _ (by omega)]; exact f0
       have t3 : t2.get (s.next + 3) = some (.cells 54 0 9 [x.cells]) := by rw [← ht]; exact hu _
       have tk : Kp s t2 := ⟨by rw [← ht, Store.upd_next]; have := hfr.next; omega, fun j hj => by rw [← ht, Store.get_upd_ne _ _ (by omega), hfr.keep j (by omega) (by simp [slIds]), kp.keep j hj]⟩
       have tn : s1.next ≤ t2.next := by rw [← ht, Store.upd_next]; exact hfr.next
       have tw : SliceAt t2 w 9 1 (ps.map fun s => [.str s]) := by
        rw [List.nil_append] at hsl
        exact hsl.keep fun j hj => by rw [← ht, Store.get_upd_ne _ _ (by have := hwn j hj; omega)]
       clear ht
       refine AWP_frozeO tw t1 (fun hm => by have := hwn _ hm; omega) (os' := [.str nm :: strs ps :: zeroC]) (.cons (.cons (.refl _) (.cons .here (SubL.rf _))) .nil) fun s5 z1 z2 z3 => ?_
       have y0 := z3 (s.next + 1) (fun hm => by have := hwn _ hm; omega) (by omega)
       have y3 := z3 (s.next + 3) (fun hm => by have := hwn _ hm; omega) (by omega)
       rw [t0] at y0
       rw [t3] at y3
       have yk : Kp s s5 := ⟨by have := tk.next; omega, fun j hj => by rw [z3 j (fun hm => by have := hwn _ hm; omega) (by omega), tk.keep j hj]⟩
       have c9 : List.drop 9 x.cells = [] := Cr.drop9 x
       have hu5 : ∀ o j, j ≠ s.next + 3 → (s5.upd (s.next + 3) o).get j = s5.get j := fun o j hj => Store.get_upd_ne _ _ hj
       refine raw ?_
       repeat (first | (with_reducible refine unr ?_; try simp only [YY, ↓reduceIte, Za, Zb, Zc, reduceCtorEq, Zd, Ze, Zf, Zg, Zh, Zi, Zj, y3, c5, Cr.len, Cr.take9, c9]) | (with_reducible refine WW (by decide) ?_))
       refine ⟨(), ⟨by rw [Store.upd_next]; exact yk.next, fun j hj => by rw [hu5 _ _ (by omega), yk.keep j hj]⟩, by omega, by rw [hu5 _ _ (by omega)]; exact y0, by rw [hu5 _ _ (by omega)]; exact z2, Store.get_upd_self _ _ (s5.lt y3)⟩
     · rw [if_neg hk] at hdb hdp
       rw [hdb, hdp]
       refine raw ?_
       repeat (first | (with_reducible refine unr ?_; try simp only [YY, ↓reduceIte, Za, Zb, Zc, reduceCtorEq, Zd, Ze, Zf, Zg, Zh, Zi, Zj, c0, hk]) | (with_reducible refine WW (by decide) ?_))
       exact ⟨(), kp, rfl⟩
   rintro _ u ⟨ku, hn, u1, u2, u3⟩
   have hbb := defBody_bulk x
   have hul := u.lt u3
   have LA : LiftAt u (s.next + 1) .nils nm [] := ⟨u1, .nil _ _ _, by simp [slIds]⟩
   refine raw ?_
   repeat (first | (with_reducible refine unr ?_; try simp only [YY, ↓reduceIte, Za, Zb, Zc, reduceCtorEq, Zd, Ze, Zf, Zg, Zh, Zi, Zj, u3, Cr.len, Cr.take9]) | (with_reducible refine WW (by decide) ?_))
   have hcall := lift_ok (defBody x).2 hxs.body true u (s.next + 1) .nils nm [] LA (by omega) (by simp; omega)
   refine hcall.mono ?_
   rintro _ s2 ⟨_, rfl, v2, LA2, hn2, hk2, hf2⟩
   have hsn : s.next ≤ u.next := by omega
   have w2 := hk2 (s.next + 2) (by omega) (by omega) (by simp [slIds])
   rw [u2] at w2
   have k2 : Kp s s2 := ⟨by omega, fun j hj => by rw [hk2 j (by omega) (by omega) (by simp [slIds]), ku.keep j hj]⟩
   have e0 : ([] ++ (liftS nm textOf true ([] : List (List AV)).length (defBody x).2).2.map supC) = (liftS nm textOf true 0 (defBody x).2).2.map supC := by simp
   rw [e0] at LA2
   rw [show ([] : List (List AV)).length = 0 from rfl]
   have hrd : rawDef (nm, x) = (.str nm :: defPc x :: (liftS nm textOf true 0 (defBody x).2).1.cells) :: (liftS nm textOf true 0 (defBody x).2).2.map supC := rfl
   have hrdl := rawDef_len (nm, x)
   have hrs := rawAll_succ hx
   rw [hrd] at hrs hrdl
   generalize liftS nm textOf true 0 (defBody x).2 = z at LA2 hrd hrdl hrs ⊢
   simp only [List.length_cons, List.length_map] at hrdl
   have hu : ∀ o, (s2.upd (s.next + 2) o).get (s.next + 2) = some o := fun o => Store.get_upd_self _ _ (s2.lt w2)
   have hpc : (defPc x).cellsOf = some [defPc x] := by rw [hdp]; split <;> rfl
   have hz9 : List.drop 9 zeroC = [] := rfl
   have hz : zeroC.length = 9 := rfl
   refine raw ?_
   repeat (first | (with_reducible refine unr ?_; try simp only [YY, ↓reduceIte, Za, Zb, Zc, reduceCtorEq, Zd, Ze, Zf, Zg, Zh, Zi, Zj, w2, Cr.len, Cr.take9, hz, hz9, hu]) | (with_reducible refine WW (by decide) ?_))
   have kU : Kp s (s2.upd (s.next + 2) (.cells 71 0 11 [.str nm :: defPc x :: z.1.cells])) := ⟨by rw [Store.upd_next]; exact k2.next, fun j hj => by rw [Store.get_upd_ne _ _ (by omega), k2.keep j hj]⟩
   have hvs : ∀ j, j ∈ slIds v → j < s.next := fun j hj => hG.sl.lt hj
   refine ok_grow (hG.keep kU) (es2 := [.str nm :: defPc x :: z.1.cells]) (by simp [Cr.len]) (by simp; omega) (by simp [maxLen]; omega) ?_
   intro v3 s3 hG3 hk3 hn3
   have hd3 : s3.get (s.next + 1) = some (.cells 120 0 2 [[.str nm, v2]]) := by
    rw [hk3 _ (by rw [Store.upd_next]; have := s2.lt LA2.hd; omega) (fun hm => by have := hvs _ hm; omega), Store.get_upd_ne _ _ (by omega)]; exact LA2.hd
   have hv2 : ∀ j, j ∈ slIds v2 → u.next ≤ j := fun j hj => (hf2 j hj).elim (fun a => by simp [slIds] at a) id
   have hsl3 : SliceAt s3 v2 71 11 (z.2.map supC) := LA2.sl.keep fun j hj => by
    have h1 := hv2 j hj
    rw [hk3 _ (by rw [Store.upd_next]; exact LA2.sl.lt hj) (fun hm => by have := hvs _ hm; omega), Store.get_upd_ne _ _ (by omega)]
   refine raw ?_
   repeat (first | (with_reducible refine unr ?_; try simp only [YY, ↓reduceIte, Za, Zb, Zc, reduceCtorEq, Zd, Ze, Zf, Zg, Zh, Zi, Zj, hd3, hsl3.elems]) | (with_reducible refine WW (by decide) ?_))
   refine ok_grow hG3 (es2 := z.2.map supC) (by intro q hq; obtain ⟨y, _, rfl⟩ := List.mem_map.1 hq; exact supC_len y) (by simp; omega) (by simp [maxLen]; omega) ?_
   intro v4 s4 hG4 _ _
   refine raw ?_
   repeat (first | (with_reducible refine unr ?_; try simp only [YY, ↓reduceIte, Za, Zb, Zc, reduceCtorEq, Zd, Ze, Zf, Zg, Zh, Zi, Zj, hw]) | (with_reducible refine WW (by decide) ?_))
   refine ⟨(v4, i + 1), rfl, ⟨by simp only; omega, ?_⟩, by simp only; omega⟩
   simp only [hrs]
   simpa [List.append_assoc] using hG4
 · have hil' : ¬ (i : Int) < (ds.length : Int) := by omega
   rw [List.take_of_length_le (by omega)] at hG
   refine raw ?_
   repeat (first | (with_reducible refine unr ?_; try simp only [YY, ↓reduceIte, Za, Zb, Zc, reduceCtorEq, Zd, Ze, Zf, Zg, Zh, Zi, Zj, hil']) | (with_reducible refine WW (by decide) ?_))
   refine FP.mk (.tuple [.list (rawAll ds), .int .i64 0]) hG.sl (.tuple (.cons .here (.cons (.refl _) .nil))) (.inr ⟨hqt, rfl⟩) (.tuple' ?_) hG.kp hG.fresh
   simp only [List.mem_cons, List.not_mem_nil, or_false]
   rintro c (rfl | rfl)
   · exact .list' fun e he c hc => rawAll_cln _ e he c hc
   · exact .int _ _
end Go.Proofs.Ytjjbjibbjbbeaaa
/- An expression is the same as itself; definitions of supercombinators. -/
set_option linter.unusedVariables false
set_option linter.unusedSimpArgs false
namespace Go.AL
end Go.AL
namespace Go.Proofs.Ytjjbjibbjbbeaaa
open Go.AL
end Go.Proofs.Ytjjbjibbjbbeaaa
/- Definitions of supercombinators; definitions are the same as themselves; which are small. -/
set_option linter.unusedVariables false
set_option linter.unusedSimpArgs false
namespace Go.AL
def defOf (p : Sup) : ByteArray × Cr := (p.nm, if (0 : Int) < (p.ps.length : Int) then .mk 6 ⟨#[]⟩ 0 0 p.ps [p.bd] [] [] [] else p.bd)
def rawD (p : Sup) : List AV := .str p.nm :: (if (0 : Int) < (p.ps.length : Int) then [.int .i64 6, .str ⟨#[]⟩, .int .i64 0, .int .i64 0, strs p.ps, .list [p.bd.cells], .nils, .nils, .nils] else p.bd.cells)
theorem leD_rawD (p : Sup) : LeDL (rawD p) (defC (defOf p)) := by
 unfold rawD defC defOf
 by_cases h : (0 : Int) < (p.ps.length : Int)
 · simp only [if_pos h, Cr.cells_eq]
   exact .cons (.refl _) (.cons (.refl _) (.cons (.refl _) (.cons (.refl _) (.cons (.refl _) (.cons (.refl _) (.cons (.refl _) (.cons .nil (.cons .nil (.cons .nil .nil)))))))))
 · simp only [if_neg h]
   exact .cons (.refl _) (LeDL.rf _)
theorem rawD_len (p : Sup) : (rawD p).length = 10 := by
 unfold rawD; split <;> simp [Cr.len]
theorem leDE_map {α : Type} {f g : α → List AV} (h : ∀ x, LeDL (f x) (g x)) : ∀ l : List α, LeDE (l.map f) (l.map g)
 | [] => .nil
 | x :: r => .cons (h x) (leDE_map h r)
theorem rawD_cln {n : Nat} (p : Sup) : ∀ c, c ∈ rawD p → Cln n c := by
 intro c hc
 unfold rawD at hc
 rcases List.mem_cons.1 hc with rfl | hc
 · exact .str _
 · split at hc
   · simp only [List.mem_cons, List.not_mem_nil, or_false] at hc
     rcases hc with rfl | rfl | rfl | rfl | rfl | rfl | rfl | rfl | rfl
     · exact .int _ _
     · exact .str _
     · exact .int _ _
     · exact .int _ _
     · exact cln_strs _
     · refine .list' fun e he c hc => ?_
       simp at he; subst he
       exact p.bd.cln c hc
     · exact .nils
     · exact .nils
     · exact .nils
   · exact p.bd.cln c hc
end Go.AL
namespace Go.Proofs.Ytjjbjibbjbbeaaa
open Go.AL
theorem defsRaw_ok (l : List Sup) (hl : l.length ≤ 100000000) (σ : Store) : ACalls Try.prog 22 [.list (l.map supC)] σ fun r σ' => r = .list (l.map rawD) ∧ σ' = σ := by
 refine ACalls_fp (p := fun r => r = .list (l.map rawD)) ?_
 refine in22 (by simp) ?_
 unfold c22
 refine raw ?_
 repeat (first | (with_reducible refine unr ?_; try simp only [YY, ↓reduceIte, Za, Zb, Zc, reduceCtorEq, Zd, Ze, Zf, Zg, Zh, Zi, Zj]) | (with_reducible refine WW (by decide) ?_))
 refine AWP_while [0, 3, 4] (fun y : AV × Nat => l.length - y.2) (fun y => [.list (l.map supC), y.1, .int .i64 y.2])
  (fun y t => y.2 ≤ l.length ∧ Grow σ t y.1 58 10 ((l.take y.2).map rawD)) (.nils, 0) ⟨by simp, .start _ _ _⟩ ?_ ?_
 · refine raw ?_
   repeat (first | (with_reducible refine unr ?_; try simp only [YY, ↓reduceIte, Za, Zb, Zc, reduceCtorEq, Zd, Ze, Zf, Zg, Zh, Zi, Zj]) | (with_reducible refine WW (by decide) ?_))
   rfl
 rintro ⟨v, i⟩ t ⟨hi, hG⟩
 simp only at hi hG
 have hw := wrap_succ (i := i) (by omega)
 by_cases hil : i < l.length
 · have hil' : (i : Int) < (l.length : Int) := by omega
   obtain ⟨x, hx⟩ : ∃ x, l[i]? = some x := ⟨_, List.getElem?_eq_getElem hil⟩
   have hg : (l.map supC)[i]? = some (supC x) := by simp [hx]
   by_cases hp : (0 : Int) < (x.ps.length : Int)
   · refine raw ?_
     repeat (first | (with_reducible refine unr ?_; try simp only [YY, ↓reduceIte, Za, Zb, Zc, reduceCtorEq, Zd, Ze, Zf, Zg, Zh, Zi, Zj, hil', hg, supC, Cr.len, Cr.take9, Cr.drop9, hp]) | (with_reducible refine WW (by decide) ?_))
     have hr : rawD x = [.str x.nm, .int .i64 6, .str ⟨#[]⟩, .int .i64 0, .int .i64 0, strs x.ps, .list [x.bd.cells], .nils, .nils, .nils] := by simp only [rawD, if_pos hp]
     rw [← hr]
     refine ok_grow (hG.push _) (es2 := [rawD x]) (by simp [rawD_len]) (by simp; omega) (by simp [maxLen]; omega) ?_
     intro v' t3 hG3 _ _
     refine raw ?_
     repeat (first | (with_reducible refine unr ?_; try simp only [YY, ↓reduceIte, Za, Zb, Zc, reduceCtorEq, Zd, Ze, Zf, Zg, Zh, Zi, Zj, hw]) | (with_reducible refine WW (by decide) ?_))
     refine ⟨(v', i + 1), rfl, ⟨by simp only; omega, ?_⟩, by simp only; omega⟩
     simp only [take_succ_at hx, List.map_append]; exact hG3
   · refine raw ?_
     repeat (first | (with_reducible refine unr ?_; try simp only [YY, ↓reduceIte, Za, Zb, Zc, reduceCtorEq, Zd, Ze, Zf, Zg, Zh, Zi, Zj, hil', hg, supC, Cr.len, Cr.take9, Cr.drop9, hp]) | (with_reducible refine WW (by decide) ?_))
     have hr : rawD x = .str x.nm :: x.bd.cells := by simp only [rawD, if_neg hp]
     rw [← hr]
     refine ok_grow (hG.push _) (es2 := [rawD x]) (by simp [rawD_len]) (by simp; omega) (by simp [maxLen]; omega) ?_
     intro v' t3 hG3 _ _
     refine raw ?_
     repeat (first | (with_reducible refine unr ?_; try simp only [YY, ↓reduceIte, Za, Zb, Zc, reduceCtorEq, Zd, Ze, Zf, Zg, Zh, Zi, Zj, hw]) | (with_reducible refine WW (by decide) ?_))
     refine ⟨(v', i + 1), rfl, ⟨by simp only; omega, ?_⟩, by simp only; omega⟩
     simp only [take_succ_at hx, List.map_append]; exact hG3
 · have hil' : ¬ (i : Int) < (l.length : Int) := by omega
   rw [List.take_of_length_le (by omega)] at hG
   refine raw ?_
   repeat (first | (with_reducible refine unr ?_; try simp only [YY, ↓reduceIte, Za, Zb, Zc, reduceCtorEq, Zd, Ze, Zf, Zg, Zh, Zi, Zj, hil']) | (with_reducible refine WW (by decide) ?_))
   refine FP.mk (.list (l.map rawD)) hG.sl .here rfl (.list' fun e he c hc => ?_) hG.kp hG.fresh
   obtain ⟨y, _, rfl⟩ := List.mem_map.1 he
   exact rawD_cln y c hc
theorem defs_ok (l : List Sup) (hl : l.length ≤ 100000000) (σ : Store) : ACalls Try.prog 22 [.list (l.map supC)] σ fun r σ' => r = .list ((l.map defOf).map defC) ∧ σ' = σ := by
 refine ACalls_leD ((defsRaw_ok l hl σ).mono ?_)
 rintro _ _ ⟨rfl, rfl⟩
 refine ⟨_, .list (leDE_map leD_rawD l), ?_, rfl⟩
 simp
theorem size' (x : Cr) (h : x.Sm) (σ : Store) : ACalls Try.prog 17 [.agg x.cells] σ fun r σ' => (∃ n : Int, r = .int .i64 n ∧ True) ∧ σ' = σ := (size_ok x h σ).mono fun r s ⟨⟨n, hn⟩, hs⟩ => ⟨⟨n, hn, trivial⟩, hs⟩
theorem smallD_ok (ds : List (ByteArray × Cr)) (hb : bulkD ds ≤ 1048576) (σ : Store) : ACalls Try.prog 16 [.list (ds.map defC)] σ fun r σ' => (∃ b : Bool, r = .bool b ∧ True) ∧ σ' = σ := by
 refine in16 (by simp) ?_
 unfold c16
 have hdl := lenD ds
 refine raw ?_
 repeat (first | (with_reducible refine unr ?_; try simp only [YY, ↓reduceIte, Za, Zb, Zc, reduceCtorEq, Zd, Ze, Zf, Zg, Zh, Zi, Zj]) | (with_reducible refine WW (by decide) ?_))
 refine AWP_while [0, 3, 4] (fun y : Int × Nat => ds.length - y.2) (fun y => [.list (ds.map defC), .int .i64 y.1, .int .i64 y.2])
  (fun y t => σ = t ∧ y.2 ≤ ds.length) (0, 0) ⟨rfl, by simp⟩ ?_ ?_
 · refine raw ?_
   repeat (first | (with_reducible refine unr ?_; try simp only [YY, ↓reduceIte, Za, Zb, Zc, reduceCtorEq, Zd, Ze, Zf, Zg, Zh, Zi, Zj]) | (with_reducible refine WW (by decide) ?_))
   rfl
 rintro ⟨a, i⟩ _ ⟨rfl, hi⟩
 simp only at hi
 have hw := wrap_succ (i := i) (by omega)
 by_cases hil : i < ds.length
 · have hil' : (i : Int) < (ds.length : Int) := by omega
   obtain ⟨x, hx⟩ : ∃ x, ds[i]? = some x := ⟨_, List.getElem?_eq_getElem hil⟩
   have hg : (ds.map defC)[i]? = some (defC x) := by simp [hx]
   have hxb := bulkD_le (List.mem_of_getElem? hx)
   have hsm := x.2.sm_of_bulk (by omega)
   refine raw ?_
   repeat' (first | (with_reducible refine unr ?_; try simp only [YY, ↓reduceIte, Za, Zb, Zc, reduceCtorEq, Zd, Ze, Zf, Zg, Zh, Zi, Zj, hil', hg, defC, Cr.len, Cr.take9, str_nil, *]) | (with_reducible first | refine WW (by decide) ?_ | refine ok_idx (by first | assumption | omega) (fun b hb => raw ?_) | refine ok_iad (by first | assumption | omega) (fun x hx hxm => raw ?_) | refine And.intro (by omega) (raw ?_) | (refine guardW_b (fun h => raw ?_) (fun h => raw ?_) <;> try simp only [Ty] at h) | (refine ePick_b (fun h => raw ?_) (fun h => raw ?_) <;> try simp only [Ty] at h) | (refine condW_b (fun h => raw ?_) (fun h => raw ?_) <;> try simp only [Ty] at h) | (refine (size' x.2 hsm _).mono ?_; rintro _ _ ⟨⟨b, rfl, hb⟩, rfl⟩; refine raw ?_)))
   · exact ⟨_, rfl⟩
   · exact ⟨_, rfl⟩
   · exact ⟨(_, i + 1), rfl, by simp only; omega, by simp only; omega⟩
 · have hil' : ¬ (i : Int) < (ds.length : Int) := by omega
   refine raw ?_
   repeat (first | (with_reducible refine unr ?_; try simp only [YY, ↓reduceIte, Za, Zb, Zc, reduceCtorEq, Zd, Ze, Zf, Zg, Zh, Zi, Zj, hil']) | (with_reducible refine WW (by decide) ?_))
   exact ⟨_, rfl⟩
end Go.Proofs.Ytjjbjibbjbbeaaa
/- Codes, as plain functions. -/
set_option linter.unusedVariables false
set_option linter.unusedSimpArgs false
namespace Go.AL
/-! ### Shapes: how many parts what has -/
inductive Cr.Tw : Cr → Prop
 | mk {k : Int} {nm : ByteArray} {n ar : Int} {ps : List ByteArray} {gs : List Cr} {al : List (AltH × Cr)} {bs : List (ByteArray × Cr)} {pk : List (Int × Cr)} (h0 : k = 9 → 1 ≤ n ∧ n ≤ 11) (h2 : k = 5 ∨ k = 9 → gs.length = 2) (h1 : k = 6 ∨ k = 7 ∨ k = 8 ∨ k = 11 → gs.length = 1)
  (g1 : ∀ x, x ∈ gs → Cr.Tw x) (g2 : ∀ x, x ∈ al → Cr.Tw x.2) (g3 : ∀ x, x ∈ bs → Cr.Tw x.2) (g4 : ∀ x, x ∈ pk → Cr.Tw x.2) : Cr.Tw (.mk k nm n ar ps gs al bs pk)
/-- An instruction. -/
structure Ins where
 op : Int
 k : Int
 n : Int
 js : List (Int × Int)
def jC (p : Int × Int) : List AV := [.int .i64 p.1, .int .i64 p.2]
def insC (i : Ins) : List AV := [.int .i64 i.op, .int .i64 i.k, .int .i64 i.n, .list (i.js.map jC)]
def ik (op k : Int) : Ins := ⟨op, k, 0, []⟩
/-- The globals: supercombinators, constructors with their numbers of fields. -/
structure Gl where
 sup : List ByteArray
 con : List (ByteArray × Nat)
noncomputable def idx (l : List ByteArray) (s : ByteArray) : Option Nat := l.findIdx? fun x => @decide (x = s) (Classical.propDecidable _)
noncomputable def conIdx (g : Gl) (s : ByteArray) : Int := match idx (g.con.map (·.1)) s with | some i => (i : Int) | none => 0
def operS (g : Gl) (op : Int) : Int := (g.sup.length : Int) + g.con.length + op - 1
noncomputable def globS (g : Gl) (O : ByteArray → Int) (s : ByteArray) : Int := match idx g.sup s with | some i => (i : Int) | none => operS g (O s)
abbrev Lv := List (ByteArray × Int)
def nums : Nat → Int → Int → List ByteArray → Lv
 | i, fr, st, [] => []
 | i, fr, st, s :: r => (s, fr + i * st) :: nums (i + 1) fr st r
def withS (lv : Lv) (l : List ByteArray) (fr st : Int) : Lv := lv ++ nums 0 fr st l
noncomputable def findS : Lv → ByteArray → Int
 | [], s => 0
 | p :: r, s => @ite _ (∃ q ∈ r, q.1 = s) (Classical.propDecidable _) (findS r s) (@ite _ (p.1 = s) (Classical.propDecidable _) p.2 0)
theorem nums_len (l : List ByteArray) : ∀ i fr st, (nums i fr st l).length = l.length := by
 induction l with
 | nil => intros; rfl
 | cons s r ih => intro i fr st; rw [nums, List.length_cons, List.length_cons, ih]
theorem withS_len (lv : Lv) (l : List ByteArray) (fr st : Int) : (withS lv l fr st).length = lv.length + l.length := by rw [withS, List.length_append, nums_len]
section
variable (g : Gl) (O : ByteArray → Int)
mutual
noncomputable def latS (lv : Lv) (d : Int) : Cr → List Ins
 | .mk k nm n ar ps gs al bs pk =>
  if k = 1 then [ik 1 (d - 1 - findS lv nm)]
  else if k = 2 then [ik 2 (globS g O nm)]
  else if k = 4 then [ik 2 ((g.sup.length : Int) + conIdx g nm)]
  else if k = 3 then [⟨3, 0, n, []⟩]
  else if k = 5 then (latL lv (d + 1) gs).getD 1 [] ++ (latL lv (d + 1) gs).getD 0 [] ++ [ik 4 0]
  else if k = 9 then (latL lv (d + 1) gs).getD 1 [] ++ (latL lv (d + 1) gs).getD 0 [] ++ [ik 2 (operS g n), ik 4 0, ik 4 0]
  else if k = 7 then ik 8 bs.length :: latB (withS lv (bs.map (·.1)) d 1) (d + bs.length) (bs.length : Int) bs ++ (latL (withS lv (bs.map (·.1)) d 1) (d + bs.length) gs).getD 0 [] ++ [ik 7 bs.length]
  else []
noncomputable def latL (lv : Lv) (d : Int) : List Cr → List (List Ins)
 | [] => []
 | x :: r => latS lv d x :: latL lv (d - 1) r
noncomputable def latB (lv : Lv) (d n : Int) : List (ByteArray × Cr) → List Ins
 | [] => []
 | (s, x) :: r => latS lv d x ++ [ik 5 (n - 1)] ++ latB lv d (n - 1) r
end
/-- What makes bindings' nodes. -/
noncomputable def bindS (lv : Lv) (d : Int) (bs : List (ByteArray × Cr)) : List Ins := ik 8 bs.length :: latB g O (withS lv (bs.map (·.1)) d 1) (d + bs.length) (bs.length : Int) bs
def endS (d : Int) : List Ins := [ik 5 d, ik 6 d, ik 10 0]
mutual
noncomputable def valS (lv : Lv) (d : Int) (last : Bool) (base : Nat) : Cr → List Ins
 | .mk k nm n ar ps gs al bs pk =>
  if k = 9 then (valL lv d base 2 false gs).flatten ++ [⟨16, 0, n, []⟩] ++ (if last then endS d else [])
  else if k = 7 then bindS g O lv d bs ++ (valL (withS lv (bs.map (·.1)) d 1) (d + bs.length) (base + (bindS g O lv d bs).length) 1 last gs).flatten ++ (if last then [] else [ik 7 bs.length])
  else if k = 8 then
   (valL lv d base 1 false gs).flatten ++
    [⟨13, altK lv d last (base + (valL lv d base 1 false gs).flatten.length + 1) (-1) al, 0, altJ lv d last (base + (valL lv d base 1 false gs).flatten.length + 1) al⟩] ++
    altS lv d last (base + (valL lv d base 1 false gs).flatten.length + 1) (base + (valL lv d base 1 false gs).flatten.length + 1 + (altS lv d last (base + (valL lv d base 1 false gs).flatten.length + 1) 0 al).length) al
  else if k = 11 then
   [⟨14, ((base + 1 : Nat) : Int), 0, pickJ lv d last (base + 1 + (valL lv d (base + 1) 1 last gs).flatten.length + (if last then 0 else 1)) pk⟩] ++
    ((valL lv d (base + 1) 1 last gs).flatten ++ (if last then [] else [ik 15 ((base + 1 + (valL lv d (base + 1) 1 last gs).flatten.length + (if last then 0 else 1) + (pickS lv d last (base + 1 + (valL lv d (base + 1) 1 last gs).flatten.length + (if last then 0 else 1)) 0 pk).length : Nat) : Int)])) ++
    pickS lv d last (base + 1 + (valL lv d (base + 1) 1 last gs).flatten.length + (if last then 0 else 1)) (base + 1 + (valL lv d (base + 1) 1 last gs).flatten.length + (if last then 0 else 1) + (pickS lv d last (base + 1 + (valL lv d (base + 1) 1 last gs).flatten.length + (if last then 0 else 1)) 0 pk).length) pk
  else if k = 10 then [ik 17 0]
  else if k = 3 then [⟨3, 0, n, []⟩] ++ (if last then endS d else [])
  else latS g O lv d (.mk k nm n ar ps gs al bs pk) ++ (if last then endS d else [ik 9 0])
/-- Some parts, one behind the other, each one deeper. -/
noncomputable def valL (lv : Lv) (d : Int) (base : Nat) (m : Nat) (last : Bool) : List Cr → List (List Ins)
 | [] => []
 | x :: r => match m with | 0 => [] | m + 1 => valS lv d last base x :: valL lv (d + 1) (base + (valS lv d last base x).length) m last r
noncomputable def altS (lv : Lv) (d : Int) (last : Bool) (base e : Nat) : List (AltH × Cr) → List Ins
  | [] => []
  | (h, x) :: r =>
    ((if h.k = 1 then ik 12 h.ps.length else ik 6 1) :: valS (withS lv h.ps (d + h.ps.length - 1) (-1)) (d + h.ps.length) last (base + 1) x ++ (if h.k = 1 ∧ last = false then [ik 7 h.ps.length] else []) ++ (if last then [] else [ik 15 e])) ++
      altS lv d last (base + ((if h.k = 1 then ik 12 h.ps.length else ik 6 1) :: valS (withS lv h.ps (d + h.ps.length - 1) (-1)) (d + h.ps.length) last (base + 1) x ++ (if h.k = 1 ∧ last = false then [ik 7 h.ps.length] else []) ++ (if last then [] else [ik 15 (0 : Int)])).length) e r
noncomputable def altJ (lv : Lv) (d : Int) (last : Bool) (base : Nat) : List (AltH × Cr) → List (Int × Int)
 | [] => []
 | (h, x) :: r =>
  (if h.k = 1 then [(conIdx g h.nm, (base : Int))] else if h.k = 2 then [(h.n, (base : Int))] else []) ++
   altJ lv d last (base + ((if h.k = 1 then ik 12 h.ps.length else ik 6 1) :: valS (withS lv h.ps (d + h.ps.length - 1) (-1)) (d + h.ps.length) last (base + 1) x ++ (if h.k = 1 ∧ last = false then [ik 7 h.ps.length] else []) ++ (if last then [] else [ik 15 (0 : Int)])).length) r
noncomputable def altK (lv : Lv) (d : Int) (last : Bool) (base : Nat) (K : Int) : List (AltH × Cr) → Int
 | [] => K
 | (h, x) :: r =>
  altK lv d last (base + ((if h.k = 1 then ik 12 h.ps.length else ik 6 1) :: valS (withS lv h.ps (d + h.ps.length - 1) (-1)) (d + h.ps.length) last (base + 1) x ++ (if h.k = 1 ∧ last = false then [ik 7 h.ps.length] else []) ++ (if last then [] else [ik 15 (0 : Int)])).length) (if h.k = 1 ∨ h.k = 2 then K else (base : Int)) r
noncomputable def pickS (lv : Lv) (d : Int) (last : Bool) (base e : Nat) : List (Int × Cr) → List Ins
 | [] => []
 | (s, x) :: r => (valS lv d last base x ++ (if last then [] else [ik 15 e])) ++ pickS lv d last (base + (valS lv d last base x).length + (if last then 0 else 1)) e r
noncomputable def pickJ (lv : Lv) (d : Int) (last : Bool) (base : Nat) : List (Int × Cr) → List (Int × Int)
 | [] => []
 | (s, x) :: r => (s, (base : Int)) :: pickJ lv d last (base + (valS lv d last base x).length + (if last then 0 else 1)) r
end
end
end Go.AL
/- The resolved code of some functions. -/
set_option linter.unusedVariables false
namespace Go.Proofs.Ytjjbjibbjbbeaaa
open Go.AL
/-- changeling/changelinglaw17.CodeAlone -/
def c7 : ACode :=
(.seq
 (.reg [oo 6 (.move (.c (.bool false)))])
 (.seq
 (.seq
 (.reg [mv 13 0,
 oo 14 (.call 25 [(.t 13)]),
 oo 15 (.not (.t 14)),
 mv 16 15,
 og 17 16 false (.move (.t 1)),
 og 18 16 false (.call 25 [(.t 17)]),
 og 19 16 false (.not (.t 18)),
 oo 20 (.pick (.t 16) (.c (.bool true)) (.t 19)),
 mv 21 20,
 og 22 21 false (.move (.t 0)),
 og 23 21 false (.len .slice (.t 22)),
 og 24 21 false (.move (.t 1)),
 og 25 21 false (.len .slice (.t 24)),
 og 26 21 false (.bin .int .neq (.t 23) (.t 25)),
 oo 27 (.pick (.t 21) (.c (.bool true)) (.t 26)),
 mv 28 27,
 og 29 28 false (.move (.t 2)),
 og 30 28 false (.bin .int .lss (.t 29) (.c (.int .i64 0))),
 oo 31 (.pick (.t 28) (.c (.bool true)) (.t 30)),
 mv 32 31,
 og 33 32 false (.move (.t 2)),
 og 34 32 false (.move (.t 0)),
 og 35 32 false (.len .slice (.t 34)),
 og 36 32 false (.bin .int .geq (.t 33) (.t 35)),
 oo 37 (.pick (.t 32) (.c (.bool true)) (.t 36))])
 (.cond (.t 37)
 (.seq
 (.reg [oo 38 (.call 26 []),
 mv 6 38])
 .ret)
 .skip))
 (.seq
 (.seq
 (.reg [oo 7 (.move (.c (.int .i64 0)))])
 (.block 0
 (.loop
 (.seq
 (.seq
 (.reg [mv 39 7,
 mv 40 0,
 oo 41 (.len .slice (.t 40)),
 oo 42 (.bin .int .lss (.t 39) (.t 41))])
 (.cond (.t 42)
 .skip
 (.exit 0)))
 (.seq
 (.block 1
 (.seq
 (.reg [mv 45 0,
 mv 46 7,
 oo 47 (.iaddr 11 (.t 45) (.t 46)),
 oo 48 (.faddr 0 (.t 47)),
 oo 49 (.load none (.t 48)),
 mv 50 1,
 mv 51 7,
 oo 52 (.iaddr 11 (.t 50) (.t 51)),
 oo 53 (.faddr 0 (.t 52)),
 oo 54 (.load none (.t 53)),
 oo 55 (.bin .str .neq (.t 49) (.t 54))])
 (.cond (.t 55)
 (.seq
 (.reg [oo 56 (.call 26 []),
 mv 6 56])
 .ret)
 .skip)))
 (.reg [mv 43 7,
 oo 44 (.bin .int .add (.t 43) (.c (.int .i64 1))),
 mv 7 44]))))))
 (.seq
 (.seq
 (.reg [mv 57 0,
 mv 58 2,
 oo 59 (.iaddr 11 (.t 57) (.t 58)),
 oo 60 (.faddr 1 (.t 59)),
 oo 61 (.load none (.t 60)),
 mv 62 1,
 mv 63 2,
 oo 64 (.iaddr 11 (.t 62) (.t 63)),
 oo 65 (.faddr 1 (.t 64)),
 oo 66 (.load none (.t 65)),
 oo 67 (.call 29 [(.t 61), (.t 66)]),
 oo 68 (.not (.t 67)),
 mv 69 68,
 og 70 69 false (.move (.t 0)),
 og 71 69 false (.move (.t 2)),
 og 72 69 false (.iaddr 11 (.t 70) (.t 71)),
 og 73 69 false (.faddr 2 (.t 72)),
 og 74 69 false (.load (some 9) (.t 73)),
 og 75 69 false (.move (.t 1)),
 og 76 69 false (.move (.t 2)),
 og 77 69 false (.iaddr 11 (.t 75) (.t 76)),
 og 78 69 false (.faddr 2 (.t 77)),
 og 79 69 false (.load (some 9) (.t 78)),
 og 80 69 false (.call 30 [(.t 74), (.t 79)]),
 og 81 69 false (.not (.t 80)),
 oo 82 (.pick (.t 69) (.c (.bool true)) (.t 81))])
 (.cond (.t 82)
 (.seq
 (.reg [oo 83 (.call 26 []),
 mv 6 83])
 .ret)
 .skip))
 (.seq
 (.reg [oo 84 (.call 31 []),
 oo 85 (.build [(.str ⟨#[]⟩), (.str ⟨#[]⟩), (.int .i64 0), (.int .i64 0), .nils] [(0, 1, (.c (.str ⟨#[78]⟩)))]),
 oo 86 (.build [(.int .i64 0), (.int .i64 0), (.str ⟨#[]⟩), .nils] []),
 oo 87 (.build [(.int .i64 0), (.int .i64 0), (.str ⟨#[]⟩), .nils] []),
 oo 88 (.lit false 33 4 [(.t 86), (.t 87)]),
 oo 89 (.build [(.str ⟨#[]⟩), (.str ⟨#[]⟩), (.int .i64 0), (.int .i64 0), .nils] [(0, 1, (.c (.str ⟨#[67]⟩))), (2, 1, (.c (.int .i64 1))), (4, 1, (.t 88))]),
 oo 90 (.lit false 87 5 [(.t 85), (.t 89)]),
 oo 91 (.append 87 5 72 (.t 84) (.t 90)),
 mv 8 91])
 (.seq
 (.reg [mv 93 0,
 mv 94 8,
 oo 95 (.call 27 [(.t 93), (.t 94)]),
 mv 92 95,
 oo 96 (.extract (.t 92) 0),
 oo 97 (.extract (.t 92) 1),
 mv 9 96,
 mv 10 97])
 (.seq
 (.reg [mv 99 1,
 mv 100 8,
 oo 101 (.call 27 [(.t 99), (.t 100)]),
 mv 98 101,
 oo 102 (.extract (.t 98) 0),
 oo 103 (.extract (.t 98) 1),
 mv 11 102,
 mv 12 103])
 (.seq
 (.seq
 (.reg [mv 104 10,
 oo 105 (.bin .int .neq (.t 104) (.c (.int .i64 0))),
 mv 106 105,
 og 107 106 false (.move (.t 12)),
 og 108 106 false (.bin .int .neq (.t 107) (.c (.int .i64 0))),
 oo 109 (.pick (.t 106) (.c (.bool true)) (.t 108))])
 (.cond (.t 109)
 (.seq
 (.reg [oo 110 (.call 26 []),
 mv 6 110])
 .ret)
 .skip))
 (.seq
 (.reg [mv 111 2,
 mv 112 9,
 oo 113 (.len .slice (.t 112)),
 oo 114 (.bin .int .lss (.t 111) (.t 113)),
 mv 115 114,
 og 116 115 true (.move (.t 2)),
 og 117 115 true (.move (.t 11)),
 og 118 115 true (.len .slice (.t 117)),
 og 119 115 true (.bin .int .lss (.t 116) (.t 118)),
 oo 120 (.pick (.t 115) (.t 119) (.c (.bool false))),
 mv 121 120,
 og 122 121 true (.move (.t 9)),
 og 123 121 true (.move (.t 2)),
 og 124 121 true (.iaddr 4 (.t 122) (.t 123)),
 og 125 121 true (.load (some 4) (.t 124)),
 og 126 121 true (.move (.t 11)),
 og 127 121 true (.move (.t 2)),
 og 128 121 true (.iaddr 4 (.t 126) (.t 127)),
 og 129 121 true (.load (some 4) (.t 128)),
 og 130 121 true (.call 32 [(.t 125), (.t 129)]),
 oo 131 (.pick (.t 121) (.t 130) (.c (.bool false))),
 mv 132 131,
 og 133 132 true (.call 26 []),
 oo 134 (.pick (.t 132) (.t 133) (.c (.bool false))),
 mv 6 134])
 .ret)))))))))
/-- changeling/changelinglaw17.CodeSound -/
def c6 : ACode :=
(.seq
 (.reg [⟨(some 4), .move (.c (.bool false)), none⟩])
 (.seq
  (.seq
   (.reg [⟨(some 8), .move (.t 0), none⟩,
     ⟨(some 9), .call 25 [(.t 8)], none⟩,
     ⟨(some 10), .not (.t 9), none⟩,
     ⟨(some 11), .move (.t 10), none⟩,
     ⟨(some 12), .move (.t 1), some (11, false)⟩,
     ⟨(some 13), .len .slice (.t 12), some (11, false)⟩,
     ⟨(some 14), .bin .int .gtr (.t 13) (.c (.int .i64 100)), some (11, false)⟩,
     ⟨(some 15), .pick (.t 11) (.c (.bool true)) (.t 14), none⟩])
   (.cond (.t 15)
    (.seq
     (.reg [⟨(some 16), .call 26 [], none⟩,
       ⟨(some 4), .move (.t 16), none⟩])
     .ret)
    .skip))
  (.seq
   (.reg [⟨(some 18), .move (.t 0), none⟩,
     ⟨(some 19), .move (.t 1), none⟩,
     ⟨(some 20), .call 27 [(.t 18), (.t 19)], none⟩,
     ⟨(some 17), .move (.t 20), none⟩,
     ⟨(some 21), .extract (.t 17) 0, none⟩,
     ⟨(some 22), .extract (.t 17) 1, none⟩,
     ⟨(some 5), .move (.t 21), none⟩,
     ⟨(some 6), .move (.t 22), none⟩])
   (.seq
    (.seq
     (.reg [⟨(some 23), .move (.t 6), none⟩,
       ⟨(some 24), .bin .int .neq (.t 23) (.c (.int .i64 0)), none⟩])
     (.cond (.t 24)
      (.seq
       (.reg [⟨(some 25), .move (.t 5), none⟩,
         ⟨(some 26), .len .slice (.t 25), none⟩,
         ⟨(some 27), .bin .int .eql (.t 26) (.c (.int .i64 0)), none⟩,
         ⟨(some 28), .move (.t 27), none⟩,
         ⟨(some 29), .call 26 [], some (28, true)⟩,
         ⟨(some 30), .pick (.t 28) (.t 29) (.c (.bool false)), none⟩,
         ⟨(some 4), .move (.t 30), none⟩])
       .ret)
      .skip))
    (.seq
     (.seq
      (.reg [⟨(some 7), .move (.c (.int .i64 0)), none⟩])
      (.block 0
       (.loop
        (.seq
         (.seq
          (.reg [⟨(some 31), .move (.t 7), none⟩,
            ⟨(some 32), .move (.t 5), none⟩,
            ⟨(some 33), .len .slice (.t 32), none⟩,
            ⟨(some 34), .bin .int .lss (.t 31) (.t 33), none⟩])
          (.cond (.t 34)
           .skip
           (.exit 0)))
         (.seq
          (.block 1
           (.seq
            (.reg [⟨(some 37), .move (.t 5), none⟩,
              ⟨(some 38), .move (.t 7), none⟩,
              ⟨(some 39), .iaddr 4 (.t 37) (.t 38), none⟩,
              ⟨(some 40), .load (some 4) (.t 39), none⟩,
              ⟨(some 41), .call 28 [(.t 40)], none⟩,
              ⟨(some 42), .not (.t 41), none⟩])
            (.cond (.t 42)
             (.seq
              (.reg [⟨(some 4), .move (.c (.bool false)), none⟩])
              .ret)
             .skip)))
          (.reg [⟨(some 35), .move (.t 7), none⟩,
            ⟨(some 36), .bin .int .add (.t 35) (.c (.int .i64 1)), none⟩,
            ⟨(some 7), .move (.t 36), none⟩]))))))
     (.seq
      (.reg [⟨(some 43), .move (.t 5), none⟩,
        ⟨(some 44), .len .slice (.t 43), none⟩,
        ⟨(some 45), .bin .int .gtr (.t 44) (.c (.int .i64 0)), none⟩,
        ⟨(some 46), .move (.t 45), none⟩,
        ⟨(some 47), .call 26 [], some (46, true)⟩,
        ⟨(some 48), .pick (.t 46) (.t 47) (.c (.bool false)), none⟩,
        ⟨(some 4), .move (.t 48), none⟩])
      .ret))))))
end Go.Proofs.Ytjjbjibbjbbeaaa
/- The builder: what it holds; instructions put; levels. -/
set_option linter.unusedVariables false
set_option linter.unusedSimpArgs false
namespace Go.AL
structure BAt (σ : Store) (fid : Nat) (v : AV) (df : AV) (es : List (List AV)) : Prop where
 hd : σ.get fid = some (.cells 157 0 2 [[df, v]])
 sl : SliceAt σ v 139 4 es
 nv : fid ∉ slIds v
/-- The lifter behind a call. -/
def BPost (σ : Store) (fid : Nat) (v : AV) (df : AV) (es : List (List AV)) (s : Store) : Prop :=
 ∃ v', BAt s fid v' df es ∧ σ.next ≤ s.next ∧ (∀ j, j < σ.next → j ≠ fid → j ∉ slIds v → s.get j = σ.get j) ∧ (∀ j, j ∈ slIds v' → j ∈ slIds v ∨ σ.next ≤ j)
@[congr] theorem BPost_congr {w : Prop} (hw : Visit = w) {σ : Store} {fid : Nat} {v : AV} {df : AV} {es : List (List AV)} {s s' : Store} (h : s = s') : BPost σ fid v df es s = BPost σ fid v df es s' := by rw [h]
/-- The lifter amid a function's own variables (those from N on are newer). -/
structure MB (σ s : Store) (N fid : Nat) (v v' : AV) (df : AV) (es : List (List AV)) : Prop where
 la : BAt s fid v' df es
 le : σ.next ≤ N
 next : N ≤ s.next
 keep : ∀ j, j < σ.next → j ≠ fid → j ∉ slIds v → s.get j = σ.get j
 fresh : ∀ j, j ∈ slIds v' → (j ∈ slIds v ∧ j < σ.next) ∨ N ≤ j
 fid : fid < σ.next
theorem MB.start {σ s : Store} {N fid : Nat} {v : AV} {df : AV} {es : List (List AV)} (h : BAt σ fid v df es) (k : Kp σ s) (hN : N = s.next) : MB σ s N fid v v df es :=
 ⟨⟨k.get h.hd, h.sl.keep fun i hi => k.keep i (h.sl.lt hi), h.nv⟩, by have := k.next; omega, by omega, fun j hj _ _ => k.keep j hj, fun j hj => .inl ⟨hj, h.sl.lt hj⟩, σ.lt h.hd⟩
section
variable {σ s s2 : Store} {N fid : Nat} {v v' : AV} {df : AV} {es es2 : List (List AV)}
theorem MB.out (h : MB σ s N fid v v' df es) : BPost σ fid v df es s := ⟨v', h.la, by have := h.le; have := h.next; omega, h.keep, fun j hj => (h.fresh j hj).elim (fun a => .inl a.1) (fun a => .inr (by have := h.le; omega))⟩
theorem MB.push (h : MB σ s N fid v v' df es) (o : AObj) : MB σ (s.push o) N fid v v' df es :=
 ⟨⟨(Kp.pushed s o).get h.la.hd, h.la.sl.keep fun i hi => (Kp.pushed s o).keep i (h.la.sl.lt hi), h.la.nv⟩, h.le, by rw [Store.push_next]; have := h.next; omega, fun j hj h1 h2 => by rw [(Kp.pushed s o).keep j (by have := h.le; have := h.next; omega), h.keep j hj h1 h2], h.fresh, h.fid⟩
theorem MB.chg (h : MB σ s N fid v v' df es) {s2 : Store} {id : Nat} (h1 : σ.next ≤ id) (h2 : id ∉ slIds v') (hn : s2.next = s.next) (hg : ∀ j, j ≠ id → s2.get j = s.get j) : MB σ s2 N fid v v' df es :=
 ⟨⟨by rw [hg _ (by have := h.fid; omega)]; exact h.la.hd, h.la.sl.keep fun i hi => hg i (fun e => h2 (e ▸ hi)), h.la.nv⟩, h.le, by rw [hn]; exact h.next, fun j hj a b => by rw [hg j (by omega), h.keep j hj a b], h.fresh, h.fid⟩
theorem MB.upd (h : MB σ s N fid v v' df es) {id : Nat} (o : AObj) (h1 : σ.next ≤ id) (h2 : id ∉ slIds v') : MB σ (s.upd id o) N fid v v' df es :=
 h.chg h1 h2 rfl fun j hj => Store.get_upd_ne _ _ hj
theorem MB.call (h : MB σ s N fid v v' df es) (k : BPost s fid v' df es2 s2) : ∃ v2, MB σ s2 N fid v v2 df es2 ∧ (∀ j, j < s.next → j ≠ fid → j ∉ slIds v' → s2.get j = s.get j) ∧ (∀ j, j ∈ slIds v2 → j ∈ slIds v' ∨ s.next ≤ j) ∧ s.next ≤ s2.next := by
 obtain ⟨v2, hl, hn, hk, hf⟩ := k
 refine ⟨v2, ⟨hl, h.le, by have := h.next; omega, fun j hj a b => ?_, fun j hj => ?_, h.fid⟩, hk, hf, hn⟩
 · rw [hk j (by have := h.le; have := h.next; omega) a (fun hm => (h.fresh j hm).elim (fun q => b q.1) (fun q => by have := h.le; omega)), h.keep j hj a b]
 · rcases hf j hj with q | q
   · exact h.fresh j q
   · exact .inr (by have := h.next; omega)
/-- An own variable is none of the lifter's. -/
theorem MB.loc (h : MB σ s N fid v v' df es) {j : Nat} (h1 : σ.next ≤ j) (h2 : j < N) : j ∉ slIds v' := fun hm => (h.fresh j hm).elim (fun q => by omega) (fun q => by omega)
/-- A slice that is built beside. -/
structure BesB (s : Store) (N : Nat) (v' u : AV) (ty sz : Nat) (us : List (List AV)) : Prop where
 sl : SliceAt s u ty sz us
 new : ∀ j, j ∈ slIds u → N ≤ j
 dj : ∀ j, j ∈ slIds u → j ∉ slIds v'
theorem BesB.start (s : Store) (N : Nat) (v' : AV) (ty sz : Nat) : BesB s N v' .nils ty sz [] := ⟨.nil _ _ _, by simp [slIds], by simp [slIds]⟩
theorem BesB.call {u : AV} {ty sz : Nat} {us : List (List AV)} (hB : BesB s N v' u ty sz us) {v2 : AV} (hf : N > fid) (hk : ∀ j, j < s.next → j ≠ fid → j ∉ slIds v' → s2.get j = s.get j) (hfr : ∀ j, j ∈ slIds v2 → j ∈ slIds v' ∨ s.next ≤ j) : BesB s2 N v2 u ty sz us :=
 ⟨hB.sl.keep fun j hj => hk j (hB.sl.lt hj) (by have := hB.new j hj; omega) (hB.dj j hj), hB.new, fun j hj hm => (hfr j hm).elim (hB.dj j hj) (fun q => by have := hB.sl.lt hj; omega)⟩
theorem BesB.push {u : AV} {ty sz : Nat} {us : List (List AV)} (hB : BesB s N v' u ty sz us) (o : AObj) : BesB (s.push o) N v' u ty sz us :=
 ⟨hB.sl.keep fun j hj => (Kp.pushed s o).keep j (hB.sl.lt hj), hB.new, hB.dj⟩
theorem BesB.upd {u : AV} {ty sz : Nat} {us : List (List AV)} (hB : BesB s N v' u ty sz us) {id : Nat} (o : AObj) (h : id ∉ slIds u) : BesB (s.upd id o) N v' u ty sz us :=
 ⟨hB.sl.keep fun j hj => Store.get_upd_ne _ _ (fun e => h (e ▸ hj)), hB.new, hB.dj⟩
end
section
variable {σ s s2 : Store} {N fid : Nat} {v v' : AV} {df : AV} {es es2 : List (List AV)}
theorem MB.sset {id ver n : Nat} {es' : List (List AV)} (h : MB σ s N fid v (.own id ver 4 0 n) df es) (hn : n = es.length) (hg : s.get id = some (.cells 139 ver 4 (es ++ es'))) (hl : es2.length = es.length) :
 MB σ (s.upd id (.cells 139 ver 4 (es2 ++ es'))) N fid v (.own id ver 4 0 n) df es2 := by
 have hne : id ≠ fid := fun e => h.la.nv (by simp [slIds, e])
 refine ⟨⟨by rw [Store.get_upd_ne _ _ (fun e => hne e.symm)]; exact h.la.hd, .inr ⟨id, ver, es', by rw [hl, ← hn], Store.get_upd_self _ _ (s.lt hg)⟩, h.la.nv⟩, h.le, h.next, fun j hj a b => ?_, h.fresh, h.fid⟩
 rw [Store.get_upd_ne _ _ (fun e => ?_), h.keep j hj a b]
 subst e
 exact (h.fresh j (by simp [slIds])).elim (fun q => b q.1) (fun q => by have := h.le; omega)
end
def rawC (i : Ins) : List AV := [.int .i64 i.op, .int .i64 i.k, .int .i64 i.n, if i.js = [] then .nils else .list (i.js.map jC)]
/-- The table of the globals; its objects are all below T. -/
structure TAt (σ : Store) (T tid : Nat) (g : Gl) : Prop where
 ex : ∃ sm cm fv sme cme, σ.get tid = some (.cells 223 0 3 [[.map sm, .map cm, fv]]) ∧ σ.get sm = some (.map sme) ∧ σ.get cm = some (.map cme) ∧ sme.length = g.sup.length ∧
  (∀ k, (idx g.sup k = none ∧ aFind .str (.str k) sme 0 = some none) ∨ ∃ i j, idx g.sup k = some i ∧ aFind .str (.str k) sme 0 = some (some (j, .int .i64 (i : Int)))) ∧
  (∀ k, (idx (g.con.map (·.1)) k = none ∧ aFind .str (.str k) cme 0 = some none) ∨ ∃ i j, idx (g.con.map (·.1)) k = some i ∧ aFind .str (.str k) cme 0 = some (some (j, .int .i64 (i : Int)))) ∧
  SliceAt σ fv 3 1 (g.con.map fun c => [.int .i64 (c.2 : Int)]) ∧ tid < T ∧ sm < T ∧ cm < T ∧ ∀ j, j ∈ slIds fv → j < T
 small : g.sup.length + g.con.length ≤ 1000000000
theorem TAt.keep {σ s : Store} {T tid : Nat} {g : Gl} (h : TAt σ T tid g) (k : ∀ j, j < T → s.get j = σ.get j) : TAt s T tid g := by
 obtain ⟨⟨sm, cm, fv, sme, cme, h1, h2, h3, h4, h5, h6, h7, h8, h9, h10, h11⟩, hs⟩ := h
 exact ⟨⟨sm, cm, fv, sme, cme, by rw [k _ h8]; exact h1, by rw [k _ h9]; exact h2, by rw [k _ h10]; exact h3, h4, h5, h6, h7.keep fun i hi => k i (h11 i hi), h8, h9, h10, h11⟩, hs⟩
/-- The builder stands above the table. -/
structure Ab (σ : Store) (T tid : Nat) (g : Gl) (fid : Nat) (v : AV) : Prop where
 t : TAt σ T tid g
 f : T ≤ fid
 v : ∀ j, j ∈ slIds v → T ≤ j
 n : T ≤ σ.next
theorem Ab.kp {σ s : Store} {T tid fid : Nat} {g : Gl} {v : AV} (h : Ab σ T tid g fid v) (k : Kp σ s) : Ab s T tid g fid v :=
 ⟨h.t.keep fun j hj => k.keep j (by have := h.n; omega), h.f, h.v, by have := h.n; have := k.next; omega⟩
theorem Ab.post {σ s : Store} {T tid fid : Nat} {g : Gl} {v v' : AV} (h : Ab σ T tid g fid v) (hn : σ.next ≤ s.next) (hk : ∀ j, j < σ.next → j ≠ fid → j ∉ slIds v → s.get j = σ.get j) (hf : ∀ j, j ∈ slIds v' → j ∈ slIds v ∨ σ.next ≤ j) : Ab s T tid g fid v' :=
 ⟨h.t.keep fun j hj => hk j (by have := h.n; omega) (by have := h.f; omega) (fun hm => by have := h.v j hm; omega), h.f, fun j hj => (hf j hj).elim (h.v j) (fun q => by have := h.n; omega), by have := h.n; omega⟩
theorem BPost.refl {σ : Store} {fid : Nat} {v : AV} {df : AV} {es : List (List AV)} (h : BAt σ fid v df es) : BPost σ fid v df es σ := ⟨v, h, Nat.le_refl _, fun _ _ _ _ => rfl, fun _ h => .inl h⟩
theorem BPost.trans {σ s u : Store} {fid : Nat} {v : AV} {df : AV} {es es2 : List (List AV)} (h : BPost σ fid v df es s) (k : ∀ v', BAt s fid v' df es → BPost s fid v' df es2 u) : BPost σ fid v df es2 u := by
 obtain ⟨v', h1, h2, h3, h4⟩ := h
 obtain ⟨v2, k1, k2, k3, k4⟩ := k v' h1
 refine ⟨v2, k1, Nat.le_trans h2 k2, fun j hj a b => ?_, fun j hj => ?_⟩
 · rw [k3 j (by omega) a (fun hm => (h4 j hm).elim b (fun q => by omega)), h3 j hj a b]
 · exact (k4 j hj).elim (h4 j) (fun q => .inr (by omega))
end Go.AL
namespace Go.Proofs.Ytjjbjibbjbbeaaa
open Go.AL
end Go.Proofs.Ytjjbjibbjbbeaaa
/- Levels found, operators, globals. -/
set_option linter.unusedVariables false
set_option linter.unusedSimpArgs false
namespace Go.AL
def nameS (n : Int) : ByteArray :=
 if n = 1 then ⟨#[43]⟩ else if n = 2 then ⟨#[45]⟩ else if n = 3 then ⟨#[42]⟩ else if n = 4 then ⟨#[47]⟩ else if n = 5 then ⟨#[37]⟩ else if n = 6 then ⟨#[61, 61]⟩ else if n = 7 then ⟨#[47, 61]⟩ else
 if n = 8 then ⟨#[60]⟩ else if n = 9 then ⟨#[60, 61]⟩ else if n = 10 then ⟨#[62]⟩ else if n = 11 then ⟨#[62, 61]⟩ else ⟨#[]⟩
/-- An operator's number, looked for from i on. -/
noncomputable def opFrom (s : ByteArray) : Nat → Nat → Int
 | 0, i => 0
 | f + 1, i => @ite _ (nameS i = s) (Classical.propDecidable _) (i : Int) (opFrom s f (i + 1))
noncomputable def opS (s : ByteArray) : Int := if s.size = 0 then 0 else opFrom s 11 1
end Go.AL
namespace Go.Proofs.Ytjjbjibbjbbeaaa
open Go.AL
theorem opNameX (n : Int) (σ : Store) : ACalls Try.prog 110 [.int .i64 n] σ fun r σ' => r = .str (nameS n) ∧ σ' = σ := by
 refine in110 (by simp) ?_
 unfold c110
 refine raw ?_
 repeat' (first | (with_reducible refine unr ?_; try simp only [YY, ↓reduceIte, Za, Zb, Zc, reduceCtorEq, Zd, Ze, Zf, Zg, Zh, Zi, Zj, str_nil, *]) | (with_reducible first | refine WW (by decide) ?_ | refine ok_idx (by first | assumption | omega) (fun b hb => raw ?_) | refine ok_iad (by first | assumption | omega) (fun x hx hxm => raw ?_) | refine And.intro (by omega) (raw ?_) | (refine guardW_b (fun h => raw ?_) (fun h => raw ?_) <;> try simp only [Ty] at h) | (refine ePick_b (fun h => raw ?_) (fun h => raw ?_) <;> try simp only [Ty] at h) | (refine condW_b (fun h => raw ?_) (fun h => raw ?_) <;> try simp only [Ty] at h)))
 all_goals simp only [nameS, AV.str.injEq]
 all_goals (try subst n)
 all_goals simp [*]
theorem opX (s : ByteArray) (σ : Store) : ACalls Try.prog 83 [.str s] σ fun r σ' => r = .int .i64 (opS s) ∧ σ' = σ := by
 refine in83 (by simp) ?_
 unfold c83
 refine raw ?_
 repeat' (first | (with_reducible refine unr ?_; try simp only [YY, ↓reduceIte, Za, Zb, Zc, reduceCtorEq, Zd, Ze, Zf, Zg, Zh, Zi, Zj, str_nil, *]) | (with_reducible first | refine WW (by decide) ?_ | refine ok_idx (by first | assumption | omega) (fun b hb => raw ?_) | refine ok_iad (by first | assumption | omega) (fun x hx hxm => raw ?_) | refine And.intro (by omega) (raw ?_) | (refine guardW_b (fun h => raw ?_) (fun h => raw ?_) <;> try simp only [Ty] at h) | (refine ePick_b (fun h => raw ?_) (fun h => raw ?_) <;> try simp only [Ty] at h) | (refine condW_b (fun h => raw ?_) (fun h => raw ?_) <;> try simp only [Ty] at h)))
 · simp [opS, *]
 have hs := h
 refine AWP_while [0, 3] (fun i : Nat => 12 - i) (fun i => [.str s, .int .i64 i]) (fun i t => t = σ ∧ i ≤ 12 ∧ 1 ≤ i ∧ opFrom s (12 - i) i = opS s) 1 ⟨rfl, by simp, by simp, by unfold opS; rw [if_neg hs]⟩ ?_ ?_
 · refine raw ?_
   repeat (first | (with_reducible refine unr ?_; try simp only [YY, ↓reduceIte, Za, Zb, Zc, reduceCtorEq, Zd, Ze, Zf, Zg, Zh, Zi, Zj]) | (with_reducible refine WW (by decide) ?_))
   rfl
 rintro i t ⟨rfl, hi, hi1, ho⟩
 have hw := wrap_succ (i := i) (by omega)
 by_cases h11 : i ≤ 11
 · have h11' : (i : Int) ≤ 11 := by omega
   rw [show 12 - i = (12 - (i + 1)) + 1 by omega, opFrom] at ho
   by_cases hn : nameS i = s
   · rw [if_pos hn] at ho
     refine raw ?_
     repeat (first | (with_reducible refine unr ?_; try simp only [YY, ↓reduceIte, Za, Zb, Zc, reduceCtorEq, Zd, Ze, Zf, Zg, Zh, Zi, Zj, h11']) | (with_reducible refine WW (by decide) ?_))
     refine (opNameX _ _).mono ?_
     rintro _ _ ⟨rfl, rfl⟩
     refine raw ?_
     repeat (first | (with_reducible refine unr ?_; try simp only [YY, ↓reduceIte, Za, Zb, Zc, reduceCtorEq, Zd, Ze, Zf, Zg, Zh, Zi, Zj, hn]) | (with_reducible refine WW (by decide) ?_))
     rw [ho]
   · rw [if_neg hn] at ho
     refine raw ?_
     repeat (first | (with_reducible refine unr ?_; try simp only [YY, ↓reduceIte, Za, Zb, Zc, reduceCtorEq, Zd, Ze, Zf, Zg, Zh, Zi, Zj, h11']) | (with_reducible refine WW (by decide) ?_))
     refine (opNameX _ _).mono ?_
     rintro _ _ ⟨rfl, rfl⟩
     refine raw ?_
     repeat (first | (with_reducible refine unr ?_; try simp only [YY, ↓reduceIte, Za, Zb, Zc, reduceCtorEq, Zd, Ze, Zf, Zg, Zh, Zi, Zj, hn, hw]) | (with_reducible refine WW (by decide) ?_))
     exact ⟨i + 1, rfl, ⟨by omega, by omega, ho⟩, by omega⟩
 · have h11' : ¬ (i : Int) ≤ 11 := by omega
   rw [show 12 - i = 0 by omega, opFrom] at ho
   refine raw ?_
   repeat (first | (with_reducible refine unr ?_; try simp only [YY, ↓reduceIte, Za, Zb, Zc, reduceCtorEq, Zd, Ze, Zf, Zg, Zh, Zi, Zj, h11']) | (with_reducible refine WW (by decide) ?_))
   rw [ho]
end Go.Proofs.Ytjjbjibbjbbeaaa
/- What makes a node of an expression. -/
set_option linter.unusedVariables false
set_option linter.unusedSimpArgs false
namespace Go.AL
structure LvOK (lv : Lv) (n : Nat) : Prop where
 len : lv.length + n ≤ 10000000
 bd : ∀ p, p ∈ lv → -1000000000 ≤ p.2 ∧ p.2 ≤ 1000000000
theorem nums_mem (l : List ByteArray) (fr st : Int) (hst : st = 1 ∨ st = -1) : ∀ i p, p ∈ nums i fr st l → fr - i - l.length ≤ p.2 ∧ p.2 ≤ fr + i + l.length := by
 induction l with
 | nil => intro i p hp; simp [nums] at hp
 | cons s r ih =>
  intro i p hp
  rw [nums] at hp
  rw [List.length_cons]
  rcases List.mem_cons.1 hp with rfl | hp
  · rcases hst with rfl | rfl <;> simp only <;> omega
  · have := ih (i + 1) p hp; omega
theorem LvOK.with {lv : Lv} {n m : Nat} (h : LvOK lv n) (l : List ByteArray) (fr st : Int) (hst : st = 1 ∨ st = -1) (hf : -900000000 ≤ fr ∧ fr ≤ 900000000) (hl : l.length + m ≤ n) : LvOK (withS lv l fr st) m := by
 have hlen := h.len
 refine ⟨by rw [withS_len]; omega, fun p hp => ?_⟩
 rw [withS] at hp
 rcases List.mem_append.1 hp with hp | hp
 · exact h.bd p hp
 · have := nums_mem l fr st hst 0 p hp; omega
theorem LvOK.mono {lv : Lv} {n m : Nat} (h : LvOK lv n) (hm : m ≤ n) : LvOK lv m := ⟨by have := h.len; omega, h.bd⟩
section
variable (g : Gl) (O : ByteArray → Int)
end
end Go.AL
namespace Go.Proofs.Ytjjbjibbjbbeaaa
open Go.AL
end Go.Proofs.Ytjjbjibbjbbeaaa
/- What makes a node of an expression: later. -/
set_option linter.unusedVariables false
set_option linter.unusedSimpArgs false
namespace Go.Proofs.Ytjjbjibbjbbeaaa
open Go.AL
end Go.Proofs.Ytjjbjibbjbbeaaa
/- Codes of values, as plain functions: lengths, parts, jumps that are landed. -/
set_option linter.unusedVariables false
set_option linter.unusedSimpArgs false
namespace Go.AL
section
variable (g : Gl) (O : ByteArray → Int)
end
end Go.AL
/- How long codes are; ends, jumps put and landed. -/
set_option linter.unusedVariables false
set_option linter.unusedSimpArgs false
namespace Go.AL
section
variable (g : Gl) (O : ByteArray → Int)
end
/-- Jumps' places. -/
def placesC (ps : List Nat) : List (List AV) := ps.map (fun p : Nat => [AV.int .i64 (p : Int)])
end Go.AL
namespace Go.Proofs.Ytjjbjibbjbbeaaa
open Go.AL
end Go.Proofs.Ytjjbjibbjbbeaaa
/- Jumps are landed. -/
set_option linter.unusedVariables false
set_option linter.unusedSimpArgs false
namespace Go.AL
end Go.AL
namespace Go.Proofs.Ytjjbjibbjbbeaaa
open Go.AL
end Go.Proofs.Ytjjbjibbjbbeaaa
/- Cases. -/
set_option linter.unusedVariables false
set_option linter.unusedSimpArgs false
namespace Go.AL
theorem MB.own {σ s : Store} {N fid : Nat} {v v' df : AV} {es : List (List AV)} (h : MB σ s N fid v v' df es) (hne : es ≠ []) : ∃ id ver es', v' = .own id ver 4 0 es.length ∧ s.get id = some (.cells 139 ver 4 (es ++ es')) := h.la.sl.own hne
theorem SubE.rf {v w : AV} : ∀ a : List (List AV), SubE v w a a
 | [] => .nil
 | x :: r => .cons (SubL.rf x) (SubE.rf r)
theorem SubE.app {v w : AV} {a b c d : List (List AV)} (h : SubE v w a b) (k : SubE v w c d) : SubE v w (a ++ c) (b ++ d) := by
 induction h with
 | nil => exact k
 | cons h t ih => exact .cons h ih
/-- The state amid a case or a choice: the jumps that are told so far, and the places of those that lead behind all. -/
structure CS (σ s : Store) (N fid : Nat) (v v' df : AV) (es1 : List (List AV)) (op K : Int) (U W : AV) (js : List (Int × Int)) (ps : List Nat) (body : List Ins) : Prop where
 m : MB σ s N fid v v' df (es1 ++ [[.int .i64 op, .int .i64 K, .int .i64 0, U]] ++ body.map rawC)
 u : BesB s N v' U 151 2 (js.map jC)
 w : BesB s N v' W 3 1 (placesC ps)
 d : ∀ j, j ∈ slIds U → j ∉ slIds W
 u0 : js = [] → U = .nils
section
variable {σ s s2 : Store} {N fid : Nat} {v v' df U W : AV} {es1 : List (List AV)} {op K : Int} {js : List (Int × Int)} {ps : List Nat} {body : List Ins}
theorem CS.push (h : CS σ s N fid v v' df es1 op K U W js ps body) (o : AObj) : CS σ (s.push o) N fid v v' df es1 op K U W js ps body := ⟨h.m.push o, h.u.push o, h.w.push o, h.d, h.u0⟩
theorem CS.call (h : CS σ s N fid v v' df es1 op K U W js ps body) (more : List Ins) (k : BPost s fid v' df (es1 ++ [[.int .i64 op, .int .i64 K, .int .i64 0, U]] ++ body.map rawC ++ more.map rawC) s2) :
 ∃ v2, CS σ s2 N fid v v2 df es1 op K U W js ps (body ++ more) ∧ (∀ j, j < s.next → j ≠ fid → j ∉ slIds v' → s2.get j = s.get j) ∧ s.next ≤ s2.next ∧ ∀ j, j ∈ slIds v2 → j ∈ slIds v' ∨ s.next ≤ j := by
 obtain ⟨v2, M2, hk, hf, hn⟩ := h.m.call k
 have hN : N > fid := by have := h.m.fid; have := h.m.le; omega
 refine ⟨v2, ⟨by rw [List.map_append, ← List.append_assoc]; exact M2, h.u.call hN hk hf, h.w.call hN hk hf, h.d, h.u0⟩, hk, hn, hf⟩
theorem CS.len (h : CS σ s N fid v v' df es1 op K U W js ps body) : (es1 ++ [[.int .i64 op, .int .i64 K, .int .i64 0, U]] ++ body.map rawC).length = es1.length + 1 + body.length := by simp; omega
end
end Go.AL
namespace Go.Proofs.Ytjjbjibbjbbeaaa
open Go.AL
end Go.Proofs.Ytjjbjibbjbbeaaa
/- Choices. -/
set_option linter.unusedVariables false
set_option linter.unusedSimpArgs false
namespace Go.AL
theorem CS.leave {σ s s2 : Store} {N fid : Nat} {v v' v2 df U W r : AV} {es1 : List (List AV)} {op K : Int} {js : List (Int × Int)} {ps : List Nat} {body : List Ins} (C : CS σ s N fid v v' df es1 op K U W js ps body) (last : Bool)
 (M : MB σ s2 N fid v v2 df (es1 ++ [[.int .i64 op, .int .i64 K, .int .i64 0, U]] ++ body.map rawC ++ (if last then [] else [rawC (ik 15 0)]))) (B : BesB s2 N v2 r 3 1 (placesC (ps ++ if last then [] else [(es1 ++ [[.int .i64 op, .int .i64 K, .int .i64 0, U]] ++ body.map rawC).length])))
 (k5 : ∀ j, j < s.next → j ≠ fid → j ∉ slIds v' → j ∉ slIds W → s2.get j = s.get j) (fv5 : ∀ j, j ∈ slIds v2 → j ∈ slIds v' ∨ s.next ≤ j) (fw5 : ∀ j, j ∈ slIds r → j ∈ slIds W ∨ s.next ≤ j) :
 CS σ s2 N fid v v2 df es1 op K U r js (ps ++ if last then [] else [es1.length + 1 + body.length]) (body ++ if last then [] else [ik 15 0]) := by
 have hf : N > fid := by have := C.m.fid; have := C.m.le; omega
 refine ⟨?_, ⟨C.u.sl.keep fun j hj => ?_, C.u.new, fun j hj hm => ?_⟩, ?_, fun j hj hm => ?_, C.u0⟩
 · have e : (body ++ (if last then [] else [ik 15 0])).map rawC = body.map rawC ++ (if last then [] else [rawC (ik 15 0)]) := by cases last <;> simp
   rw [e, ← List.append_assoc]
   exact M
 · exact k5 j (C.u.sl.lt hj) (fun e => by have := C.u.new j hj; omega) (C.u.dj j hj) (C.d j hj)
 · exact (fv5 j hm).elim (C.u.dj j hj) (fun q => by have := C.u.sl.lt hj; omega)
 · rw [C.len] at B; exact B
 · exact (fw5 j hm).elim (C.d j hj) (fun q => by have := C.u.sl.lt hj; omega)
end Go.AL
namespace Go.Proofs.Ytjjbjibbjbbeaaa
open Go.AL
end Go.Proofs.Ytjjbjibbjbbeaaa
/- Values' codes. -/
set_option linter.unusedVariables false
set_option linter.unusedSimpArgs false
namespace Go.AL
section
variable (g : Gl) (O : ByteArray → Int)
end
end Go.AL
namespace Go.Proofs.Ytjjbjibbjbbeaaa
open Go.AL
end Go.Proofs.Ytjjbjibbjbbeaaa
/- Codes of supercombinators, constructors, operators. -/
set_option linter.unusedVariables false
set_option linter.unusedSimpArgs false
namespace Go.AL
structure Cd where
 nm : ByteArray
 ar : Int
 con : Bool
 ops : List Ins
def codeC (c : Cd) : List AV := [.str c.nm, .int .i64 c.ar, .bool c.con, .list (c.ops.map insC)]
def codeR (c : Cd) : List AV := [.str c.nm, .int .i64 c.ar, .bool c.con, .list (c.ops.map rawC)]
noncomputable def superS (g : Gl) (p : Sup) : Cd := ⟨p.nm, p.ps.length, false, valS g opS (withS [] p.ps ((p.ps.length : Int) - 1) (-1)) p.ps.length true 0 p.bd⟩
def conS (k : Nat) (c : ByteArray × Nat) : Cd := ⟨c.1, c.2, true, ⟨11, c.2, k, []⟩ :: endS 0⟩
def opS' (op : Int) : Cd := ⟨nameS op, 2, false, [ik 1 0, ik 9 0, ik 1 2, ik 9 0, ⟨16, 0, op, []⟩] ++ endS 2⟩
theorem rawC_cln {n : Nat} (i : Ins) : ∀ c, c ∈ rawC i → Cln n c := by
 intro c hc
 simp only [rawC, List.mem_cons, List.not_mem_nil, or_false] at hc
 rcases hc with rfl | rfl | rfl | rfl
 · exact .int _ _
 · exact .int _ _
 · exact .int _ _
 · split
   · exact .nils
   · refine .list' fun e he c hc => ?_
     obtain ⟨p, _, rfl⟩ := List.mem_map.1 he
     simp only [jC, List.mem_cons, List.not_mem_nil, or_false] at hc
     rcases hc with rfl | rfl <;> exact .int _ _
theorem codeR_cln {n : Nat} (c : Cd) : Cln n (.agg (codeR c)) := by
 refine .agg' fun x hx => ?_
 simp only [codeR, List.mem_cons, List.not_mem_nil, or_false] at hx
 rcases hx with rfl | rfl | rfl | rfl
 · exact .str _
 · exact .int _ _
 · exact .bool _
 · refine .list' fun e he c hc => ?_
   obtain ⟨p, _, rfl⟩ := List.mem_map.1 he
   exact rawC_cln p c hc
/-- What a builder of one's own leaves. -/
theorem FP.code {σ s : Store} {v : AV} {c : Cd} {p : AV → Prop} (hs : SliceAt s v 139 4 (c.ops.map rawC)) (k : Kp σ s) (hf : ∀ j, j ∈ slIds v → σ.next ≤ j) (hp : p (.agg (codeR c))) : FP σ p (.agg [.str c.nm, .int .i64 c.ar, .bool c.con, v]) s :=
 FP.mk (.agg (codeR c)) hs (.agg (.cons (.refl _) (.cons (.refl _) (.cons (.refl _) (.cons .here .nil))))) hp (codeR_cln c) k hf
end Go.AL
namespace Go.Proofs.Ytjjbjibbjbbeaaa
open Go.AL
end Go.Proofs.Ytjjbjibbjbbeaaa
/- Which expressions may be: how many parts they have. -/
set_option linter.unusedVariables false
set_option linter.unusedSimpArgs false
namespace Go.AL
/-- What may be, where some names are in scope or none. -/
inductive Cr.Rt : Bool → Cr → Prop
 | mk {sc inner : Bool} {k : Int} {nm : ByteArray} {n ar : Int} {ps : List ByteArray} {gs : List Cr} {al : List (AltH × Cr)} {bs : List (ByteArray × Cr)} {pk : List (Int × Cr)} (hk : 1 ≤ k ∧ k ≤ 11) (h0 : k = 9 → 1 ≤ n ∧ n ≤ 11) (h2 : k = 5 ∨ k = 9 → gs.length = 2) (h1 : k = 6 ∨ k = 7 ∨ k = 8 ∨ k = 11 → gs.length = 1) (hv : k = 1 → sc = true) (hb : k = 7 → bs ≠ []) (hn : k ≠ 6 → k ≠ 7 → inner = sc)
  (g1 : ∀ x, x ∈ gs → Cr.Rt inner x) (g2 : ∀ x, x ∈ al → Cr.Rt (sc || !x.1.ps.isEmpty) x.2) (g5 : ∀ x, x ∈ al → x.1.k = 1 ∨ x.1.ps = []) (g3 : ∀ x, x ∈ bs → Cr.Rt inner x.2) (g4 : ∀ x, x ∈ pk → Cr.Rt sc x.2) : Cr.Rt sc (.mk k nm n ar ps gs al bs pk)
theorem Cr.Rt.tw {sc : Bool} {x : Cr} (h : x.Rt sc) : x.Tw := by
 induction h with
 | mk hk h0 h2 h1 hv hb hn g1 g2 g5 g3 g4 i1 i2 i3 i4 => exact .mk h0 h2 h1 i1 i2 i3 i4
theorem Cr.Rt.nil {sc : Bool} {k : Int} {nm : ByteArray} {n ar : Int} {ps : List ByteArray} {gs : List Cr} {al : List (AltH × Cr)} {bs : List (ByteArray × Cr)} {pk : List (Int × Cr)} (hk : 1 ≤ k ∧ k ≤ 11) (hv : k = 1 → sc = true) (h9 : k ≠ 9) (h5 : k ≠ 5) (h6 : k ≠ 6) (h7 : k ≠ 7) (h8 : k ≠ 8) (h11 : k ≠ 11)
 (h : (ps.length : Int) = 0 ∧ (gs.length : Int) = 0 ∧ (al.length : Int) = 0 ∧ (bs.length : Int) = 0 ∧ (pk.length : Int) = 0) : (Cr.mk k nm n ar ps gs al bs pk).Rt sc := by
 obtain ⟨_, h1, h2, h3, h4⟩ := h
 have h1 : gs = [] := List.eq_nil_of_length_eq_zero (by omega)
 have h2 : al = [] := List.eq_nil_of_length_eq_zero (by omega)
 have h3 : bs = [] := List.eq_nil_of_length_eq_zero (by omega)
 have h4 : pk = [] := List.eq_nil_of_length_eq_zero (by omega)
 subst h1 h2 h3 h4
 exact .mk hk (fun h => absurd h h9) (fun h => by omega) (fun h => by omega) hv (fun h => absurd h h7) (fun _ _ => rfl) (by simp) (by simp) (by simp) (by simp) (by simp)
/-- Whether names are in scope. -/
def inS (l : List ByteArray) : Bool := !l.isEmpty
theorem inS_mem {l : List ByteArray} {s : ByteArray} (h : s ∈ l) : inS l = true := by cases l with
 | nil => simp at h
 | cons a r => rfl
theorem inS_app (l m : List ByteArray) : inS (l ++ m) = (inS l || !m.isEmpty) := by cases l <;> simp [inS]
end Go.AL
namespace Go.Proofs.Ytjjbjibbjbbeaaa
open Go.AL
/-- The numbers of parts. -/
structure RtP (k n : Int) (gs : List Cr) (bs : List (ByteArray × Cr)) (sc inner : Bool) : Prop where
 hk : 1 ≤ k ∧ k ≤ 11
 h0 : k = 9 → 1 ≤ n ∧ n ≤ 11
 h2 : k = 5 ∨ k = 9 → gs.length = 2
 h1 : k = 6 ∨ k = 7 ∨ k = 8 ∨ k = 11 → gs.length = 1
 hv : k = 1 → sc = true
 hb : k = 7 → bs ≠ []
 hn : k ≠ 6 → k ≠ 7 → inner = sc
end Go.Proofs.Ytjjbjibbjbbeaaa
/- Which supercombinators are flat: of two that are, no two names are the same. -/
set_option linter.unusedVariables false
set_option linter.unusedSimpArgs false
namespace Go.AL
/-- What is flat; now: it is asked at once. -/
inductive Cr.Fl : Bool → Cr → Prop
 | mk {now : Bool} {k : Int} {nm : ByteArray} {n ar : Int} {ps : List ByteArray} {gs : List Cr} {al : List (AltH × Cr)} {bs : List (ByteArray × Cr)} {pk : List (Int × Cr)} (h6 : k ≠ 6) (hl : now = false → k ≠ 8 ∧ k ≠ 10 ∧ k ≠ 11)
  (g1 : ∀ x, x ∈ gs → Cr.Fl (now && !decide (k = 5)) x) (g2 : ∀ x, x ∈ al → Cr.Fl now x.2) (g3 : ∀ x, x ∈ bs → Cr.Fl false x.2) (g4 : ∀ x, x ∈ pk → Cr.Fl now x.2) : Cr.Fl now (.mk k nm n ar ps gs al bs pk)
end Go.AL
namespace Go.Proofs.Ytjjbjibbjbbeaaa
open Go.AL
end Go.Proofs.Ytjjbjibbjbbeaaa
/- Flat. -/
set_option linter.unusedVariables false
set_option linter.unusedSimpArgs false
namespace Go.AL
/-- What flat supercombinators are. -/
def FlatQ (x : Sup) : Prop := x.bd.Rt (inS x.ps) ∧ x.bd.Fl true
def FlatP (l : List Sup) : Prop := (∀ x, x ∈ l → FlatQ x) ∧ (l.map (·.nm)).Nodup
end Go.AL
namespace Go.Proofs.Ytjjbjibbjbbeaaa
open Go.AL
end Go.Proofs.Ytjjbjibbjbbeaaa
/- Numbers' texts, as plain law: which texts are a number's; local names. -/
set_option linter.unusedVariables false
set_option linter.unusedSimpArgs false
namespace Go.AL
/-- A fact that is not used by itself. -/
structure Hid (p : Prop) : Prop where
 out : p
/-- The bytes of a text. -/
def bl (s : ByteArray) : List UInt8 := s.data.toList
theorem bl_len (s : ByteArray) : (bl s).length = s.size := Array.length_toList
theorem bl_inj {s t : ByteArray} (h : bl s = bl t) : s = t := ByteArray.ext (Array.ext' h)
theorem bl_eq {s t : ByteArray} : s = t ↔ bl s = bl t := ⟨fun h => by rw [h], bl_inj⟩
theorem bl_app (s t : ByteArray) : bl (s ++ t) = bl s ++ bl t := by simp [bl]
theorem bl_ext (s : ByteArray) (a b : Nat) : bl (s.extract a b) = ((bl s).take b).drop a := by
 simp [bl, ByteArray.data_extract, List.drop_take, List.extract_eq_take_drop]
def digitB (b : UInt8) : Prop := 48 ≤ b.toNat ∧ b.toNat ≤ 57
instance (b : UInt8) : Decidable (digitB b) := by unfold digitB; exact inferInstance
/-- The number of some digits. -/
def valN (l : List UInt8) : Nat := l.foldl (fun a b => a * 10 + (b.toNat - 48)) 0
theorem valN_snoc (l : List UInt8) (b : UInt8) : valN (l ++ [b]) = valN l * 10 + (b.toNat - 48) := by simp [valN]
theorem valN_lt : ∀ (n : Nat) (l : List UInt8), l.length = n → (∀ b, b ∈ l → digitB b) → valN l < 10 ^ n
 | 0, l, hl, h => by
  have : l = [] := List.eq_nil_of_length_eq_zero hl
  subst this; simp [valN]
 | n + 1, l, hl, h => by
  have hne : l ≠ [] := by intro e; subst e; simp at hl
  obtain ⟨t, b, rfl⟩ : ∃ t b, l = t ++ [b] := ⟨l.dropLast, l.getLast hne, (List.dropLast_concat_getLast hne).symm⟩
  have := valN_lt n t (by simpa using hl) (fun b hb => h b (by simp [hb]))
  have hb := h b (by simp)
  unfold digitB at hb
  rw [valN_snoc, Nat.pow_succ]
  omega
/-- A number's digits. -/
def dg (n : Nat) : List UInt8 := if h : n < 10 then [UInt8.ofNat (48 + n)] else dg (n / 10) ++ [UInt8.ofNat (48 + n % 10)]
termination_by n
decreasing_by omega
theorem dg_lt {n : Nat} (h : n < 10) : dg n = [UInt8.ofNat (48 + n)] := by rw [dg, dif_pos h]
theorem dg_ge {n : Nat} (h : ¬ n < 10) : dg n = dg (n / 10) ++ [UInt8.ofNat (48 + n % 10)] := by rw [dg, dif_neg h]
theorem ofNat_toNat (b : UInt8) : UInt8.ofNat b.toNat = b := by simp
theorem toNat_ofNat {n : Nat} (h : n < 256) : (UInt8.ofNat n).toNat = n := by simp; omega
theorem dg_ne (n : Nat) : dg n ≠ [] := by
 by_cases h : n < 10
 · rw [dg_lt h]; simp
 · rw [dg_ge h]; simp
theorem dg_head : ∀ (n : Nat), 1 ≤ n → ∀ b, (dg n)[0]? = some b → b ≠ 48
 | n, hn, b, hb => by
  by_cases h : n < 10
  · rw [dg_lt h] at hb
    have hb : UInt8.ofNat (48 + n) = b := by simpa using hb
    subst hb
    intro e
    have := congrArg UInt8.toNat e
    rw [toNat_ofNat (by omega)] at this
    have h48 : (48 : UInt8).toNat = 48 := rfl
    omega
  · rw [dg_ge h, List.getElem?_append_left (List.length_pos_iff.2 (dg_ne _))] at hb
    exact dg_head (n / 10) (by omega) b hb
termination_by n => n
decreasing_by omega
theorem valN_pos {l : List UInt8} (h : ∀ b, b ∈ l → digitB b) {b : UInt8} (hb : l[0]? = some b) (h0 : b ≠ 48) : 1 ≤ valN l := by
 have key : ∀ (n : Nat) (l : List UInt8), l.length = n → (∀ b, b ∈ l → digitB b) → l[0]? = some b → 1 ≤ valN l := by
  intro n
  induction n with
  | zero => intro l hl _ hb; have : l = [] := List.eq_nil_of_length_eq_zero hl; subst this; simp at hb
  | succ n ih =>
   intro l hl hd hb
   have hne : l ≠ [] := by intro e; subst e; simp at hl
   obtain ⟨t, c, rfl⟩ : ∃ t c, l = t ++ [c] := ⟨l.dropLast, l.getLast hne, (List.dropLast_concat_getLast hne).symm⟩
   rw [valN_snoc]
   cases t with
   | nil =>
    simp at hb
    subst hb
    have := hd c (by simp)
    unfold digitB at this
    have : c.toNat ≠ 48 := fun e => h0 (by rw [← ofNat_toNat c, e]; rfl)
    omega
   | cons x t =>
    have := ih (x :: t) (by simpa using hl) (fun b hb => hd b (List.mem_append_left _ hb)) (by simpa using hb)
    omega
 exact key l.length l rfl h hb
theorem dg_val : ∀ (n : Nat) (l : List UInt8), l.length = n → l ≠ [] → (∀ b, b ∈ l → digitB b) → (l[0]? = some 48 → l.length = 1) → dg (valN l) = l
 | 0, l, hl, hne, _, _ => absurd (List.eq_nil_of_length_eq_zero hl) hne
 | n + 1, l, hl, hne, h, h0 => by
  obtain ⟨t, b, rfl⟩ : ∃ t b, l = t ++ [b] := ⟨l.dropLast, l.getLast hne, (List.dropLast_concat_getLast hne).symm⟩
  have hb := h b (by simp)
  unfold digitB at hb
  rw [valN_snoc]
  by_cases ht : t = []
  · subst ht
    have e : valN [] * 10 + (b.toNat - 48) = b.toNat - 48 := by simp [valN]
    rw [e, dg_lt (by omega), show 48 + (b.toNat - 48) = b.toNat by omega, ofNat_toNat]; rfl
  · obtain ⟨c, hc⟩ : ∃ c, t[0]? = some c := ⟨_, List.getElem?_eq_getElem (List.length_pos_iff.2 ht)⟩
    have hl2 := List.length_pos_iff.2 ht
    have hc0 : c ≠ 48 := fun e => by
     have := h0 (by rw [List.getElem?_append_left hl2, hc, e])
     rw [List.length_append, List.length_singleton] at this; omega
    have hd : ∀ b, b ∈ t → digitB b := fun b hb => h b (by simp [hb])
    have := valN_pos hd hc hc0
    rw [dg_ge (by omega), show (valN t * 10 + (b.toNat - 48)) / 10 = valN t by omega, show (valN t * 10 + (b.toNat - 48)) % 10 = b.toNat - 48 by omega,
     dg_val n t (by simpa using hl) ht hd (fun e => absurd (by rw [hc] at e; simpa using e) hc0), show 48 + (b.toNat - 48) = b.toNat by omega, ofNat_toNat]
/-- Which digits are a number's: those without a zero ahead. -/
theorem dg_iff {l : List UInt8} (hne : l ≠ []) (h : ∀ b, b ∈ l → digitB b) : dg (valN l) = l ↔ (l[0]? = some 48 → l.length = 1) := by
 refine ⟨fun e h0 => ?_, fun h0 => dg_val l.length l rfl hne h h0⟩
 by_cases hv : valN l < 10
 · rw [← e, dg_lt hv]; rfl
 · rw [← e] at h0
   exact absurd rfl (dg_head _ (by omega) _ h0)
/-- Which texts are a number's: without its sign. -/
def NumD (below : Bool) (l : List UInt8) : Prop := l ≠ [] ∧ l.length ≤ 19 ∧ (∀ b, b ∈ l → digitB b) ∧ (l[0]? = some 48 → l.length = 1 ∧ below = false) ∧ valN l ≤ 9223372036854775808 ∧ (valN l = 9223372036854775808 → below = true)
def NumT (l : List UInt8) : Prop := if l[0]? = some 45 then NumD true (l.drop 1) else NumD false l
/-- Local names. -/
def LocN (s : ByteArray) : Prop := (bl s)[0]? = some 35 ∧ (bl s)[1]? ≠ some 45 ∧ NumT ((bl s).drop 1)
def Locs (l : List ByteArray) : Prop := (∀ s, s ∈ l → LocN s) ∧ l.Nodup
theorem Locs.nil : Locs [] := ⟨by simp, List.nodup_nil⟩
theorem Locs.snoc {l : List ByteArray} {s : ByteArray} : Locs (l ++ [s]) ↔ Locs l ∧ LocN s ∧ s ∉ l := by
 unfold Locs
 rw [List.nodup_append]
 constructor
 · rintro ⟨h1, h2, _, h3⟩
   exact ⟨⟨fun x hx => h1 x (by simp [hx]), h2⟩, h1 s (by simp), fun hm => h3 s hm s (by simp) rfl⟩
 · rintro ⟨⟨h1, h2⟩, h3, h4⟩
   refine ⟨fun x hx => ?_, h2, by simp, fun a ha b hb e => ?_⟩
   · rcases List.mem_append.1 hx with h | h
     · exact h1 x h
     · simp at h; subst h; exact h3
   · simp at hb; subst hb; subst e; exact h4 ha
/-- An exact answer. -/
def RE (p : Prop) (r : AV) : Prop := ∃ b : Bool, r = .bool b ∧ (b = true ↔ p)
@[congr] theorem RE_congr {w : Prop} (hw : Visit = w) {p : Prop} {r r' : AV} (h : r = r') : RE p r = RE p r' := by rw [h]
theorem RE.f {p : Prop} (h : ¬ p) : RE p (.bool false) := ⟨false, rfl, by simp [h]⟩
theorem RE.t {p : Prop} (h : p) : RE p (.bool true) := ⟨true, rfl, by simp [h]⟩
theorem RE.mk {p : Prop} {b : Bool} (h : b = true ↔ p) : RE p (.bool b) := ⟨b, rfl, h⟩
theorem iff_f {b : Bool} {p : Prop} (h : b = true ↔ p) (e : b = false) : ¬ p := fun hp => by rw [h.2 hp] at e; cases e
end Go.AL
/- Which expressions may be, exactly: as plain law. -/
set_option linter.unusedVariables false
set_option linter.unusedSimpArgs false
namespace Go.AL
/-- The parts' numbers. -/
def Shp (p g a b q p' g' a' b' q' : Nat) : Prop := p = p' ∧ g = g' ∧ a = a' ∧ b = b' ∧ q = q'
/-- What an expression is, its parts aside. -/
def HeadOK (gl ins : List ByteArray) (k : Int) (nm : ByteArray) (n ar : Int) (ps : List ByteArray) (g a : Nat) (bn : List ByteArray) (q : Nat) : Prop :=
 if k = 1 then nm ∈ ins ∧ n = 0 ∧ ar = 0 ∧ Shp ps.length g a bn.length q 0 0 0 0 0
 else if k = 2 then (nm ∈ gl ∨ 0 < opS nm) ∧ n = 0 ∧ ar = 0 ∧ Shp ps.length g a bn.length q 0 0 0 0 0
 else if k = 3 then nm.size = 0 ∧ ar = 0 ∧ Shp ps.length g a bn.length q 0 0 0 0 0
 else if k = 4 then nm.size ≠ 0 ∧ 0 ≤ n ∧ 0 ≤ ar ∧ Shp ps.length g a bn.length q 0 0 0 0 0
 else if k = 5 then nm.size = 0 ∧ n = 0 ∧ ar = 0 ∧ Shp ps.length g a bn.length q 0 2 0 0 0
 else if k = 6 then nm.size = 0 ∧ n = 0 ∧ ar = 0 ∧ Shp ps.length g a bn.length q ps.length 1 0 0 0 ∧ ps.length ≠ 0 ∧ Locs ps
 else if k = 7 then nm.size = 0 ∧ n = 0 ∧ ar = 0 ∧ Shp ps.length g a bn.length q 0 1 0 bn.length 0 ∧ bn.length ≠ 0 ∧ Locs bn
 else if k = 8 then nm.size = 0 ∧ n = 0 ∧ ar = 0 ∧ Shp ps.length g a bn.length q 0 1 a 0 0 ∧ a ≠ 0
 else if k = 9 then nm.size = 0 ∧ 1 ≤ n ∧ n ≤ 11 ∧ ar = 0 ∧ Shp ps.length g a bn.length q 0 2 0 0 0
 else if k = 10 then nm.size = 0 ∧ n = 0 ∧ ar = 0 ∧ Shp ps.length g a bn.length q 0 0 0 0 0
 else if k = 11 then nm.size = 0 ∧ n = 0 ∧ ar = 0 ∧ Shp ps.length g a bn.length q 0 1 0 0 q
 else False
/-- The names in scope inside. -/
def innerE (k : Int) (ins ps bn : List ByteArray) : List ByteArray := if k = 6 then ins ++ ps else if k = 7 then ins ++ bn else ins
/-- An alternative by itself; the last one. -/
def AltHead (a : AltH) (last : Prop) : Prop :=
 (a.k = 1 ∧ a.nm.size ≠ 0 ∧ 0 ≤ a.n ∧ Locs a.ps) ∨ (a.k = 2 ∧ a.nm.size = 0 ∧ a.ps.length = 0) ∨ (a.k = 3 ∧ a.nm.size = 0 ∧ a.n = 0 ∧ a.ps.length = 0 ∧ last)
/-- An alternative, and one ahead of it, that may not both be. -/
def Clash (b a : AltH) : Prop := (b.k ≠ a.k ∧ a.k ≠ 3) ∨ (b.k = a.k ∧ b.nm = a.nm ∧ (a.k = 1 ∨ b.n = a.n))
def AltsOK (l : List AltH) : Prop := ∀ i a, l[i]? = some a → AltHead a (i + 1 = l.length) ∧ ∀ b, b ∈ l.take i → ¬ Clash b a
/-- The same, as the document has it. -/
def RHead (a : AltH) : Prop := (a.k = 1 ∧ a.nm.size ≠ 0 ∧ 0 ≤ a.n ∧ Locs a.ps) ∨ (a.k ≠ 1 ∧ a.nm.size = 0 ∧ a.ps.length = 0 ∧ (a.k = 2 ∨ (a.k = 3 ∧ a.n = 0)))
def RClash (b a : AltH) : Prop := (b.k ≠ a.k ∧ a.k ≠ 3) ∨ (a.k = 1 ∧ b.nm = a.nm) ∨ (a.k = 2 ∧ b.n = a.n) ∨ b.k = 3
def RAlt (l : List AltH) (i : Nat) (a : AltH) : Prop := (∀ b, b ∈ l.take i → ¬ RClash b a) ∧ RHead a
theorem size0 {s t : ByteArray} (h : s.size = 0) (h' : t.size = 0) : s = t := by
 rw [← str_nil] at h h'; rw [h, h']
theorem alts_iff (l : List AltH) : AltsOK l ↔ ∀ i a, l[i]? = some a → RAlt l i a := by
 constructor
 · intro h i a hi
   obtain ⟨h1, h2⟩ := h i a hi
   refine ⟨fun b hb hc => h2 b hb ?_, ?_⟩
   · obtain ⟨j, hj⟩ := List.mem_iff_getElem?.1 hb
     have hjl : j < i := by
      have := (List.getElem?_eq_some_iff.1 hj).1
      rw [List.length_take] at this; omega
     have hjb : l[j]? = some b := by rw [List.getElem?_take_of_lt hjl] at hj; exact hj
     obtain ⟨h3, h4⟩ := h j b hjb
     have hil := (List.getElem?_eq_some_iff.1 hi).1
     have hb3 : b.k ≠ 3 := by
      rcases h3 with h3 | h3 | h3
      · omega
      · omega
      · have := h3.2.2.2.2; omega
     rcases hc with hc | hc | hc | hc
     · exact .inl hc
     · by_cases e : b.k = a.k
       · exact .inr ⟨e, hc.2, .inl hc.1⟩
       · exact .inl ⟨e, by omega⟩
     · by_cases e : b.k = a.k
       · refine .inr ⟨e, ?_, .inr hc.2⟩
         have hb0 : b.nm.size = 0 := by rcases h3 with h3 | h3 | h3 <;> first | (exfalso; omega) | exact h3.2.1
         have ha0 : a.nm.size = 0 := by rcases h1 with h3 | h3 | h3 <;> first | (exfalso; omega) | exact h3.2.1
         exact size0 hb0 ha0
       · exact .inl ⟨e, by omega⟩
     · exact absurd hc hb3
   · rcases h1 with h1 | h1 | h1
     · exact .inl h1
     · exact .inr ⟨by omega, h1.2.1, h1.2.2, .inl h1.1⟩
     · exact .inr ⟨by omega, h1.2.1, h1.2.2.2.1, .inr ⟨h1.1, h1.2.2.1⟩⟩
 · intro h i a hi
   obtain ⟨h1, h2⟩ := h i a hi
   have hil := (List.getElem?_eq_some_iff.1 hi).1
   refine ⟨?_, fun b hb hc => h1 b hb ?_⟩
   · rcases h2 with h2 | h2
     · exact .inl h2
     · rcases h2.2.2.2 with h3 | h3
       · exact .inr (.inl ⟨h3, h2.2.1, h2.2.2.1⟩)
       · refine .inr (.inr ⟨h3.1, h2.2.1, h3.2, h2.2.2.1, ?_⟩)
         rcases Nat.lt_or_ge (i + 1) l.length with hlt | hge
         · obtain ⟨c, hc⟩ : ∃ c, l[i + 1]? = some c := ⟨_, List.getElem?_eq_getElem hlt⟩
           refine absurd (.inr (.inr (.inr h3.1))) ((h (i + 1) c hc).1 a ?_)
           exact List.mem_of_getElem? (i := i) (by rw [List.getElem?_take_of_lt (by omega)]; exact hi)
         · omega
   · rcases hc with hc | ⟨e, hn, h3⟩
     · exact .inl hc
     · by_cases a1 : a.k = 1
       · exact .inr (.inl ⟨a1, hn⟩)
       · have h3 := h3.resolve_left a1
         by_cases a2 : a.k = 2
         · exact .inr (.inr (.inl ⟨a2, h3⟩))
         · rcases h2 with h2 | h2
           · exact absurd h2.1 a1
           · rcases h2.2.2.2 with h4 | h4
             · exact absurd h4 a2
             · exact .inr (.inr (.inr (by omega)))
/-- What may be. -/
inductive Cr.RtE (gl : List ByteArray) : List ByteArray → Cr → Prop
 | mk {ins : List ByteArray} {k : Int} {nm : ByteArray} {n ar : Int} {ps : List ByteArray} {gs : List Cr} {al : List (AltH × Cr)} {bs : List (ByteArray × Cr)} {pk : List (Int × Cr)} (hh : HeadOK gl ins k nm n ar ps gs.length al.length (bs.map (·.1)) pk.length)
  (g1 : ∀ x, x ∈ gs → Cr.RtE gl (innerE k ins ps (bs.map (·.1))) x) (ha : AltsOK (al.map (·.1))) (g2 : ∀ x, x ∈ al → Cr.RtE gl (ins ++ x.1.ps) x.2) (g3 : ∀ x, x ∈ bs → Cr.RtE gl (innerE k ins ps (bs.map (·.1))) x.2)
  (hp : (pk.map (·.1)).Nodup) (g4 : ∀ x, x ∈ pk → Cr.RtE gl ins x.2) : Cr.RtE gl ins (.mk k nm n ar ps gs al bs pk)
structure RtParts (gl ins : List ByteArray) (k : Int) (nm : ByteArray) (n ar : Int) (ps : List ByteArray) (gs : List Cr) (al : List (AltH × Cr)) (bs : List (ByteArray × Cr)) (pk : List (Int × Cr)) : Prop where
 hh : HeadOK gl ins k nm n ar ps gs.length al.length (bs.map (·.1)) pk.length
 g1 : ∀ x, x ∈ gs → Cr.RtE gl (innerE k ins ps (bs.map (·.1))) x
 ha : AltsOK (al.map (·.1))
 g2 : ∀ x, x ∈ al → Cr.RtE gl (ins ++ x.1.ps) x.2
 g3 : ∀ x, x ∈ bs → Cr.RtE gl (innerE k ins ps (bs.map (·.1))) x.2
 hp : (pk.map (·.1)).Nodup
 g4 : ∀ x, x ∈ pk → Cr.RtE gl ins x.2
theorem rtE_iff {gl ins : List ByteArray} {k : Int} {nm : ByteArray} {n ar : Int} {ps : List ByteArray} {gs : List Cr} {al : List (AltH × Cr)} {bs : List (ByteArray × Cr)} {pk : List (Int × Cr)} :
 (Cr.mk k nm n ar ps gs al bs pk).RtE gl ins ↔ RtParts gl ins k nm n ar ps gs al bs pk :=
 ⟨fun h => by cases h with | mk a b c d e f g => exact ⟨a, b, c, d, e, f, g⟩, fun ⟨a, b, c, d, e, f, g⟩ => .mk a b c d e f g⟩
theorem nil_of {α : Type} {l : List α} (h : l.length = 0) : l = [] := List.eq_nil_of_length_eq_zero h
/-- A leaf. -/
theorem rtE_leaf {gl ins : List ByteArray} {k : Int} {nm : ByteArray} {n ar : Int} {ps : List ByteArray} {gs : List Cr} {al : List (AltH × Cr)} {bs : List (ByteArray × Cr)} {pk : List (Int × Cr)} (hs : HeadOK gl ins k nm n ar ps gs.length al.length (bs.map (·.1)) pk.length → Shp ps.length gs.length al.length bs.length pk.length 0 0 0 0 0) :
 (Cr.mk k nm n ar ps gs al bs pk).RtE gl ins ↔ HeadOK gl ins k nm n ar ps gs.length al.length (bs.map (·.1)) pk.length := by
 rw [rtE_iff]
 refine ⟨fun h => h.hh, fun h => ?_⟩
 obtain ⟨_, h1, h2, h3, h4⟩ := hs h
 have h1 := nil_of h1; have h2 := nil_of h2; have h3 := nil_of h3; have h4 := nil_of h4
 subst h1 h2 h3 h4
 exact ⟨h, by simp, by intro i a h; simp at h, by simp, by simp, by simp, by simp⟩
theorem Cr.RtE.rt {gl ins : List ByteArray} {x : Cr} (h : x.RtE gl ins) : x.Rt (inS ins) := by
 induction h with
 | mk hh g1 ha g2 g3 hp g4 i1 i2 i3 i4 =>
  rename_i ins k nm n ar ps gs al bs pk
  have hal : ∀ x, x ∈ al → x.1.k = 1 ∨ x.1.ps = [] := fun x hx => by
   obtain ⟨i, hi⟩ := List.mem_iff_getElem?.1 hx
   rcases (ha i x.1 (by simp [hi])).1 with h | h | h
   · exact .inl h.1
   · exact .inr (nil_of h.2.2)
   · exact .inr (nil_of h.2.2.2.1)
  have hin : k ≠ 6 → k ≠ 7 → innerE k ins ps (bs.map (·.1)) = ins := fun a b => by rw [innerE, if_neg a, if_neg b]
  unfold HeadOK Shp at hh
  refine .mk (inner := inS (innerE k ins ps (bs.map (·.1)))) ?_ ?_ ?_ ?_ ?_ ?_ ?_ i1 (fun x hx => by rw [← inS_app]; exact i2 x hx) hal i3 i4
  · by_cases h : 1 ≤ k ∧ k ≤ 11
    · exact h
    · rw [if_neg (by omega), if_neg (by omega), if_neg (by omega), if_neg (by omega), if_neg (by omega), if_neg (by omega), if_neg (by omega), if_neg (by omega), if_neg (by omega), if_neg (by omega), if_neg (by omega)] at hh
      exact hh.elim
  · rintro rfl
    simp only [Zd, reduceIte] at hh; omega
  · rintro (rfl | rfl) <;> simp only [Zd, reduceIte] at hh <;> omega
  · rintro (rfl | rfl | rfl | rfl) <;> simp only [Zd, reduceIte] at hh <;> omega
  · rintro rfl
    simp only [Zd, reduceIte] at hh
    exact inS_mem hh.1
  · rintro rfl
    rintro rfl
    simp only [Zd, reduceIte] at hh
    exact hh.2.2.2.2.1 rfl
  · intro a b
    rw [hin a b]
end Go.AL
/- What expressions mean by name, as plain law. -/
set_option linter.unusedVariables false
set_option linter.unusedSimpArgs false
namespace Go.AL
/-- Names in scope: what they are bound to, or bindings that see one another. -/
inductive Env where
 | nil
 | thk (e : Env) (nm : ByteArray) (c : Cr) (e' : Env)
 | lets (e : Env) (bs : List (ByteArray × Cr))
abbrev Thk := Cr × Env
def lastB (x : ByteArray) : List (ByteArray × Cr) → Option Cr
 | [] => none
 | b :: r => match lastB x r with
  | some c => some c
  | none => if b.1 = x then some b.2 else none
def Env.look (x : ByteArray) : Env → Option Thk
 | .nil => none
 | .thk e nm c e' => if nm = x then some (c, e') else e.look x
 | .lets e bs => match lastB x bs with
  | some c => some (c, .lets e bs)
  | none => e.look x
/-- More names. -/
def Env.ext (e : Env) : List ByteArray → List Thk → Env
 | p :: ps, t :: ts => (Env.thk e p t.1 t.2).ext ps ts
 | _, _ => e
inductive Val where
 | whole (n : Int)
 | made (con : ByteArray) (args : List Thk)
 | lam (args : List Thk) (c : Cr) (e : Env)
 | maker (con : ByteArray) (need : Int) (args : List Thk)
 | prim (n : Int) (args : List Thk)
def Val.num : Val → Int
 | .whole n => n
 | .prim n _ => n
 | _ => 0
/-- What comes of an evaluation: a value, or what went wrong. -/
inductive Out1 where
 | ok (v : Val)
 | bad (k : Int)
def Cr.kd : Cr → Int | .mk k .. => k
def Cr.pss : Cr → List ByteArray | .mk _ _ _ _ ps .. => ps
def Cr.args : Cr → List Cr | .mk _ _ _ _ _ gs .. => gs
/-- What is done. -/
inductive Task where
 | core (c : Cr) (e : Env)
 | app (v : Val) (t : Thk)
 | prim (op : Int) (x y : Thk)
abbrev Defs := ByteArray → Option Cr
/-- The alternative that is taken: its body and what its names are bound to. -/
def pickA (v : Val) : List (AltH × Cr) → Option (Cr × List ByteArray × List Thk)
 | [] => none
 | (h, b) :: r =>
  if h.k = 3 then some (b, [], [])
  else match v with
   | .whole n => if h.k = 2 ∧ n = h.n then some (b, [], []) else pickA v r
   | .made con args => if h.k = 1 ∧ con = h.nm then (if args.length = h.ps.length then some (b, h.ps, args) else none) else pickA v r
   | _ => pickA v r
def pickP (sel : Int) : List (Int × Cr) → Option Cr
 | [] => none
 | (s, b) :: r => if s = sel then some b else pickP sel r
def tTrue : ByteArray := ⟨#[84, 114, 117, 101]⟩
def tFalse : ByteArray := ⟨#[70, 97, 108, 115, 101]⟩
noncomputable section
variable (D : Defs) (sel : Int) (F : Int → Int → Int → Int × Int)
def run : Nat → Task → Option Out1
 | 0, _ => none
 | n + 1, .core (.mk k nm m ar ps gs al bs pk) e =>
  if k = 1 then (match e.look nm with
   | some t => run n (.core t.1 t.2)
   | none => none)
  else if k = 2 then (match D nm with
   | some b => run n (.core b .nil)
   | none => some (.ok (.prim (opS nm) [])))
  else if k = 3 then some (.ok (.whole m))
  else if k = 4 then (if ar = 0 then some (.ok (.made nm [])) else some (.ok (.maker nm ar [])))
  else if k = 5 then (match gs with
   | [f, a] => (match run n (.core f e) with
    | some (.ok v) => run n (.app v (a, e))
    | r => r)
   | _ => none)
  else if k = 6 then some (.ok (.lam [] (.mk k nm m ar ps gs al bs pk) e))
  else if k = 7 then (match gs with
   | [g] => run n (.core g (.lets e bs))
   | _ => none)
  else if k = 8 then (match gs with
   | [g] => (match run n (.core g e) with
    | some (.ok v) => (match pickA v al with
     | some (b, xs, ts) => run n (.core b (e.ext xs ts))
     | none => none)
    | r => r)
   | _ => none)
  else if k = 9 then (match gs with
   | [x, y] => run n (.prim m (x, e) (y, e))
   | _ => none)
  else if k = 11 then (match gs with
   | [g] => (match pickP sel pk with
    | some b => run n (.core b e)
    | none => run n (.core g e))
   | _ => none)
  else some (.bad 2)
 | n + 1, .app v t => match v with
  | .whole _ => none
  | .made _ _ => none
  | .lam args c e => if args.length + 1 < c.pss.length then some (.ok (.lam (args ++ [t]) c e))
   else (match c.args with
    | [b] => run n (.core b (e.ext c.pss (args ++ [t])))
    | _ => none)
  | .maker con need args => if ((args.length + 1 : Nat) : Int) < need then some (.ok (.maker con need (args ++ [t]))) else some (.ok (.made con (args ++ [t])))
  | .prim m args => match args with
   | [] => some (.ok (.prim m [t]))
   | a :: _ => run n (.prim m a ((args ++ [t]).getD 1 a))
 | n + 1, .prim op x y => match run n (.core x.1 x.2) with
  | some (.ok a) => (match run n (.core y.1 y.2) with
   | some (.ok b) => if (F op a.num b.num).2 = 0 then (if op < 6 then some (.ok (.whole (F op a.num b.num).1)) else if (F op a.num b.num).1 = 1 then some (.ok (.made tTrue [])) else some (.ok (.made tFalse [])))
    else some (.bad 3)
   | r => r)
  | r => r
section
variable (n : Nat) (nm : ByteArray) (m ar : Int) (ps : List ByteArray) (gs : List Cr) (al : List (AltH × Cr)) (bs : List (ByteArray × Cr)) (pk : List (Int × Cr)) (e : Env)
theorem run_1 : run D sel F (n + 1) (.core (.mk 1 nm m ar ps gs al bs pk) e) = match e.look nm with | some t => run D sel F n (.core t.1 t.2) | none => none := by simp only [run, Zd, reduceIte]
theorem run_2 : run D sel F (n + 1) (.core (.mk 2 nm m ar ps gs al bs pk) e) = match D nm with | some b => run D sel F n (.core b .nil) | none => some (.ok (.prim (opS nm) [])) := by simp only [run, Zd, reduceIte]
theorem run_3 : run D sel F (n + 1) (.core (.mk 3 nm m ar ps gs al bs pk) e) = some (.ok (.whole m)) := by simp only [run, Zd, reduceIte]
theorem run_4 : run D sel F (n + 1) (.core (.mk 4 nm m ar ps gs al bs pk) e) = if ar = 0 then some (.ok (.made nm [])) else some (.ok (.maker nm ar [])) := by simp only [run, Zd, reduceIte]
theorem run_5 (f a : Cr) : run D sel F (n + 1) (.core (.mk 5 nm m ar ps [f, a] al bs pk) e) = match run D sel F n (.core f e) with | some (.ok v) => run D sel F n (.app v (a, e)) | r => r := by simp only [run, Zd, reduceIte]
theorem run_6 : run D sel F (n + 1) (.core (.mk 6 nm m ar ps gs al bs pk) e) = some (.ok (.lam [] (.mk 6 nm m ar ps gs al bs pk) e)) := by simp only [run, Zd, reduceIte]
theorem run_7 (g : Cr) : run D sel F (n + 1) (.core (.mk 7 nm m ar ps [g] al bs pk) e) = run D sel F n (.core g (.lets e bs)) := by simp only [run, Zd, reduceIte]
theorem run_8 (g : Cr) : run D sel F (n + 1) (.core (.mk 8 nm m ar ps [g] al bs pk) e) = match run D sel F n (.core g e) with | some (.ok v) => (match pickA v al with | some (b, xs, ts) => run D sel F n (.core b (e.ext xs ts)) | none => none) | r => r := by simp only [run, Zd, reduceIte]
theorem run_9 (x y : Cr) : run D sel F (n + 1) (.core (.mk 9 nm m ar ps [x, y] al bs pk) e) = run D sel F n (.prim m (x, e) (y, e)) := by simp only [run, Zd, reduceIte]
theorem run_10 : run D sel F (n + 1) (.core (.mk 10 nm m ar ps gs al bs pk) e) = some (.bad 2) := by simp only [run, Zd, reduceIte]
theorem run_11 (g : Cr) : run D sel F (n + 1) (.core (.mk 11 nm m ar ps [g] al bs pk) e) = match pickP sel pk with | some b => run D sel F n (.core b e) | none => run D sel F n (.core g e) := by simp only [run, Zd, reduceIte]
theorem run_no {k : Int} (h : k ≠ 1 ∧ k ≠ 2 ∧ k ≠ 3 ∧ k ≠ 4 ∧ k ≠ 5 ∧ k ≠ 6 ∧ k ≠ 7 ∧ k ≠ 8 ∧ k ≠ 9 ∧ k ≠ 11) : run D sel F (n + 1) (.core (.mk k nm m ar ps gs al bs pk) e) = some (.bad 2) := by simp only [run, h, reduceIte]
end
/-- The parts that each kind has. -/
def Ar : Cr → Prop
 | .mk k _ _ _ _ gs _ _ _ => 1 ≤ k ∧ k ≤ 11 ∧ (k = 5 ∨ k = 9 → ∃ f a, gs = [f, a]) ∧ (k = 6 ∨ k = 7 ∨ k = 8 ∨ k = 11 → ∃ g, gs = [g])
/-- More rounds change nothing. -/
theorem run_succ : ∀ (n : Nat) (t : Task) (r : Out1), run D sel F n t = some r → run D sel F (n + 1) t = some r
 | 0, _, _, h => by simp [run] at h
 | n + 1, .core (.mk k nm m ar ps gs al bs pk) e, r, h => by
  have ih := run_succ n
  by_cases k1 : k = 1
  · subst k1
    rw [run_1] at h ⊢
    cases hl : e.look nm with
    | none => rw [hl] at h; cases h
    | some t => rw [hl] at h; exact ih _ _ h
  by_cases k1 : k = 2
  · subst k1
    rw [run_2] at h ⊢
    cases hl : D nm with
    | none => rw [hl] at h; exact h
    | some t => rw [hl] at h; exact ih _ _ h
  by_cases k1 : k = 3
  · subst k1; rw [run_3] at h ⊢; exact h
  by_cases k1 : k = 4
  · subst k1; rw [run_4] at h ⊢; exact h
  by_cases k1 : k = 5
  · subst k1
    match gs with
    | [f, a] =>
     rw [run_5] at h ⊢
     cases hf : run D sel F n (.core f e) with
     | none => rw [hf] at h; cases h
     | some q =>
      rw [hf] at h; rw [ih _ _ hf]
      cases q with
      | ok v => exact ih _ _ h
      | bad k => exact h
    | [] => simp [run] at h
    | [_] => simp [run] at h
    | _ :: _ :: _ :: _ => simp [run] at h
  by_cases k1 : k = 6
  · subst k1; rw [run_6] at h ⊢; exact h
  by_cases k1 : k = 7
  · subst k1
    match gs with
    | [g] => rw [run_7] at h ⊢; exact ih _ _ h
    | [] => simp [run] at h
    | _ :: _ :: _ => simp [run] at h
  by_cases k1 : k = 8
  · subst k1
    match gs with
    | [g] =>
     rw [run_8] at h ⊢
     cases hf : run D sel F n (.core g e) with
     | none => rw [hf] at h; cases h
     | some q =>
      rw [hf] at h; rw [ih _ _ hf]
      cases q with
      | ok v =>
       simp only at h ⊢
       cases hp : pickA v al with
       | none => rw [hp] at h; cases h
       | some z => obtain ⟨b, xs, ts⟩ := z; rw [hp] at h; exact ih _ _ h
      | bad k => exact h
    | [] => simp [run] at h
    | _ :: _ :: _ => simp [run] at h
  by_cases k1 : k = 9
  · subst k1
    match gs with
    | [f, a] => rw [run_9] at h ⊢; exact ih _ _ h
    | [] => simp [run] at h
    | [_] => simp [run] at h
    | _ :: _ :: _ :: _ => simp [run] at h
  by_cases k1 : k = 11
  · subst k1
    match gs with
    | [g] =>
     rw [run_11] at h ⊢
     cases hp : pickP sel pk with
     | none => rw [hp] at h; exact ih _ _ h
     | some b => rw [hp] at h; exact ih _ _ h
    | [] => simp [run] at h
    | _ :: _ :: _ => simp [run] at h
  · rw [run_no _ _ _ _ _ _ _ _ _ _ _ _ _ (by simp only [ne_eq, *, not_false_eq_true, and_self])] at h ⊢
    exact h
 | n + 1, .app v t, r, h => by
  have ih := run_succ n
  cases v with
  | whole m => simp [run] at h
  | made c a => simp [run] at h
  | lam args c e =>
   rw [run] at h ⊢
   split at h
   · rename_i hlt; rw [if_pos hlt]; exact h
   · rename_i hlt
     rw [if_neg hlt]
     match hc : c.args with
     | [b] => rw [hc] at h; exact ih _ _ h
     | [] => rw [hc] at h; cases h
     | _ :: _ :: _ => rw [hc] at h; cases h
  | maker con need args => rw [run] at h ⊢; exact h
  | prim m args =>
   cases args with
   | nil => rw [run] at h ⊢; exact h
   | cons a l => rw [run] at h ⊢; exact ih _ _ h
 | n + 1, .prim op x y, r, h => by
  have ih := run_succ n
  rw [run] at h ⊢
  cases ha : run D sel F n (.core x.1 x.2) with
  | none => rw [ha] at h; cases h
  | some q =>
   rw [ha] at h; rw [ih _ _ ha]
   cases q with
   | bad k => exact h
   | ok a =>
    simp only at h ⊢
    cases hb : run D sel F n (.core y.1 y.2) with
    | none => rw [hb] at h; cases h
    | some q =>
     rw [hb] at h; rw [ih _ _ hb]
     exact h
theorem run_mono {n m : Nat} (hnm : n ≤ m) {t : Task} {r : Out1} (h : run D sel F n t = some r) : run D sel F m t = some r := by
 induction hnm with
 | refl => exact h
 | step _ ih => exact run_succ D sel F _ _ _ ih
/-- A value told whole. -/
inductive Tm where
 | mk (con : ByteArray) (n : Int) (args : List Tm)
inductive Out2 where
 | ok (t : Tm)
 | bad (k : Int)
def arrow : ByteArray := ⟨#[45, 62]⟩
mutual
def tell : Nat → Val → Option Out2
 | 0, _ => none
 | n + 1, .whole m => some (.ok (.mk ⟨#[]⟩ m []))
 | n + 1, .made con args => match tells n args with
  | some (.inl l) => some (.ok (.mk con 0 l))
  | some (.inr k) => some (.bad k)
  | none => none
 | n + 1, .lam _ _ _ => some (.ok (.mk arrow 0 []))
 | n + 1, .maker _ _ _ => some (.ok (.mk arrow 0 []))
 | n + 1, .prim _ _ => some (.ok (.mk arrow 0 []))
def tells : Nat → List Thk → Option (List Tm ⊕ Int)
 | 0, _ => none
 | n + 1, [] => some (.inl [])
 | n + 1, t :: r => match run D sel F n (.core t.1 t.2) with
  | some (.ok v) => (match tell n v with
   | some (.ok x) => (match tells n r with
    | some (.inl l) => some (.inl (x :: l))
    | q => q)
   | some (.bad k) => some (.inr k)
   | none => none)
  | some (.bad k) => some (.inr k)
  | none => none
end
/-- The outcome. -/
def outc (n : Nat) (c : Cr) : Option Out2 := match run D sel F n (.core c .nil) with
 | some (.ok v) => tell D sel F n v
 | some (.bad k) => some (.bad k)
 | none => none
end
end Go.AL
