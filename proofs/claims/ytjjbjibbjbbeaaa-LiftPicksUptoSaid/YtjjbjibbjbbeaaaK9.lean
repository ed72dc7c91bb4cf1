/- A part of the proof of the claim: the abstract layer, the contracts of the functions, the law (no condition of its own). -/
import Derived.Test.YtjjbjibbjbbeaaaK8
import Derived.Test.YtjjbjibbjbbeaaaProg
import Derived.KernelRfl
import Derived.Test.YtjjbjibbjbbeaaaRows
open Nat renaming reduceEqDiff → Za, reduceAdd → Zb, reduceLeDiff → Zc
open Int renaming reduceEq → Zd, reduceLT → Ze, reduceLE → Zf, reduceNeg → Zg, reduceAdd → Zh, reduceSub → Zi, reduceToNat → Zj
/- The document's: names joined, parts counted, alternatives: exactly. -/
set_option linter.unusedVariables false
set_option linter.unusedSimpArgs false
namespace Go.AL
theorem strs_snoc {l : List ByteArray} {i : Nat} {x : ByteArray} (h : l[i]? = some x) : ((l.take (i + 1)).map fun s => [AV.str s]) = ((l.take i).map fun s => [AV.str s]) ++ [[AV.str x]] := by rw [List.take_add_one, h]; simp
def intsC (l : List Int) : AV := .list (l.map fun n => [.int .i64 n])
theorem ints_get {l : List Int} {i : Nat} {x : Int} (h : l[i]? = some x) : (l.map fun n => [AV.int .i64 n])[i]? = some [AV.int .i64 x] := by simp [h]
theorem take_eq_succ {α : Type} {a b : List α} {i : Nat} {x : α} (h : a.take i = b.take i) (ha : a[i]? = some x) (hb : b[i]? = some x) : a.take (i + 1) = b.take (i + 1) := by rw [List.take_add_one, List.take_add_one, h, ha, hb]
end Go.AL
namespace Go.Proofs.Ytjjbjibbjbbeaaa
open Go.AL
theorem joined15 (a b : List ByteArray) (ha : a.length + b.length ≤ 100000000) (σ : Store) : ACalls Try.prog 93 [strs a, strs b] σ fun r σ' => r = strs (a ++ b) ∧ σ' = σ := by
 refine ACalls_fp (p := fun r => r = strs (a ++ b)) ?_
 refine in93 (by simp) ?_
 unfold c93
 refine raw ?_
 repeat (first | (with_reducible refine unr ?_; try simp only [YY, ↓reduceIte, Za, Zb, Zc, reduceCtorEq, Zd, Ze, Zf, Zg, Zh, Zi, Zj]) | (with_reducible refine WW (by decide) ?_))
 refine AWP_while [0, 1, 5, 6] (fun y : AV × Nat => a.length - y.2) (fun y => [strs a, strs b, y.1, .int .i64 y.2]) (fun y t => y.2 ≤ a.length ∧ Grow σ t y.1 9 1 (([]:List (List AV)) ++ ((a.take y.2).map fun s => [AV.str s]))) (AV.nils, 0) ⟨by simp, (by simpa using Grow.start σ 9 1)⟩ ?_ ?_
 · refine raw ?_
   repeat (first | (with_reducible refine unr ?_; try simp only [YY, ↓reduceIte, Za, Zb, Zc, reduceCtorEq, Zd, Ze, Zf, Zg, Zh, Zi, Zj]) | (with_reducible refine WW (by decide) ?_))
   rfl
 rintro ⟨u, i⟩ t ⟨hi, hG⟩
 simp only at hi hG
 have hw := wrap_succ (i := i) (by omega)
 by_cases hil : i < a.length
 · have hil' : (i : Int) < (a.length : Int) := by omega
   obtain ⟨x, hx⟩ : ∃ x, a[i]? = some x := ⟨_, List.getElem?_eq_getElem hil⟩
   have hg := strs_get hx
   have hsn := strs_snoc hx
   refine raw ?_
   repeat (first | (with_reducible refine unr ?_; try simp only [YY, ↓reduceIte, Za, Zb, Zc, reduceCtorEq, Zd, Ze, Zf, Zg, Zh, Zi, Zj, hil', hg]) | (with_reducible refine WW (by decide) ?_))
   refine ok_grow hG (es2 := [[.str x]]) (by simp) (by simp; omega) (by simp [maxLen]; omega) ?_
   intro v' t3 hG3 _ _
   refine raw ?_
   repeat (first | (with_reducible refine unr ?_; try simp only [YY, ↓reduceIte, Za, Zb, Zc, reduceCtorEq, Zd, Ze, Zf, Zg, Zh, Zi, Zj, hw]) | (with_reducible refine WW (by decide) ?_))
   exact ⟨(v', i + 1), rfl, ⟨by simp only; omega, by simp only [hsn]; simpa using hG3⟩, by simp only; omega⟩
 have hil' : ¬ (i : Int) < (a.length : Int) := by omega
 rw [List.take_of_length_le (by omega)] at hG
 refine raw ?_
 repeat (first | (with_reducible refine unr ?_; try simp only [YY, ↓reduceIte, Za, Zb, Zc, reduceCtorEq, Zd, Ze, Zf, Zg, Zh, Zi, Zj, hil']) | (with_reducible refine WW (by decide) ?_))
 clear hw hil hil' hi
 refine AWP_while [1, 5, 7] (fun y : AV × Nat => b.length - y.2) (fun y => [strs b, y.1, .int .i64 y.2]) (fun y t => y.2 ≤ b.length ∧ Grow σ t y.1 9 1 ((a.map fun s => [AV.str s]) ++ ((b.take y.2).map fun s => [AV.str s]))) (u, 0) ⟨by simp, (by simpa using hG)⟩ ?_ ?_
 · refine raw ?_
   repeat (first | (with_reducible refine unr ?_; try simp only [YY, ↓reduceIte, Za, Zb, Zc, reduceCtorEq, Zd, Ze, Zf, Zg, Zh, Zi, Zj]) | (with_reducible refine WW (by decide) ?_))
   rfl
 rintro ⟨u, i⟩ t ⟨hi, hG⟩
 simp only at hi hG
 have hw := wrap_succ (i := i) (by omega)
 by_cases hil : i < b.length
 · have hil' : (i : Int) < (b.length : Int) := by omega
   obtain ⟨x, hx⟩ : ∃ x, b[i]? = some x := ⟨_, List.getElem?_eq_getElem hil⟩
   have hg := strs_get hx
   have hsn := strs_snoc hx
   refine raw ?_
   repeat (first | (with_reducible refine unr ?_; try simp only [YY, ↓reduceIte, Za, Zb, Zc, reduceCtorEq, Zd, Ze, Zf, Zg, Zh, Zi, Zj, hil', hg]) | (with_reducible refine WW (by decide) ?_))
   refine ok_grow hG (es2 := [[.str x]]) (by simp) (by simp; omega) (by simp [maxLen]; omega) ?_
   intro v' t3 hG3 _ _
   refine raw ?_
   repeat (first | (with_reducible refine unr ?_; try simp only [YY, ↓reduceIte, Za, Zb, Zc, reduceCtorEq, Zd, Ze, Zf, Zg, Zh, Zi, Zj, hw]) | (with_reducible refine WW (by decide) ?_))
   exact ⟨(v', i + 1), rfl, ⟨by simp only; omega, by simp only [hsn]; simpa using hG3⟩, by simp only; omega⟩
 have hil' : ¬ (i : Int) < (b.length : Int) := by omega
 rw [List.take_of_length_le (by omega)] at hG
 refine raw ?_
 repeat (first | (with_reducible refine unr ?_; try simp only [YY, ↓reduceIte, Za, Zb, Zc, reduceCtorEq, Zd, Ze, Zf, Zg, Zh, Zi, Zj, hil']) | (with_reducible refine WW (by decide) ?_))
 exact FP.mk (strs (a ++ b)) (by simpa using hG.sl) .here rfl (cln_strs _) hG.kp hG.fresh
theorem names15 (l : List (ByteArray × Cr)) (hl : l.length ≤ 100000000) (σ : Store) : ACalls Try.prog 94 [.list (l.map bindC)] σ fun r σ' => r = strs (l.map Prod.fst) ∧ σ' = σ := by
 refine ACalls_fp (p := fun r => r = strs (l.map Prod.fst)) ?_
 refine in94 (by simp) ?_
 unfold c94
 refine raw ?_
 repeat (first | (with_reducible refine unr ?_; try simp only [YY, ↓reduceIte, Za, Zb, Zc, reduceCtorEq, Zd, Ze, Zf, Zg, Zh, Zi, Zj]) | (with_reducible refine WW (by decide) ?_))
 refine AWP_while [0, 3, 4] (fun y : AV × Nat => l.length - y.2) (fun y => [.list (l.map bindC), y.1, .int .i64 y.2])
  (fun y t => y.2 ≤ l.length ∧ Grow σ t y.1 9 1 (((l.map Prod.fst).take y.2).map fun s => [AV.str s])) (.nils, 0) ⟨by simp, .start _ _ _⟩ ?_ ?_
 · refine raw ?_
   repeat (first | (with_reducible refine unr ?_; try simp only [YY, ↓reduceIte, Za, Zb, Zc, reduceCtorEq, Zd, Ze, Zf, Zg, Zh, Zi, Zj]) | (with_reducible refine WW (by decide) ?_))
   rfl
 rintro ⟨v, i⟩ t ⟨hi, hG⟩
 simp only at hi hG
 have hw := wrap_succ (i := i) (by omega)
 by_cases hil : i < l.length
 · have hil' : (i : Int) < (l.length : Int) := by omega
   obtain ⟨x, hx⟩ : ∃ x, l[i]? = some x := ⟨_, List.getElem?_eq_getElem hil⟩
   have hg : (l.map bindC)[i]? = some (bindC x) := by simp [hx]
   have hx1 : (l.map Prod.fst)[i]? = some (Prod.fst x) := by simp [hx]
   have hsn := strs_snoc hx1
   refine raw ?_
   repeat (first | (with_reducible refine unr ?_; try simp only [YY, ↓reduceIte, Za, Zb, Zc, reduceCtorEq, Zd, Ze, Zf, Zg, Zh, Zi, Zj, hil', hg, bindC, Cr.len, Cr.take9]) | (with_reducible refine WW (by decide) ?_))
   refine ok_grow hG (es2 := [[.str (Prod.fst x)]]) (by simp) (by simp; omega) (by simp [maxLen]; omega) ?_
   intro v' t3 hG3 _ _
   refine raw ?_
   repeat (first | (with_reducible refine unr ?_; try simp only [YY, ↓reduceIte, Za, Zb, Zc, reduceCtorEq, Zd, Ze, Zf, Zg, Zh, Zi, Zj, hw]) | (with_reducible refine WW (by decide) ?_))
   exact ⟨(v', i + 1), rfl, ⟨by simp only; omega, by simp only [hsn]; exact hG3⟩, by simp only; omega⟩
 · have hil' : ¬ (i : Int) < (l.length : Int) := by omega
   rw [List.take_of_length_le (by simp; omega)] at hG
   refine raw ?_
   repeat (first | (with_reducible refine unr ?_; try simp only [YY, ↓reduceIte, Za, Zb, Zc, reduceCtorEq, Zd, Ze, Zf, Zg, Zh, Zi, Zj, hil']) | (with_reducible refine WW (by decide) ?_))
   exact FP.mk (strs (l.map Prod.fst)) (by simpa using hG.sl) .here rfl (cln_strs _) hG.kp hG.fresh
theorem sameInts (a b : List Int) (ha : a.length ≤ 100000000) (σ : Store) : ACalls Try.prog 95 [intsC a, intsC b] σ fun r σ' => (∃ c : Bool, r = .bool c ∧ (c = true ↔ a = b)) ∧ σ' = σ := by
 refine in95 (by simp) ?_
 unfold c95 intsC
 by_cases hl : (a.length : Int) = (b.length : Int)
 · refine raw ?_
   repeat (first | (with_reducible refine unr ?_; try simp only [YY, ↓reduceIte, Za, Zb, Zc, reduceCtorEq, Zd, Ze, Zf, Zg, Zh, Zi, Zj, hl]) | (with_reducible refine WW (by decide) ?_))
   refine AWP_while [0, 1, 5] (fun i : Nat => b.length - i) (fun i => [.list (a.map fun n => [.int .i64 n]), .list (b.map fun n => [.int .i64 n]), .int .i64 i]) (fun i t => t = σ ∧ i ≤ b.length ∧ Hid (a.take i = b.take i)) 0 ⟨rfl, by simp, ⟨by simp⟩⟩ ?_ ?_
   · refine raw ?_
     repeat (first | (with_reducible refine unr ?_; try simp only [YY, ↓reduceIte, Za, Zb, Zc, reduceCtorEq, Zd, Ze, Zf, Zg, Zh, Zi, Zj]) | (with_reducible refine WW (by decide) ?_))
     rfl
   rintro i t ⟨rfl, hi, he⟩
   have hw := wrap_succ (i := i) (by omega)
   by_cases hil : i < b.length
   · have hil' : (i : Int) < (b.length : Int) := by omega
     obtain ⟨x, hx⟩ : ∃ x, a[i]? = some x := ⟨_, List.getElem?_eq_getElem (by omega)⟩
     obtain ⟨y, hy⟩ : ∃ y, b[i]? = some y := ⟨_, List.getElem?_eq_getElem hil⟩
     have g1 := ints_get hx
     have g2 := ints_get hy
     by_cases hxy : x = y
     · refine raw ?_
       repeat (first | (with_reducible refine unr ?_; try simp only [YY, ↓reduceIte, Za, Zb, Zc, reduceCtorEq, Zd, Ze, Zf, Zg, Zh, Zi, Zj, hl, hil', g1, g2, hxy, hw]) | (with_reducible refine WW (by decide) ?_))
       exact ⟨i + 1, rfl, ⟨by omega, ⟨take_eq_succ he.out hx (by rw [hxy]; exact hy)⟩⟩, by omega⟩
     · refine raw ?_
       repeat (first | (with_reducible refine unr ?_; try simp only [YY, ↓reduceIte, Za, Zb, Zc, reduceCtorEq, Zd, Ze, Zf, Zg, Zh, Zi, Zj, hl, hil', g1, g2, hxy]) | (with_reducible refine WW (by decide) ?_))
       exact ⟨_, rfl, by simp, fun e => absurd (by rw [e, hy] at hx; exact (Option.some.inj hx).symm) hxy⟩
   · have hil' : ¬ (i : Int) < (b.length : Int) := by omega
     have he := he.out
     rw [List.take_of_length_le (by omega), List.take_of_length_le (by omega)] at he
     refine raw ?_
     repeat (first | (with_reducible refine unr ?_; try simp only [YY, ↓reduceIte, Za, Zb, Zc, reduceCtorEq, Zd, Ze, Zf, Zg, Zh, Zi, Zj, hl, hil']) | (with_reducible refine WW (by decide) ?_))
     exact ⟨_, rfl, by simp [he]⟩
 · refine raw ?_
   repeat (first | (with_reducible refine unr ?_; try simp only [YY, ↓reduceIte, Za, Zb, Zc, reduceCtorEq, Zd, Ze, Zf, Zg, Zh, Zi, Zj, hl]) | (with_reducible refine WW (by decide) ?_))
   exact ⟨_, rfl, by simp, fun e => absurd (by rw [e]) hl⟩
theorem counts_ok (k : Int) (nm : ByteArray) (n ar : Int) (ps : List ByteArray) (gs : List Cr) (al : List (AltH × Cr)) (bs : List (ByteArray × Cr)) (pk : List (Int × Cr)) (σ : Store) :
 ACalls Try.prog 96 [.agg (Cr.mk k nm n ar ps gs al bs pk).cells] σ fun r s => r = intsC [ps.length, gs.length, al.length, bs.length, pk.length] ∧ s = σ := by
 refine ACalls_fp (p := fun r => r = intsC [ps.length, gs.length, al.length, bs.length, pk.length]) ?_
 refine in96 (by simp) ?_
 unfold c96
 rw [Cr.cells_eq]
 refine raw ?_
 repeat (first | (with_reducible refine unr ?_; try simp only [YY, ↓reduceIte, Za, Zb, Zc, reduceCtorEq, Zd, Ze, Zf, Zg, Zh, Zi, Zj]) | (with_reducible refine WW (by decide) ?_))
 refine FP.same (.pushed _ _) rfl ?_
 refine .list' fun e he c hc => ?_
 simp only [List.mem_cons, List.not_mem_nil, or_false] at he
 rcases he with rfl | rfl | rfl | rfl | rfl <;> (simp only [List.mem_cons, List.not_mem_nil, or_false] at hc; subst hc; exact .int _ _)
theorem altE (al : List (AltH × Cr)) (hb : Cr.bulkA al ≤ 50000000) (i : Nat) (x : AltH × Cr) (hx : al[i]? = some x) (σ : Store) :
 ACalls Try.prog 97 [.list (al.map altC), .int .i64 i] σ fun r s => (∃ b : Bool, r = .bool b ∧ (b = true ↔ RAlt (al.map (·.1)) i x.1)) ∧ s = σ := by
 refine ACalls_fp (p := RE _) ?_
 refine in97 (by simp) ?_
 unfold c97
 have hpl := Cr.lenA al
 have hil := (List.getElem?_eq_some_iff.1 hx).1
 have hxm := List.mem_of_getElem? hx
 have hxb := Cr.bulkA_le hxm
 have hg : (al.map altC)[i]? = some (altC x) := by simp [hx]
 replace hx : Hid (al[i]? = some x) := ⟨hx⟩
 try simp only [YY, ↓reduceIte, Za, Zb, Zc, reduceCtorEq, Zd, Ze, Zf, Zg, Zh, Zi, Zj, hg, altC, AltH.cells, Cr.len, Cr.take9]
 iterate 4 ((with_reducible refine WW (by decide) ?_); refine unr ?_; try simp only [YY, ↓reduceIte, Za, Zb, Zc, reduceCtorEq, Zd, Ze, Zf, Zg, Zh, Zi, Zj, hg, altC, AltH.cells, Cr.len, Cr.take9])
 generalize hs : Store.push _ _ = s
 have k1 : Kp σ s := by rw [← hs]; exact Kp.pushed _ _
 have he : s.get σ.next = some (.cells 113 0 13 [[.int .i64 x.1.k, .str x.1.nm, .int .i64 x.1.n, strs x.1.ps] ++ x.2.cells]) := by rw [← hs]; simp [Store.push_get]
 clear hs
 refine AWP_cut [5] (fun _ : Unit => [.ptr σ.next 0 0 0]) (fun _ s' => Kp s s' ∧ Hid (∀ b, b ∈ (al.map (·.1)).take i → ¬ RClash b x.1)) ?_ ?_
 · refine raw ?_
   repeat (first | (with_reducible refine unr ?_; try simp only [YY, ↓reduceIte, Za, Zb, Zc, reduceCtorEq, Zd, Ze, Zf, Zg, Zh, Zi, Zj]) | (with_reducible refine WW (by decide) ?_))
   refine AWP_while [0, 1, 5, 6] (fun j : Nat => i - j) (fun j => [.list (al.map altC), .int .i64 i, .ptr σ.next 0 0 0, .int .i64 j]) (fun j s' => Kp s s' ∧ j ≤ i ∧ Hid (∀ b, b ∈ al.take j → ¬ RClash b.1 x.1)) 0 ⟨.refl _, by omega, ⟨by simp⟩⟩ ?_ ?_
   · refine raw ?_
     repeat (first | (with_reducible refine unr ?_; try simp only [YY, ↓reduceIte, Za, Zb, Zc, reduceCtorEq, Zd, Ze, Zf, Zg, Zh, Zi, Zj]) | (with_reducible refine WW (by decide) ?_))
     rfl
   rintro j t2 ⟨k2, hj, hcl⟩
   have hwj := wrap_succ (i := j) (by omega)
   have he2 := k2.get he
   have hq := lt_ne (t2.lt he2)
   by_cases hjl : j < i
   · have hjl' : (j : Int) < (i : Int) := by omega
     obtain ⟨z, hz⟩ : ∃ z, al[j]? = some z := ⟨_, List.getElem?_eq_getElem (by omega)⟩
     have hgz : (al.map altC)[j]? = some (altC z) := by rw [List.getElem?_map, hz]; rfl
     have hzm : z.1 ∈ (al.map (·.1)).take i := List.mem_of_getElem? (i := j) (by rw [List.getElem?_take_of_lt hjl, List.getElem?_map, hz]; rfl)
     replace hz : Hid (al[j]? = some z) := ⟨hz⟩
     refine raw ?_
     repeat' (first | (with_reducible refine unr ?_; try simp only [YY, ↓reduceIte, Za, Zb, Zc, reduceCtorEq, Zd, Ze, Zf, Zg, Zh, Zi, Zj, hjl', he2, hq, hgz, altC, AltH.cells, Cr.len, Cr.take9, str_nil, *]) | (with_reducible first | refine WW (by decide) ?_ | refine ok_idx (by first | assumption | omega) (fun b hb => raw ?_) | refine ok_iad (by first | assumption | omega) (fun x hx hxm => raw ?_) | refine And.intro (by omega) (raw ?_) | (refine guardW_b (fun h => raw ?_) (fun h => raw ?_) <;> try simp only [Ty] at h) | (refine ePick_b (fun h => raw ?_) (fun h => raw ?_) <;> try simp only [Ty] at h) | (refine condW_b (fun h => raw ?_) (fun h => raw ?_) <;> try simp only [Ty] at h)))
     all_goals first
      | exact FP.same (k1.trans (k2.push _)) (RE.f fun hh => hh.1 z.1 hzm (by first | exact .inl ⟨by omega, by omega⟩ | exact .inr (.inl ⟨by omega, by assumption⟩) | exact .inr (.inr (.inl ⟨by omega, by omega⟩)) | exact .inr (.inr (.inr (by omega))))) (.bool _)
      | exact ⟨j + 1, rfl, ⟨k2.push _, by omega, ⟨all_succ (p := fun b => ¬ RClash b.1 x.1) hcl.out hz.out (by
       rintro (hh | hh | hh | hh)
       · omega
       · first | omega | exact absurd hh.2 (by assumption)
       · omega
       · omega)⟩⟩, by omega⟩
   · have hjl' : ¬ (j : Int) < (i : Int) := by omega
     have hcl := hcl.out
     have hji : j = i := by omega
     refine raw ?_
     repeat (first | (with_reducible refine unr ?_; try simp only [YY, ↓reduceIte, Za, Zb, Zc, reduceCtorEq, Zd, Ze, Zf, Zg, Zh, Zi, Zj, hjl']) | (with_reducible refine WW (by decide) ?_))
     refine ⟨(), k2, ⟨fun b hb => ?_⟩⟩
     rw [← List.map_take] at hb
     obtain ⟨y, hy, rfl⟩ := List.mem_map.1 hb
     exact hcl y (by rw [hji]; exact hy)
 rintro _ s2 ⟨k2, hcl⟩
 have he2 := k2.get he
 have hxi : (al.map (·.1))[i]? = some x.1 := by simp [hx.out]
 refine raw ?_
 repeat' (first | (with_reducible refine unr ?_; try simp only [YY, ↓reduceIte, Za, Zb, Zc, reduceCtorEq, Zd, Ze, Zf, Zg, Zh, Zi, Zj, he2, Cr.len, Cr.take9, str_nil, *]) | (with_reducible first | refine WW (by decide) ?_ | refine ok_idx (by first | assumption | omega) (fun b hb => raw ?_) | refine ok_iad (by first | assumption | omega) (fun x hx hxm => raw ?_) | refine And.intro (by omega) (raw ?_) | (refine guardW_b (fun h => raw ?_) (fun h => raw ?_) <;> try simp only [Ty] at h) | (refine ePick_b (fun h => raw ?_) (fun h => raw ?_) <;> try simp only [Ty] at h) | (refine condW_b (fun h => raw ?_) (fun h => raw ?_) <;> try simp only [Ty] at h) | (refine (localsE2 _ (by omega) _).mono ?_; rintro _ _ ⟨⟨b, rfl, hb⟩, rfl⟩; refine raw ?_)))
 · exact FP.same (k1.trans k2) (RE.mk ⟨fun e => ⟨hcl.out, .inl ⟨by omega, by omega, by omega, hb.1 e⟩⟩, fun hh => by
    rcases hh.2 with q | q
    · exact hb.2 q.2.2.2
    · omega⟩) (.bool _)
 · exact FP.same (k1.trans k2) (RE.f fun hh => by rcases hh.2 with q | q <;> omega) (.bool _)
 · exact FP.same (k1.trans k2) (RE.f fun hh => by rcases hh.2 with q | q <;> omega) (.bool _)
 · exact FP.same (k1.trans k2) (RE.t ⟨hcl.out, .inr (by omega)⟩) (.bool _)
 · refine FP.same (k1.trans k2) (RE.mk ?_) (.bool _)
   rw [decide_eq_true_iff]
   exact ⟨fun e => ⟨hcl.out, .inr (by omega)⟩, fun hh => by rcases hh.2 with q | q <;> omega⟩
 all_goals exact FP.same (k1.trans k2) (RE.f fun hh => by rcases hh.2 with q | q <;> omega) (.bool _)
end Go.Proofs.Ytjjbjibbjbbeaaa
/- Which expressions may be, exactly: the document's answer. -/
set_option linter.unusedVariables false
set_option linter.unusedSimpArgs false
namespace Go.AL
def wantE (k : Int) (p a b q : Nat) : List Int := if k = 5 ∨ k = 9 then [0, 2, 0, 0, 0] else if k = 6 then [p, 1, 0, 0, 0] else if k = 7 then [0, 1, 0, b, 0] else if k = 8 then [0, 1, a, 0, 0] else if k = 11 then [0, 1, 0, 0, q] else [0, 0, 0, 0, 0]
def nmE (k : Int) (nm : ByteArray) : ByteArray := if k = 1 ∨ k = 2 ∨ k = 4 then nm else ⟨#[]⟩
def nE (k n : Int) : Int := if k = 3 ∨ k = 4 ∨ k = 9 then n else 0
def arE (k ar : Int) : Int := if k = 4 then ar else 0
def OkP (gl ins : List ByteArray) (k : Int) (nm : ByteArray) (n ar : Int) (ps : List ByteArray) (a : Nat) (bn : List ByteArray) : Prop :=
 if k = 1 then nm ∈ ins else if k = 2 then nm ∈ gl ∨ 0 < opS nm else if k = 4 then nm.size ≠ 0 ∧ 0 ≤ n ∧ 0 ≤ ar else if k = 9 then 1 ≤ n ∧ n ≤ 11 else if k = 6 then 0 < ps.length ∧ Locs ps else if k = 7 then 0 < bn.length ∧ Locs bn else if k = 8 then 0 < a else True
theorem headR_iff {gl ins : List ByteArray} {k : Int} {nm : ByteArray} {n ar : Int} {ps : List ByteArray} {g a : Nat} {bn : List ByteArray} {q : Nat} :
 HeadOK gl ins k nm n ar ps g a bn q ↔ (1 ≤ k ∧ k ≤ 11) ∧ OkP gl ins k nm n ar ps a bn ∧ nm = nmE k nm ∧ n = nE k n ∧ ar = arE k ar ∧ [(ps.length : Int), g, a, bn.length, q] = wantE k ps.length a bn.length q := by
 by_cases hk : 1 ≤ k ∧ k ≤ 11
 · have : k = 1 ∨ k = 2 ∨ k = 3 ∨ k = 4 ∨ k = 5 ∨ k = 6 ∨ k = 7 ∨ k = 8 ∨ k = 9 ∨ k = 10 ∨ k = 11 := by omega
   rcases this with rfl | rfl | rfl | rfl | rfl | rfl | rfl | rfl | rfl | rfl | rfl
   all_goals simp only [HeadOK, OkP, nmE, nE, arE, wantE, Shp, Zd, reduceIte, or_false, false_or, or_self, or_true, true_or, str_nil, List.cons.injEq, and_true, true_and]
   all_goals constructor
   all_goals intro h
   all_goals grind
 · refine ⟨fun h => absurd (head_no h) hk, fun h => absurd h.1 hk⟩
theorem mem_at {α : Type} {l : List α} {i : Nat} {x : α} (h : l[i]? = some x) : x ∈ l.take (i + 1) := by rw [List.take_add_one, h]; simp
theorem mem_take_up {α : Type} {l : List α} {i : Nat} {x : α} (h : x ∈ l.take i) : x ∈ l.take (i + 1) := by rw [List.take_add_one]; exact List.mem_append_left _ h
end Go.AL
namespace Go.Proofs.Ytjjbjibbjbbeaaa
open Go.AL
theorem has2E (l : List ByteArray) (hl : l.length ≤ 9223372036854775806) (k : ByteArray) (σ : Store) : ACalls Try.prog 52 [strs l, .str k] σ fun r σ' => (∃ b : Bool, r = .bool b ∧ (b = true ↔ k ∈ l)) ∧ σ' = σ :=
 (has2 l hl k σ).mono fun _ _ h => ⟨⟨_, h.1, @decide_eq_true_iff _ (Classical.propDecidable _)⟩, h.2⟩
theorem opE2 (s : ByteArray) (σ : Store) : ACalls Try.prog 50 [.str s] σ fun r σ' => (∃ b : Int, r = .int .i64 b ∧ b = opS s) ∧ σ' = σ := (opE s σ).mono fun _ _ h => ⟨⟨_, h.1, rfl⟩, h.2⟩
abbrev RightD (x : Cr) : Prop := ∀ (σ : Store) (gl ins : List ByteArray), gl.length ≤ 100000000 → ins.length + x.bulk ≤ 50000000 → ACalls Try.prog 53 [.agg x.cells, strs gl, strs ins] σ fun r s => (∃ b : Bool, r = .bool b ∧ (b = true ↔ x.RtE gl ins)) ∧ s = σ
set_option maxHeartbeats 2000000 in
theorem rightDE : ∀ x : Cr, RightD x := by
 intro x
 induction x using Cr.ind with
 | _ k nm n ar ps gs al bs pk ih1 ih2 ih3 ih4 =>
  intro σ gl ins hgl hbk
  rw [Cr.bulk] at hbk
  have l1 := Cr.lenL gs; have l2 := Cr.lenA al; have l3 := Cr.lenB bs; have l4 := Cr.lenP pk
  have hcnt := fun s => counts_ok k nm n ar ps gs al bs pk s
  rw [Cr.cells_eq] at hcnt
  refine ACalls_fp (p := RE ((Cr.mk k nm n ar ps gs al bs pk).RtE gl ins)) ?_
  refine in53 (by simp) ?_
  unfold c53
  rw [Cr.cells_eq]
  try simp only [YY, ↓reduceIte, Za, Zb, Zc, reduceCtorEq, Zd, Ze, Zf, Zg, Zh, Zi, Zj]
  iterate 10 ((with_reducible refine WW (by decide) ?_); refine unr ?_; try simp only [YY, ↓reduceIte, Za, Zb, Zc, reduceCtorEq, Zd, Ze, Zf, Zg, Zh, Zi, Zj])
  generalize hs : Store.push _ _ = s1
  have k1 : Kp σ s1 := by rw [← hs]; exact .pushed _ _
  have he : s1.get σ.next = some (.cells 54 0 9 [[.int .i64 k, .str nm, .int .i64 n, .int .i64 ar, strs ps, .list (gs.map Cr.cells), .list (al.map altC), .list (bs.map bindC), .list (pk.map pickC)]]) := by rw [← hs]; simp [Store.push_get]
  clear hs
  refine AWP_cut [1, 2, 3, 7, 8, 9, 10, 11, 12] (fun b : Bool => [strs gl, strs ins, .ptr σ.next 0 0 0, intsC (wantE k ps.length al.length bs.length pk.length), .str (nmE k nm), .int .i64 (nE k n), .int .i64 (arE k ar), strs (innerE k ins ps (bs.map (·.1))), .bool b])
   (fun b s => s1 = s ∧ Hid ((1 ≤ k ∧ k ≤ 11) ∧ (b = true ↔ OkP gl ins k nm n ar ps al.length (bs.map (·.1))))) ?_ ?_
  · by_cases h1 : k = 1
    · subst h1
      refine raw ?_
      repeat' (first | (with_reducible refine unr ?_; try simp only [YY, ↓reduceIte, Za, Zb, Zc, reduceCtorEq, Zd, Ze, Zf, Zg, Zh, Zi, Zj, he, str_nil, *]) | (with_reducible first | refine WW (by decide) ?_ | refine ok_idx (by first | assumption | omega) (fun b hb => raw ?_) | refine ok_iad (by first | assumption | omega) (fun x hx hxm => raw ?_) | refine And.intro (by omega) (raw ?_) | (refine guardW_b (fun h => raw ?_) (fun h => raw ?_) <;> try simp only [Ty] at h) | (refine ePick_b (fun h => raw ?_) (fun h => raw ?_) <;> try simp only [Ty] at h) | (refine condW_b (fun h => raw ?_) (fun h => raw ?_) <;> try simp only [Ty] at h) | (refine (has2E ins (by omega) _ _).mono ?_; rintro _ _ ⟨⟨b, rfl, hb⟩, rfl⟩; refine raw ?_)))
      exact ⟨_, rfl, ⟨by simp only [OkP, Zd, reduceIte, Zf]; exact hb⟩⟩
    by_cases h2 : k = 2
    · subst h2
      refine raw ?_
      repeat' (first | (with_reducible refine unr ?_; try simp only [YY, ↓reduceIte, Za, Zb, Zc, reduceCtorEq, Zd, Ze, Zf, Zg, Zh, Zi, Zj, he, str_nil, *]) | (with_reducible first | refine WW (by decide) ?_ | refine ok_idx (by first | assumption | omega) (fun b hb => raw ?_) | refine ok_iad (by first | assumption | omega) (fun x hx hxm => raw ?_) | refine And.intro (by omega) (raw ?_) | (refine guardW_b (fun h => raw ?_) (fun h => raw ?_) <;> try simp only [Ty] at h) | (refine ePick_b (fun h => raw ?_) (fun h => raw ?_) <;> try simp only [Ty] at h) | (refine condW_b (fun h => raw ?_) (fun h => raw ?_) <;> try simp only [Ty] at h) | (refine (has2E gl (by omega) _ _).mono ?_; rintro _ _ ⟨⟨b, rfl, hb⟩, rfl⟩; refine raw ?_) | (refine (opE2 _ _).mono ?_; rintro _ _ ⟨⟨b, rfl, hb⟩, rfl⟩; refine raw ?_)))
      · exact ⟨_, rfl, ⟨by simp only [OkP, Zd, reduceIte, Zf]; exact ⟨fun _ => .inl (by first | exact hb.1 h | exact hb.1 ‹_›), fun _ => by first | rfl | trivial⟩⟩⟩
      · exact ⟨_, rfl, ⟨by simp only [OkP, Zd, reduceIte, Zf]; rw [decide_eq_true_iff]; exact ⟨fun e => .inr e, fun hh => hh.resolve_left (iff_f (p := nm ∈ gl) (by assumption) h)⟩⟩⟩
    by_cases h3 : k = 3
    · subst h3
      refine raw ?_
      repeat' (first | (with_reducible refine unr ?_; try simp only [YY, ↓reduceIte, Za, Zb, Zc, reduceCtorEq, Zd, Ze, Zf, Zg, Zh, Zi, Zj, he, str_nil, *]) | (with_reducible first | refine WW (by decide) ?_ | refine ok_idx (by first | assumption | omega) (fun b hb => raw ?_) | refine ok_iad (by first | assumption | omega) (fun x hx hxm => raw ?_) | refine And.intro (by omega) (raw ?_) | (refine guardW_b (fun h => raw ?_) (fun h => raw ?_) <;> try simp only [Ty] at h) | (refine ePick_b (fun h => raw ?_) (fun h => raw ?_) <;> try simp only [Ty] at h) | (refine condW_b (fun h => raw ?_) (fun h => raw ?_) <;> try simp only [Ty] at h)))
      exact ⟨_, rfl, ⟨by simp only [OkP, Zd, reduceIte, Zf]⟩⟩
    by_cases h10 : k = 10
    · subst h10
      refine raw ?_
      repeat' (first | (with_reducible refine unr ?_; try simp only [YY, ↓reduceIte, Za, Zb, Zc, reduceCtorEq, Zd, Ze, Zf, Zg, Zh, Zi, Zj, he, str_nil, *]) | (with_reducible first | refine WW (by decide) ?_ | refine ok_idx (by first | assumption | omega) (fun b hb => raw ?_) | refine ok_iad (by first | assumption | omega) (fun x hx hxm => raw ?_) | refine And.intro (by omega) (raw ?_) | (refine guardW_b (fun h => raw ?_) (fun h => raw ?_) <;> try simp only [Ty] at h) | (refine ePick_b (fun h => raw ?_) (fun h => raw ?_) <;> try simp only [Ty] at h) | (refine condW_b (fun h => raw ?_) (fun h => raw ?_) <;> try simp only [Ty] at h)))
      exact ⟨_, rfl, ⟨by simp only [OkP, Zd, reduceIte, Zf]⟩⟩
    by_cases h4 : k = 4
    · subst h4
      refine raw ?_
      repeat' (first | (with_reducible refine unr ?_; try simp only [YY, ↓reduceIte, Za, Zb, Zc, reduceCtorEq, Zd, Ze, Zf, Zg, Zh, Zi, Zj, he, str_nil, *]) | (with_reducible first | refine WW (by decide) ?_ | refine ok_idx (by first | assumption | omega) (fun b hb => raw ?_) | refine ok_iad (by first | assumption | omega) (fun x hx hxm => raw ?_) | refine And.intro (by omega) (raw ?_) | (refine guardW_b (fun h => raw ?_) (fun h => raw ?_) <;> try simp only [Ty] at h) | (refine ePick_b (fun h => raw ?_) (fun h => raw ?_) <;> try simp only [Ty] at h) | (refine condW_b (fun h => raw ?_) (fun h => raw ?_) <;> try simp only [Ty] at h)))
      · exact ⟨_, rfl, ⟨by simp only [OkP, Zd, reduceIte, Zf]; rw [decide_eq_true_iff]; omega⟩⟩
      all_goals exact ⟨_, rfl, ⟨by simp only [OkP, Zd, reduceIte, Zf]; exact ⟨fun e => (by first | cases e | exact e.elim), fun hh => by omega⟩⟩⟩
    by_cases h5 : k = 5
    · subst h5
      refine raw ?_
      repeat' (first | (with_reducible refine unr ?_; try simp only [YY, ↓reduceIte, Za, Zb, Zc, reduceCtorEq, Zd, Ze, Zf, Zg, Zh, Zi, Zj, he, str_nil, *]) | (with_reducible first | refine WW (by decide) ?_ | refine ok_idx (by first | assumption | omega) (fun b hb => raw ?_) | refine ok_iad (by first | assumption | omega) (fun x hx hxm => raw ?_) | refine And.intro (by omega) (raw ?_) | (refine guardW_b (fun h => raw ?_) (fun h => raw ?_) <;> try simp only [Ty] at h) | (refine ePick_b (fun h => raw ?_) (fun h => raw ?_) <;> try simp only [Ty] at h) | (refine condW_b (fun h => raw ?_) (fun h => raw ?_) <;> try simp only [Ty] at h)))
      exact ⟨_, rfl, ⟨by simp only [OkP, Zd, reduceIte, Zf]⟩⟩
    by_cases h9 : k = 9
    · subst h9
      refine raw ?_
      repeat' (first | (with_reducible refine unr ?_; try simp only [YY, ↓reduceIte, Za, Zb, Zc, reduceCtorEq, Zd, Ze, Zf, Zg, Zh, Zi, Zj, he, str_nil, *]) | (with_reducible first | refine WW (by decide) ?_ | refine ok_idx (by first | assumption | omega) (fun b hb => raw ?_) | refine ok_iad (by first | assumption | omega) (fun x hx hxm => raw ?_) | refine And.intro (by omega) (raw ?_) | (refine guardW_b (fun h => raw ?_) (fun h => raw ?_) <;> try simp only [Ty] at h) | (refine ePick_b (fun h => raw ?_) (fun h => raw ?_) <;> try simp only [Ty] at h) | (refine condW_b (fun h => raw ?_) (fun h => raw ?_) <;> try simp only [Ty] at h)))
      · exact ⟨_, rfl, ⟨by simp only [OkP, Zd, reduceIte, Zf]; rw [decide_eq_true_iff]; omega⟩⟩
      all_goals exact ⟨_, rfl, ⟨by simp only [OkP, Zd, reduceIte, Zf]; exact ⟨fun e => (by first | cases e | exact e.elim), fun hh => by omega⟩⟩⟩
    by_cases h6 : k = 6
    · subst h6
      refine raw ?_
      repeat' (first | (with_reducible refine unr ?_; try simp only [YY, ↓reduceIte, Za, Zb, Zc, reduceCtorEq, Zd, Ze, Zf, Zg, Zh, Zi, Zj, he, str_nil, *]) | (with_reducible first | refine WW (by decide) ?_ | refine ok_idx (by first | assumption | omega) (fun b hb => raw ?_) | refine ok_iad (by first | assumption | omega) (fun x hx hxm => raw ?_) | refine And.intro (by omega) (raw ?_) | (refine guardW_b (fun h => raw ?_) (fun h => raw ?_) <;> try simp only [Ty] at h) | (refine ePick_b (fun h => raw ?_) (fun h => raw ?_) <;> try simp only [Ty] at h) | (refine condW_b (fun h => raw ?_) (fun h => raw ?_) <;> try simp only [Ty] at h) | (refine (localsE2 _ (by omega) _).mono ?_; rintro _ _ ⟨⟨b, rfl, hb⟩, rfl⟩; refine raw ?_) | (refine (joined15 _ _ (by omega) _).mono ?_; rintro _ _ ⟨rfl, rfl⟩; refine raw ?_)))
      · exact ⟨_, rfl, ⟨by simp only [OkP, Zd, reduceIte, Zf]; exact ⟨fun e => ⟨by omega, hb.1 e⟩, fun hh => hb.2 hh.2⟩⟩⟩
      all_goals exact ⟨_, rfl, ⟨by simp only [OkP, Zd, reduceIte, Zf]; exact ⟨fun e => (by first | cases e | exact e.elim), fun hh => by omega⟩⟩⟩
    by_cases h7 : k = 7
    · subst h7
      refine raw ?_
      repeat' (first | (with_reducible refine unr ?_; try simp only [YY, ↓reduceIte, Za, Zb, Zc, reduceCtorEq, Zd, Ze, Zf, Zg, Zh, Zi, Zj, he, str_nil, *]) | (with_reducible first | refine WW (by decide) ?_ | refine ok_idx (by first | assumption | omega) (fun b hb => raw ?_) | refine ok_iad (by first | assumption | omega) (fun x hx hxm => raw ?_) | refine And.intro (by omega) (raw ?_) | (refine guardW_b (fun h => raw ?_) (fun h => raw ?_) <;> try simp only [Ty] at h) | (refine ePick_b (fun h => raw ?_) (fun h => raw ?_) <;> try simp only [Ty] at h) | (refine condW_b (fun h => raw ?_) (fun h => raw ?_) <;> try simp only [Ty] at h) | (refine (localsE2 _ (by (try simp); omega) _).mono ?_; rintro _ _ ⟨⟨b, rfl, hb⟩, rfl⟩; refine raw ?_) | (refine (names15 _ (by omega) _).mono ?_; rintro _ _ ⟨rfl, rfl⟩; refine raw ?_) | (refine (joined15 _ _ (by (try simp); omega) _).mono ?_; rintro _ _ ⟨rfl, rfl⟩; refine raw ?_)))
      · exact ⟨_, rfl, ⟨by simp only [OkP, Zd, reduceIte, Zf]; exact ⟨fun e => ⟨by rw [List.length_map]; omega, hb.1 e⟩, fun hh => hb.2 hh.2⟩⟩⟩
      all_goals exact ⟨_, rfl, ⟨by simp only [OkP, Zd, reduceIte, Zf]; exact ⟨fun e => (by first | cases e | exact e.elim), fun hh => by have := hh.1; rw [List.length_map] at this; omega⟩⟩⟩
    by_cases h8 : k = 8
    · subst h8
      refine raw ?_
      repeat' (first | (with_reducible refine unr ?_; try simp only [YY, ↓reduceIte, Za, Zb, Zc, reduceCtorEq, Zd, Ze, Zf, Zg, Zh, Zi, Zj, he, str_nil, *]) | (with_reducible first | refine WW (by decide) ?_ | refine ok_idx (by first | assumption | omega) (fun b hb => raw ?_) | refine ok_iad (by first | assumption | omega) (fun x hx hxm => raw ?_) | refine And.intro (by omega) (raw ?_) | (refine guardW_b (fun h => raw ?_) (fun h => raw ?_) <;> try simp only [Ty] at h) | (refine ePick_b (fun h => raw ?_) (fun h => raw ?_) <;> try simp only [Ty] at h) | (refine condW_b (fun h => raw ?_) (fun h => raw ?_) <;> try simp only [Ty] at h)))
      exact ⟨_, rfl, ⟨by simp only [OkP, Zd, reduceIte, Zf]; rw [decide_eq_true_iff]; omega⟩⟩
    by_cases h11 : k = 11
    · subst h11
      refine raw ?_
      repeat' (first | (with_reducible refine unr ?_; try simp only [YY, ↓reduceIte, Za, Zb, Zc, reduceCtorEq, Zd, Ze, Zf, Zg, Zh, Zi, Zj, he, str_nil, *]) | (with_reducible first | refine WW (by decide) ?_ | refine ok_idx (by first | assumption | omega) (fun b hb => raw ?_) | refine ok_iad (by first | assumption | omega) (fun x hx hxm => raw ?_) | refine And.intro (by omega) (raw ?_) | (refine guardW_b (fun h => raw ?_) (fun h => raw ?_) <;> try simp only [Ty] at h) | (refine ePick_b (fun h => raw ?_) (fun h => raw ?_) <;> try simp only [Ty] at h) | (refine condW_b (fun h => raw ?_) (fun h => raw ?_) <;> try simp only [Ty] at h)))
      exact ⟨_, rfl, ⟨by simp only [OkP, Zd, reduceIte, Zf]⟩⟩
    refine raw ?_
    repeat (first | (with_reducible refine unr ?_; try simp only [YY, ↓reduceIte, Za, Zb, Zc, reduceCtorEq, Zd, Ze, Zf, Zg, Zh, Zi, Zj, he, h1, h2, h3, h4, h5, h6, h7, h8, h9, h10, h11]) | (with_reducible refine WW (by decide) ?_))
    exact FP.same k1 (RE.f fun hh => by have h' := head_no (rtE_iff.1 hh).hh; omega) (.bool _)
  rintro b _ ⟨rfl, hb⟩
  have hcn : ∀ c : Bool, (c = true ↔ [(ps.length : Int), gs.length, al.length, bs.length, pk.length] = wantE k ps.length al.length bs.length pk.length) → b = true → nm = nmE k nm → n = nE k n → ar = arE k ar → (c = true ↔ HeadOK gl ins k nm n ar ps gs.length al.length (bs.map (·.1)) pk.length) := by
   intro c hc h1 h2 h3 h4
   rw [headR_iff, List.length_map]
   exact hc.trans ⟨fun e => ⟨hb.out.1, hb.out.2.1 h1, h2, h3, h4, e⟩, fun h => h.2.2.2.2.2⟩
  have hno : ∀ h : HeadOK gl ins k nm n ar ps gs.length al.length (bs.map (·.1)) pk.length, b = true ∧ nm = nmE k nm ∧ n = nE k n ∧ ar = arE k ar := by
   intro h
   have h := headR_iff.1 h
   exact ⟨hb.out.2.2 h.2.1, h.2.2.1, h.2.2.2.1, h.2.2.2.2.1⟩
  clear hb
  have hinl : (innerE k ins ps (bs.map (·.1))).length ≤ ins.length + ps.length + bs.length := by
   unfold innerE
   split
   · rw [List.length_append]; omega
   · split
     · rw [List.length_append, List.length_map]; omega
     · omega
  have hin : (innerE k ins ps (bs.map (·.1))).length + Cr.bulkL gs ≤ 50000000 := by omega
  have hin2 : ∀ z, z ∈ bs → (innerE k ins ps (bs.map (·.1))).length + z.2.bulk ≤ 50000000 := fun z hz => by
   have := Cr.bulkB_le2 hz
   omega
  generalize hinner : innerE k ins ps (bs.map (·.1)) = inner at hinl hin hin2
  replace hinner : Hid (innerE k ins ps (bs.map (·.1)) = inner) := ⟨hinner⟩
  generalize wantE k ps.length al.length bs.length pk.length = want at hcn
  generalize nmE k nm = nm' at hcn hno
  generalize nE k n = n' at hcn hno
  generalize arE k ar = ar' at hcn hno
  refine AWP_cut [1, 2, 3, 11, 12] (fun _ : Unit => [strs gl, strs ins, .ptr σ.next 0 0 0, strs inner, .bool true]) (fun _ s => s1 = s ∧ Hid (HeadOK gl ins k nm n ar ps gs.length al.length (bs.map (·.1)) pk.length)) ?_ ?_
  · cases b with
    | false =>
     refine raw ?_
     repeat (first | (with_reducible refine unr ?_; try simp only [YY, ↓reduceIte, Za, Zb, Zc, reduceCtorEq, Zd, Ze, Zf, Zg, Zh, Zi, Zj, he]) | (with_reducible refine WW (by decide) ?_))
     exact FP.same k1 (RE.f fun hh => by have := (hno (rtE_iff.1 hh).hh).1; cases this) (.bool _)
    | true =>
    by_cases q1 : nm = nm'
    · by_cases q2 : n = n'
      · by_cases q3 : ar = ar'
        · subst q1 q2 q3
          refine raw ?_
          repeat (first | (with_reducible refine unr ?_; try simp only [YY, ↓reduceIte, Za, Zb, Zc, reduceCtorEq, Zd, Ze, Zf, Zg, Zh, Zi, Zj, he]) | (with_reducible refine WW (by decide) ?_))
          refine (hcnt _).mono ?_
          rintro _ s1 ⟨rfl, rfl⟩
          refine raw ?_
          repeat (first | (with_reducible refine unr ?_; try simp only [YY, ↓reduceIte, Za, Zb, Zc, reduceCtorEq, Zd, Ze, Zf, Zg, Zh, Zi, Zj]) | (with_reducible refine WW (by decide) ?_))
          refine (sameInts _ _ (by simp) _).mono ?_
          rintro _ s1 ⟨⟨c, rfl, hc⟩, rfl⟩
          have hcc := hcn c hc rfl rfl rfl rfl
          cases c with
          | false =>
           refine raw ?_
           repeat (first | (with_reducible refine unr ?_; try simp only [YY, ↓reduceIte, Za, Zb, Zc, reduceCtorEq, Zd, Ze, Zf, Zg, Zh, Zi, Zj]) | (with_reducible refine WW (by decide) ?_))
           exact FP.same k1 (RE.f fun hh => iff_f hcc rfl (rtE_iff.1 hh).hh) (.bool _)
          | true =>
           refine raw ?_
           repeat (first | (with_reducible refine unr ?_; try simp only [YY, ↓reduceIte, Za, Zb, Zc, reduceCtorEq, Zd, Ze, Zf, Zg, Zh, Zi, Zj]) | (with_reducible refine WW (by decide) ?_))
           exact ⟨(), ⟨hcc.1 rfl⟩⟩
        · refine raw ?_
          repeat (first | (with_reducible refine unr ?_; try simp only [YY, ↓reduceIte, Za, Zb, Zc, reduceCtorEq, Zd, Ze, Zf, Zg, Zh, Zi, Zj, he, q1, q2, q3]) | (with_reducible refine WW (by decide) ?_))
          exact FP.same k1 (RE.f fun hh => q3 (hno (rtE_iff.1 hh).hh).2.2.2) (.bool _)
      · refine raw ?_
        repeat (first | (with_reducible refine unr ?_; try simp only [YY, ↓reduceIte, Za, Zb, Zc, reduceCtorEq, Zd, Ze, Zf, Zg, Zh, Zi, Zj, he, q1, q2]) | (with_reducible refine WW (by decide) ?_))
        exact FP.same k1 (RE.f fun hh => q2 (hno (rtE_iff.1 hh).hh).2.2.1) (.bool _)
    · refine raw ?_
      repeat (first | (with_reducible refine unr ?_; try simp only [YY, ↓reduceIte, Za, Zb, Zc, reduceCtorEq, Zd, Ze, Zf, Zg, Zh, Zi, Zj, he, q1]) | (with_reducible refine WW (by decide) ?_))
      exact FP.same k1 (RE.f fun hh => q1 (hno (rtE_iff.1 hh).hh).2.1) (.bool _)
  rintro _ _ ⟨rfl, hH⟩
  clear hcn hno hcnt
  refine AWP_cut [1, 2, 3, 11, 12] (fun b : Bool => [strs gl, strs ins, .ptr σ.next 0 0 0, strs inner, .bool b]) (fun b s => s1 = s ∧ Hid (b = true ↔ ∀ x, x ∈ gs → x.RtE gl inner)) ?_ ?_
  · refine raw ?_
    repeat (first | (with_reducible refine unr ?_; try simp only [YY, ↓reduceIte, Za, Zb, Zc, reduceCtorEq, Zd, Ze, Zf, Zg, Zh, Zi, Zj]) | (with_reducible refine WW (by decide) ?_))
    refine AWP_while [1, 2, 3, 11, 12, 13] (fun y : Bool × Nat => gs.length - y.2) (fun y => [strs gl, strs ins, .ptr σ.next 0 0 0, strs inner, .bool y.1, .int .i64 y.2]) (fun y t => s1 = t ∧ y.2 ≤ gs.length ∧ Hid (y.1 = true ↔ ∀ x, x ∈ gs.take y.2 → x.RtE gl inner)) (true, 0) ⟨rfl, by simp, ⟨by simp⟩⟩ ?_ ?_
    · refine raw ?_
      repeat (first | (with_reducible refine unr ?_; try simp only [YY, ↓reduceIte, Za, Zb, Zc, reduceCtorEq, Zd, Ze, Zf, Zg, Zh, Zi, Zj]) | (with_reducible refine WW (by decide) ?_))
      rfl
    rintro ⟨b, i⟩ _ ⟨rfl, hi, hb⟩
    simp only at hi hb
    have hw := wrap_succ (i := i) (by omega)
    by_cases hil : i < gs.length
    · have hil' : (i : Int) < (gs.length : Int) := by omega
      obtain ⟨x, hx⟩ : ∃ x, gs[i]? = some x := ⟨_, List.getElem?_eq_getElem hil⟩
      have hg : (gs.map Cr.cells)[i]? = some (Cr.cells x) := by simp [hx]
      have hxm := List.mem_of_getElem? hx
      have hxb := Cr.bulkL_le hxm
      have hmem := mem_at (l := gs) hx
      cases b with
      | false =>
       refine raw ?_
       repeat (first | (with_reducible refine unr ?_; try simp only [YY, ↓reduceIte, Za, Zb, Zc, reduceCtorEq, Zd, Ze, Zf, Zg, Zh, Zi, Zj, he, hil', hw]) | (with_reducible refine WW (by decide) ?_))
       exact ⟨(false, i + 1), rfl, ⟨by simp only; omega, ⟨by simp only; exact ⟨fun e => (by cases e), fun hh => hb.out.2 fun y hy => hh y (mem_take_up hy)⟩⟩⟩, by simp only; omega⟩
      | true =>
       refine raw ?_
       repeat (first | (with_reducible refine unr ?_; try simp only [YY, ↓reduceIte, Za, Zb, Zc, reduceCtorEq, Zd, Ze, Zf, Zg, Zh, Zi, Zj, he, hil', hg, Cr.len, Cr.take9]) | (with_reducible refine WW (by decide) ?_))
       refine (ih1 x hxm _ gl inner hgl (by omega)).mono ?_
       rintro _ s1 ⟨⟨c, rfl, hc⟩, rfl⟩
       refine raw ?_
       repeat (first | (with_reducible refine unr ?_; try simp only [YY, ↓reduceIte, Za, Zb, Zc, reduceCtorEq, Zd, Ze, Zf, Zg, Zh, Zi, Zj, hw]) | (with_reducible refine WW (by decide) ?_))
       exact ⟨(c, i + 1), rfl, ⟨by simp only; omega, ⟨by simp only; exact ⟨fun e => all_succ (hb.out.1 rfl) hx (hc.1 e), fun hh => hc.2 (hh x hmem)⟩⟩⟩, by simp only; omega⟩
    · have hil' : ¬ (i : Int) < (gs.length : Int) := by omega
      have hb := hb.out
      rw [List.take_of_length_le (by omega)] at hb
      refine raw ?_
      repeat (first | (with_reducible refine unr ?_; try simp only [YY, ↓reduceIte, Za, Zb, Zc, reduceCtorEq, Zd, Ze, Zf, Zg, Zh, Zi, Zj, he, hil']) | (with_reducible refine WW (by decide) ?_))
      exact ⟨b, rfl, ⟨hb⟩⟩
  rintro b1 _ ⟨rfl, hb1⟩
  refine AWP_cut [1, 2, 3, 12] (fun b : Bool => [strs gl, strs ins, .ptr σ.next 0 0 0, .bool b]) (fun b s => s1 = s ∧ Hid (b = true ↔ (∀ x, x ∈ gs → x.RtE gl inner) ∧ ∀ x, x ∈ bs → x.2.RtE gl inner)) ?_ ?_
  · refine raw ?_
    repeat (first | (with_reducible refine unr ?_; try simp only [YY, ↓reduceIte, Za, Zb, Zc, reduceCtorEq, Zd, Ze, Zf, Zg, Zh, Zi, Zj]) | (with_reducible refine WW (by decide) ?_))
    refine AWP_while [1, 2, 3, 11, 12, 14] (fun y : Bool × Nat => bs.length - y.2) (fun y => [strs gl, strs ins, .ptr σ.next 0 0 0, strs inner, .bool y.1, .int .i64 y.2]) (fun y t => s1 = t ∧ y.2 ≤ bs.length ∧ Hid (y.1 = true ↔ (∀ x, x ∈ gs → x.RtE gl inner) ∧ ∀ x, x ∈ bs.take y.2 → x.2.RtE gl inner)) (b1, 0) ⟨rfl, by simp, ⟨by simpa using hb1.out⟩⟩ ?_ ?_
    · refine raw ?_
      repeat (first | (with_reducible refine unr ?_; try simp only [YY, ↓reduceIte, Za, Zb, Zc, reduceCtorEq, Zd, Ze, Zf, Zg, Zh, Zi, Zj]) | (with_reducible refine WW (by decide) ?_))
      rfl
    clear hb1
    rintro ⟨b, i⟩ _ ⟨rfl, hi, hb⟩
    simp only at hi hb
    have hw := wrap_succ (i := i) (by omega)
    by_cases hil : i < bs.length
    · have hil' : (i : Int) < (bs.length : Int) := by omega
      obtain ⟨x, hx⟩ : ∃ x, bs[i]? = some x := ⟨_, List.getElem?_eq_getElem hil⟩
      have hg : (bs.map bindC)[i]? = some (bindC x) := by simp [hx]
      have hxm := List.mem_of_getElem? hx
      have hxb := Cr.bulkB_le hxm
      have hmem := mem_at (l := bs) hx
      cases b with
      | false =>
       refine raw ?_
       repeat (first | (with_reducible refine unr ?_; try simp only [YY, ↓reduceIte, Za, Zb, Zc, reduceCtorEq, Zd, Ze, Zf, Zg, Zh, Zi, Zj, he, hil', hw]) | (with_reducible refine WW (by decide) ?_))
       exact ⟨(false, i + 1), rfl, ⟨by simp only; omega, ⟨by simp only; exact ⟨fun e => (by cases e), fun hh => hb.out.2 ⟨hh.1, fun y hy => hh.2 y (mem_take_up hy)⟩⟩⟩⟩, by simp only; omega⟩
      | true =>
       refine raw ?_
       repeat (first | (with_reducible refine unr ?_; try simp only [YY, ↓reduceIte, Za, Zb, Zc, reduceCtorEq, Zd, Ze, Zf, Zg, Zh, Zi, Zj, he, hil', hg, bindC, Cr.len, Cr.take9]) | (with_reducible refine WW (by decide) ?_))
       refine (ih3 x hxm _ gl inner hgl (hin2 x hxm)).mono ?_
       rintro _ s1 ⟨⟨c, rfl, hc⟩, rfl⟩
       refine raw ?_
       repeat (first | (with_reducible refine unr ?_; try simp only [YY, ↓reduceIte, Za, Zb, Zc, reduceCtorEq, Zd, Ze, Zf, Zg, Zh, Zi, Zj, hw]) | (with_reducible refine WW (by decide) ?_))
       exact ⟨(c, i + 1), rfl, ⟨by simp only; omega, ⟨by simp only; exact ⟨fun e => ⟨(hb.out.1 rfl).1, all_succ (p := fun x => x.2.RtE gl inner) (hb.out.1 rfl).2 hx (hc.1 e)⟩, fun hh => hc.2 (hh.2 x hmem)⟩⟩⟩, by simp only; omega⟩
    · have hil' : ¬ (i : Int) < (bs.length : Int) := by omega
      have hb := hb.out
      rw [List.take_of_length_le (by omega)] at hb
      refine raw ?_
      repeat (first | (with_reducible refine unr ?_; try simp only [YY, ↓reduceIte, Za, Zb, Zc, reduceCtorEq, Zd, Ze, Zf, Zg, Zh, Zi, Zj, he, hil']) | (with_reducible refine WW (by decide) ?_))
      exact ⟨b, rfl, ⟨hb⟩⟩
  clear hb1
  rintro b2 _ ⟨rfl, hb2⟩
  obtain ⟨A, hA⟩ : ∃ A : Prop, A = ((∀ x, x ∈ gs → x.RtE gl inner) ∧ ∀ x, x ∈ bs → x.2.RtE gl inner) := ⟨_, rfl⟩
  rw [← hA] at hb2
  replace hA : Hid (A = ((∀ x, x ∈ gs → x.RtE gl inner) ∧ ∀ x, x ∈ bs → x.2.RtE gl inner)) := ⟨hA⟩
  refine AWP_cut [1, 2, 3, 12] (fun b : Bool => [strs gl, strs ins, .ptr σ.next 0 0 0, .bool b]) (fun b s => s1 = s ∧ Hid (b = true ↔ A ∧ (pk.map (·.1)).Nodup ∧ ∀ x, x ∈ pk → x.2.RtE gl ins)) ?_ ?_
  · refine raw ?_
    repeat (first | (with_reducible refine unr ?_; try simp only [YY, ↓reduceIte, Za, Zb, Zc, reduceCtorEq, Zd, Ze, Zf, Zg, Zh, Zi, Zj]) | (with_reducible refine WW (by decide) ?_))
    refine AWP_while [1, 2, 3, 12, 15] (fun y : Bool × Nat => pk.length - y.2) (fun y => [strs gl, strs ins, .ptr σ.next 0 0 0, .bool y.1, .int .i64 y.2]) (fun y t => s1 = t ∧ y.2 ≤ pk.length ∧ Hid (y.1 = true ↔ A ∧ ((pk.map (·.1)).take y.2).Nodup ∧ ∀ x, x ∈ pk.take y.2 → x.2.RtE gl ins)) (b2, 0) ⟨rfl, by simp, ⟨by simpa using hb2.out⟩⟩ ?_ ?_
    · refine raw ?_
      repeat (first | (with_reducible refine unr ?_; try simp only [YY, ↓reduceIte, Za, Zb, Zc, reduceCtorEq, Zd, Ze, Zf, Zg, Zh, Zi, Zj]) | (with_reducible refine WW (by decide) ?_))
      rfl
    clear hb2
    rintro ⟨b, i⟩ _ ⟨rfl, hi, hb⟩
    simp only at hi hb
    have hw := wrap_succ (i := i) (by omega)
    by_cases hil : i < pk.length
    · have hil' : (i : Int) < (pk.length : Int) := by omega
      obtain ⟨x, hx⟩ : ∃ x, pk[i]? = some x := ⟨_, List.getElem?_eq_getElem hil⟩
      have hg : (pk.map pickC)[i]? = some (pickC x) := by simp [hx]
      have hx1 : (pk.map (·.1))[i]? = some x.1 := by simp [hx]
      have hxm := List.mem_of_getElem? hx
      have hxb := Cr.bulkP_le hxm
      have hmem := mem_at (l := pk) hx
      try simp only [YY, ↓reduceIte, Za, Zb, Zc, reduceCtorEq, Zd, Ze, Zf, Zg, Zh, Zi, Zj, he, hil']
      iterate 7 ((with_reducible refine WW (by decide) ?_); refine unr ?_; try simp only [YY, ↓reduceIte, Za, Zb, Zc, reduceCtorEq, Zd, Ze, Zf, Zg, Zh, Zi, Zj, he, hil'])
      refine AWP_cut [1, 2, 3, 12, 15] (fun c : Bool => [strs gl, strs ins, .ptr σ.next 0 0 0, .bool c, .int .i64 i]) (fun c s => s1 = s ∧ Hid (c = true ↔ A ∧ ((pk.map (·.1)).take i).Nodup ∧ ∀ x, x ∈ pk.take (i + 1) → x.2.RtE gl ins)) ?_ ?_
      · cases b with
        | false =>
         refine raw ?_
         repeat (first | (with_reducible refine unr ?_; try simp only [YY, ↓reduceIte, Za, Zb, Zc, reduceCtorEq, Zd, Ze, Zf, Zg, Zh, Zi, Zj, he]) | (with_reducible refine WW (by decide) ?_))
         exact ⟨false, rfl, ⟨fun e => (by cases e), fun hh => hb.out.2 ⟨hh.1, hh.2.1, fun y hy => hh.2.2 y (mem_take_up hy)⟩⟩⟩
        | true =>
         refine raw ?_
         repeat (first | (with_reducible refine unr ?_; try simp only [YY, ↓reduceIte, Za, Zb, Zc, reduceCtorEq, Zd, Ze, Zf, Zg, Zh, Zi, Zj, he, hg, pickC, Cr.len, Cr.take9]) | (with_reducible refine WW (by decide) ?_))
         refine (ih4 x hxm _ gl ins hgl (by omega)).mono ?_
         rintro _ s1 ⟨⟨c, rfl, hc⟩, rfl⟩
         refine raw ?_
         repeat (first | (with_reducible refine unr ?_; try simp only [YY, ↓reduceIte, Za, Zb, Zc, reduceCtorEq, Zd, Ze, Zf, Zg, Zh, Zi, Zj]) | (with_reducible refine WW (by decide) ?_))
         exact ⟨c, rfl, ⟨fun e => ⟨(hb.out.1 rfl).1, (hb.out.1 rfl).2.1, all_succ (p := fun x => x.2.RtE gl ins) (hb.out.1 rfl).2.2 hx (hc.1 e)⟩, fun hh => hc.2 (hh.2.2 x hmem)⟩⟩
      clear hb
      rintro c _ ⟨rfl, hc⟩
      refine raw ?_
      repeat (first | (with_reducible refine unr ?_; try simp only [YY, ↓reduceIte, Za, Zb, Zc, reduceCtorEq, Zd, Ze, Zf, Zg, Zh, Zi, Zj]) | (with_reducible refine WW (by decide) ?_))
      refine AWP_while [1, 2, 3, 12, 15, 16] (fun y : Bool × Nat => i - y.2) (fun y => [strs gl, strs ins, .ptr σ.next 0 0 0, .bool y.1, .int .i64 i, .int .i64 y.2]) (fun y t => s1 = t ∧ y.2 ≤ i ∧ Hid (y.1 = true ↔ (A ∧ ((pk.map (·.1)).take i).Nodup ∧ ∀ x, x ∈ pk.take (i + 1) → x.2.RtE gl ins) ∧ x.1 ∉ (pk.map (·.1)).take y.2)) (c, 0) ⟨rfl, by simp, ⟨by simpa using hc.out⟩⟩ ?_ ?_
      · refine raw ?_
        repeat (first | (with_reducible refine unr ?_; try simp only [YY, ↓reduceIte, Za, Zb, Zc, reduceCtorEq, Zd, Ze, Zf, Zg, Zh, Zi, Zj]) | (with_reducible refine WW (by decide) ?_))
        rfl
      clear hc
      rintro ⟨c, j⟩ _ ⟨rfl, hj, hc⟩
      simp only at hj hc
      have hwj := wrap_succ (i := j) (by omega)
      by_cases hjl : j < i
      · have hjl' : (j : Int) < (i : Int) := by omega
        obtain ⟨z, hz⟩ : ∃ z, pk[j]? = some z := ⟨_, List.getElem?_eq_getElem (by omega)⟩
        have hgz : (pk.map pickC)[j]? = some (pickC z) := by simp [hz]
        have hz1 : (pk.map (·.1))[j]? = some z.1 := by simp [hz]
        have hzm := mem_at (l := pk.map (·.1)) hz1
        cases c with
        | false =>
         refine raw ?_
         repeat (first | (with_reducible refine unr ?_; try simp only [YY, ↓reduceIte, Za, Zb, Zc, reduceCtorEq, Zd, Ze, Zf, Zg, Zh, Zi, Zj, he, hjl', hwj]) | (with_reducible refine WW (by decide) ?_))
         exact ⟨(false, j + 1), rfl, ⟨by simp only; omega, ⟨by simp only; exact ⟨fun e => (by cases e), fun hh => hc.out.2 ⟨hh.1, fun hm => hh.2 (mem_take_up hm)⟩⟩⟩⟩, by simp only; omega⟩
        | true =>
         by_cases hzx : z.1 = x.1
         · refine raw ?_
           repeat (first | (with_reducible refine unr ?_; try simp only [YY, ↓reduceIte, Za, Zb, Zc, reduceCtorEq, Zd, Ze, Zf, Zg, Zh, Zi, Zj, he, hjl', hg, hgz, pickC, Cr.len, hzx, hwj]) | (with_reducible refine WW (by decide) ?_))
           exact ⟨(false, j + 1), rfl, ⟨by simp only; omega, ⟨by simp only; exact ⟨fun e => (by cases e), fun hh => absurd (by rw [← hzx]; exact hzm) hh.2⟩⟩⟩, by simp only; omega⟩
         · refine raw ?_
           repeat (first | (with_reducible refine unr ?_; try simp only [YY, ↓reduceIte, Za, Zb, Zc, reduceCtorEq, Zd, Ze, Zf, Zg, Zh, Zi, Zj, he, hjl', hg, hgz, pickC, Cr.len, hzx, hwj]) | (with_reducible refine WW (by decide) ?_))
           exact ⟨(true, j + 1), rfl, ⟨by simp only; omega, ⟨by simp only; exact ⟨fun e => ⟨(hc.out.1 rfl).1, mem_take_succI hz1 (hc.out.1 rfl).2 hzx⟩, fun hh => trivial⟩⟩⟩, by simp only; omega⟩
      · have hjl' : ¬ (j : Int) < (i : Int) := by omega
        have hji : j = i := by omega
        refine raw ?_
        repeat (first | (with_reducible refine unr ?_; try simp only [YY, ↓reduceIte, Za, Zb, Zc, reduceCtorEq, Zd, Ze, Zf, Zg, Zh, Zi, Zj, hjl', hw]) | (with_reducible refine WW (by decide) ?_))
        refine ⟨(c, i + 1), rfl, ⟨by simp only; omega, ⟨?_⟩⟩, by simp only; omega⟩
        simp only
        have hc := hc.out
        rw [hji] at hc
        refine hc.trans ⟨fun hh => ⟨hh.1.1, (nodup_succ hx1 hh.1.2.1).2 hh.2, hh.1.2.2⟩, fun hh => ?_⟩
        have hnd : ((pk.map (·.1)).take i).Nodup := by
         have := hh.2.1
         rw [List.take_add_one, hx1] at this
         exact (List.nodup_append.1 this).1
        exact ⟨⟨hh.1, hnd, hh.2.2⟩, (nodup_succ hx1 hnd).1 hh.2.1⟩
    · have hil' : ¬ (i : Int) < (pk.length : Int) := by omega
      have hb := hb.out
      rw [List.take_of_length_le (by simp; omega), List.take_of_length_le (by omega)] at hb
      refine raw ?_
      repeat (first | (with_reducible refine unr ?_; try simp only [YY, ↓reduceIte, Za, Zb, Zc, reduceCtorEq, Zd, Ze, Zf, Zg, Zh, Zi, Zj, he, hil']) | (with_reducible refine WW (by decide) ?_))
      exact ⟨b, rfl, ⟨hb⟩⟩
  clear hb2
  rintro b3 _ ⟨rfl, hb3⟩
  obtain ⟨A3, hA3⟩ : ∃ A3 : Prop, A3 = (A ∧ (pk.map (·.1)).Nodup ∧ ∀ x, x ∈ pk → x.2.RtE gl ins) := ⟨_, rfl⟩
  rw [← hA3] at hb3
  replace hA3 : Hid (A3 = (A ∧ (pk.map (·.1)).Nodup ∧ ∀ x, x ∈ pk → x.2.RtE gl ins)) := ⟨hA3⟩
  refine raw ?_
  repeat (first | (with_reducible refine unr ?_; try simp only [YY, ↓reduceIte, Za, Zb, Zc, reduceCtorEq, Zd, Ze, Zf, Zg, Zh, Zi, Zj]) | (with_reducible refine WW (by decide) ?_))
  refine AWP_while [1, 2, 3, 12, 17] (fun y : Bool × Nat => al.length - y.2) (fun y => [strs gl, strs ins, .ptr σ.next 0 0 0, .bool y.1, .int .i64 y.2]) (fun y t => s1 = t ∧ y.2 ≤ al.length ∧ Hid (y.1 = true ↔ A3 ∧ (∀ (j : Nat) a, j < y.2 → (al.map (·.1))[j]? = some a → RAlt (al.map (·.1)) j a) ∧ ∀ x, x ∈ al.take y.2 → x.2.RtE gl (ins ++ x.1.ps))) (b3, 0) ⟨rfl, by simp, ⟨by simpa using hb3.out⟩⟩ ?_ ?_
  · refine raw ?_
    repeat (first | (with_reducible refine unr ?_; try simp only [YY, ↓reduceIte, Za, Zb, Zc, reduceCtorEq, Zd, Ze, Zf, Zg, Zh, Zi, Zj]) | (with_reducible refine WW (by decide) ?_))
    rfl
  clear hb3
  rintro ⟨b, i⟩ _ ⟨rfl, hi, hb⟩
  simp only at hi hb
  have hw := wrap_succ (i := i) (by omega)
  by_cases hil : i < al.length
  · have hil' : (i : Int) < (al.length : Int) := by omega
    obtain ⟨x, hx⟩ : ∃ x, al[i]? = some x := ⟨_, List.getElem?_eq_getElem hil⟩
    have hg : (al.map altC)[i]? = some (altC x) := by simp [hx]
    have hxi : (al.map (·.1))[i]? = some x.1 := by simp [hx]
    have hxm := List.mem_of_getElem? hx
    have hxb := Cr.bulkA_le hxm
    have hmem := mem_at (l := al) hx
    cases b with
    | false =>
     refine raw ?_
     repeat (first | (with_reducible refine unr ?_; try simp only [YY, ↓reduceIte, Za, Zb, Zc, reduceCtorEq, Zd, Ze, Zf, Zg, Zh, Zi, Zj, he, hil', hw]) | (with_reducible refine WW (by decide) ?_))
     exact ⟨(false, i + 1), rfl, ⟨by simp only; omega, ⟨by simp only; exact ⟨fun e => (by cases e), fun hh => hb.out.2 ⟨hh.1, fun j a hj => hh.2.1 j a (by omega), fun y hy => hh.2.2 y (mem_take_up hy)⟩⟩⟩⟩, by simp only; omega⟩
    | true =>
     refine raw ?_
     repeat (first | (with_reducible refine unr ?_; try simp only [YY, ↓reduceIte, Za, Zb, Zc, reduceCtorEq, Zd, Ze, Zf, Zg, Zh, Zi, Zj, he, hil']) | (with_reducible refine WW (by decide) ?_))
     refine (altE al (by omega) i x hx _).mono ?_
     rintro _ s1 ⟨⟨c, rfl, hc⟩, rfl⟩
     cases c with
     | false =>
      refine raw ?_
      repeat (first | (with_reducible refine unr ?_; try simp only [YY, ↓reduceIte, Za, Zb, Zc, reduceCtorEq, Zd, Ze, Zf, Zg, Zh, Zi, Zj, hw]) | (with_reducible refine WW (by decide) ?_))
      exact ⟨(false, i + 1), rfl, ⟨by simp only; omega, ⟨by simp only; exact ⟨fun e => (by cases e), fun hh => absurd (hh.2.1 i x.1 (by omega) hxi) (iff_f hc rfl)⟩⟩⟩, by simp only; omega⟩
     | true =>
      refine raw ?_
      repeat (first | (with_reducible refine unr ?_; try simp only [YY, ↓reduceIte, Za, Zb, Zc, reduceCtorEq, Zd, Ze, Zf, Zg, Zh, Zi, Zj, he, hil', hg, altC, AltH.cells, Cr.len, Cr.take9]) | (with_reducible refine WW (by decide) ?_))
      refine (joined15 ins x.1.ps (by omega) _).mono ?_
      rintro _ s1 ⟨rfl, rfl⟩
      refine raw ?_
      repeat (first | (with_reducible refine unr ?_; try simp only [YY, ↓reduceIte, Za, Zb, Zc, reduceCtorEq, Zd, Ze, Zf, Zg, Zh, Zi, Zj, he, hil', hg, altC, AltH.cells, Cr.len, Cr.take9]) | (with_reducible refine WW (by decide) ?_))
      refine (ih2 x hxm _ gl (ins ++ x.1.ps) hgl (by rw [List.length_append]; omega)).mono ?_
      rintro _ s1 ⟨⟨d, rfl, hd⟩, rfl⟩
      refine raw ?_
      repeat (first | (with_reducible refine unr ?_; try simp only [YY, ↓reduceIte, Za, Zb, Zc, reduceCtorEq, Zd, Ze, Zf, Zg, Zh, Zi, Zj, hw]) | (with_reducible refine WW (by decide) ?_))
      refine ⟨(d, i + 1), rfl, ⟨by simp only; omega, ⟨?_⟩⟩, by simp only; omega⟩
      simp only
      refine ⟨fun e => ⟨(hb.out.1 rfl).1, fun j a hj ha => ?_, all_succ (p := fun x => x.2.RtE gl (ins ++ x.1.ps)) (hb.out.1 rfl).2.2 hx (hd.1 e)⟩, fun hh => hd.2 (hh.2.2 x hmem)⟩
      by_cases e2 : j = i
      · subst e2
        rw [hxi] at ha
        cases ha
        exact hc.1 rfl
      · exact (hb.out.1 rfl).2.1 j a (by omega) ha
  · have hil' : ¬ (i : Int) < (al.length : Int) := by omega
    have hb := hb.out
    rw [List.take_of_length_le (by omega)] at hb
    have hR : (∀ (j : Nat) a, j < i → (al.map (·.1))[j]? = some a → RAlt (al.map (·.1)) j a) ↔ AltsOK (al.map (·.1)) := by
     rw [alts_iff]
     exact ⟨fun h j a ha => h j a (by have := (List.getElem?_eq_some_iff.1 ha).1; rw [List.length_map] at this; omega) ha, fun h j a _ ha => h j a ha⟩
    rw [hR, hA3.out, hA.out] at hb
    refine raw ?_
    repeat (first | (with_reducible refine unr ?_; try simp only [YY, ↓reduceIte, Za, Zb, Zc, reduceCtorEq, Zd, Ze, Zf, Zg, Zh, Zi, Zj, he, hil']) | (with_reducible refine WW (by decide) ?_))
    refine FP.same k1 (RE.mk (hb.trans ?_)) (.bool _)
    rw [rtE_iff]
    constructor
    · rintro ⟨⟨⟨h1, h2⟩, h3, h4⟩, h5, h6⟩
      exact ⟨hH.out, by rw [hinner.out]; exact h1, h5, h6, by rw [hinner.out]; exact h2, h3, h4⟩
    · rintro ⟨h0, h1, h5, h6, h2, h3, h4⟩
      rw [hinner.out] at h1 h2
      exact ⟨⟨⟨h1, h2⟩, h3, h4⟩, h5, h6⟩
end Go.Proofs.Ytjjbjibbjbbeaaa
/- Supercombinators that are flat and closed, exactly: the program's answer. -/
set_option linter.unusedVariables false
set_option linter.unusedSimpArgs false
namespace Go.AL
/-- A supercombinator's names. -/
def NameQ (x : Sup) : Prop := x.nm.size ≠ 0 ∧ ¬ 0 < opS x.nm ∧ Locs x.ps
/-- A supercombinator's body. -/
def BodyQ (gl : List ByteArray) (x : Sup) : Prop := x.bd.Fl true ∧ x.bd.RtE gl x.ps
def FlatE (l : List Sup) : Prop := ((∀ x, x ∈ l → NameQ x) ∧ (l.map (·.nm)).Nodup) ∧ ∀ x, x ∈ l → BodyQ (l.map (·.nm)) x
theorem FlatE.flat {l : List Sup} (h : FlatE l) : FlatP l := ⟨fun x hx => ⟨(h.2 x hx).2.rt, (h.2 x hx).1⟩, h.1.2⟩
end Go.AL
namespace Go.Proofs.Ytjjbjibbjbbeaaa
open Go.AL
end Go.Proofs.Ytjjbjibbjbbeaaa
/- What is flat; supercombinators that may be: exactly, the document's answer. -/
set_option linter.unusedVariables false
set_option linter.unusedSimpArgs false
namespace Go.Proofs.Ytjjbjibbjbbeaaa
open Go.AL
end Go.Proofs.Ytjjbjibbjbbeaaa
/- Which expressions' constructors are known, exactly: the program's answer. -/
set_option linter.unusedVariables false
set_option linter.unusedSimpArgs false
namespace Go.AL
/-- There is such a constructor, with so many fields. -/
def FitsE (g : Gl) (s : ByteArray) (n : Int) : Prop := ∃ i c, idx (g.con.map (·.1)) s = some i ∧ g.con[i]? = some c ∧ (c.2 : Int) = n
inductive Cr.Kn (g : Gl) : Cr → Prop
 | mk {k : Int} {nm : ByteArray} {n ar : Int} {ps : List ByteArray} {gs : List Cr} {al : List (AltH × Cr)} {bs : List (ByteArray × Cr)} {pk : List (Int × Cr)} (h4 : k = 4 → FitsE g nm ar)
  (g1 : ∀ x, x ∈ gs → Cr.Kn g x) (ga : ∀ x, x ∈ al → x.1.k = 1 → FitsE g x.1.nm x.1.ps.length) (g2 : ∀ x, x ∈ al → Cr.Kn g x.2) (g3 : ∀ x, x ∈ bs → Cr.Kn g x.2) (g4 : ∀ x, x ∈ pk → Cr.Kn g x.2) : Cr.Kn g (.mk k nm n ar ps gs al bs pk)
def KnA (g : Gl) (x : AltH × Cr) : Prop := (x.1.k = 1 → FitsE g x.1.nm x.1.ps.length) ∧ x.2.Kn g
structure KnParts (g : Gl) (k : Int) (nm : ByteArray) (ar : Int) (gs : List Cr) (al : List (AltH × Cr)) (bs : List (ByteArray × Cr)) (pk : List (Int × Cr)) : Prop where
 h4 : k = 4 → FitsE g nm ar
 g1 : ∀ x, x ∈ gs → Cr.Kn g x
 g2 : ∀ x, x ∈ al → KnA g x
 g3 : ∀ x, x ∈ bs → Cr.Kn g x.2
 g4 : ∀ x, x ∈ pk → Cr.Kn g x.2
end Go.AL
namespace Go.Proofs.Ytjjbjibbjbbeaaa
open Go.AL
end Go.Proofs.Ytjjbjibbjbbeaaa
/- What is opened, exactly: the program's answer. -/
set_option linter.unusedVariables false
set_option linter.unusedSimpArgs false
namespace Go.AL
end Go.AL
namespace Go.Proofs.Ytjjbjibbjbbeaaa
open Go.AL
end Go.Proofs.Ytjjbjibbjbbeaaa
/- The globals: exactly, the document's answer. -/
set_option linter.unusedVariables false
set_option linter.unusedSimpArgs false
namespace Go.AL
/-- The globals that are made. -/
structure OfS (σ t : Store) (nm v1 v2 : AV) (a : List ByteArray) (b : List Int) : Prop where
 hd : t.get (σ.next + 1) = some (.cells 162 0 3 [[nm, v1, v2]])
 s1 : SliceAt t v1 9 1 (a.map fun s => [.str s])
 s2 : SliceAt t v2 3 1 (b.map fun n => [.int .i64 n])
 f1 : ∀ j, j ∈ slIds v1 → σ.next + 2 ≤ j
 f2 : ∀ j, j ∈ slIds v2 → σ.next + 2 ≤ j
 dj : ∀ j, j ∈ slIds v1 → j ∉ slIds v2
 kp : Kp σ t
end Go.AL
namespace Go.Proofs.Ytjjbjibbjbbeaaa
open Go.AL
end Go.Proofs.Ytjjbjibbjbbeaaa
/- Which constructors are known, what may be compiled: exactly, the document's answer. -/
set_option linter.unusedVariables false
set_option linter.unusedSimpArgs false
namespace Go.AL
end Go.AL
namespace Go.Proofs.Ytjjbjibbjbbeaaa
open Go.AL
end Go.Proofs.Ytjjbjibbjbbeaaa
/- Which definitions may be: exactly, the program's answer and the document's. -/
set_option linter.unusedVariables false
set_option linter.unusedSimpArgs false
namespace Go.AL
/-- The last place of a byte. -/
def LastI (s : ByteArray) (c : UInt8) (b : Int) : Prop := (b = -1 ∧ c ∉ bl s) ∨ ∃ i : Nat, b = i ∧ (bl s)[i]? = some c ∧ c ∉ (bl s).drop (i + 1)
theorem LastI.lt {s : ByteArray} {c : UInt8} {b : Int} (h : LastI s c b) : -1 ≤ b ∧ b < s.size := by
 rcases h with ⟨rfl, _⟩ | ⟨i, rfl, h, _⟩
 · omega
 · have := (List.getElem?_eq_some_iff.1 h).1
   rw [bl_len] at this; omega
theorem drop_at {l : List UInt8} {i : Nat} {b : UInt8} (h : l[i]? = some b) : l.drop i = b :: l.drop (i + 1) := by
 obtain ⟨hi, rfl⟩ := List.getElem?_eq_some_iff.1 h
 exact List.drop_eq_getElem_cons hi
theorem numb_none {s : ByteArray} (h : (35 : UInt8) ∉ bl s) : ¬ NumbP s := fun ⟨p, t, hb, _⟩ => h (by rw [hb]; simp)
theorem numb_at {s : ByteArray} {i : Nat} (h : (bl s)[i]? = some 35) (h' : (35 : UInt8) ∉ (bl s).drop (i + 1)) : NumbP s ↔ NumT ((bl s).drop (i + 1)) := by
 have e : bl s = (bl s).take i ++ 35 :: (bl s).drop (i + 1) := by rw [← drop_at h, List.take_append_drop]
 constructor
 · rintro ⟨p, t, hb, h1, h2⟩
   obtain ⟨_, ht⟩ := last_eq (hb.symm.trans e) h1 h'
   rw [← ht]; exact h2
 · intro h2
   exact ⟨_, _, e, h', h2⟩
theorem bl_suf (s : ByteArray) (i : Nat) : bl (s.extract i s.size) = (bl s).drop i := by
 rw [bl_ext, List.take_of_length_le (by rw [bl_len]; omega)]
end Go.AL
namespace Go.Proofs.Ytjjbjibbjbbeaaa
open Go.AL
theorem lastByteE (s : ByteArray) (c : UInt8) (hs : s.size ≤ 9223372036854775807) (σ : Store) : ACalls Try.prog 158 [.str s, .int .u8 c.toNat] σ fun r σ' => (∃ b : Int, r = .int .i64 b ∧ LastI s c b) ∧ σ' = σ := by
 refine in158 (by simp) ?_
 unfold c158
 have hw : IntKind.i64.wrap ((s.size : Int) - 1) = (s.size : Int) - 1 := wrap_of (by omega) (by omega)
 refine raw ?_
 repeat (first | (with_reducible refine unr ?_; try simp only [YY, ↓reduceIte, Za, Zb, Zc, reduceCtorEq, Zd, Ze, Zf, Zg, Zh, Zi, Zj, hw]) | (with_reducible refine WW (by decide) ?_))
 refine AWP_while [0, 1, 5] (fun i : Nat => i) (fun i => [.str s, .int .u8 c.toNat, .int .i64 ((i : Int) - 1)]) (fun i t => t = σ ∧ i ≤ s.size ∧ Hid (c ∉ (bl s).drop i)) s.size ⟨rfl, by simp, ⟨by rw [List.drop_of_length_le (by rw [bl_len]; omega)]; simp⟩⟩ ?_ ?_
 · refine raw ?_
   repeat (first | (with_reducible refine unr ?_; try simp only [YY, ↓reduceIte, Za, Zb, Zc, reduceCtorEq, Zd, Ze, Zf, Zg, Zh, Zi, Zj]) | (with_reducible refine WW (by decide) ?_))
 rintro i t ⟨rfl, hi, hn⟩
 by_cases h0 : 0 < i
 · obtain ⟨j, rfl⟩ : ∃ j, i = j + 1 := ⟨i - 1, by omega⟩
   have e : ((j + 1 : Nat) : Int) - 1 = (j : Int) := by omega
   have hw2 : IntKind.i64.wrap ((j : Int) - 1) = (j : Int) - 1 := wrap_of (by omega) (by omega)
   obtain ⟨q, hq⟩ : ∃ q, (bl s)[j]? = some q := ⟨_, List.getElem?_eq_getElem (by rw [bl_len]; omega)⟩
   have hq' : s.data.toList[j]? = some q := hq
   have h0' : (0 : Int) ≤ (j : Int) := by omega
   by_cases hc : q = c
   · subst hc
     refine raw ?_
     repeat (first | (with_reducible refine unr ?_; try simp only [YY, ↓reduceIte, Za, Zb, Zc, reduceCtorEq, Zd, Ze, Zf, Zg, Zh, Zi, Zj, e, h0', hq', hw2]) | (with_reducible refine WW (by decide) ?_))
     exact ⟨_, rfl, .inr ⟨j, rfl, hq, hn.out⟩⟩
   · have hc' : ¬ ((q.toNat : Int) = (c.toNat : Int)) := fun h => hc ((u8_eq q c).1 h)
     refine raw ?_
     repeat (first | (with_reducible refine unr ?_; try simp only [YY, ↓reduceIte, Za, Zb, Zc, reduceCtorEq, Zd, Ze, Zf, Zg, Zh, Zi, Zj, e, h0', hq', hw2, hc']) | (with_reducible refine WW (by decide) ?_))
     refine ⟨j, rfl, ⟨by omega, ⟨?_⟩⟩, by omega⟩
     rw [drop_at hq]
     simp only [List.mem_cons, not_or]
     exact ⟨fun h => hc h.symm, hn.out⟩
 · have : i = 0 := by omega
   subst this
   have e0 : ¬ (0 : Int) ≤ ((0 : Nat) : Int) - 1 := by omega
   refine raw ?_
   repeat (first | (with_reducible refine unr ?_; try simp only [YY, ↓reduceIte, Za, Zb, Zc, reduceCtorEq, Zd, Ze, Zf, Zg, Zh, Zi, Zj, e0]) | (with_reducible refine WW (by decide) ?_))
   exact ⟨_, rfl, .inl ⟨rfl, by simpa using hn.out⟩⟩
theorem lastIndexE (s : ByteArray) (c : UInt8) (hs : s.size ≤ 9223372036854775807) (σ : Store) : ACalls Try.prog 140 [.str s, .str ⟨#[c]⟩] σ fun r σ' => (∃ b : Int, r = .int .i64 b ∧ LastI s c b) ∧ σ' = σ := by
 refine in140 (by simp) ?_
 unfold c140
 have h1 : (((⟨#[c]⟩ : ByteArray).size : Nat) : Int) = 1 := rfl
 have h2 : (⟨#[c]⟩ : ByteArray).data.toList[0]? = some c := rfl
 refine raw ?_
 repeat (first | (with_reducible refine unr ?_; try simp only [YY, ↓reduceIte, Za, Zb, Zc, reduceCtorEq, Zd, Ze, Zf, Zg, Zh, Zi, Zj, h1, h2]) | (with_reducible refine WW (by decide) ?_))
 refine (lastByteE s c hs _).mono ?_
 rintro _ _ ⟨⟨b, rfl, hb⟩, rfl⟩
 refine raw ?_
 repeat (first | (with_reducible refine unr ?_; try simp only [YY, ↓reduceIte, Za, Zb, Zc, reduceCtorEq, Zd, Ze, Zf, Zg, Zh, Zi, Zj]) | (with_reducible refine WW (by decide) ?_))
 exact ⟨_, rfl, hb⟩
theorem numberedE (s : ByteArray) (hs : s.size ≤ 9223372036854775806) (σ : Store) : ACalls Try.prog 84 [.str s] σ fun r σ' => (∃ b : Bool, r = .bool b ∧ (b = true ↔ NumbP s)) ∧ σ' = σ := by
 refine in84 (by simp) ?_
 unfold c84
 refine raw ?_
 repeat (first | (with_reducible refine unr ?_; try simp only [YY, ↓reduceIte, Za, Zb, Zc, reduceCtorEq, Zd, Ze, Zf, Zg, Zh, Zi, Zj]) | (with_reducible refine WW (by decide) ?_))
 refine (lastIndexE s 35 (by omega) _).mono ?_
 rintro _ _ ⟨⟨b, rfl, hb⟩, rfl⟩
 have hb2 := hb.lt
 have hw : IntKind.i64.wrap (b + 1) = b + 1 := wrap_of (by omega) (by omega)
 rcases hb with ⟨rfl, hn⟩ | ⟨i, rfl, hi, hn⟩
 · refine raw ?_
   repeat (first | (with_reducible refine unr ?_; try simp only [YY, ↓reduceIte, Za, Zb, Zc, reduceCtorEq, Zd, Ze, Zf, Zg, Zh, Zi, Zj]) | (with_reducible refine WW (by decide) ?_))
   exact ⟨_, rfl, by simp [numb_none hn]⟩
 · have h0 : ¬ (i : Int) < 0 := by omega
   have e1 : (0 : Int) ≤ (i : Int) + 1 := by omega
   have e2 : (i : Int) + 1 ≤ (s.size : Int) := by omega
   have e3 : ((i : Int) + 1).toNat = i + 1 := by omega
   refine raw ?_
   repeat (first | (with_reducible refine unr ?_; try simp only [YY, ↓reduceIte, Za, Zb, Zc, reduceCtorEq, Zd, Ze, Zf, Zg, Zh, Zi, Zj, hw, h0, e1, e2, e3]) | (with_reducible refine WW (by decide) ?_))
   refine (parseE _ _).mono ?_
   rintro _ _ ⟨⟨p, rfl, hp⟩, rfl⟩
   refine raw ?_
   repeat (first | (with_reducible refine unr ?_; try simp only [YY, ↓reduceIte, Za, Zb, Zc, reduceCtorEq, Zd, Ze, Zf, Zg, Zh, Zi, Zj]) | (with_reducible refine WW (by decide) ?_))
   refine ⟨_, rfl, ?_⟩
   rw [bl_suf] at hp
   rw [decide_eq_true_iff, hp, numb_at hi hn]
theorem numberedE2 (s : ByteArray) (hs : s.size ≤ 9223372036854775806) (σ : Store) : ACalls Try.prog 51 [.str s] σ fun r σ' => (∃ b : Bool, r = .bool b ∧ (b = true ↔ NumbP s)) ∧ σ' = σ := by
 refine in51 (by simp) ?_
 unfold c51
 refine raw ?_
 repeat (first | (with_reducible refine unr ?_; try simp only [YY, ↓reduceIte, Za, Zb, Zc, reduceCtorEq, Zd, Ze, Zf, Zg, Zh, Zi, Zj]) | (with_reducible refine WW (by decide) ?_))
 refine AWP_while [0, 3, 4] (fun y : Int × Nat => s.size - y.2) (fun y => [.str s, .int .i64 y.1, .int .i64 y.2]) (fun y t => t = σ ∧ y.2 ≤ s.size ∧ Hid ((y.1 = -1 ∧ (35 : UInt8) ∉ (bl s).take y.2) ∨ ∃ i : Nat, y.1 = i ∧ i < y.2 ∧ (bl s)[i]? = some 35 ∧ (35 : UInt8) ∉ ((bl s).take y.2).drop (i + 1))) (-1, 0) ⟨rfl, by simp, ⟨.inl ⟨rfl, by simp⟩⟩⟩ ?_ ?_
 · refine raw ?_
   repeat (first | (with_reducible refine unr ?_; try simp only [YY, ↓reduceIte, Za, Zb, Zc, reduceCtorEq, Zd, Ze, Zf, Zg, Zh, Zi, Zj]) | (with_reducible refine WW (by decide) ?_))
   rfl
 rintro ⟨a, k⟩ t ⟨rfl, hk, hin⟩
 simp only at hk hin
 have hw := wrap_succ (i := k) (by omega)
 by_cases hil : (k : Int) < (s.size : Int)
 · obtain ⟨q, hq⟩ : ∃ q, (bl s)[k]? = some q := ⟨_, List.getElem?_eq_getElem (by rw [bl_len]; omega)⟩
   have hq' : s.data.toList[k]? = some q := hq
   have h0' : (0 : Int) ≤ (k : Int) := by omega
   have ht : (bl s).take (k + 1) = (bl s).take k ++ [q] := by rw [List.take_add_one, hq]; rfl
   have hlk : ((bl s).take k).length = k := by rw [List.length_take, bl_len]; omega
   by_cases hc : q = 35
   · subst hc
     have h35 : (((35 : UInt8).toNat : Nat) : Int) = 35 := rfl
     refine raw ?_
     repeat (first | (with_reducible refine unr ?_; try simp only [YY, ↓reduceIte, Za, Zb, Zc, reduceCtorEq, Zd, Ze, Zf, Zg, Zh, Zi, Zj, hil, h0', hq', hw, h35]) | (with_reducible refine WW (by decide) ?_))
     refine ⟨(k, k + 1), rfl, ⟨by simp only; omega, ⟨.inr ⟨k, rfl, by simp, hq, ?_⟩⟩⟩, by simp only; omega⟩
     simp only
     rw [List.drop_of_length_le (by rw [List.length_take]; omega)]; simp
   · have hc' : ¬ ((q.toNat : Int) = 35) := fun h => hc ((u8_35 q).1 h)
     refine raw ?_
     repeat (first | (with_reducible refine unr ?_; try simp only [YY, ↓reduceIte, Za, Zb, Zc, reduceCtorEq, Zd, Ze, Zf, Zg, Zh, Zi, Zj, hil, h0', hq', hw, hc']) | (with_reducible refine WW (by decide) ?_))
     refine ⟨(a, k + 1), rfl, ⟨by simp only; omega, ⟨?_⟩⟩, by simp only; omega⟩
     simp only [ht]
     rcases hin.out with ⟨h1, h2⟩ | ⟨i, h1, h2, h3, h4⟩
     · refine .inl ⟨h1, ?_⟩
       simp only [List.mem_append, List.mem_singleton, not_or]
       exact ⟨h2, fun h => hc h.symm⟩
     · refine .inr ⟨i, h1, by omega, h3, ?_⟩
       rw [List.drop_append_of_le_length (by omega)]
       simp only [List.mem_append, List.mem_singleton, not_or]
       exact ⟨h4, fun h => hc h.symm⟩
 · have hks : k = s.size := by omega
   have hfull : (bl s).take k = bl s := List.take_of_length_le (by rw [bl_len]; omega)
   simp only [hfull] at hin
   rcases hin.out with ⟨rfl, h2⟩ | ⟨i, rfl, h2, h3, h4⟩
   · refine raw ?_
     repeat (first | (with_reducible refine unr ?_; try simp only [YY, ↓reduceIte, Za, Zb, Zc, reduceCtorEq, Zd, Ze, Zf, Zg, Zh, Zi, Zj, hil]) | (with_reducible refine WW (by decide) ?_))
     exact ⟨_, rfl, by simp [numb_none h2]⟩
   · have hw2 : IntKind.i64.wrap ((i : Int) + 1) = (i : Int) + 1 := wrap_of (by omega) (by omega)
     have h0 : ¬ (i : Int) < 0 := by omega
     have e1 : (0 : Int) ≤ (i : Int) + 1 := by omega
     have e2 : (i : Int) + 1 ≤ (s.size : Int) := by omega
     have e3 : ((i : Int) + 1).toNat = i + 1 := by omega
     refine raw ?_
     repeat (first | (with_reducible refine unr ?_; try simp only [YY, ↓reduceIte, Za, Zb, Zc, reduceCtorEq, Zd, Ze, Zf, Zg, Zh, Zi, Zj, hil, hw2, h0, e1, e2, e3]) | (with_reducible refine WW (by decide) ?_))
     refine (parseE2 _ _).mono ?_
     rintro _ _ ⟨⟨p, rfl, hp⟩, rfl⟩
     refine raw ?_
     repeat (first | (with_reducible refine unr ?_; try simp only [YY, ↓reduceIte, Za, Zb, Zc, reduceCtorEq, Zd, Ze, Zf, Zg, Zh, Zi, Zj]) | (with_reducible refine WW (by decide) ?_))
     refine ⟨_, rfl, ?_⟩
     rw [bl_suf] at hp
     rw [decide_eq_true_iff, hp, numb_at h3 h4]
end Go.Proofs.Ytjjbjibbjbbeaaa
/- Which definitions may be: exactly, the program's answer and the document's. -/
set_option linter.unusedVariables false
set_option linter.unusedSimpArgs false
namespace Go.AL
/-- A definition may be. -/
def OneOK (ds : List (ByteArray × Cr)) (i : Nat) (d : ByteArray × Cr) : Prop := DefOK ds i d ∧ d.2.RtE (ds.map (·.1)) []
theorem defsOK_iff {ds : List (ByteArray × Cr)} : DefsOK ds ↔ ∀ i d, ds[i]? = some d → OneOK ds i d :=
 ⟨fun h i d hd => ⟨h.1 i d hd, h.2 d (List.mem_of_getElem? hd)⟩, fun h => ⟨fun i d hd => (h i d hd).1, fun d hd => by obtain ⟨i, hi⟩ := List.mem_iff_getElem?.1 hd; exact (h i d hi).2⟩⟩
theorem upto_succ {α : Type} {P : Nat → α → Prop} {l : List α} {i : Nat} {x : α} (h : ∀ j y, l[j]? = some y → j < i → P j y) (hx : l[i]? = some x) (hp : P i x) : ∀ j y, l[j]? = some y → j < i + 1 → P j y := by
 intro j y hy hj
 by_cases e : j = i
 · subst e; rw [hx] at hy; cases hy; exact hp
 · exact h j y hy (by omega)
end Go.AL
namespace Go.Proofs.Ytjjbjibbjbbeaaa
open Go.AL
theorem defNames (l : List (ByteArray × Cr)) (hl : l.length ≤ 100000000) (σ : Store) : ACalls Try.prog 49 [.list (l.map defC)] σ fun r σ' => r = strs (l.map (·.1)) ∧ σ' = σ := by
 refine ACalls_fp (p := fun r => r = strs (l.map (·.1))) ?_
 refine in49 (by simp) ?_
 unfold c49
 refine raw ?_
 repeat (first | (with_reducible refine unr ?_; try simp only [YY, ↓reduceIte, Za, Zb, Zc, reduceCtorEq, Zd, Ze, Zf, Zg, Zh, Zi, Zj]) | (with_reducible refine WW (by decide) ?_))
 refine AWP_while [0, 3, 4] (fun y : AV × Nat => l.length - y.2) (fun y => [.list (l.map defC), y.1, .int .i64 y.2])
  (fun y s => y.2 ≤ l.length ∧ Grow σ s y.1 9 1 (((l.take y.2).map (·.1)).map fun s => [.str s])) (.nils, 0) ⟨by simp, .start _ _ _⟩ ?_ ?_
 · refine raw ?_
   repeat (first | (with_reducible refine unr ?_; try simp only [YY, ↓reduceIte, Za, Zb, Zc, reduceCtorEq, Zd, Ze, Zf, Zg, Zh, Zi, Zj]) | (with_reducible refine WW (by decide) ?_))
   rfl
 rintro ⟨v, i⟩ s ⟨hi, hG⟩
 simp only at hi hG
 have hw := wrap_succ (i := i) (by omega)
 by_cases hil : i < l.length
 · have hil' : (i : Int) < (l.length : Int) := by omega
   obtain ⟨x, hx⟩ : ∃ x, l[i]? = some x := ⟨_, List.getElem?_eq_getElem hil⟩
   have hg : (l.map defC)[i]? = some (defC x) := by simp [hx]
   refine raw ?_
   repeat (first | (with_reducible refine unr ?_; try simp only [YY, ↓reduceIte, Za, Zb, Zc, reduceCtorEq, Zd, Ze, Zf, Zg, Zh, Zi, Zj, hil', hg, defC, Cr.len]) | (with_reducible refine WW (by decide) ?_))
   refine ok_grow hG (es2 := [[.str x.1]]) (by simp) (by simp; omega) (by simp [maxLen]; omega) ?_
   intro v' t3 hG3 _ _
   refine raw ?_
   repeat (first | (with_reducible refine unr ?_; try simp only [YY, ↓reduceIte, Za, Zb, Zc, reduceCtorEq, Zd, Ze, Zf, Zg, Zh, Zi, Zj, hw]) | (with_reducible refine WW (by decide) ?_))
   refine ⟨(v', i + 1), rfl, ⟨by simp only; omega, ?_⟩, by simp only; omega⟩
   simp only [take_succ_at hx, List.map_append]; exact hG3
 · have hil' : ¬ (i : Int) < (l.length : Int) := by omega
   rw [List.take_of_length_le (by omega)] at hG
   refine raw ?_
   repeat (first | (with_reducible refine unr ?_; try simp only [YY, ↓reduceIte, Za, Zb, Zc, reduceCtorEq, Zd, Ze, Zf, Zg, Zh, Zi, Zj, hil']) | (with_reducible refine WW (by decide) ?_))
   exact FP.mk (strs (l.map (·.1))) hG.sl .here rfl (cln_strs _) hG.kp hG.fresh
theorem rightD0 (x : Cr) (gl : List ByteArray) (hgl : gl.length ≤ 100000000) (hb : x.bulk ≤ 50000000) (σ : Store) : ACalls Try.prog 53 [.agg x.cells, strs gl, .list []] σ fun r s => (∃ b : Bool, r = .bool b ∧ (b = true ↔ x.RtE gl [])) ∧ s = σ :=
 rightDE x σ gl [] hgl (by simpa using hb)
set_option maxHeartbeats 1000000 in
theorem rightDD (ds : List (ByteArray × Cr)) (hb : bulkD ds ≤ 20000000) (σ : Store) : ACalls Try.prog 20 [.list (ds.map defC)] σ fun r s => (∃ b : Bool, r = .bool b ∧ (b = true ↔ DefsOK ds)) ∧ s = σ := by
 have hll := lenD ds
 refine in20 (by simp) ?_
 unfold c20
 refine raw ?_
 repeat (first | (with_reducible refine unr ?_; try simp only [YY, ↓reduceIte, Za, Zb, Zc, reduceCtorEq, Zd, Ze, Zf, Zg, Zh, Zi, Zj]) | (with_reducible refine WW (by decide) ?_))
 refine (defNames ds (by omega) _).mono ?_
 rintro _ s0 ⟨rfl, rfl⟩
 refine raw ?_
 repeat (first | (with_reducible refine unr ?_; try simp only [YY, ↓reduceIte, Za, Zb, Zc, reduceCtorEq, Zd, Ze, Zf, Zg, Zh, Zi, Zj]) | (with_reducible refine WW (by decide) ?_))
 refine AWP_while [0, 3, 4] (fun i : Nat => ds.length - i) (fun i => [.list (ds.map defC), strs (ds.map (·.1)), .int .i64 i]) (fun i t => s0 = t ∧ i ≤ ds.length ∧ Hid (∀ j y, ds[j]? = some y → j < i → OneOK ds j y)) 0 ⟨rfl, by simp, ⟨by simp⟩⟩ ?_ ?_
 · refine raw ?_
   repeat (first | (with_reducible refine unr ?_; try simp only [YY, ↓reduceIte, Za, Zb, Zc, reduceCtorEq, Zd, Ze, Zf, Zg, Zh, Zi, Zj]) | (with_reducible refine WW (by decide) ?_))
   rfl
 rintro i _ ⟨rfl, hi, hall⟩
 have hw := wrap_succ (i := i) (by omega)
 by_cases hil : i < ds.length
 · have hil' : (i : Int) < (ds.length : Int) := by omega
   obtain ⟨x, hx⟩ : ∃ x, ds[i]? = some x := ⟨_, List.getElem?_eq_getElem hil⟩
   have hg : (ds.map defC)[i]? = some (defC x) := by simp [hx]
   have hxm := List.mem_of_getElem? hx
   have hxb := bulkD_le hxm
   have hc1 : (i : Int) ≤ (ds.length : Int) := by omega
   replace hx : Hid (ds[i]? = some x) := ⟨hx⟩
   have no : ¬ OneOK ds i x → ¬ DefsOK ds := fun h hh => h (defsOK_iff.1 hh i x hx.out)
   replace no : Hid (¬ OneOK ds i x → ¬ DefsOK ds) := ⟨no⟩
   refine raw ?_
   repeat' (first | (with_reducible refine unr ?_; try simp only [YY, ↓reduceIte, Za, Zb, Zc, reduceCtorEq, Zd, Ze, Zf, Zg, Zh, Zi, Zj, hil', hg, defC, Cr.len, Cr.take9, Cr.drop9, all_strs, map_take', map_drop', hc1, str_nil, *]) | (with_reducible first | refine WW (by decide) ?_ | refine ok_idx (by first | assumption | omega) (fun b hb => raw ?_) | refine ok_iad (by first | assumption | omega) (fun x hx hxm => raw ?_) | refine And.intro (by omega) (raw ?_) | (refine guardW_b (fun h => raw ?_) (fun h => raw ?_) <;> try simp only [Ty] at h) | (refine ePick_b (fun h => raw ?_) (fun h => raw ?_) <;> try simp only [Ty] at h) | (refine condW_b (fun h => raw ?_) (fun h => raw ?_) <;> try simp only [Ty] at h) | (refine (opE2 _ _).mono ?_; rintro _ _ ⟨⟨b, rfl, hb⟩, rfl⟩; refine raw ?_) | (refine (numberedE2 _ (by omega) _).mono ?_; rintro _ _ ⟨⟨b, rfl, hb⟩, rfl⟩; refine raw ?_) | (refine (rightD0 x.2 (ds.map (·.1)) (by simp; omega) (by omega) _).mono ?_; rintro _ _ ⟨⟨b, rfl, hb⟩, rfl⟩; refine raw ?_) | (refine (has2E ((ds.take i).map (·.1)) (by simp; omega) _ _).mono ?_; rintro _ _ ⟨⟨b, rfl, hb⟩, rfl⟩; refine raw ?_)))
   · exact ⟨false, rfl, (by intro e; cases e), fun hh => (no.out (fun hq => absurd (by assumption) hq.1.1) hh).elim⟩
   · exact ⟨false, rfl, (by intro e; cases e), fun hh => (no.out (fun hq => absurd (by assumption) hq.1.2.1) hh).elim⟩
   · exact ⟨false, rfl, (by intro e; cases e), fun hh => (no.out (fun hq => hq.1.2.2.1 (hb.1 h)) hh).elim⟩
   · exact ⟨false, rfl, (by intro e; cases e), fun hh => (no.out (fun hq => hq.1.2.2.2 (hb.1 h)) hh).elim⟩
   · exact ⟨false, rfl, (by intro e; cases e), fun hh => (no.out (fun hq => iff_f hb h hq.2) hh).elim⟩
   · rename_i n0 _ _ n1 bn hbn ebn bh hbh ebh _
     exact ⟨i + 1, rfl, ⟨by omega, ⟨upto_succ hall.out hx.out ⟨⟨n0, n1, iff_f hbn ebn, iff_f hbh ebh⟩, hb.1 h⟩⟩⟩, by omega⟩
 · have hil' : ¬ (i : Int) < (ds.length : Int) := by omega
   have hall := hall.out
   refine raw ?_
   repeat (first | (with_reducible refine unr ?_; try simp only [YY, ↓reduceIte, Za, Zb, Zc, reduceCtorEq, Zd, Ze, Zf, Zg, Zh, Zi, Zj, hil']) | (with_reducible refine WW (by decide) ?_))
   exact ⟨true, rfl, fun _ => defsOK_iff.2 fun j y hj => hall j y hj (by have := (List.getElem?_eq_some_iff.1 hj).1; omega), fun _ => rfl⟩
theorem rightEN (x : Cr) (σ : Store) (cid : Nat) (v : AV) (l : List ByteArray) (hc : Chk σ cid v l) (hb : x.bulk ≤ 50000000) :
 ACalls Try.prog 86 [.ptr cid 0 0 0, .agg x.cells, .nils] σ fun r σ' => (∃ b : Bool, r = .bool b ∧ (b = true ↔ x.RtE l [])) ∧ σ' = σ :=
 ACalls_argsD (.cons (.refl _) (.cons (.refl _) (.cons .nil .nil))) (rightE x σ cid v l [] hc (by simpa using hb))
set_option maxHeartbeats 1000000 in
theorem rightDP (ds : List (ByteArray × Cr)) (hb : bulkD ds ≤ 20000000) (σ : Store) : ACalls Try.prog 47 [.list (ds.map defC)] σ fun r σ' => RE (DefsOK ds) r ∧ σ' = σ := by
 refine ACalls_fp (p := RE _) ?_
 refine in47 (by simp) ?_
 unfold c47
 have hdl := lenD ds
 refine raw ?_
 repeat (first | (with_reducible refine unr ?_; try simp only [YY, ↓reduceIte, Za, Zb, Zc, reduceCtorEq, Zd, Ze, Zf, Zg, Zh, Zi, Zj]) | (with_reducible refine WW (by decide) ?_))
 generalize hs : Store.push _ _ = s
 have k1 : Kp σ s := by rw [← hs]; exact .pushed _ _
 have he : s.get σ.next = some (.cells 196 0 1 [[.nils]]) := by rw [← hs]; simp [Store.push_get]
 have hsn : s.next = σ.next + 1 := by rw [← hs]; rfl
 clear hs
 refine AWP_while [0, 3, 10, 11, 12] (fun i : Nat => ds.length - i) (fun i => [.list (ds.map defC), .ptr σ.next 0 0 0, .list (ds.map defC), .int .i64 ds.length, .int .i64 i])
  (fun i t => i ≤ ds.length ∧ Kp σ t ∧ Hid (∀ j y, ds[j]? = some y → j < i → DefOK ds j y) ∧ ∃ v, Chk t σ.next v ((ds.take i).map (·.1)) ∧ ∀ j, j ∈ slIds v → σ.next < j) 0 ⟨by simp, k1, ⟨by simp⟩, .nils, ⟨he, .nil _ _ _, by simp⟩, by simp [slIds]⟩ ?_ ?_
 · refine raw ?_
   repeat (first | (with_reducible refine unr ?_; try simp only [YY, ↓reduceIte, Za, Zb, Zc, reduceCtorEq, Zd, Ze, Zf, Zg, Zh, Zi, Zj]) | (with_reducible refine WW (by decide) ?_))
   rfl
 rintro i t ⟨hi, k2, hall, v, hc, hf⟩
 have hw := wrap_succ (i := i) (by omega)
 by_cases hil : i < ds.length
 · have hil' : (i : Int) < (ds.length : Int) := by omega
   obtain ⟨x, hx⟩ : ∃ x, ds[i]? = some x := ⟨_, List.getElem?_eq_getElem hil⟩
   have hxm := List.mem_of_getElem? hx
   have hg : (ds.map defC)[i]? = some (defC x) := by simp [hx]
   have hxb := bulkD_le hxm
   have hcp := hc.keep (.pushed t (.cells 58 0 10 [.str x.1 :: x.2.cells]))
   have hq := lt_ne (t.lt hc.hd)
   have no : ¬ DefOK ds i x → ¬ DefsOK ds := fun h hh => h (hh.1 i x hx)
   replace hx : Hid (ds[i]? = some x) := ⟨hx⟩
   replace no : Hid (¬ DefOK ds i x → ¬ DefsOK ds) := ⟨no⟩
   refine raw ?_
   repeat' (first | (with_reducible refine unr ?_; try simp only [YY, ↓reduceIte, Za, Zb, Zc, reduceCtorEq, Zd, Ze, Zf, Zg, Zh, Zi, Zj, hil', hg, defC, Cr.len, Cr.take9, hc.hd, hq, str_nil, *]) | (with_reducible first | refine WW (by decide) ?_ | refine ok_idx (by first | assumption | omega) (fun b hb => raw ?_) | refine ok_iad (by first | assumption | omega) (fun x hx hxm => raw ?_) | refine And.intro (by omega) (raw ?_) | (refine guardW_b (fun h => raw ?_) (fun h => raw ?_) <;> try simp only [Ty] at h) | (refine ePick_b (fun h => raw ?_) (fun h => raw ?_) <;> try simp only [Ty] at h) | (refine condW_b (fun h => raw ?_) (fun h => raw ?_) <;> try simp only [Ty] at h) | (refine (opE1 _ _).mono ?_; rintro _ _ ⟨⟨b, rfl, hb⟩, rfl⟩; refine raw ?_) | (refine (numberedE _ (by omega) _).mono ?_; rintro _ _ ⟨⟨b, rfl, hb⟩, rfl⟩; refine raw ?_) | (refine (containsE2 hcp _).mono ?_; rintro _ _ ⟨⟨b, rfl, hb⟩, rfl⟩; refine raw ?_)))
   · exact FP.same (k2.trans (.pushed _ _)) (RE.f (no.out fun hq => absurd (by assumption) hq.1)) (.bool _)
   · exact FP.same (k2.trans (.pushed _ _)) (RE.f (no.out fun hq => absurd (by assumption) hq.2.1)) (.bool _)
   · exact FP.same (k2.trans (.pushed _ _)) (RE.f (no.out fun hq => hq.2.2.1 (hb.1 h))) (.bool _)
   · exact FP.same (k2.trans (.pushed _ _)) (RE.f (no.out fun hq => hq.2.2.2 (hb.1 h))) (.bool _)
   · rename_i n0 _ _ n1 bn hbn ebn
     have hdef : DefOK ds i x := ⟨n0, n1, iff_f hbn ebn, iff_f hb h⟩
     have hx := hx.out
     refine ok_app hcp.sl (es2 := [[.str x.1]]) (by simp) (by simp; omega) (by simp [maxLen]; omega) ?_
     intro v' t3 hsl hfr
     have kp : Kp t (t.push (.cells 58 0 10 [.str x.1 :: x.2.cells])) := .pushed _ _
     have hd3 : t3.get σ.next = some (.cells 196 0 1 [[v]]) := by
      rw [hfr.keep _ ((t.push (.cells 58 0 10 [.str x.1 :: x.2.cells])).lt hcp.hd) (fun hm => by have := hf _ hm; omega)]; exact hcp.hd
     have hlt := t3.lt hd3
     refine raw ?_
     repeat (first | (with_reducible refine unr ?_; try simp only [YY, ↓reduceIte, Za, Zb, Zc, reduceCtorEq, Zd, Ze, Zf, Zg, Zh, Zi, Zj, hd3, hw, hsl.co]) | (with_reducible refine WW (by decide) ?_))
     have hne : ∀ j, j ∈ slIds v' → σ.next < j := fun j hj => by
      rcases hfr.fresh j hj with h1 | h1
      · exact hf j h1
      · have := (t.push (.cells 58 0 10 [.str x.1 :: x.2.cells])).lt hcp.hd; omega
     refine ⟨i + 1, rfl, ⟨by omega, ⟨?_, fun j hj => ?_⟩, ⟨upto_succ hall.out hx hdef⟩, v', ⟨Store.get_upd_self _ _ hlt, ?_, by simp; omega⟩, hne⟩, by omega⟩
     · have := hfr.next; have := kp.next; have := k2.next; rw [Store.upd_next]; omega
     · rw [Store.get_upd_ne _ _ (by omega), hfr.keep j (by have := kp.next; have := k2.next; omega) (fun hm => by have := hf _ hm; omega), kp.keep j (by have := k2.next; omega), k2.keep j hj]
     · have e : ((ds.take (i + 1)).map (·.1)).map (fun s => [AV.str s]) = ((ds.take i).map (·.1)).map (fun s => [AV.str s]) ++ [[AV.str x.1]] := by rw [List.take_add_one, hx]; simp
       rw [e]
       refine hsl.keep fun j hj => Store.get_upd_ne _ _ (by have := hne j hj; omega)
 · have hil' : ¬ (i : Int) < (ds.length : Int) := by omega
   rw [List.take_of_length_le (by omega)] at hc
   have hd0 : Hid (∀ j y, ds[j]? = some y → DefOK ds j y) := ⟨fun j y hj => hall.out j y hj (by have := (List.getElem?_eq_some_iff.1 hj).1; omega)⟩
   clear hall
   refine raw ?_
   repeat (first | (with_reducible refine unr ?_; try simp only [YY, ↓reduceIte, Za, Zb, Zc, reduceCtorEq, Zd, Ze, Zf, Zg, Zh, Zi, Zj, hil']) | (with_reducible refine WW (by decide) ?_))
   refine AWP_while [3, 51, 52, 53] (fun i : Nat => ds.length - i) (fun i => [.ptr σ.next 0 0 0, .list (ds.map defC), .int .i64 ds.length, .int .i64 i])
    (fun i s => i ≤ ds.length ∧ Kp t s ∧ Hid (∀ x, x ∈ ds.take i → x.2.RtE (ds.map (·.1)) [])) 0 ⟨by simp, .refl _, ⟨by simp⟩⟩ ?_ ?_
   · refine raw ?_
     repeat (first | (with_reducible refine unr ?_; try simp only [YY, ↓reduceIte, Za, Zb, Zc, reduceCtorEq, Zd, Ze, Zf, Zg, Zh, Zi, Zj]) | (with_reducible refine WW (by decide) ?_))
     rfl
   clear hw hil hil' hi
   rintro i t2 ⟨hi, k3, hall⟩
   have hw := wrap_succ (i := i) (by omega)
   by_cases hil : i < ds.length
   · have hil' : (i : Int) < (ds.length : Int) := by omega
     obtain ⟨x, hx⟩ : ∃ x, ds[i]? = some x := ⟨_, List.getElem?_eq_getElem hil⟩
     have hxm := List.mem_of_getElem? hx
     have hg : (ds.map defC)[i]? = some (defC x) := by simp [hx]
     have hxb := bulkD_le hxm
     replace hx : Hid (ds[i]? = some x) := ⟨hx⟩
     refine raw ?_
     repeat' (first | (with_reducible refine unr ?_; try simp only [YY, ↓reduceIte, Za, Zb, Zc, reduceCtorEq, Zd, Ze, Zf, Zg, Zh, Zi, Zj, hil', hg, defC, Cr.len, Cr.take9, str_nil, *]) | (with_reducible first | refine WW (by decide) ?_ | refine ok_idx (by first | assumption | omega) (fun b hb => raw ?_) | refine ok_iad (by first | assumption | omega) (fun x hx hxm => raw ?_) | refine And.intro (by omega) (raw ?_) | (refine guardW_b (fun h => raw ?_) (fun h => raw ?_) <;> try simp only [Ty] at h) | (refine ePick_b (fun h => raw ?_) (fun h => raw ?_) <;> try simp only [Ty] at h) | (refine condW_b (fun h => raw ?_) (fun h => raw ?_) <;> try simp only [Ty] at h) | (refine (rightEN x.2 _ _ _ _ ((hc.keep k3).keep (.pushed _ _)) (by omega)).mono ?_; rintro _ _ ⟨⟨b, rfl, hb⟩, rfl⟩; refine raw ?_)))
     · exact FP.same (k2.trans (k3.push _)) (RE.f fun hh => iff_f hb h (hh.2 x hxm)) (.bool _)
     · exact ⟨i + 1, rfl, ⟨by omega, k3.push _, ⟨all_succ (p := fun x => x.2.RtE (ds.map (·.1)) []) hall.out hx.out (hb.1 h)⟩⟩, by omega⟩
   · have hil' : ¬ (i : Int) < (ds.length : Int) := by omega
     have hall := hall.out
     rw [List.take_of_length_le (by omega)] at hall
     refine raw ?_
     repeat (first | (with_reducible refine unr ?_; try simp only [YY, ↓reduceIte, Za, Zb, Zc, reduceCtorEq, Zd, Ze, Zf, Zg, Zh, Zi, Zj, hil']) | (with_reducible refine WW (by decide) ?_))
     exact FP.same (k2.trans k3) (RE.t ⟨hd0.out, hall⟩) (.bool _)
end Go.Proofs.Ytjjbjibbjbbeaaa
/- The resolved code of some functions, as it is run on values. -/
set_option linter.unusedVariables false
namespace Go.Proofs.Ytjjbjibbjbbeaaa
open Go.AL
/-- changeling/changelinglaw15.known -/
def v18 : ACode :=
(.seq
 (.reg [oo 0 (.move (.c (.bool false)))])
 (.seq
 (.reg [oo 4 (.lit true 9 1 [(.c (.str ⟨#[35, 49]⟩))]),
 oo 5 (.build [(.int .i64 0), (.str ⟨#[]⟩), (.int .i64 0), (.int .i64 0), .nils, .nils, .nils, .nils, .nils] [(0, 1, (.c (.int .i64 1))), (1, 1, (.c (.str ⟨#[35, 48]⟩)))]),
 oo 6 (.lit true 54 9 [(.t 5)]),
 oo 7 (.build [(.int .i64 0), (.str ⟨#[]⟩), (.int .i64 0), (.int .i64 0), .nils, .nils, .nils, .nils, .nils] [(0, 1, (.c (.int .i64 6))), (4, 1, (.t 4)), (5, 1, (.t 6))]),
 oo 1 (.new 54 (.c (.agg [(.int .i64 0), (.str ⟨#[]⟩), (.int .i64 0), (.int .i64 0), .nils, .nils, .nils, .nils, .nils]))),
 ⟨none, .store 9 (.t 1) (.t 7), none⟩])
 (.seq
 (.reg [oo 9 (.lit true 9 1 [(.c (.str ⟨#[35, 48]⟩))]),
 oo 10 (.load (some 9) (.t 1)),
 oo 11 (.lit true 54 9 [(.t 10)]),
 oo 12 (.build [(.int .i64 0), (.str ⟨#[]⟩), (.int .i64 0), (.int .i64 0), .nils, .nils, .nils, .nils, .nils] [(0, 1, (.c (.int .i64 6))), (4, 1, (.t 9)), (5, 1, (.t 11))]),
 oo 13 (.build [(.str ⟨#[]⟩), (.int .i64 0), (.str ⟨#[]⟩), (.int .i64 0), (.int .i64 0), .nils, .nils, .nils, .nils, .nils] [(0, 1, (.c (.str ⟨#[102]⟩))), (1, 9, (.t 12))]),
 oo 14 (.lit true 58 10 [(.t 13)]),
 oo 15 (.call 19 [(.t 14)]),
 mv 8 15,
 oo 16 (.extract (.t 8) 0),
 oo 17 (.extract (.t 8) 1),
 mv 2 16,
 mv 3 17])
 (.seq
 (.seq
 (.reg [mv 18 3,
 oo 19 (.bin .int .neq (.t 18) (.c (.int .i64 0))),
 mv 20 19,
 og 21 20 false (.move (.t 2)),
 og 22 20 false (.len .slice (.t 21)),
 og 23 20 false (.bin .int .neq (.t 22) (.c (.int .i64 2))),
 oo 24 (.pick (.t 20) (.c (.bool true)) (.t 23))])
 (.cond (.t 24)
 (.seq
 (.reg [oo 0 (.move (.c (.bool false)))])
 .ret)
 .skip))
 (.seq
 (.reg [mv 25 2,
 oo 26 (.iaddr 11 (.t 25) (.c (.int .i64 0))),
 oo 27 (.faddr 0 (.t 26)),
 oo 28 (.load none (.t 27)),
 oo 29 (.bin .str .eql (.t 28) (.c (.str ⟨#[102]⟩))),
 mv 30 29,
 og 31 30 true (.move (.t 2)),
 og 32 30 true (.iaddr 11 (.t 31) (.c (.int .i64 0))),
 og 33 30 true (.faddr 1 (.t 32)),
 og 34 30 true (.load none (.t 33)),
 og 35 30 true (.lit true 9 1 [(.c (.str ⟨#[35, 48]⟩))]),
 og 36 30 true (.call 29 [(.t 34), (.t 35)]),
 oo 37 (.pick (.t 30) (.t 36) (.c (.bool false))),
 mv 38 37,
 og 39 38 true (.move (.t 2)),
 og 40 38 true (.iaddr 11 (.t 39) (.c (.int .i64 0))),
 og 41 38 true (.faddr 2 (.t 40)),
 og 42 38 true (.faddr 0 (.t 41)),
 og 43 38 true (.load none (.t 42)),
 og 44 38 true (.bin .int .eql (.t 43) (.c (.int .i64 5))),
 oo 45 (.pick (.t 38) (.t 44) (.c (.bool false))),
 mv 46 45,
 og 47 46 true (.move (.t 2)),
 og 48 46 true (.iaddr 11 (.t 47) (.c (.int .i64 1))),
 og 49 46 true (.faddr 0 (.t 48)),
 og 50 46 true (.load none (.t 49)),
 og 51 46 true (.bin .str .eql (.t 50) (.c (.str ⟨#[102, 35, 49]⟩))),
 oo 52 (.pick (.t 46) (.t 51) (.c (.bool false))),
 mv 53 52,
 og 54 53 true (.move (.t 2)),
 og 55 53 true (.iaddr 11 (.t 54) (.c (.int .i64 1))),
 og 56 53 true (.faddr 1 (.t 55)),
 og 57 53 true (.load none (.t 56)),
 og 58 53 true (.lit true 9 1 [(.c (.str ⟨#[35, 48]⟩)), (.c (.str ⟨#[35, 49]⟩))]),
 og 59 53 true (.call 29 [(.t 57), (.t 58)]),
 oo 60 (.pick (.t 53) (.t 59) (.c (.bool false))),
 mv 61 60,
 og 62 61 true (.move (.t 2)),
 og 63 61 true (.iaddr 11 (.t 62) (.c (.int .i64 1))),
 og 64 61 true (.faddr 2 (.t 63)),
 og 65 61 true (.faddr 1 (.t 64)),
 og 66 61 true (.load none (.t 65)),
 og 67 61 true (.bin .str .eql (.t 66) (.c (.str ⟨#[35, 48]⟩))),
 oo 68 (.pick (.t 61) (.t 67) (.c (.bool false))),
 mv 69 68,
 og 70 69 true (.load (some 9) (.t 1)),
 og 71 69 true (.call 46 [(.t 70)]),
 og 72 69 true (.lit true 9 1 [(.c (.str ⟨#[35, 48]⟩))]),
 og 73 69 true (.call 29 [(.t 71), (.t 72)]),
 oo 74 (.pick (.t 69) (.t 73) (.c (.bool false))),
 mv 0 74])
 .ret)))))
theorem ent18 : EntOK Try.prog 18 ⟨75, v18, [.slot 0]⟩ := fun args σ K ha h =>
 enter (own := List.range 75) Try.func18 (by kernel_rfl) (by kernel_rfl) (by kernel_rfl) ha h
theorem ent19 : EntOK Try.prog 19 ⟨57, c19, [.slot 2, .slot 3]⟩ := fun args σ K ha h =>
 in19 ha h
theorem ent29 : EntOK Try.prog 29 ⟨26, c29, [.slot 4]⟩ := fun args σ K ha h =>
 in29 ha h
theorem ent46 : EntOK Try.prog 46 ⟨13, c46, [.slot 2]⟩ := fun args σ K ha h =>
 in46 ha h
theorem ent47 : EntOK Try.prog 47 ⟨63, c47, [.slot 2]⟩ := fun args σ K ha h =>
 in47 ha h
theorem ent48 : EntOK Try.prog 48 ⟨24, c48, [.cell 4 (some 9)]⟩ := fun args σ K ha h =>
 in48 ha h
theorem ent82 : EntOK Try.prog 82 ⟨51, c82, []⟩ := fun args σ K ha h =>
 in82 ha h
theorem ent83 : EntOK Try.prog 83 ⟨15, c83, [.slot 2]⟩ := fun args σ K ha h =>
 in83 ha h
theorem ent84 : EntOK Try.prog 84 ⟨20, c84, [.slot 2]⟩ := fun args σ K ha h =>
 in84 ha h
theorem ent85 : EntOK Try.prog 85 ⟨9, c85, [.slot 4]⟩ := fun args σ K ha h =>
 in85 ha h
theorem ent86 : EntOK Try.prog 86 ⟨266, c86, [.slot 6]⟩ := fun args σ K ha h =>
 in86 ha h
theorem ent87 : EntOK Try.prog 87 ⟨74, c87, [.cell 8 (some 9)]⟩ := fun args σ K ha h =>
 in87 ha h
theorem ent88 : EntOK Try.prog 88 ⟨101, c88, [.cell 8 (some 9)]⟩ := fun args σ K ha h =>
 in88 ha h
theorem ent89 : EntOK Try.prog 89 ⟨33, c89, [.cell 4 (some 9)]⟩ := fun args σ K ha h =>
 in89 ha h
theorem ent110 : EntOK Try.prog 110 ⟨26, c110, [.slot 2]⟩ := fun args σ K ha h =>
 in110 ha h
theorem ent111 : EntOK Try.prog 111 ⟨23, c111, [.slot 2]⟩ := fun args σ K ha h =>
 in111 ha h
theorem ent132 : EntOK Try.prog 132 ⟨60, c132, [.slot 2]⟩ := fun args σ K ha h =>
 in132 ha h
theorem ent136 : EntOK Try.prog 136 ⟨19, c136, [.slot 2]⟩ := fun args σ K ha h =>
 in136 ha h
theorem ent137 : EntOK Try.prog 137 ⟨32, c137, []⟩ := fun args σ K ha h =>
 in137 ha h
theorem ent138 : EntOK Try.prog 138 ⟨58, c138, []⟩ := fun args σ K ha h =>
 in138 ha h
theorem ent139 : EntOK Try.prog 139 ⟨6, c139, []⟩ := fun args σ K ha h =>
 in139 ha h
theorem ent140 : EntOK Try.prog 140 ⟨36, c140, [.slot 4]⟩ := fun args σ K ha h =>
 in140 ha h
theorem ent141 : EntOK Try.prog 141 ⟨79, c141, [.slot 2, .slot 3]⟩ := fun args σ K ha h =>
 in141 ha h
theorem ent142 : EntOK Try.prog 142 ⟨19, c142, [.slot 4]⟩ := fun args σ K ha h =>
 in142 ha h
theorem ent143 : EntOK Try.prog 143 ⟨12, c143, [.slot 4]⟩ := fun args σ K ha h =>
 in143 ha h
theorem ent144 : EntOK Try.prog 144 ⟨128, c144, [.slot 6]⟩ := fun args σ K ha h =>
 in144 ha h
theorem ent145 : EntOK Try.prog 145 ⟨34, c145, [.slot 6]⟩ := fun args σ K ha h =>
 in145 ha h
theorem ent154 : EntOK Try.prog 154 ⟨20, c154, [.slot 2]⟩ := fun args σ K ha h =>
 in154 ha h
theorem ent158 : EntOK Try.prog 158 ⟨19, c158, [.slot 4]⟩ := fun args σ K ha h =>
 in158 ha h
/-- internal/bytealg.LastIndexRabinKarp[string] -/
def v159 : ACode :=
(.seq
 (.reg [oo 4 (.move (.c (.int .i64 0)))])
 (.seq
 (.reg [mv 13 1,
 oo 14 (.call 171 [(.t 13)]),
 mv 12 14,
 oo 15 (.extract (.t 12) 0),
 oo 16 (.extract (.t 12) 1),
 mv 5 15,
 mv 6 16])
 (.seq
 (.reg [mv 17 1,
 oo 18 (.len .str (.t 17)),
 mv 7 18])
 (.seq
 (.reg [mv 19 0,
 oo 20 (.len .str (.t 19)),
 mv 21 7,
 oo 22 (.bin .int .sub (.t 20) (.t 21)),
 mv 8 22])
 (.seq
 (.reg [oo 9 (.move (.c (.int .u32 0)))])
 (.seq
 (.seq
 (.reg [mv 23 0,
 oo 24 (.len .str (.t 23)),
 oo 25 (.bin .int .sub (.t 24) (.c (.int .i64 1))),
 mv 10 25])
 (.block 0
 (.loop
 (.seq
 (.seq
 (.reg [mv 26 10,
 mv 27 8,
 oo 28 (.bin .int .geq (.t 26) (.t 27))])
 (.cond (.t 28)
 .skip
 (.exit 0)))
 (.seq
 (.block 1
 (.reg [mv 31 9,
 oo 32 (.bin .int .mul (.t 31) (.c (.int .u32 16777619))),
 mv 33 0,
 mv 34 10,
 oo 35 (.index (.t 33) (.t 34)),
 oo 36 (.conv .u32 (.t 35)),
 oo 37 (.bin .int .add (.t 32) (.t 36)),
 mv 9 37]))
 (.reg [mv 29 10,
 oo 30 (.bin .int .sub (.t 29) (.c (.int .i64 1))),
 mv 10 30]))))))
 (.seq
 (.seq
 (.reg [mv 38 9,
 mv 39 5,
 oo 40 (.bin .int .eql (.t 38) (.t 39)),
 mv 41 40,
 og 42 41 true (.move (.t 0)),
 og 43 41 true (.move (.t 8)),
 og 44 41 true (.cut .str 1 (.t 42) (some (.t 43)) none),
 og 45 41 true (.move (.t 1)),
 og 46 41 true (.bin .str .eql (.t 44) (.t 45)),
 oo 47 (.pick (.t 41) (.t 46) (.c (.bool false)))])
 (.cond (.t 47)
 (.seq
 (.reg [mv 48 8,
 mv 4 48])
 .ret)
 .skip))
 (.seq
 (.seq
 (.reg [mv 49 8,
 oo 50 (.bin .int .sub (.t 49) (.c (.int .i64 1))),
 mv 11 50])
 (.block 2
 (.loop
 (.seq
 (.seq
 (.reg [mv 51 11,
 oo 52 (.bin .int .geq (.t 51) (.c (.int .i64 0)))])
 (.cond (.t 52)
 .skip
 (.exit 2)))
 (.seq
 (.block 3
 (.seq
 (.reg [mv 55 9,
 oo 56 (.bin .int .mul (.t 55) (.c (.int .u32 16777619))),
 mv 9 56])
 (.seq
 (.reg [mv 57 9,
 mv 58 0,
 mv 59 11,
 oo 60 (.index (.t 58) (.t 59)),
 oo 61 (.conv .u32 (.t 60)),
 oo 62 (.bin .int .add (.t 57) (.t 61)),
 mv 9 62])
 (.seq
 (.reg [mv 63 9,
 mv 64 6,
 mv 65 0,
 mv 66 11,
 mv 67 7,
 oo 68 (.bin .int .add (.t 66) (.t 67)),
 oo 69 (.index (.t 65) (.t 68)),
 oo 70 (.conv .u32 (.t 69)),
 oo 71 (.bin .int .mul (.t 64) (.t 70)),
 oo 72 (.bin .int .sub (.t 63) (.t 71)),
 mv 9 72])
 (.seq
 (.reg [mv 73 9,
 mv 74 5,
 oo 75 (.bin .int .eql (.t 73) (.t 74)),
 mv 76 75,
 og 77 76 true (.move (.t 0)),
 og 78 76 true (.move (.t 11)),
 og 79 76 true (.move (.t 11)),
 og 80 76 true (.move (.t 7)),
 og 81 76 true (.bin .int .add (.t 79) (.t 80)),
 og 82 76 true (.cut .str 1 (.t 77) (some (.t 78)) (some (.t 81))),
 og 83 76 true (.move (.t 1)),
 og 84 76 true (.bin .str .eql (.t 82) (.t 83)),
 oo 85 (.pick (.t 76) (.t 84) (.c (.bool false)))])
 (.cond (.t 85)
 (.seq
 (.reg [mv 86 11,
 mv 4 86])
 .ret)
 .skip))))))
 (.reg [mv 53 11,
 oo 54 (.bin .int .sub (.t 53) (.c (.int .i64 1))),
 mv 11 54]))))))
 (.seq
 (.reg [oo 4 (.move (.c (.int .i64 (-1))))])
 .ret)))))))))
theorem ent159 : EntOK Try.prog 159 ⟨87, v159, [.slot 4]⟩ := fun args σ K ha h =>
 enter (own := List.range 87) Try.func159 (by kernel_rfl) (by kernel_rfl) (by kernel_rfl) ha h
theorem ent160 : EntOK Try.prog 160 ⟨9, c160, [.slot 4]⟩ := fun args σ K ha h =>
 in160 ha h
theorem ent169 : EntOK Try.prog 169 ⟨8, c169, [.slot 4]⟩ := fun args σ K ha h =>
 in169 ha h
/-- internal/bytealg.hashStrRev[string] -/
def v171 : ACode :=
(.seq
 (.reg [oo 2 (.move (.c (.int .u32 0))),
 oo 3 (.move (.c (.int .u32 0)))])
 (.seq
 (.reg [oo 4 (.move (.c (.int .u32 0)))])
 (.seq
 (.seq
 (.reg [mv 9 0,
 oo 10 (.len .str (.t 9)),
 oo 11 (.bin .int .sub (.t 10) (.c (.int .i64 1))),
 mv 5 11])
 (.block 0
 (.loop
 (.seq
 (.seq
 (.reg [mv 12 5,
 oo 13 (.bin .int .geq (.t 12) (.c (.int .i64 0)))])
 (.cond (.t 13)
 .skip
 (.exit 0)))
 (.seq
 (.block 1
 (.reg [mv 16 4,
 oo 17 (.bin .int .mul (.t 16) (.c (.int .u32 16777619))),
 mv 18 0,
 mv 19 5,
 oo 20 (.index (.t 18) (.t 19)),
 oo 21 (.conv .u32 (.t 20)),
 oo 22 (.bin .int .add (.t 17) (.t 21)),
 mv 4 22]))
 (.reg [mv 14 5,
 oo 15 (.bin .int .sub (.t 14) (.c (.int .i64 1))),
 mv 5 15]))))))
 (.seq
 (.reg [oo 6 (.move (.c (.int .u32 1))),
 oo 7 (.move (.c (.int .u32 16777619)))])
 (.seq
 (.seq
 (.reg [mv 23 0,
 oo 24 (.len .str (.t 23)),
 mv 8 24])
 (.block 2
 (.loop
 (.seq
 (.seq
 (.reg [mv 25 8,
 oo 26 (.bin .int .gtr (.t 25) (.c (.int .i64 0)))])
 (.cond (.t 26)
 .skip
 (.exit 2)))
 (.seq
 (.block 3
 (.seq
 (.seq
 (.reg [mv 29 8,
 oo 30 (.bin .int .and (.t 29) (.c (.int .i64 1))),
 oo 31 (.bin .int .neq (.t 30) (.c (.int .i64 0)))])
 (.cond (.t 31)
 (.reg [mv 32 6,
 mv 33 7,
 oo 34 (.bin .int .mul (.t 32) (.t 33)),
 mv 6 34])
 .skip))
 (.reg [mv 35 7,
 mv 36 7,
 oo 37 (.bin .int .mul (.t 35) (.t 36)),
 mv 7 37])))
 (.reg [mv 27 8,
 oo 28 (.bin .int .shr (.t 27) (.c (.int .u64 1))),
 mv 8 28]))))))
 (.seq
 (.reg [mv 38 4,
 mv 39 6,
 mv 2 38,
 mv 3 39])
 .ret))))))
theorem ent171 : EntOK Try.prog 171 ⟨40, v171, [.slot 2, .slot 3]⟩ := fun args σ K ha h =>
 enter (own := List.range 40) Try.func171 (by kernel_rfl) (by kernel_rfl) (by kernel_rfl) ha h
theorem ent172 : EntOK Try.prog 172 ⟨19, c172, [.slot 4]⟩ := fun args σ K ha h =>
 in172 ha h
theorem ent173 : EntOK Try.prog 173 ⟨18, c173, [.slot 4]⟩ := fun args σ K ha h =>
 in173 ha h
noncomputable def tabL : List (Nat × FEnt) := [(18, ⟨75, v18, [.slot 0]⟩),
 (19, ⟨57, c19, [.slot 2, .slot 3]⟩),
 (29, ⟨26, c29, [.slot 4]⟩),
 (46, ⟨13, c46, [.slot 2]⟩),
 (47, ⟨63, c47, [.slot 2]⟩),
 (48, ⟨24, c48, [.cell 4 (some 9)]⟩),
 (82, ⟨51, c82, []⟩),
 (83, ⟨15, c83, [.slot 2]⟩),
 (84, ⟨20, c84, [.slot 2]⟩),
 (85, ⟨9, c85, [.slot 4]⟩),
 (86, ⟨266, c86, [.slot 6]⟩),
 (87, ⟨74, c87, [.cell 8 (some 9)]⟩),
 (88, ⟨101, c88, [.cell 8 (some 9)]⟩),
 (89, ⟨33, c89, [.cell 4 (some 9)]⟩),
 (110, ⟨26, c110, [.slot 2]⟩),
 (111, ⟨23, c111, [.slot 2]⟩),
 (132, ⟨60, c132, [.slot 2]⟩),
 (136, ⟨19, c136, [.slot 2]⟩),
 (137, ⟨32, c137, []⟩),
 (138, ⟨58, c138, []⟩),
 (139, ⟨6, c139, []⟩),
 (140, ⟨36, c140, [.slot 4]⟩),
 (141, ⟨79, c141, [.slot 2, .slot 3]⟩),
 (142, ⟨19, c142, [.slot 4]⟩),
 (143, ⟨12, c143, [.slot 4]⟩),
 (144, ⟨128, c144, [.slot 6]⟩),
 (145, ⟨34, c145, [.slot 6]⟩),
 (154, ⟨20, c154, [.slot 2]⟩),
 (158, ⟨19, c158, [.slot 4]⟩),
 (159, ⟨87, v159, [.slot 4]⟩),
 (160, ⟨9, c160, [.slot 4]⟩),
 (169, ⟨8, c169, [.slot 4]⟩),
 (171, ⟨40, v171, [.slot 2, .slot 3]⟩),
 (172, ⟨19, c172, [.slot 4]⟩),
 (173, ⟨18, c173, [.slot 4]⟩)]
theorem tab_ok : (tabOf tabL).OK Try.prog := tabOf_ok (by
 unfold tabL
 refine .cons ent18 ?_
 refine .cons ent19 ?_
 refine .cons ent29 ?_
 refine .cons ent46 ?_
 refine .cons ent47 ?_
 refine .cons ent48 ?_
 refine .cons ent82 ?_
 refine .cons ent83 ?_
 refine .cons ent84 ?_
 refine .cons ent85 ?_
 refine .cons ent86 ?_
 refine .cons ent87 ?_
 refine .cons ent88 ?_
 refine .cons ent89 ?_
 refine .cons ent110 ?_
 refine .cons ent111 ?_
 refine .cons ent132 ?_
 refine .cons ent136 ?_
 refine .cons ent137 ?_
 refine .cons ent138 ?_
 refine .cons ent139 ?_
 refine .cons ent140 ?_
 refine .cons ent141 ?_
 refine .cons ent142 ?_
 refine .cons ent143 ?_
 refine .cons ent144 ?_
 refine .cons ent145 ?_
 refine .cons ent154 ?_
 refine .cons ent158 ?_
 refine .cons ent159 ?_
 refine .cons ent160 ?_
 refine .cons ent169 ?_
 refine .cons ent171 ?_
 refine .cons ent172 ?_
 refine .cons ent173 ?_
 exact .nil)
end Go.Proofs.Ytjjbjibbjbbeaaa
/- The law LiftAlone. -/
set_option linter.unusedVariables false
set_option linter.unusedSimpArgs false
namespace Go.Proofs.Ytjjbjibbjbbeaaa
open Go.AL
set_option maxRecDepth 1000000 in
theorem known_run : saysF true (callF (tabOf tabL) (runF (tabOf tabL) 300) 18 [] 0 .nil) = true := by kernel_rfl
theorem known_ok (σ : Store) : ACalls Try.prog 18 [] σ fun r σ' => r = .bool true ∧ σ' = σ := ACalls_shut (ACalls_says tab_ok known_run) σ
theorem liftAll_len (ds : List (ByteArray × Cr)) : (liftAll ds).length = (rawAll ds).length := by
 induction ds with
 | nil => rfl
 | cons d r ih =>
  have e1 : liftAll (d :: r) = liftDef d ++ liftAll r := by simp [liftAll]
  have e2 : rawAll (d :: r) = rawDef d ++ rawAll r := by simp [rawAll]
  rw [e1, e2, List.length_append, List.length_append, ih, liftDef, rawDef]
  simp
end Go.Proofs.Ytjjbjibbjbbeaaa
/- The law LiftPicks. -/
set_option linter.unusedVariables false
set_option linter.unusedSimpArgs false
namespace Go.AL
theorem sh_of {gl : List ByteArray} : ∀ (x : Cr) (ins : List ByteArray), x.RtE gl ins → x.Sh := by
 intro x
 induction x using Cr.ind with
 | _ k nm m ar ps gs al bs pk i1 i2 i3 i4 =>
  intro ins hr
  have hnd := nd_of hr
  obtain ⟨hhd, g1, ha, g2, g3, hp, g4⟩ := rtE_iff.1 hr
  refine .mk (fun h => ?_) (fun x hx => i1 x hx _ (g1 x hx)) (fun x hx => i2 x hx _ (g2 x hx)) (fun x hx => i3 x hx _ (g3 x hx)) (fun x hx => i4 x hx _ (g4 x hx))
  obtain ⟨b, rfl⟩ := hnd.1.2.2.2 (.inl h)
  rfl
def mainN : ByteArray := ⟨#[109, 97, 105, 110, 39]⟩
theorem leD_gl (s : ByteArray) : LeD (.agg [.int .i64 2, .str s, .int .i64 0, .int .i64 0, .nils, .nils, .nils, .nils, .nils]) (.agg (Cr.glob s).cells) := by
 rw [Cr.glob, Cr.cells_eq]
 exact .agg (.cons (.refl _) (.cons (.refl _) (.cons (.refl _) (.cons (.refl _) (.cons .nil (.cons .nil (.cons .nil (.cons .nil (.cons .nil .nil)))))))))
end Go.AL
namespace Go.Proofs.Ytjjbjibbjbbeaaa
open Go.AL
theorem liftE_ok (ds : List (ByteArray × Cr)) (hb : bulkD ds ≤ 9000000) (σ : Store) :
 ACalls Try.prog 19 [.list (ds.map defC)] σ fun r σ' => ((¬ DefsOK ds ∧ r = .tuple [.list [], .int .i64 1]) ∨ (DefsOK ds ∧ r = .tuple [.list ((liftAll ds).map supC), .int .i64 0])) ∧ σ' = σ := by
 refine ACalls_leD ((liftQ_ok (DefsOK ds) (¬ DefsOK ds) ds hb (fun σ => (rightDP ds (by omega) σ).mono fun _ _ h => ?_) σ).mono ?_)
 · obtain ⟨⟨b, h1, h2⟩, h3⟩ := h
   exact ⟨⟨b, h1, fun e => ⟨fun x hx => sh_of x.2 _ ((h2.1 e).2 x hx), h2.1 e⟩, fun e => iff_f h2 e⟩, h3⟩
 · rintro r s ⟨⟨h, rfl⟩ | ⟨h, rfl⟩, rfl⟩
   · exact ⟨_, .refl _, .inl ⟨h, rfl⟩, rfl⟩
   · exact ⟨_, .tuple (.cons (.list (leD_all ds)) (.cons (.refl _) .nil)), .inr ⟨h, rfl⟩, rfl⟩
theorem runGlob {ds : List (ByteArray × Cr)} {sel : Int} (most : Nat) {m : Int} (hm : (most : Int) = m) (hmost : most ≤ 50000) (hgd : ∀ d, d ∈ ds → Gd d.2) (hdl : ds.length ≤ 100000000) (s : ByteArray) (σ : Store) :
 ACalls Try.prog 21 [.list (ds.map defC), .agg [.int .i64 2, .str s, .int .i64 0, .int .i64 0, .nils, .nils, .nils, .nils, .nils], .int .i64 sel, .int .i64 m] σ (RAns (lookD ds) sel doF (.glob s) σ) :=
 hm ▸ ACalls_argsD (.cons (.refl _) (.cons (leD_gl s) (.cons (.refl _) (.cons (.refl _) .nil)))) (runCore_ok hmost hgd hdl (.glob s) (gd_glob s) σ)
theorem law4 (ds : List (ByteArray × Cr)) (c : Cr) (sel : Int) (hb : bulkD ds + c.bulk ≤ 1048576) (σ : Store) :
 ACalls Try.prog 4 [.list (ds.map defC), .agg c.cells, .int .i64 sel] σ fun r σ' => r = .bool true ∧ σ' = σ := by
 refine ACalls_fp (p := fun r => r = .bool true) ?_
 refine in4 (by simp) ?_
 unfold c4
 have hdl := lenD ds
 have hsm := c.sm_of_bulk (by omega)
 try simp only [YY, ↓reduceIte, Za, Zb, Zc, reduceCtorEq, Zd, Ze, Zf, Zg, Zh, Zi, Zj, Cr.len, Cr.take9]
 iterate 2 ((with_reducible refine WW (by decide) ?_); refine unr ?_; try simp only [YY, ↓reduceIte, Za, Zb, Zc, reduceCtorEq, Zd, Ze, Zf, Zg, Zh, Zi, Zj, Cr.len, Cr.take9])
 generalize hs : Store.push _ _ = s1
 have k1 : Kp σ s1 := by rw [← hs]; exact .pushed _ _
 have he : s1.get σ.next = some (.cells 54 0 9 [c.cells]) := by rw [← hs]; simp [Store.push_get]
 have hn1 : s1.next = σ.next + 1 := by rw [← hs]; rfl
 clear hs
 refine AWP_cut [0, 2, 4] (fun _ : Unit => [.list (ds.map defC), .int .i64 sel, .ptr σ.next 0 0 0]) (fun _ s => s1 = s) ?_ ?_
 · refine raw ?_
   repeat' (first | (with_reducible refine unr ?_; try simp only [YY, ↓reduceIte, Za, Zb, Zc, reduceCtorEq, Zd, Ze, Zf, Zg, Zh, Zi, Zj, he, Cr.len, Cr.take9, str_nil, *]) | (with_reducible first | refine WW (by decide) ?_ | refine ok_idx (by first | assumption | omega) (fun b hb => raw ?_) | refine ok_iad (by first | assumption | omega) (fun x hx hxm => raw ?_) | refine And.intro (by omega) (raw ?_) | (refine guardW_b (fun h => raw ?_) (fun h => raw ?_) <;> try simp only [Ty] at h) | (refine ePick_b (fun h => raw ?_) (fun h => raw ?_) <;> try simp only [Ty] at h) | (refine condW_b (fun h => raw ?_) (fun h => raw ?_) <;> try simp only [Ty] at h) | (refine (smallD_ok ds (by omega) _).mono ?_; rintro _ _ ⟨⟨b, rfl, hb⟩, rfl⟩; refine raw ?_) | (refine (size' c hsm _).mono ?_; rintro _ _ ⟨⟨b, rfl, hb⟩, rfl⟩; refine raw ?_) | (refine (known_ok _).mono ?_; rintro _ _ ⟨rfl, rfl⟩; refine raw ?_)))
   all_goals first
    | exact FP.same k1 rfl (.bool _)
    | exact ⟨(), trivial⟩
 rintro _ _ rfl
 refine raw ?_
 repeat (first | (with_reducible refine unr ?_; try simp only [YY, ↓reduceIte, Za, Zb, Zc, reduceCtorEq, Zd, Ze, Zf, Zg, Zh, Zi, Zj]) | (with_reducible refine WW (by decide) ?_))
 refine AWP_while [0, 2, 4, 7, 8] (fun y : AV × Nat => ds.length - y.2) (fun y => [.list (ds.map defC), .int .i64 sel, .ptr σ.next 0 0 0, y.1, .int .i64 y.2])
  (fun y t => y.2 ≤ ds.length ∧ Grow s1 t y.1 58 10 ((ds.take y.2).map defC)) (.nils, 0) ⟨by simp, .start _ _ _⟩ ?_ ?_
 · refine raw ?_
   repeat (first | (with_reducible refine unr ?_; try simp only [YY, ↓reduceIte, Za, Zb, Zc, reduceCtorEq, Zd, Ze, Zf, Zg, Zh, Zi, Zj]) | (with_reducible refine WW (by decide) ?_))
   rfl
 rintro ⟨v, i⟩ s ⟨hi, hG⟩
 simp only at hi hG
 have hw := wrap_succ (i := i) (by omega)
 by_cases hil : i < ds.length
 · have hil' : (i : Int) < (ds.length : Int) := by omega
   obtain ⟨x, hx⟩ : ∃ x, ds[i]? = some x := ⟨_, List.getElem?_eq_getElem hil⟩
   have hg : (ds.map defC)[i]? = some (defC x) := by simp [hx]
   have hxl := defC_len x
   have hxt : List.take 10 (defC x) = defC x := List.take_of_length_le (by omega)
   refine raw ?_
   repeat (first | (with_reducible refine unr ?_; try simp only [YY, ↓reduceIte, Za, Zb, Zc, reduceCtorEq, Zd, Ze, Zf, Zg, Zh, Zi, Zj, hil', hg, hxl, hxt]) | (with_reducible refine WW (by decide) ?_))
   refine ok_grow hG (es2 := [defC x]) (by simp [defC_len]) (by simp; omega) (by simp [maxLen]; omega) ?_
   intro v' t3 hG3 _ _
   refine raw ?_
   repeat (first | (with_reducible refine unr ?_; try simp only [YY, ↓reduceIte, Za, Zb, Zc, reduceCtorEq, Zd, Ze, Zf, Zg, Zh, Zi, Zj, hw]) | (with_reducible refine WW (by decide) ?_))
   refine ⟨(v', i + 1), rfl, ⟨by simp only; omega, ?_⟩, by simp only; omega⟩
   simp only [take_succ_at hx, List.map_append]; exact hG3
 have hil' : ¬ (i : Int) < (ds.length : Int) := by omega
 rw [List.take_of_length_le (by omega)] at hG
 have he2 := hG.kp.get he
 have hd9 := Cr.drop9 c
 refine raw ?_
 repeat (first | (with_reducible refine unr ?_; try simp only [YY, ↓reduceIte, Za, Zb, Zc, reduceCtorEq, Zd, Ze, Zf, Zg, Zh, Zi, Zj, hil', he2, Cr.len, Cr.take9, hd9, List.append_nil]) | (with_reducible refine WW (by decide) ?_))
 refine ok_grow hG (es2 := [defC (mainN, c)]) (by simp [defC_len]) (by simp; omega) (by simp [maxLen]; omega) ?_
 intro v' s3 hG3 _ _
 have he3 := hG3.kp.get he
 have hcat : ds.map defC ++ [defC (mainN, c)] = (ds ++ [(mainN, c)]).map defC := by simp
 rw [hcat] at hG3
 try simp only [YY, ↓reduceIte, Za, Zb, Zc, reduceCtorEq, Zd, Ze, Zf, Zg, Zh, Zi, Zj]
 iterate 1 ((with_reducible refine WW (by decide) ?_); refine unr ?_; try simp only [YY, ↓reduceIte, Za, Zb, Zc, reduceCtorEq, Zd, Ze, Zf, Zg, Zh, Zi, Zj])
 refine AWP_frozen 7 rfl hG3.sl fun s4 hn4 hg4 => ?_
 have k4 : Kp s1 s4 := ⟨by rw [hn4]; exact hG3.kp.next, fun j hj => by rw [hg4 j (fun hm => by have := hG3.fresh j hm; omega), hG3.kp.keep j hj]⟩
 have kk := k1.trans k4
 have hba : bulkD (ds ++ [(mainN, c)]) ≤ 1048582 := by
  rw [bulkD_app, bulkD, bulkD]
  have : mainN.size = 5 := rfl
  omega
 have hmem : mainN ∈ (ds ++ [(mainN, c)]).map (·.1) := by simp
 clear hcat he2 he3 hG hG3 he hg4 hn4 hil' hil hw hi
 generalize ds ++ [(mainN, c)] = all at hba hmem ⊢
 have hal := lenD all
 refine raw ?_
 repeat (first | (with_reducible refine unr ?_; try simp only [YY, ↓reduceIte, Za, Zb, Zc, reduceCtorEq, Zd, Ze, Zf, Zg, Zh, Zi, Zj]) | (with_reducible refine WW (by decide) ?_))
 refine (liftE_ok all (by omega) _).mono ?_
 rintro _ _ ⟨⟨hno, rfl⟩ | ⟨hyes, rfl⟩, rfl⟩
 · refine raw ?_
   repeat' (first | (with_reducible refine unr ?_; try simp only [YY, ↓reduceIte, Za, Zb, Zc, reduceCtorEq, Zd, Ze, Zf, Zg, Zh, Zi, Zj, str_nil, *]) | (with_reducible first | refine WW (by decide) ?_ | refine ok_idx (by first | assumption | omega) (fun b hb => raw ?_) | refine ok_iad (by first | assumption | omega) (fun x hx hxm => raw ?_) | refine And.intro (by omega) (raw ?_) | (refine guardW_b (fun h => raw ?_) (fun h => raw ?_) <;> try simp only [Ty] at h) | (refine ePick_b (fun h => raw ?_) (fun h => raw ?_) <;> try simp only [Ty] at h) | (refine condW_b (fun h => raw ?_) (fun h => raw ?_) <;> try simp only [Ty] at h) | (refine (rightDD all (by omega) _).mono ?_; rintro _ _ ⟨⟨b, rfl, hb⟩, rfl⟩; refine raw ?_) | (refine (known_ok _).mono ?_; rintro _ _ ⟨rfl, rfl⟩; refine raw ?_)))
   · exact FP.same kk rfl (.bool _)
   · exact absurd (hb.1 h) hno
 rename_i s4
 have hbm : ∀ d, d ∈ all → d.2.bulk ≤ 2000000 := fun d hd => by have := bulkD_le hd; omega
 have hSl : (liftAll all).length ≤ 100000000 := by rw [liftAll_len]; have := rawAll_len all; omega
 try simp only [YY, ↓reduceIte, Za, Zb, Zc, reduceCtorEq, Zd, Ze, Zf, Zg, Zh, Zi, Zj]
 iterate 9 ((with_reducible refine WW (by decide) ?_); refine unr ?_; try simp only [YY, ↓reduceIte, Za, Zb, Zc, reduceCtorEq, Zd, Ze, Zf, Zg, Zh, Zi, Zj])
 generalize hs : Store.push s4 _ = s5
 have k5 : Kp s4 s5 := by rw [← hs]; exact .pushed _ _
 have e5 : s5.get s4.next = some (.cells 54 0 9 [[.int .i64 2, .str ⟨#[109, 97, 105, 110, 39]⟩, .int .i64 0, .int .i64 0, .nils, .nils, .nils, .nils, .nils]]) := by rw [← hs]; simp [Store.push_get]
 replace kk := kk.trans k5
 clear hs
 refine (runGlob 8000 rfl (by omega) (gd_defs hyes hbm) (by omega) mainN _).mono ?_
 rintro _ s6 ⟨cs, b1, rfl, hl6, k6, hr1⟩
 replace e5 := k6.get e5
 replace kk := kk.trans k6
 have htk : List.take 5 cs = cs := List.take_of_length_le (by omega)
 try simp only [YY, ↓reduceIte, Za, Zb, Zc, reduceCtorEq, Zd, Ze, Zf, Zg, Zh, Zi, Zj, hl6]
 iterate 0 ((with_reducible refine WW (by decide) ?_); refine unr ?_; try simp only [YY, ↓reduceIte, Za, Zb, Zc, reduceCtorEq, Zd, Ze, Zf, Zg, Zh, Zi, Zj, hl6])
 generalize hs : Store.push s6 _ = s7
 have k7 : Kp s6 s7 := by rw [← hs]; exact .pushed _ _
 have e7 : s7.get s6.next = some (.cells 63 0 5 [cs]) := by rw [← hs]; simp [Store.push_get]
 replace e5 := k7.get e5
 replace kk := kk.trans k7
 clear hs k7 k6 k5
 refine raw ?_
 repeat (first | (with_reducible refine unr ?_; try simp only [YY, ↓reduceIte, Za, Zb, Zc, reduceCtorEq, Zd, Ze, Zf, Zg, Zh, Zi, Zj, e5]) | (with_reducible refine WW (by decide) ?_))
 refine (defs_ok (liftAll all) hSl _).mono ?_
 rintro _ _ ⟨rfl, rfl⟩
 rename_i s7
 refine raw ?_
 repeat (first | (with_reducible refine unr ?_; try simp only [YY, ↓reduceIte, Za, Zb, Zc, reduceCtorEq, Zd, Ze, Zf, Zg, Zh, Zi, Zj, e5]) | (with_reducible refine WW (by decide) ?_))
 refine (runGlob 32000 rfl (by omega) (gd_lifted hyes hbm) (by simp; omega) mainN _).mono ?_
 rintro _ s8 ⟨cs2, b2, rfl, hl8, k8, hr2⟩
 replace e7 := k8.get e7
 replace kk := kk.trans k8
 have htk2 : List.take 5 cs2 = cs2 := List.take_of_length_le (by omega)
 try simp only [YY, ↓reduceIte, Za, Zb, Zc, reduceCtorEq, Zd, Ze, Zf, Zg, Zh, Zi, Zj, hl8]
 iterate 0 ((with_reducible refine WW (by decide) ?_); refine unr ?_; try simp only [YY, ↓reduceIte, Za, Zb, Zc, reduceCtorEq, Zd, Ze, Zf, Zg, Zh, Zi, Zj, hl8])
 generalize hs : Store.push s8 _ = s9
 have k9 : Kp s8 s9 := by rw [← hs]; exact .pushed _ _
 have e9 : s9.get s8.next = some (.cells 63 0 5 [cs2]) := by rw [← hs]; simp [Store.push_get]
 replace e7 := k9.get e7
 replace kk := kk.trans k9
 clear hs k9 k8 e5
 by_cases hb12 : b1 = true ∧ b2 = true
 · obtain ⟨rfl, rfl⟩ := hb12
   obtain ⟨o, n, st, ho, hos, rfl⟩ := hr1 rfl
   obtain ⟨o', n', st', ho', -, rfl⟩ := hr2 rfl
   have hoo := lift_means hyes (fun d hd => by have := hbm d hd; omega) sel doF hmem ho ho'
   subst hoo
   refine raw ?_
   repeat (first | (with_reducible refine unr ?_; try simp only [YY, ↓reduceIte, Za, Zb, Zc, reduceCtorEq, Zd, Ze, Zf, Zg, Zh, Zi, Zj, e7, e9, hl6, hl8, htk, htk2]) | (with_reducible refine WW (by decide) ?_))
   refine (sameOut_ok hos st st' _).mono ?_
   rintro _ s10 ⟨rfl, k10⟩
   refine raw ?_
   repeat' (first | (with_reducible refine unr ?_; try simp only [YY, ↓reduceIte, Za, Zb, Zc, reduceCtorEq, Zd, Ze, Zf, Zg, Zh, Zi, Zj, str_nil, *]) | (with_reducible first | refine WW (by decide) ?_ | refine ok_idx (by first | assumption | omega) (fun b hb => raw ?_) | refine ok_iad (by first | assumption | omega) (fun x hx hxm => raw ?_) | refine And.intro (by omega) (raw ?_) | (refine guardW_b (fun h => raw ?_) (fun h => raw ?_) <;> try simp only [Ty] at h) | (refine ePick_b (fun h => raw ?_) (fun h => raw ?_) <;> try simp only [Ty] at h) | (refine condW_b (fun h => raw ?_) (fun h => raw ?_) <;> try simp only [Ty] at h) | (refine (known_ok _).mono ?_; rintro _ _ ⟨rfl, rfl⟩; refine raw ?_)))
   exact FP.same (kk.trans k10) rfl (.bool _)
 · cases b1 with
   | false =>
    refine raw ?_
    repeat' (first | (with_reducible refine unr ?_; try simp only [YY, ↓reduceIte, Za, Zb, Zc, reduceCtorEq, Zd, Ze, Zf, Zg, Zh, Zi, Zj, str_nil, *]) | (with_reducible first | refine WW (by decide) ?_ | refine ok_idx (by first | assumption | omega) (fun b hb => raw ?_) | refine ok_iad (by first | assumption | omega) (fun x hx hxm => raw ?_) | refine And.intro (by omega) (raw ?_) | (refine guardW_b (fun h => raw ?_) (fun h => raw ?_) <;> try simp only [Ty] at h) | (refine ePick_b (fun h => raw ?_) (fun h => raw ?_) <;> try simp only [Ty] at h) | (refine condW_b (fun h => raw ?_) (fun h => raw ?_) <;> try simp only [Ty] at h) | (refine (known_ok _).mono ?_; rintro _ _ ⟨rfl, rfl⟩; refine raw ?_)))
    exact FP.same kk rfl (.bool _)
   | true =>
   cases b2 with
   | false =>
    refine raw ?_
    repeat' (first | (with_reducible refine unr ?_; try simp only [YY, ↓reduceIte, Za, Zb, Zc, reduceCtorEq, Zd, Ze, Zf, Zg, Zh, Zi, Zj, str_nil, *]) | (with_reducible first | refine WW (by decide) ?_ | refine ok_idx (by first | assumption | omega) (fun b hb => raw ?_) | refine ok_iad (by first | assumption | omega) (fun x hx hxm => raw ?_) | refine And.intro (by omega) (raw ?_) | (refine guardW_b (fun h => raw ?_) (fun h => raw ?_) <;> try simp only [Ty] at h) | (refine ePick_b (fun h => raw ?_) (fun h => raw ?_) <;> try simp only [Ty] at h) | (refine condW_b (fun h => raw ?_) (fun h => raw ?_) <;> try simp only [Ty] at h) | (refine (known_ok _).mono ?_; rintro _ _ ⟨rfl, rfl⟩; refine raw ?_)))
    exact FP.same kk rfl (.bool _)
   | true => exact absurd ⟨rfl, rfl⟩ hb12
end Go.Proofs.Ytjjbjibbjbbeaaa
/- Core expressions and definitions as arguments, with their bulk. -/
set_option linter.unusedVariables false
namespace Go.Proofs.Ytjjbjibbjbbeaaa
open Go.AL
section
variable {H : Type}
theorem one_le (d : DataW H) : 1 ≤ Rows.uptoBulk d := by
 cases d with
 | lit l => cases l <;> simp [Rows.uptoBulk]
 | nil => simp [Rows.uptoBulk]
 | ptr d => simp [Rows.uptoBulk]
 | slice elems spare => simp [Rows.uptoBulk]
 | agg parts => simp [Rows.uptoBulk]
 | iface t d => simp [Rows.uptoBulk]
 | map entries => simp [Rows.uptoBulk]
 | held h => simp [Rows.uptoBulk]
variable {P : Program} {t : TypeId} {cs : List AV} {d : DataW H}
theorem avdB_str (hu : P.underlying t = some .string) (h : AVD P t cs d) : ∃ s, cs = [.str s] ∧ s.size + 1 ≤ Rows.uptoBulk d := by
 cases h with
 | int h hw => rw [hu] at h; cases h
 | bool h => rw [hu] at h; cases h
 | str h hs => exact ⟨_, rfl, by simp [Rows.uptoBulk]⟩
 | nilp h => rw [hu] at h; cases h
 | ptr h _ => rw [hu] at h; cases h
 | nils h => rw [hu] at h; cases h
 | list h _ _ _ => rw [hu] at h; cases h
 | struct h _ _ _ => rw [hu] at h; cases h
 | other h => simp [okType, hu] at h
theorem avdB_slice {e : TypeId} (hu : P.underlying t = some (.slice e)) (hc : 0 < P.cellsOf e) (h : AVD P t cs d) :
 ∃ (es : List (List AV)) (ds : List (DataW H)), cs = [.list es] ∧ es.length = ds.length ∧ Rows.uptoBulkAll ds + 1 ≤ Rows.uptoBulk d ∧ (∀ x, x ∈ ds → SizeOf.sizeOf x < SizeOf.sizeOf d) ∧ ∀ (i : Nat) (c : List AV) (x : DataW H), es[i]? = some c → ds[i]? = some x → AVD P e c x := by
 cases h with
 | int h hw => rw [hu] at h; cases h
 | bool h => rw [hu] at h; cases h
 | str h _ => rw [hu] at h; cases h
 | nilp h => rw [hu] at h; cases h
 | ptr h _ => rw [hu] at h; cases h
 | nils h => exact ⟨[], [], rfl, rfl, by simp [Rows.uptoBulk, Rows.uptoBulkAll], by simp, by simp⟩
 | list h h1 h2 h3 =>
  rw [hu] at h; cases h
  rename_i ds rest
  refine ⟨_, ds, rfl, h1, by simp only [Rows.uptoBulk]; omega, fun x hx => ?_, h3⟩
  have := List.sizeOf_lt_of_mem hx
  simp only [DataW.slice.sizeOf_spec]; omega
 | struct h _ _ _ => rw [hu] at h; cases h
 | other h => simp [okType, hu, hc] at h
theorem avdB_struct {fs : Array Field} (hu : P.underlying t = some (.struct fs)) (h : AVD P t cs d) :
 cs.length = P.cellsOf t ∧ ∃ ds : List (DataW H), ds.length = fs.size ∧ Rows.uptoBulkAll ds + 1 ≤ Rows.uptoBulk d ∧ (∀ x, x ∈ ds → SizeOf.sizeOf x < SizeOf.sizeOf d) ∧
  ∀ (i : Nat) (f : Field) (x : DataW H), fs[i]? = some f → ds[i]? = some x → AVD P f.type ((cs.drop f.offset).take (P.cellsOf f.type)) x := by
 cases h with
 | int h hw => rw [hu] at h; cases h
 | bool h => rw [hu] at h; cases h
 | str h _ => rw [hu] at h; cases h
 | nilp h => rw [hu] at h; cases h
 | ptr h _ => rw [hu] at h; cases h
 | nils h => rw [hu] at h; cases h
 | list h _ _ _ => rw [hu] at h; cases h
 | struct h h1 h2 h3 =>
  rw [hu] at h; cases h
  rename_i ds
  refine ⟨h1, ds, h2, by simp only [Rows.uptoBulk]; omega, fun x hx => ?_, h3⟩
  have := List.sizeOf_lt_of_mem hx
  simp only [DataW.agg.sizeOf_spec]; omega
 | other h => simp [okType, hu] at h
theorem dint {cs : List AV} {d : DataW H} (h : AVD Try.prog 3 cs d) : ∃ n, cs = [.int .i64 n] := by
 obtain ⟨n, h, _⟩ := avd_int Try.underlying3 h; exact ⟨n, h⟩
theorem dint2 {cs : List AV} {d : DataW H} (h : AVD Try.prog 2 cs d) : ∃ n, cs = [.int .i64 n] := by
 obtain ⟨n, h, _⟩ := avd_int Try.underlying2 h; exact ⟨n, h⟩
theorem k2 : Try.prog.cellsOf 2 = 1 := by kernel_rfl
theorem k3 : Try.prog.cellsOf 3 = 1 := by kernel_rfl
theorem k9 : Try.prog.cellsOf 9 = 1 := by kernel_rfl
theorem k48 : Try.prog.cellsOf 48 = 1 := by kernel_rfl
theorem k49 : Try.prog.cellsOf 49 = 1 := by kernel_rfl
theorem k50 : Try.prog.cellsOf 50 = 1 := by kernel_rfl
theorem k51 : Try.prog.cellsOf 51 = 1 := by kernel_rfl
theorem k52 : Try.prog.cellsOf 52 = 1 := by kernel_rfl
theorem k54 : Try.prog.cellsOf 54 = 9 := by kernel_rfl
theorem k58 : Try.prog.cellsOf 58 = 10 := by kernel_rfl
theorem k113 : Try.prog.cellsOf 113 = 13 := by kernel_rfl
theorem k114 : Try.prog.cellsOf 114 = 10 := by kernel_rfl
theorem k116 : Try.prog.cellsOf 116 = 10 := by kernel_rfl
theorem bulk_all {α : Type} {f : α → List AV} {w : α → Nat} {T : List α → Nat} (hT0 : T [] = 0) (hT : ∀ x l, T (x :: l) = w x + T l) {Q : List AV → DataW H → Prop} :
 ∀ (es : List (List AV)) (ds : List (DataW H)), es.length = ds.length → (∀ (i : Nat) c x, es[i]? = some c → ds[i]? = some x → ∃ a, c = f a ∧ w a ≤ Rows.uptoBulk x) → ∃ l : List α, es = l.map f ∧ T l ≤ Rows.uptoBulkAll ds
 | [], [], _, _ => ⟨[], rfl, by simp [hT0]⟩
 | c :: es, x :: ds, hl, h => by
  obtain ⟨a, ha, hw⟩ := h 0 c x rfl rfl
  obtain ⟨l, hl2, hb⟩ := bulk_all (α := α) (f := f) (w := w) hT0 hT (Q := Q) es ds (by simpa using hl) fun i c x h1 h2 => h (i + 1) c x (by simpa using h1) (by simpa using h2)
  exact ⟨a :: l, by simp [ha, hl2], by rw [hT, Rows.uptoBulkAll]; omega⟩
theorem dtexts {cs : List AV} {d : DataW H} (h : AVD Try.prog 48 cs d) : ∃ l, cs = [strs l] ∧ l.length + 1 ≤ Rows.uptoBulk d := by
 obtain ⟨es, ds, rfl, hl, hb, _, he⟩ := avdB_slice Try.underlying48 (by rw [k9]; decide) h
 obtain ⟨l, rfl, hw⟩ := bulk_all (f := fun x : ByteArray => [AV.str x]) (w := fun _ => 1) (T := List.length) rfl (fun x l => by simp; omega) (Q := fun _ _ => True) es ds hl fun i c x h1 h2 => by
  obtain ⟨s, rfl, hs⟩ := avdB_str Try.underlying9 (he i c x h1 h2)
  exact ⟨s, rfl, one_le x⟩
 exact ⟨l, rfl, by omega⟩
theorem at9 {α : Type} : ∀ {l : List α}, l.length = 9 → ∃ a b c d e f g h i, l = [a, b, c, d, e, f, g, h, i]
 | [a, b, c, d, e, f, g, h, i], _ => ⟨a, b, c, d, e, f, g, h, i, rfl⟩
theorem at10 {α : Type} {l : List α} (h : l.length = 10) : ∃ a r, l = a :: r ∧ r.length = 9 := by
 cases l with
 | nil => simp at h
 | cons a r => exact ⟨a, r, rfl, by simpa using h⟩
set_option maxRecDepth 100000 in
theorem dcore : ∀ (n : Nat) {cs : List AV} {d : DataW H}, SizeOf.sizeOf d < n → AVD Try.prog 54 cs d → ∃ x : Cr, cs = x.cells ∧ x.bulk + 1 ≤ Rows.uptoBulk d
 | 0, _, _, hn, _ => by omega
 | n + 1, cs, d, hn, h => by
  obtain ⟨hl, ds, hdl, hb, hsz, hf⟩ := avdB_struct Try.underlying54 h
  rw [k54] at hl
  obtain ⟨a0, a1, a2, a3, a4, a5, a6, a7, a8, rfl⟩ := at9 hl
  obtain ⟨d0, d1, d2, d3, d4, d5, d6, d7, d8, rfl⟩ := at9 (show ds.length = 9 from hdl)
  have h0 := hf 0 _ d0 rfl rfl
  have h1 := hf 1 _ d1 rfl rfl
  have h2 := hf 2 _ d2 rfl rfl
  have h3 := hf 3 _ d3 rfl rfl
  have h4 := hf 4 _ d4 rfl rfl
  have h5 := hf 5 _ d5 rfl rfl
  have h6 := hf 6 _ d6 rfl rfl
  have h7 := hf 7 _ d7 rfl rfl
  have h8 := hf 8 _ d8 rfl rfl
  have s5 := hsz d5 (by simp)
  have s6 := hsz d6 (by simp)
  have s7 := hsz d7 (by simp)
  have s8 := hsz d8 (by simp)
  change AVD Try.prog 3 (List.take (Try.prog.cellsOf 3) (List.drop 0 [a0, a1, a2, a3, a4, a5, a6, a7, a8])) d0 at h0
  change AVD Try.prog 9 (List.take (Try.prog.cellsOf 9) (List.drop 1 [a0, a1, a2, a3, a4, a5, a6, a7, a8])) d1 at h1
  change AVD Try.prog 2 (List.take (Try.prog.cellsOf 2) (List.drop 2 [a0, a1, a2, a3, a4, a5, a6, a7, a8])) d2 at h2
  change AVD Try.prog 3 (List.take (Try.prog.cellsOf 3) (List.drop 3 [a0, a1, a2, a3, a4, a5, a6, a7, a8])) d3 at h3
  change AVD Try.prog 48 (List.take (Try.prog.cellsOf 48) (List.drop 4 [a0, a1, a2, a3, a4, a5, a6, a7, a8])) d4 at h4
  change AVD Try.prog 49 (List.take (Try.prog.cellsOf 49) (List.drop 5 [a0, a1, a2, a3, a4, a5, a6, a7, a8])) d5 at h5
  change AVD Try.prog 50 (List.take (Try.prog.cellsOf 50) (List.drop 6 [a0, a1, a2, a3, a4, a5, a6, a7, a8])) d6 at h6
  change AVD Try.prog 51 (List.take (Try.prog.cellsOf 51) (List.drop 7 [a0, a1, a2, a3, a4, a5, a6, a7, a8])) d7 at h7
  change AVD Try.prog 52 (List.take (Try.prog.cellsOf 52) (List.drop 8 [a0, a1, a2, a3, a4, a5, a6, a7, a8])) d8 at h8
  simp only [k2, k3, k9, k48, k49, k50, k51, k52, List.drop_zero, List.drop_succ_cons, List.take_succ_cons, List.take_zero] at h0 h1 h2 h3 h4 h5 h6 h7 h8
  obtain ⟨k, e0⟩ := dint h0
  obtain ⟨nm, e1, b1⟩ := avdB_str Try.underlying9 h1
  obtain ⟨m, e2⟩ := dint2 h2
  obtain ⟨ar, e3⟩ := dint h3
  obtain ⟨ps, e4, b4⟩ := dtexts h4
  obtain ⟨es5, ds5, e5, l5, b5, z5, q5⟩ := avdB_slice Try.underlying49 (by rw [k54]; decide) h5
  obtain ⟨es6, ds6, e6, l6, b6, z6, q6⟩ := avdB_slice Try.underlying50 (by rw [k113]; decide) h6
  obtain ⟨es7, ds7, e7, l7, b7, z7, q7⟩ := avdB_slice Try.underlying51 (by rw [k114]; decide) h7
  obtain ⟨es8, ds8, e8, l8, b8, z8, q8⟩ := avdB_slice Try.underlying52 (by rw [k116]; decide) h8
  obtain ⟨gs, rfl, w5⟩ := bulk_all (f := Cr.cells) (w := Cr.bulk) (T := Cr.bulkL) (by rw [Cr.bulkL]) (fun x l => by rw [Cr.bulkL]) (Q := fun _ _ => True) es5 ds5 l5 fun i c x g1 g2 => by
   have := z5 x (List.mem_of_getElem? g2)
   obtain ⟨y, hy, hw⟩ := dcore n (by omega) (q5 i c x g1 g2)
   exact ⟨y, hy, by omega⟩
  obtain ⟨al, rfl, w6⟩ := bulk_all (f := altC) (w := fun y => y.1.ps.length + y.2.bulk) (T := Cr.bulkA) (by rw [Cr.bulkA]) (fun x l => by obtain ⟨g, y⟩ := x; rw [Cr.bulkA]) (Q := fun _ _ => True) es6 ds6 l6 fun i c x g1 g2 => by
   have hzx := z6 x (List.mem_of_getElem? g2)
   obtain ⟨jl, dd, jd, jb, jz, jf⟩ := avdB_struct Try.underlying113 (q6 i c x g1 g2)
   rw [k113] at jl
   obtain ⟨c0, c1, c2, c3, r, rfl, hr⟩ : ∃ c0 c1 c2 c3 r, c = c0 :: c1 :: c2 :: c3 :: r ∧ r.length = 9 := by
    match c, jl with
    | c0 :: c1 :: c2 :: c3 :: r, jl => exact ⟨c0, c1, c2, c3, r, rfl, by simpa using jl⟩
   obtain ⟨t0, t1, t2, t3, t4, rfl⟩ := len5' (show dd.length = 5 from jd)
   have u0 := jf 0 _ t0 rfl rfl
   have u1 := jf 1 _ t1 rfl rfl
   have u2 := jf 2 _ t2 rfl rfl
   have u3 := jf 3 _ t3 rfl rfl
   have u4 := jf 4 _ t4 rfl rfl
   have y4 := jz t4 (by simp)
   change AVD Try.prog 3 (List.take (Try.prog.cellsOf 3) (List.drop 0 (c0 :: c1 :: c2 :: c3 :: r))) t0 at u0
   change AVD Try.prog 9 (List.take (Try.prog.cellsOf 9) (List.drop 1 (c0 :: c1 :: c2 :: c3 :: r))) t1 at u1
   change AVD Try.prog 2 (List.take (Try.prog.cellsOf 2) (List.drop 2 (c0 :: c1 :: c2 :: c3 :: r))) t2 at u2
   change AVD Try.prog 48 (List.take (Try.prog.cellsOf 48) (List.drop 3 (c0 :: c1 :: c2 :: c3 :: r))) t3 at u3
   change AVD Try.prog 54 (List.take (Try.prog.cellsOf 54) (List.drop 4 (c0 :: c1 :: c2 :: c3 :: r))) t4 at u4
   simp only [k2, k3, k9, k48, k54, List.drop_zero, List.drop_succ_cons, List.take_succ_cons, List.take_zero] at u0 u1 u2 u3 u4
   rw [List.take_of_length_le (by omega)] at u4
   obtain ⟨v0, x0⟩ := dint u0
   obtain ⟨v1, x1, _⟩ := avdB_str Try.underlying9 u1
   obtain ⟨v2, x2⟩ := dint2 u2
   obtain ⟨v3, x3, x3b⟩ := dtexts u3
   obtain ⟨y, hy, hw⟩ := dcore n (by omega) u4
   simp only [List.cons.injEq, and_true] at x0 x1 x2 x3
   subst x0 x1 x2 x3 hy
   refine ⟨(⟨v0, v1, v2, v3⟩, y), rfl, ?_⟩
   simp only [Rows.uptoBulkAll] at jb
   simp only
   omega
  obtain ⟨bs, rfl, w7⟩ := bulk_all (f := bindC) (w := fun y => 1 + y.2.bulk) (T := Cr.bulkB) (by rw [Cr.bulkB]) (fun x l => by obtain ⟨g, y⟩ := x; rw [Cr.bulkB]) (Q := fun _ _ => True) es7 ds7 l7 fun i c x g1 g2 => by
   have hzx := z7 x (List.mem_of_getElem? g2)
   obtain ⟨jl, dd, jd, jb, jz, jf⟩ := avdB_struct Try.underlying114 (q7 i c x g1 g2)
   rw [k114] at jl
   obtain ⟨c0, r, rfl, hr⟩ := at10 jl
   obtain ⟨t0, t1, rfl⟩ := len2 (show dd.length = 2 from jd)
   have u0 := jf 0 _ t0 rfl rfl
   have u1 := jf 1 _ t1 rfl rfl
   have y4 := jz t1 (by simp)
   change AVD Try.prog 9 (List.take (Try.prog.cellsOf 9) (List.drop 0 (c0 :: r))) t0 at u0
   change AVD Try.prog 54 (List.take (Try.prog.cellsOf 54) (List.drop 1 (c0 :: r))) t1 at u1
   simp only [k9, k54, List.drop_zero, List.drop_succ_cons, List.take_succ_cons, List.take_zero] at u0 u1
   rw [List.take_of_length_le (by omega)] at u1
   obtain ⟨v0, x0, x0b⟩ := avdB_str Try.underlying9 u0
   obtain ⟨y, hy, hw⟩ := dcore n (by omega) u1
   simp only [List.cons.injEq, and_true] at x0
   subst x0 hy
   refine ⟨(v0, y), rfl, ?_⟩
   simp only [Rows.uptoBulkAll] at jb
   simp only
   omega
  obtain ⟨pk, rfl, w8⟩ := bulk_all (f := pickC) (w := fun y => y.2.bulk) (T := Cr.bulkP) (by rw [Cr.bulkP]) (fun x l => by obtain ⟨g, y⟩ := x; rw [Cr.bulkP]) (Q := fun _ _ => True) es8 ds8 l8 fun i c x g1 g2 => by
   have hzx := z8 x (List.mem_of_getElem? g2)
   obtain ⟨jl, dd, jd, jb, jz, jf⟩ := avdB_struct Try.underlying116 (q8 i c x g1 g2)
   rw [k116] at jl
   obtain ⟨c0, r, rfl, hr⟩ := at10 jl
   obtain ⟨t0, t1, rfl⟩ := len2 (show dd.length = 2 from jd)
   have u0 := jf 0 _ t0 rfl rfl
   have u1 := jf 1 _ t1 rfl rfl
   have y4 := jz t1 (by simp)
   change AVD Try.prog 3 (List.take (Try.prog.cellsOf 3) (List.drop 0 (c0 :: r))) t0 at u0
   change AVD Try.prog 54 (List.take (Try.prog.cellsOf 54) (List.drop 1 (c0 :: r))) t1 at u1
   simp only [k3, k54, List.drop_zero, List.drop_succ_cons, List.take_succ_cons, List.take_zero] at u0 u1
   rw [List.take_of_length_le (by omega)] at u1
   obtain ⟨v0, x0⟩ := dint u0
   obtain ⟨y, hy, hw⟩ := dcore n (by omega) u1
   simp only [List.cons.injEq, and_true] at x0
   subst x0 hy
   refine ⟨(v0, y), rfl, ?_⟩
   simp only [Rows.uptoBulkAll] at jb
   simp only
   omega
  simp only [List.cons.injEq, and_true] at e0 e1 e2 e3 e4 e5 e6 e7 e8
  subst e0 e1 e2 e3 e4 e5 e6 e7 e8
  refine ⟨.mk k nm m ar ps gs al bs pk, by rw [Cr.cells_eq], ?_⟩
  simp only [Rows.uptoBulkAll] at hb
  have := one_le d0; have := one_le d2; have := one_le d3
  rw [Cr.bulk]
  omega
theorem ddef {cs : List AV} {d : DataW H} (h : AVD Try.prog 58 cs d) : ∃ x : ByteArray × Cr, cs = defC x ∧ x.1.size + 1 + x.2.bulk ≤ Rows.uptoBulk d := by
 obtain ⟨jl, dd, jd, jb, jz, jf⟩ := avdB_struct Try.underlying58 h
 rw [k58] at jl
 obtain ⟨c0, r, rfl, hr⟩ := at10 jl
 obtain ⟨t0, t1, rfl⟩ := len2 (show dd.length = 2 from jd)
 have u0 := jf 0 _ t0 rfl rfl
 have u1 := jf 1 _ t1 rfl rfl
 change AVD Try.prog 9 (List.take (Try.prog.cellsOf 9) (List.drop 0 (c0 :: r))) t0 at u0
 change AVD Try.prog 54 (List.take (Try.prog.cellsOf 54) (List.drop 1 (c0 :: r))) t1 at u1
 simp only [k9, k54, List.drop_zero, List.drop_succ_cons, List.take_succ_cons, List.take_zero] at u0 u1
 rw [List.take_of_length_le (by omega)] at u1
 obtain ⟨v0, x0, x0b⟩ := avdB_str Try.underlying9 u0
 obtain ⟨y, hy, hw⟩ := dcore _ (Nat.lt_succ_self _) u1
 simp only [List.cons.injEq, and_true] at x0
 subst x0 hy
 refine ⟨(v0, y), rfl, ?_⟩
 simp only [Rows.uptoBulkAll] at jb
 simp only
 omega
theorem ddefs {cs : List AV} {d : DataW H} (h : AVD Try.prog 47 cs d) : ∃ l : List (ByteArray × Cr), cs = [.list (l.map defC)] ∧ bulkD l + 1 ≤ Rows.uptoBulk d := by
 obtain ⟨es, ds, rfl, hl, hb, _, he⟩ := avdB_slice Try.underlying47 (by rw [k58]; decide) h
 obtain ⟨l, rfl, hw⟩ := bulk_all (f := defC) (w := fun x => x.1.size + 1 + x.2.bulk) (T := bulkD) rfl (fun x l => by obtain ⟨s, y⟩ := x; rw [bulkD]) (Q := fun _ _ => True) es ds hl fun i c x h1 h2 => ddef (he i c x h1 h2)
 exact ⟨l, rfl, by omega⟩
end
end Go.Proofs.Ytjjbjibbjbbeaaa
