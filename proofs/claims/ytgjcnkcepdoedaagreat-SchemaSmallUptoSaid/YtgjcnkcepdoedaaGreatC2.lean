/- A part of the proof of the claim (no condition of its own). -/
import Derived.Test.YtgjcnkcepdoedaaGreatC1
import Derived.Test.YtgjcnkcepdoedaaGreatRows
open Nat renaming reduceEqDiff → Za, reduceAdd → Zb, reduceLeDiff → Zc
open Int renaming reduceEq → Zd, reduceLT → Ze, reduceLE → Zf, reduceNeg → Zg, reduceAdd → Zh, reduceSub → Zi, reduceToNat → Zj
set_option linter.unusedVariables false
set_option linter.unusedSimpArgs false
namespace Go.AL
def Idx (p : Prop) (r : AV) : Prop := ∃ j : Int, r = .int .i64 j ∧ (0 ≤ j ↔ p)
@[congr] theorem Idx_congr {w : Prop} (hw : Visit = w) {p : Prop} {r r' : AV} (h : r = r') : Idx p r = Idx p r' := by rw [h]
end Go.AL
namespace Go.Proofs.YtgjcnkcepdoedaaGreat
open Go.AL
theorem index_ok (σ : Store) (l : List (Int × Cr)) (hl : l.length ≤ 100000000) (g : Nat) (caps : List AV) (p : Int × Cr → Bool)
 (hg : ∀ x, x ∈ l → ∀ s : Store, Kp σ s → ACalls Tryz.prog g ([.agg (pickC x)] ++ caps) s fun r s' => r = .bool (p x) ∧ s' = s) :
 ACalls Tryz.prog 31 [.list (l.map pickC), .fn (.func g) [] caps] σ fun r σ' => Idx (∃ x, x ∈ l ∧ p x = true) r ∧ σ' = σ := by
 refine ACalls_fp (p := Idx (∃ x, x ∈ l ∧ p x = true)) ?_
 refine in31 (by simp) ?_
 unfold c31
 refine raw ?_
 repeat (first | (with_reducible refine unr ?_; try simp only [YY, ↓reduceIte, Za, Zb, Zc, reduceCtorEq, Zd, Ze, Zf, Zg, Zh, Zi, Zj]) | (with_reducible refine WW (by decide) ?_))
 refine AWP_while [0, 1, 6, 7, 8] (fun i : Nat => l.length - i) (fun i => [.list (l.map pickC), .fn (.func g) [] caps, .list (l.map pickC), .int .i64 l.length, .int .i64 i]) (fun i t => σ = t ∧ i ≤ l.length ∧ ∀ y, y ∈ l.take i → p y = false) 0 ⟨rfl, by simp, by simp⟩ ?_ ?_
 · refine raw ?_
   repeat (first | (with_reducible refine unr ?_; try simp only [YY, ↓reduceIte, Za, Zb, Zc, reduceCtorEq, Zd, Ze, Zf, Zg, Zh, Zi, Zj]) | (with_reducible refine WW (by decide) ?_))
   rfl
 rintro i t ⟨rfl, hi, hall⟩
 by_cases hil : i < l.length
 · have hil' : (i : Int) < (l.length : Int) := by omega
   have hw := wrap_succ (i := i) (by omega)
   obtain ⟨x, hx⟩ : ∃ x, l[i]? = some x := ⟨_, List.getElem?_eq_getElem hil⟩
   have hgx : (l.map pickC)[i]? = some (pickC x) := by simp [hx]
   have hxm := List.mem_of_getElem? hx
   have hgo := hg x hxm σ (.refl _)
   refine raw ?_
   repeat (first | (with_reducible refine unr ?_; try simp only [YY, ↓reduceIte, Za, Zb, Zc, reduceCtorEq, Zd, Ze, Zf, Zg, Zh, Zi, Zj, hil', hgx, pickC_len, pick_t, pick_d, wp_callv, callvW_fn]) | (with_reducible refine WW (by decide) ?_))
   refine hgo.mono ?_
   rintro _ s ⟨rfl, rfl⟩
   cases hp : p x with
   | true =>
    refine raw ?_
    repeat (first | (with_reducible refine unr ?_; try simp only [YY, ↓reduceIte, Za, Zb, Zc, reduceCtorEq, Zd, Ze, Zf, Zg, Zh, Zi, Zj]) | (with_reducible refine WW (by decide) ?_))
    exact FP.same (.refl _) ⟨i, rfl, by simp only [Int.natCast_nonneg, true_iff]; exact ⟨x, hxm, hp⟩⟩ (.int _ _)
   | false =>
    refine raw ?_
    repeat (first | (with_reducible refine unr ?_; try simp only [YY, ↓reduceIte, Za, Zb, Zc, reduceCtorEq, Zd, Ze, Zf, Zg, Zh, Zi, Zj, hw]) | (with_reducible refine WW (by decide) ?_))
    exact ⟨i + 1, rfl, ⟨by omega, take_all (p := fun y : Int × Cr => p y = false) hx hall hp⟩, by omega⟩
 have : i = l.length := by omega
 subst this
 have hil' : ¬ ((l.length : Nat) : Int) < (l.length : Int) := by omega
 rw [List.take_of_length_le (by omega)] at hall
 refine raw ?_
 repeat (first | (with_reducible refine unr ?_; try simp only [YY, ↓reduceIte, Za, Zb, Zc, reduceCtorEq, Zd, Ze, Zf, Zg, Zh, Zi, Zj, hil']) | (with_reducible refine WW (by decide) ?_))
 exact FP.same (.refl _) ⟨-1, rfl, by
  refine ⟨fun h => absurd h (by omega), fun ⟨x, hx, h⟩ => ?_⟩
  rw [hall x hx] at h; cases h⟩ (.int _ _)
theorem contains_ok (σ : Store) (l : List (Int × Cr)) (hl : l.length ≤ 100000000) (g : Nat) (caps : List AV) (p : Int × Cr → Bool)
 (hg : ∀ x, x ∈ l → ∀ s : Store, Kp σ s → ACalls Tryz.prog g ([.agg (pickC x)] ++ caps) s fun r s' => r = .bool (p x) ∧ s' = s) :
 ACalls Tryz.prog 19 [.list (l.map pickC), .fn (.func g) [] caps] σ fun r σ' => (∃ b : Bool, r = .bool b ∧ (b = true ↔ ∃ x, x ∈ l ∧ p x = true)) ∧ σ' = σ := by
 refine in19 (by simp) ?_
 unfold c19
 refine raw ?_
 repeat (first | (with_reducible refine unr ?_; try simp only [YY, ↓reduceIte, Za, Zb, Zc, reduceCtorEq, Zd, Ze, Zf, Zg, Zh, Zi, Zj]) | (with_reducible refine WW (by decide) ?_))
 refine (index_ok σ l hl g caps p hg).mono ?_
 rintro _ s ⟨⟨j, rfl, hj⟩, rfl⟩
 by_cases h0 : (0 : Int) ≤ j
 · have h0' : j ≥ 0 := h0
   refine raw ?_
   repeat (first | (with_reducible refine unr ?_; try simp only [YY, ↓reduceIte, Za, Zb, Zc, reduceCtorEq, Zd, Ze, Zf, Zg, Zh, Zi, Zj, h0, h0']) | (with_reducible refine WW (by decide) ?_))
   exact ⟨true, by simp, by simpa using hj.1 h0⟩
 · have h0' : ¬ j ≥ 0 := h0
   refine raw ?_
   repeat (first | (with_reducible refine unr ?_; try simp only [YY, ↓reduceIte, Za, Zb, Zc, reduceCtorEq, Zd, Ze, Zf, Zg, Zh, Zi, Zj, h0, h0']) | (with_reducible refine WW (by decide) ?_))
   exact ⟨false, by simp, by simpa using fun x hx => fun h => h0 (hj.2 ⟨x, hx, h⟩)⟩
theorem clo20 (σ : Store) (id : Nat) (x y : Int × Cr) (h : σ.get id = some (.cells 36 0 10 [pickC x])) : ACalls Tryz.prog 20 [.agg (pickC y), .ptr id 0 0 0] σ fun r σ' => r = .bool (decide (y.1 = x.1)) ∧ σ' = σ := by
 refine ACalls_fp (p := fun r => r = .bool (decide (y.1 = x.1))) ?_
 refine in20 (by simp) ?_
 unfold c20
 have hq := lt_ne (σ.lt h)
 have k := Kp.pushed σ (.cells 36 0 10 [pickC y])
 unfold pickC at h ⊢
 refine raw ?_
 repeat (first | (with_reducible refine unr ?_; try simp only [YY, ↓reduceIte, Za, Zb, Zc, reduceCtorEq, Zd, Ze, Zf, Zg, Zh, Zi, Zj, h, hq, Cr.len, Cr.take9, Cr.drop9]) | (with_reducible refine WW (by decide) ?_))
 exact FP.same k rfl (.bool _)
set_option maxHeartbeats 2000000 in
theorem mergeP_ok (c : Cr) (l : List (Int × Cr)) (hb : Bd c l) (σ : Store) : ACalls Tryz.prog 8 [.agg c.cells, .list (l.map pickC)] σ fun r σ' => r = outA (mergeOut c l) ∧ σ' = σ := by
 refine calls_a (.cons (.agg (Cr.noId _)) (.cons (.list (.of fun e he => by obtain ⟨y, -, rfl⟩ := List.mem_map.1 he; exact .cons (.int _ _) y.2.noId)) .nil)) (ACalls_leD ?_) σ
 obtain ⟨hb1, hb2, hb3⟩ := id hb
 have hpc := plain_ok c
 have hm := merge_ok c.size c l (Nat.le_refl _) hb
 refine in8 (by simp) ?_
 unfold c8
 generalize Store.empty = z
 try simp only [YY, ↓reduceIte, Za, Zb, Zc, reduceCtorEq, Zd, Ze, Zf, Zg, Zh, Zi, Zj, Cr.len]
 iterate 2 ((with_reducible refine WW (by decide) ?_); refine unr ?_; try simp only [YY, ↓reduceIte, Za, Zb, Zc, reduceCtorEq, Zd, Ze, Zf, Zg, Zh, Zi, Zj, Cr.len])
 generalize hs1 : Store.push _ _ = s1
 have he : s1.get z.next = some (.cells 28 0 9 [c.cells]) := by rw [← hs1]; simp [Store.push_get, Store.push_next]
 have he2 : s1.get (z.next + 1) = some (.cells 28 0 9 [zeroC]) := by rw [← hs1]; simp [Store.push_get, Store.push_next]
 clear hs1
 refine raw ?_
 repeat (first | (with_reducible refine unr ?_; try simp only [YY, ↓reduceIte, Za, Zb, Zc, reduceCtorEq, Zd, Ze, Zf, Zg, Zh, Zi, Zj, he, Cr.len, Cr.take9, Cr.drop9]) | (with_reducible refine WW (by decide) ?_))
 refine (hpc _).mono ?_
 rintro _ s1 ⟨rfl, rfl⟩
 cases hcp : c.plain with
 | false =>
  have u1 : ∀ o, (s1.upd (z.next + 1) o).get (z.next + 1) = some o := fun o => Store.get_upd_self _ _ (s1.lt he2)
  refine raw ?_
  repeat (first | (with_reducible refine unr ?_; try simp only [YY, ↓reduceIte, Za, Zb, Zc, reduceCtorEq, Zd, Ze, Zf, Zg, Zh, Zi, Zj, he2, u1]) | (with_reducible refine WW (by decide) ?_))
  exact outA_f fun h => by have := h.1; rw [hcp] at this; cases this
 | true =>
 refine raw ?_
 repeat (first | (with_reducible refine unr ?_; try simp only [YY, ↓reduceIte, Za, Zb, Zc, reduceCtorEq, Zd, Ze, Zf, Zg, Zh, Zi, Zj]) | (with_reducible refine WW (by decide) ?_))
 refine AWP_while [1, 2, 4, 13, 14, 15] (fun i : Nat => l.length - i) (fun i => [.list (l.map pickC), .ptr z.next 0 0 0, .ptr (z.next + 1) 0 0 0, .list (l.map pickC), .int .i64 l.length, .int .i64 i]) (fun i t => Kp s1 t ∧ i ≤ l.length ∧ ((l.take i).map (·.1)).Nodup ∧ ∀ y, y ∈ l.take i → y.2.plain = true) 0 ⟨.refl _, by simp, by simp, by simp⟩ ?_ ?_
 · refine raw ?_
   repeat (first | (with_reducible refine unr ?_; try simp only [YY, ↓reduceIte, Za, Zb, Zc, reduceCtorEq, Zd, Ze, Zf, Zg, Zh, Zi, Zj]) | (with_reducible refine WW (by decide) ?_))
   rfl
 rintro i t ⟨hK, hi, hnd, hall⟩
 have he1 := hK.get he
 have he3 := hK.get he2
 have hq1 := lt_ne (t.lt he1)
 have hq2 := lt_ne (t.lt he3)
 by_cases hil : i < l.length
 · have hil' : (i : Int) < (l.length : Int) := by omega
   have hile : (i : Int) ≤ (l.length : Int) := by omega
   have hw := wrap_succ (i := i) (by omega)
   obtain ⟨x, hx⟩ : ∃ x, l[i]? = some x := ⟨_, List.getElem?_eq_getElem hil⟩
   have hg : (l.map pickC)[i]? = some (pickC x) := by simp [hx]
   have hxm := List.mem_of_getElem? hx
   have hxp := plain_ok x.2
   have hp : (t.push (.cells 36 0 10 [pickC x])).get t.next = some (.cells 36 0 10 [pickC x]) := by simp [Store.push_get]
   have hcon := contains_ok (t.push (.cells 36 0 10 [pickC x])) (l.take i) (by rw [List.length_take]; omega) 20 [.ptr t.next 0 0 0] (fun y => decide (y.1 = x.1)) (fun y _ s hs => clo20 s _ x y (hs.get hp))
   have htk : List.take i (l.map pickC) = (l.take i).map pickC := List.map_take.symm
   have hKx := hK.push (.cells 36 0 10 [pickC x])
   have u1 : ∀ o, (t.upd (z.next + 1) o).get (z.next + 1) = some o := fun o => Store.get_upd_self _ _ (t.lt he3)
   refine raw ?_
   repeat (first | (with_reducible refine unr ?_; try simp only [YY, ↓reduceIte, Za, Zb, Zc, reduceCtorEq, Zd, Ze, Zf, Zg, Zh, Zi, Zj, hil', hile, hg, pickC_len, pick_t, pick_d, htk]) | (with_reducible refine WW (by decide) ?_))
   refine ⟨fun q hq => ?_, ?_⟩
   · obtain ⟨y, -, rfl⟩ := List.mem_map.1 hq; exact pickC_len y
   refine hcon.mono ?_
   rintro _ _ ⟨⟨b, rfl, hbb⟩, rfl⟩
   have he4 : (t.push (.cells 36 0 10 [.int .i64 x.1 :: x.2.cells])).get (z.next + 1) = some (.cells 28 0 9 [zeroC]) := by rw [Store.push_get, if_neg (by rw [hq2]; simp)]; exact he3
   unfold pickC
   cases b with
   | true =>
    obtain ⟨y, hy, hyx⟩ := hbb.1 rfl
    refine raw ?_
    repeat (first | (with_reducible refine unr ?_; try simp only [YY, ↓reduceIte, Za, Zb, Zc, reduceCtorEq, Zd, Ze, Zf, Zg, Zh, Zi, Zj, he3, he4, u1, hq2, Cr.len, Cr.take9, Cr.drop9]) | (with_reducible refine WW (by decide) ?_))
    refine outA_f fun h => ?_
    obtain ⟨k, hk⟩ := List.getElem?_of_mem hy
    have hki : k < i := by have := (List.getElem?_eq_some_iff.1 hk).1; rw [List.length_take] at this; omega
    rw [List.getElem?_take_of_lt hki] at hk
    exact nodup_no hx hk hki (by simpa using hyx) h.2.1
   | false =>
    have hne : ∀ y, y ∈ l.take i → y.1 ≠ x.1 := fun y hy he => by
     have := hbb.2 ⟨y, hy, by simpa using he⟩
     cases this
    refine raw ?_
    repeat (first | (with_reducible refine unr ?_; try simp only [YY, ↓reduceIte, Za, Zb, Zc, reduceCtorEq, Zd, Ze, Zf, Zg, Zh, Zi, Zj, he3, he4, u1, hq2, Cr.len, Cr.take9, Cr.drop9]) | (with_reducible refine WW (by decide) ?_))
    refine (hxp _).mono ?_
    rintro _ _ ⟨rfl, rfl⟩
    cases hp : x.2.plain with
    | false =>
     refine raw ?_
     repeat (first | (with_reducible refine unr ?_; try simp only [YY, ↓reduceIte, Za, Zb, Zc, reduceCtorEq, Zd, Ze, Zf, Zg, Zh, Zi, Zj, he3, he4, u1, hq2, Cr.len, Cr.take9, Cr.drop9]) | (with_reducible refine WW (by decide) ?_))
     exact outA_f fun h => by have := h.2.2 x hxm; rw [hp] at this; cases this
    | true =>
     refine raw ?_
     repeat (first | (with_reducible refine unr ?_; try simp only [YY, ↓reduceIte, Za, Zb, Zc, reduceCtorEq, Zd, Ze, Zf, Zg, Zh, Zi, Zj, hw]) | (with_reducible refine WW (by decide) ?_))
     exact ⟨i + 1, rfl, ⟨hKx, by omega, nodup_succ hx hnd hne, take_all (p := fun y : Int × Cr => y.2.plain = true) hx hall hp⟩, by omega⟩
 have : i = l.length := by omega
 subst this
 have hil' : ¬ ((l.length : Nat) : Int) < (l.length : Int) := by omega
 rw [List.take_of_length_le (by omega)] at hnd hall
 have u1 : ∀ o, (t.upd (z.next + 1) o).get (z.next + 1) = some o := fun o => Store.get_upd_self _ _ (t.lt he3)
 refine raw ?_
 repeat (first | (with_reducible refine unr ?_; try simp only [YY, ↓reduceIte, Za, Zb, Zc, reduceCtorEq, Zd, Ze, Zf, Zg, Zh, Zi, Zj, hil', he1, Cr.len, Cr.take9, Cr.drop9]) | (with_reducible refine WW (by decide) ?_))
 refine (hm _).mono ?_
 rintro _ _ ⟨rfl, rfl⟩
 refine raw ?_
 repeat (first | (with_reducible refine unr ?_; try simp only [YY, ↓reduceIte, Za, Zb, Zc, reduceCtorEq, Zd, Ze, Zf, Zg, Zh, Zi, Zj, he3, u1, Cr.len, Cr.take9, Cr.drop9]) | (with_reducible refine WW (by decide) ?_))
 exact outA_t ⟨hcp, hnd, hall⟩
end Go.Proofs.YtgjcnkcepdoedaaGreat
set_option linter.unusedVariables false
set_option linter.unusedSimpArgs false
namespace Go.AL
def SmallC (c : Cr) (l : List (Int × Cr)) : Prop := l.length ≤ 41 ∧ c.size + (l.map fun x => x.2.size).sum ≤ 1500
instance (c : Cr) (l : List (Int × Cr)) : Decidable (SmallC c l) := by unfold SmallC; infer_instance
theorem smallF {c : Cr} {l : List (Int × Cr)} (h : ¬ SmallC c l) : AV.bool false = AV.bool (decide (SmallC c l)) := by simp [h]
theorem SmallC.bd {c : Cr} {l : List (Int × Cr)} (h : SmallC c l) : Bd c l := ⟨by have := h.2; omega, by have := h.1; omega, fun x hx => by
 have := le_sum (f := fun x : Int × Cr => x.2.size) hx
 have := h.2
 omega⟩
end Go.AL
namespace Go.Proofs.YtgjcnkcepdoedaaGreat
open Go.AL
set_option maxHeartbeats 1000000 in
theorem small_ok (c : Cr) (l : List (Int × Cr)) (hz : c.size ≤ 10000000) (hl : (l.map fun x => x.2.size).sum ≤ 10000000) (σ : Store) : ACalls Tryz.prog 6 [.agg c.cells, .list (l.map pickC)] σ fun r σ' => r = .bool (decide (SmallC c l)) ∧ σ' = σ := by
 refine calls_a (.cons (.agg (Cr.noId _)) (.cons (.list (.of fun e he => by obtain ⟨y, -, rfl⟩ := List.mem_map.1 he; exact .cons (.int _ _) y.2.noId)) .nil)) (ACalls.mono (K := fun r _ => r = .bool (decide (SmallC c l))) ?_ fun r s h => by rw [h]; exact .bool _ _) σ
 have hl1 := len_le_sum (f := fun x : Int × Cr => x.2.size) (fun x : Int × Cr => x.2.size_pos) l
 have hs := size_ok c (by omega)
 refine in6 (by simp) ?_
 unfold c6
 generalize Store.empty = z
 refine raw ?_
 repeat (first | (with_reducible refine unr ?_; try simp only [YY, ↓reduceIte, Za, Zb, Zc, reduceCtorEq, Zd, Ze, Zf, Zg, Zh, Zi, Zj, Cr.len, Cr.take9, Cr.drop9]) | (with_reducible refine WW (by decide) ?_))
 generalize hs1 : Store.push _ _ = s1
 clear hs1
 refine (hs _).mono ?_
 rintro _ s1 ⟨rfl, rfl⟩
 refine raw ?_
 repeat (first | (with_reducible refine unr ?_; try simp only [YY, ↓reduceIte, Za, Zb, Zc, reduceCtorEq, Zd, Ze, Zf, Zg, Zh, Zi, Zj]) | (with_reducible refine WW (by decide) ?_))
 refine AWP_while [1, 5, 6] (fun i : Nat => l.length - i) (fun i => [.list (l.map pickC), .int .i64 ((c.size + ((l.take i).map fun x => x.2.size).sum : Nat) : Int), .int .i64 i]) (fun i t => s1 = t ∧ i ≤ l.length ∧ i ≤ 41) 0 ⟨rfl, by simp, by omega⟩ ?_ ?_
 · refine raw ?_
   repeat (first | (with_reducible refine unr ?_; try simp only [YY, ↓reduceIte, Za, Zb, Zc, reduceCtorEq, Zd, Ze, Zf, Zg, Zh, Zi, Zj]) | (with_reducible refine WW (by decide) ?_))
   simp
 rintro i t ⟨rfl, hi, hi41⟩
 by_cases hil : i < l.length
 · have hil' : (i : Int) < (l.length : Int) := by omega
   have hw := wrap_succ (i := i) (by omega)
   obtain ⟨x, hx⟩ : ∃ x, l[i]? = some x := ⟨_, List.getElem?_eq_getElem hil⟩
   have hg : (l.map pickC)[i]? = some (pickC x) := by simp [hx]
   have hxm := List.mem_of_getElem? hx
   have hle := le_sum (f := fun x : Int × Cr => x.2.size) hxm
   have hle2 := take_sum_le (fun x : Int × Cr => x.2.size) l (i + 1)
   have hle3 := take_sum_le (fun x : Int × Cr => x.2.size) l i
   have hsum := take_sum (f := fun x : Int × Cr => x.2.size) hx
   try simp only at hle hsum
   by_cases h40 : (i : Int) > 40
   · refine raw ?_
     repeat (first | (with_reducible refine unr ?_; try simp only [YY, ↓reduceIte, Za, Zb, Zc, reduceCtorEq, Zd, Ze, Zf, Zg, Zh, Zi, Zj, hil', h40]) | (with_reducible refine WW (by decide) ?_))
     exact smallF fun h => by have := h.1; omega
   by_cases h15 : ((c.size + ((l.take i).map fun x => x.2.size).sum : Nat) : Int) > 1500
   · refine raw ?_
     repeat (first | (with_reducible refine unr ?_; try simp only [YY, ↓reduceIte, Za, Zb, Zc, reduceCtorEq, Zd, Ze, Zf, Zg, Zh, Zi, Zj, hil', h40, h15]) | (with_reducible refine WW (by decide) ?_))
     exact smallF fun h => by have := h.2; omega
   have hsx := size_ok x.2 (by omega)
   refine raw ?_
   repeat (first | (with_reducible refine unr ?_; try simp only [YY, ↓reduceIte, Za, Zb, Zc, reduceCtorEq, Zd, Ze, Zf, Zg, Zh, Zi, Zj, hil', h40, h15, hg, pickC, Cr.len, Cr.take9, Cr.drop9]) | (with_reducible refine WW (by decide) ?_))
   refine (hsx _).mono ?_
   rintro _ _ ⟨rfl, rfl⟩
   have hw2 := wrap_add (m := c.size + ((l.take i).map fun x => x.2.size).sum) (n := x.2.size) (k := c.size + ((l.take (i + 1)).map fun x => x.2.size).sum) (by omega) (by omega)
   refine raw ?_
   repeat (first | (with_reducible refine unr ?_; try simp only [YY, ↓reduceIte, Za, Zb, Zc, reduceCtorEq, Zd, Ze, Zf, Zg, Zh, Zi, Zj, hw, hw2]) | (with_reducible refine WW (by decide) ?_))
   exact ⟨i + 1, rfl, ⟨by omega, by omega⟩, by omega⟩
 have hil' : ¬ (i : Int) < (l.length : Int) := by omega
 refine raw ?_
 repeat (first | (with_reducible refine unr ?_; try simp only [YY, ↓reduceIte, Za, Zb, Zc, reduceCtorEq, Zd, Ze, Zf, Zg, Zh, Zi, Zj, hil']) | (with_reducible refine WW (by decide) ?_))
 rw [List.take_of_length_le (l := l) (by omega)]
 refine congrArg AV.bool ?_
 rw [decide_eq_decide]
 unfold SmallC
 omega
end Go.Proofs.YtgjcnkcepdoedaaGreat
set_option linter.unusedVariables false
set_option linter.unusedSimpArgs false
namespace Go.AL
theorem sum_cons {α : Type} (f : α → Nat) (a : α) (l : List α) : ((a :: l).map f).sum = f a + (l.map f).sum := by simp
theorem sum_zero {β : Type} : ∀ m : List β, (m.map fun _ => 0).sum = 0
 | [] => rfl
 | _ :: m => by rw [sum_cons, sum_zero m]
theorem sum_swap {α β : Type} (f : α → β → Nat) (m : List β) : ∀ l : List α, (l.map fun i => (m.map fun x => f i x).sum).sum = (m.map fun x => (l.map fun i => f i x).sum).sum
 | [] => (sum_zero m).symm
 | a :: l => by
  rw [sum_cons, sum_swap f m l]
  induction m with
  | nil => simp
  | cons b m ih => simp only [List.map_cons, List.sum_cons] at ih ⊢; omega
theorem sum_add {α : Type} (f g : α → Nat) : ∀ l : List α, (l.map fun x => f x + g x).sum = (l.map f).sum + (l.map g).sum
 | [] => rfl
 | a :: l => by have := sum_add f g l; simp only [List.map_cons, List.sum_cons] at this ⊢; omega
theorem sum_mul2 {α : Type} (f : α → Nat) : ∀ l : List α, (l.map fun x => 2 * f x).sum = 2 * (l.map f).sum
 | [] => rfl
 | a :: l => by have := sum_mul2 f l; simp only [List.map_cons, List.sum_cons] at this ⊢; omega
theorem sum_range_getD (P : List Cr) : ((List.range P.length).map fun i => (P.getD i Cr.zero).size).sum = (P.map fun x => x.size).sum := by
 congr 1
 apply List.ext_getElem
 · simp
 · intro i h1 h2
   have hi : i < P.length := by simpa using h1
   simp [hi]
theorem sum_filter {α : Type} (f : α → Nat) (p : α → Bool) : ∀ l : List α, ((l.filter p).map f).sum + ((l.filter fun x => !(p x)).map f).sum = (l.map f).sum
 | [] => rfl
 | a :: l => by
  have := sum_filter f p l
  cases h : p a <;> simp [h] <;> omega
theorem withL_size (c : Cr) (L : List Cr) (h : L.length = c.partsL.length) : (c.withL L).size = 1 + (L.map fun x => x.size).sum + (c.picksL.map fun x => x.2.size).sum := by
 obtain ⟨k, nm, n, ar, ps, gs, al, bs, pk⟩ := c
 simp only [Cr.partsL, List.length_append, List.length_map] at h
 rw [Cr.size_parts, Cr.withL]
 simp only [Cr.picksL, Cr.partsL]
 congr 3
 have z : ∀ {α : Type} (l : List (α × Cr)) (m : List Cr), l.length ≤ m.length → (List.zipWith (fun a x => (a.1, x)) l m).map (·.2) = m.take l.length := fun l m h => by
  apply List.ext_getElem
  · simp
  · intro i h1 h2; simp
 rw [z _ _ (by simp; omega), z _ _ (by simp; omega), ← List.take_add (i := gs.length), ← List.take_add (i := gs.length + al.length), List.take_of_length_le (by omega)]
def szL (l : List (Int × Cr)) : Nat := (l.map fun x => x.2.size).sum
theorem inner_size {f : Cr → List (Int × Cr) → Cr} (c : Cr) (m : List (Int × Cr)) (hm : ∀ x, x ∈ m → x.2.partsL.length = c.partsL.length)
 (hf : ∀ i, i < c.partsL.length → (f (c.partsL.getD i Cr.zero) (colN m i)).size ≤ (c.partsL.getD i Cr.zero).size + 2 * szL (colN m i)) : (inner f c m).size ≤ c.size + 2 * szL m := by
 rw [inner]
 split
 · omega
 rw [withL_size _ _ (by simp), c.size_parts, List.map_map]
 have h1 : ((List.range c.partsL.length).map ((fun x : Cr => x.size) ∘ fun i => f (c.partsL.getD i Cr.zero) (colN m i))).sum ≤ ((List.range c.partsL.length).map fun i => (c.partsL.getD i Cr.zero).size + 2 * szL (colN m i)).sum :=
  sum_le (f := fun i => (f (c.partsL.getD i Cr.zero) (colN m i)).size) (g := fun i => (c.partsL.getD i Cr.zero).size + 2 * szL (colN m i)) fun i hi => hf i (by simpa using hi)
 rw [sum_add (fun i => (c.partsL.getD i Cr.zero).size), sum_range_getD, sum_mul2] at h1
 have h2 : ((List.range c.partsL.length).map fun i => szL (colN m i)).sum ≤ szL m := by
  have : ((List.range c.partsL.length).map fun i => szL (colN m i)) = ((List.range c.partsL.length).map fun i => (m.map fun x => (x.2.partsL.getD i Cr.zero).size).sum) := by
   congr 1
   funext i
   simp [szL, colN, Function.comp_def]
  rw [this, sum_swap (fun i (x : Int × Cr) => (x.2.partsL.getD i Cr.zero).size)]
  refine sum_le (g := fun x : Int × Cr => x.2.size) fun x hx => ?_
  have e := sum_range_getD x.2.partsL
  rw [hm x hx] at e
  have := x.2.size_parts
  omega
 omega
theorem merge_size : ∀ (n : Nat) (c : Cr) (l : List (Int × Cr)), (mergeN n c l).size ≤ c.size + 2 * szL l
 | 0, c, l => by rw [mergeN]; omega
 | n + 1, c, l => by
  have hs : szL ((diff c l).filter fun x => c.alikeB x.2) + szL ((diff c l).filter fun x => !(c.alikeB x.2)) = szL (diff c l) := sum_filter _ _ _
  have hd : szL (diff c l) ≤ szL l := by
   have := sum_filter (fun x : Int × Cr => x.2.size) (fun x : Int × Cr => !(c.sameB x.2)) l
   show ((l.filter fun x => !(c.sameB x.2)).map _).sum ≤ _
   unfold szL
   omega
  rw [diff_near, diff_far] at hs
  have hi := inner_size (f := mergeN n) c (near c l) (fun x hx => alike_parts (near_mem hx).2) fun i _ => merge_size n _ _
  rw [mergeN]
  split
  · omega
  · rename_i hf
    rw [Cr.size_eq]
    have hp : 1 ≤ szL (far c l) := by
     obtain ⟨a, r, e⟩ := List.exists_cons_of_ne_nil hf
     rw [e]
     have := a.2.size_pos
     simp [szL]; omega
    simp only [List.map_cons, List.map_nil, List.sum_cons, List.sum_nil]
    unfold szL at *
    omega
end Go.AL
set_option linter.unusedVariables false
set_option linter.unusedSimpArgs false
namespace Go.AL
end Go.AL
set_option linter.unusedVariables false
set_option linter.unusedSimpArgs false
namespace Go.AL
theorem noId_picks (l : List (Int × Cr)) : NoId (.list (l.map pickC)) := .list (.of fun e he => by obtain ⟨y, -, rfl⟩ := List.mem_map.1 he; exact .cons (.int _ _) y.2.noId)
theorem out_size {c : Cr} {l : List (Int × Cr)} (h : SmallC c l) : (mergeOut c l).1.size ≤ 3000 := by
 by_cases hg : Good c l
 · rw [mergeOut_t hg]
   have := merge_size c.size c l
   have h2 := h.2
   unfold szL at this
   simp only
   omega
 · rw [mergeOut_f hg]
   simp only [Cr.zero, Cr.size_eq, List.map_nil, List.sum_nil]
   omega
end Go.AL
namespace Go.Proofs.YtgjcnkcepdoedaaGreat
open Go.AL
abbrev Known : Prop := ∀ σ : Store, ACalls Tryz.prog 7 [] σ fun r σ' => r = .bool true ∧ σ' = σ
end Go.Proofs.YtgjcnkcepdoedaaGreat
set_option linter.unusedVariables false
set_option linter.unusedSimpArgs false
namespace Go.Proofs.YtgjcnkcepdoedaaGreat
open Go.AL
set_option maxHeartbeats 2000000 in
theorem smallLaw_ok (hk : Known) (c : Cr) (l : List (Int × Cr)) (hz : c.size ≤ 10000000) (hl : (l.map fun x => x.2.size).sum ≤ 10000000) (σ : Store) : ACalls Tryz.prog 3 [.agg c.cells, .list (l.map pickC)] σ fun r σ' => r = .bool true ∧ σ' = σ := by
 refine calls_a (.cons (.agg (Cr.noId _)) (.cons (noId_picks l) .nil)) (ACalls.mono (K := fun r _ => r = .bool true) ?_ fun r s h => by rw [h]; exact .bool _ _) σ
 have hsm := small_ok c l hz hl
 refine in3 (by simp) ?_
 unfold c3
 generalize Store.empty = z
 try simp only [YY, ↓reduceIte, Za, Zb, Zc, reduceCtorEq, Zd, Ze, Zf, Zg, Zh, Zi, Zj, Cr.len]
 iterate 2 ((with_reducible refine WW (by decide) ?_); refine unr ?_; try simp only [YY, ↓reduceIte, Za, Zb, Zc, reduceCtorEq, Zd, Ze, Zf, Zg, Zh, Zi, Zj, Cr.len])
 generalize hs1 : Store.push _ _ = s1
 have he : s1.get z.next = some (.cells 28 0 9 [c.cells]) := by rw [← hs1]; simp [Store.push_get, Store.push_next]
 clear hs1
 refine raw ?_
 repeat (first | (with_reducible refine unr ?_; try simp only [YY, ↓reduceIte, Za, Zb, Zc, reduceCtorEq, Zd, Ze, Zf, Zg, Zh, Zi, Zj, he, Cr.len, Cr.take9, Cr.drop9]) | (with_reducible refine WW (by decide) ?_))
 refine (hsm _).mono ?_
 rintro _ s1 ⟨rfl, rfl⟩
 by_cases hS : ¬ SmallC c l
 · rw [decide_eq_false hS]
   refine raw ?_
   repeat (first | (with_reducible refine unr ?_; try simp only [YY, ↓reduceIte, Za, Zb, Zc, reduceCtorEq, Zd, Ze, Zf, Zg, Zh, Zi, Zj]) | (with_reducible refine WW (by decide) ?_))
   refine (hk _).mono ?_
   rintro _ _ ⟨rfl, rfl⟩
   refine raw ?_
   repeat (first | (with_reducible refine unr ?_; try simp only [YY, ↓reduceIte, Za, Zb, Zc, reduceCtorEq, Zd, Ze, Zf, Zg, Zh, Zi, Zj]) | (with_reducible refine WW (by decide) ?_))
 have hS := Classical.not_not.1 hS
 have hsz := out_size hS
 rw [decide_eq_true hS]
 have hP := mergeP_ok c l hS.bd
 have hms : (mergeOut c l).1.size ≤ c.size + 2 * szL l := by
  by_cases hg : Go.AL.Good c l
  · rw [mergeOut_t hg]; exact merge_size _ _ _
  · rw [mergeOut_f hg]; have := c.size_pos; simp only [Cr.zero, Cr.size_eq, List.map_nil, List.sum_nil]; omega
 have hsc := size_ok c (by omega)
 have hszm := size_ok (mergeOut c l).1 (by omega)
 have hpt := pointsS_ok ⟨#[]⟩ (mergeOut c l).1 (by omega)
 have hpd := pointsD_ok (mergeOut c l).1 (by omega)
 unfold outA at hP
 unfold szL at hms
 generalize mergeOut c l = o at *
 obtain ⟨m, e⟩ := o
 simp only at *
 refine raw ?_
 repeat (first | (with_reducible refine unr ?_; try simp only [YY, ↓reduceIte, Za, Zb, Zc, reduceCtorEq, Zd, Ze, Zf, Zg, Zh, Zi, Zj, he, Cr.len, Cr.take9, Cr.drop9]) | (with_reducible refine WW (by decide) ?_))
 refine (hP _).mono ?_
 rintro _ s1 ⟨rfl, rfl⟩
 have hq := lt_ne (s1.lt he)
 by_cases he0 : e = 0
 case neg =>
  refine raw ?_
  repeat (first | (with_reducible refine unr ?_; try simp only [YY, ↓reduceIte, Za, Zb, Zc, reduceCtorEq, Zd, Ze, Zf, Zg, Zh, Zi, Zj, he, Cr.len, Cr.take9, Cr.drop9, hq, he0]) | (with_reducible refine WW (by decide) ?_))
  refine (hk _).mono ?_
  rintro _ _ ⟨rfl, rfl⟩
  refine raw ?_
  repeat (first | (with_reducible refine unr ?_; try simp only [YY, ↓reduceIte, Za, Zb, Zc, reduceCtorEq, Zd, Ze, Zf, Zg, Zh, Zi, Zj]) | (with_reducible refine WW (by decide) ?_))
 subst he0
 refine raw ?_
 repeat (first | (with_reducible refine unr ?_; try simp only [YY, ↓reduceIte, Za, Zb, Zc, reduceCtorEq, Zd, Ze, Zf, Zg, Zh, Zi, Zj, he, Cr.len, Cr.take9, Cr.drop9, hq]) | (with_reducible refine WW (by decide) ?_))
 generalize hs2 : Store.push s1 _ = s2
 have g1 : s2.get z.next = some (.cells 28 0 9 [c.cells]) := by rw [← hs2, Store.push_get, if_neg (by rw [hq]; simp)]; exact he
 have g2 : s2.get s1.next = some (.cells 28 0 9 [m.cells]) := by rw [← hs2]; simp [Store.push_get]
 clear hs2 he hq
 refine (hsc _).mono ?_
 rintro _ s2 ⟨rfl, rfl⟩
 refine raw ?_
 repeat (first | (with_reducible refine unr ?_; try simp only [YY, ↓reduceIte, Za, Zb, Zc, reduceCtorEq, Zd, Ze, Zf, Zg, Zh, Zi, Zj]) | (with_reducible refine WW (by decide) ?_))
 refine AWP_while [1, 2, 5, 7, 8] (fun i : Nat => l.length - i) (fun i => [.list (l.map pickC), .ptr z.next 0 0 0, .ptr s1.next 0 0 0, .int .i64 ((c.size + 2 * ((l.take i).map fun x => x.2.size).sum : Nat) : Int), .int .i64 i]) (fun i t => s2 = t ∧ i ≤ l.length) 0 ⟨rfl, by simp⟩ ?_ ?_
 · refine raw ?_
   repeat (first | (with_reducible refine unr ?_; try simp only [YY, ↓reduceIte, Za, Zb, Zc, reduceCtorEq, Zd, Ze, Zf, Zg, Zh, Zi, Zj]) | (with_reducible refine WW (by decide) ?_))
   simp
 have hl1 := len_le_sum (f := fun x : Int × Cr => x.2.size) (fun x : Int × Cr => x.2.size_pos) l
 rintro i t ⟨rfl, hi⟩
 by_cases hil : i < l.length
 · have hil' : (i : Int) < (l.length : Int) := by omega
   have hw := wrap_succ (i := i) (by omega)
   obtain ⟨x, hx⟩ : ∃ x, l[i]? = some x := ⟨_, List.getElem?_eq_getElem hil⟩
   have hg : (l.map pickC)[i]? = some (pickC x) := by simp [hx]
   have hxm := List.mem_of_getElem? hx
   have hle := le_sum (f := fun x : Int × Cr => x.2.size) hxm
   have hle2 := take_sum_le (fun x : Int × Cr => x.2.size) l (i + 1)
   have hsum := take_sum (f := fun x : Int × Cr => x.2.size) hx
   try simp only at hle hsum
   have hsx := size_ok x.2 (by omega)
   refine raw ?_
   repeat (first | (with_reducible refine unr ?_; try simp only [YY, ↓reduceIte, Za, Zb, Zc, reduceCtorEq, Zd, Ze, Zf, Zg, Zh, Zi, Zj, hil', hg, pickC, Cr.len, Cr.take9, Cr.drop9]) | (with_reducible refine WW (by decide) ?_))
   refine (hsx _).mono ?_
   rintro _ _ ⟨rfl, rfl⟩
   have hw1 : IntKind.i64.wrap (2 * (x.2.size : Int)) = ((2 * x.2.size : Nat) : Int) := by rw [wrap_of (by omega) (by omega)]; omega
   have hw2 := wrap_add (m := c.size + 2 * ((l.take i).map fun x => x.2.size).sum) (n := 2 * x.2.size) (k := c.size + 2 * ((l.take (i + 1)).map fun x => x.2.size).sum) (by omega) (by omega)
   refine raw ?_
   repeat (first | (with_reducible refine unr ?_; try simp only [YY, ↓reduceIte, Za, Zb, Zc, reduceCtorEq, Zd, Ze, Zf, Zg, Zh, Zi, Zj, hw, hw1, hw2]) | (with_reducible refine WW (by decide) ?_))
   exact ⟨i + 1, rfl, by omega, by omega⟩
 have : i = l.length := by omega
 subst this
 have hil' : ¬ ((l.length : Nat) : Int) < (l.length : Int) := by omega
 rw [List.take_of_length_le (l := l) (by omega)]
 have hle : ((m.size : Nat) : Int) ≤ ((c.size + 2 * (l.map fun x => x.2.size).sum : Nat) : Int) := by omega
 refine raw ?_
 repeat (first | (with_reducible refine unr ?_; try simp only [YY, ↓reduceIte, Za, Zb, Zc, reduceCtorEq, Zd, Ze, Zf, Zg, Zh, Zi, Zj, hil', g1, g2, Cr.len, Cr.take9, Cr.drop9]) | (with_reducible refine WW (by decide) ?_))
 refine (hszm _).mono ?_
 rintro _ _ ⟨rfl, rfl⟩
 refine raw ?_
 repeat (first | (with_reducible refine unr ?_; try simp only [YY, ↓reduceIte, Za, Zb, Zc, reduceCtorEq, Zd, Ze, Zf, Zg, Zh, Zi, Zj, hle, g1, g2, Cr.len, Cr.take9, Cr.drop9]) | (with_reducible refine WW (by decide) ?_))
 refine (hpt _).mono ?_
 rintro _ _ ⟨rfl, rfl⟩
 refine raw ?_
 repeat (first | (with_reducible refine unr ?_; try simp only [YY, ↓reduceIte, Za, Zb, Zc, reduceCtorEq, Zd, Ze, Zf, Zg, Zh, Zi, Zj, hle, g1, g2, Cr.len, Cr.take9, Cr.drop9]) | (with_reducible refine WW (by decide) ?_))
 refine (hpd _).mono ?_
 rintro _ _ ⟨rfl, rfl⟩
 refine raw ?_
 repeat (first | (with_reducible refine unr ?_; try simp only [YY, ↓reduceIte, Za, Zb, Zc, reduceCtorEq, Zd, Ze, Zf, Zg, Zh, Zi, Zj, g1, g2, Cr.len, Cr.take9, Cr.drop9]) | (with_reducible refine WW (by decide) ?_))
 refine (hk _).mono ?_
 rintro _ _ ⟨rfl, rfl⟩
 refine raw ?_
 repeat (first | (with_reducible refine unr ?_; try simp only [YY, ↓reduceIte, Za, Zb, Zc, reduceCtorEq, Zd, Ze, Zf, Zg, Zh, Zi, Zj]) | (with_reducible refine WW (by decide) ?_))
end Go.Proofs.YtgjcnkcepdoedaaGreat
set_option linter.unusedVariables false
set_option linter.unusedSimpArgs false
namespace Go.Proofs.YtgjcnkcepdoedaaGreat
open Go.AL
end Go.Proofs.YtgjcnkcepdoedaaGreat
set_option linter.unusedVariables false
namespace Go.Proofs.YtgjcnkcepdoedaaGreat
open Go.AL
section
variable {H : Type}
theorem one_le (d : DataW H) : 1 ≤ Rows.uptoBulk d := by
 cases d with
 | lit l => cases l <;> simp [Rows.uptoBulk]
 | nil => simp [Rows.uptoBulk]
 | ptr d => simp [Rows.uptoBulk]
 | slice elems spare => simp [Rows.uptoBulk]
 | agg parts => simp [Rows.uptoBulk]
 | iface t d => simp [Rows.uptoBulk]
 | map entries => simp [Rows.uptoBulk]
 | held h => simp [Rows.uptoBulk]
variable {P : Program} {t : TypeId} {cs : List AV} {d : DataW H}
theorem avdB_str (hu : P.underlying t = some .string) (h : AVD P t cs d) : ∃ s, cs = [.str s] ∧ s.size + 1 ≤ Rows.uptoBulk d := by
 cases h with
 | int h hw => rw [hu] at h; cases h
 | bool h => rw [hu] at h; cases h
 | str h hs => exact ⟨_, rfl, by simp [Rows.uptoBulk]⟩
 | nilp h => rw [hu] at h; cases h
 | ptr h _ => rw [hu] at h; cases h
 | nils h => rw [hu] at h; cases h
 | list h _ _ _ => rw [hu] at h; cases h
 | struct h _ _ _ => rw [hu] at h; cases h
 | other h => simp [okType, hu] at h
theorem avdB_slice {e : TypeId} (hu : P.underlying t = some (.slice e)) (hc : 0 < P.cellsOf e) (h : AVD P t cs d) :
 ∃ (es : List (List AV)) (ds : List (DataW H)), cs = [.list es] ∧ es.length = ds.length ∧ Rows.uptoBulkAll ds + 1 ≤ Rows.uptoBulk d ∧ (∀ x, x ∈ ds → SizeOf.sizeOf x < SizeOf.sizeOf d) ∧ ∀ (i : Nat) (c : List AV) (x : DataW H), es[i]? = some c → ds[i]? = some x → AVD P e c x := by
 cases h with
 | int h hw => rw [hu] at h; cases h
 | bool h => rw [hu] at h; cases h
 | str h _ => rw [hu] at h; cases h
 | nilp h => rw [hu] at h; cases h
 | ptr h _ => rw [hu] at h; cases h
 | nils h => exact ⟨[], [], rfl, rfl, by simp [Rows.uptoBulk, Rows.uptoBulkAll], by simp, by simp⟩
 | list h h1 h2 h3 =>
  rw [hu] at h; cases h
  rename_i ds rest
  refine ⟨_, ds, rfl, h1, by simp only [Rows.uptoBulk]; omega, fun x hx => ?_, h3⟩
  have := List.sizeOf_lt_of_mem hx
  simp only [DataW.slice.sizeOf_spec]; omega
 | struct h _ _ _ => rw [hu] at h; cases h
 | other h => simp [okType, hu, hc] at h
theorem avdB_struct {fs : Array Field} (hu : P.underlying t = some (.struct fs)) (h : AVD P t cs d) :
 cs.length = P.cellsOf t ∧ ∃ ds : List (DataW H), ds.length = fs.size ∧ Rows.uptoBulkAll ds + 1 ≤ Rows.uptoBulk d ∧ (∀ x, x ∈ ds → SizeOf.sizeOf x < SizeOf.sizeOf d) ∧
  ∀ (i : Nat) (f : Field) (x : DataW H), fs[i]? = some f → ds[i]? = some x → AVD P f.type ((cs.drop f.offset).take (P.cellsOf f.type)) x := by
 cases h with
 | int h hw => rw [hu] at h; cases h
 | bool h => rw [hu] at h; cases h
 | str h _ => rw [hu] at h; cases h
 | nilp h => rw [hu] at h; cases h
 | ptr h _ => rw [hu] at h; cases h
 | nils h => rw [hu] at h; cases h
 | list h _ _ _ => rw [hu] at h; cases h
 | struct h h1 h2 h3 =>
  rw [hu] at h; cases h
  rename_i ds
  refine ⟨h1, ds, h2, by simp only [Rows.uptoBulk]; omega, fun x hx => ?_, h3⟩
  have := List.sizeOf_lt_of_mem hx
  simp only [DataW.agg.sizeOf_spec]; omega
 | other h => simp [okType, hu] at h
theorem dint {cs : List AV} {d : DataW H} (h : AVD Tryz.prog 3 cs d) : ∃ n, cs = [.int .i64 n] := by
 obtain ⟨n, h, _⟩ := avd_int Tryz.underlying3 h; exact ⟨n, h⟩
theorem dint2 {cs : List AV} {d : DataW H} (h : AVD Tryz.prog 2 cs d) : ∃ n, cs = [.int .i64 n] := by
 obtain ⟨n, h, _⟩ := avd_int Tryz.underlying2 h; exact ⟨n, h⟩
theorem k2 : Tryz.prog.cellsOf 2 = 1 := by kernel_rfl
theorem k3 : Tryz.prog.cellsOf 3 = 1 := by kernel_rfl
theorem k9 : Tryz.prog.cellsOf 9 = 1 := by kernel_rfl
theorem k22 : Tryz.prog.cellsOf 22 = 1 := by kernel_rfl
theorem k23 : Tryz.prog.cellsOf 23 = 1 := by kernel_rfl
theorem k24 : Tryz.prog.cellsOf 24 = 1 := by kernel_rfl
theorem k25 : Tryz.prog.cellsOf 25 = 1 := by kernel_rfl
theorem k26 : Tryz.prog.cellsOf 26 = 1 := by kernel_rfl
theorem k28 : Tryz.prog.cellsOf 28 = 9 := by kernel_rfl
theorem k58 : Tryz.prog.cellsOf 58 = 13 := by kernel_rfl
theorem k59 : Tryz.prog.cellsOf 59 = 10 := by kernel_rfl
theorem k36 : Tryz.prog.cellsOf 36 = 10 := by kernel_rfl
theorem bulk_all {α : Type} {f : α → List AV} {w : α → Nat} {T : List α → Nat} (hT0 : T [] = 0) (hT : ∀ x l, T (x :: l) = w x + T l) {Q : List AV → DataW H → Prop} :
 ∀ (es : List (List AV)) (ds : List (DataW H)), es.length = ds.length → (∀ (i : Nat) c x, es[i]? = some c → ds[i]? = some x → ∃ a, c = f a ∧ w a ≤ Rows.uptoBulk x) → ∃ l : List α, es = l.map f ∧ T l ≤ Rows.uptoBulkAll ds
 | [], [], _, _ => ⟨[], rfl, by simp [hT0]⟩
 | c :: es, x :: ds, hl, h => by
  obtain ⟨a, ha, hw⟩ := h 0 c x rfl rfl
  obtain ⟨l, hl2, hb⟩ := bulk_all (α := α) (f := f) (w := w) hT0 hT (Q := Q) es ds (by simpa using hl) fun i c x h1 h2 => h (i + 1) c x (by simpa using h1) (by simpa using h2)
  exact ⟨a :: l, by simp [ha, hl2], by rw [hT, Rows.uptoBulkAll]; omega⟩
theorem dtexts {cs : List AV} {d : DataW H} (h : AVD Tryz.prog 22 cs d) : ∃ l, cs = [strs l] ∧ l.length + 1 ≤ Rows.uptoBulk d := by
 obtain ⟨es, ds, rfl, hl, hb, _, he⟩ := avdB_slice Tryz.underlying22 (by rw [k9]; decide) h
 obtain ⟨l, rfl, hw⟩ := bulk_all (f := fun x : ByteArray => [AV.str x]) (w := fun _ => 1) (T := List.length) rfl (fun x l => by simp; omega) (Q := fun _ _ => True) es ds hl fun i c x h1 h2 => by
  obtain ⟨s, rfl, hs⟩ := avdB_str Tryz.underlying9 (he i c x h1 h2)
  exact ⟨s, rfl, one_le x⟩
 exact ⟨l, rfl, by omega⟩
theorem at9 {α : Type} : ∀ {l : List α}, l.length = 9 → ∃ a b c d e f g h i, l = [a, b, c, d, e, f, g, h, i]
 | [a, b, c, d, e, f, g, h, i], _ => ⟨a, b, c, d, e, f, g, h, i, rfl⟩
theorem at10 {α : Type} {l : List α} (h : l.length = 10) : ∃ a r, l = a :: r ∧ r.length = 9 := by
 cases l with
 | nil => simp at h
 | cons a r => exact ⟨a, r, rfl, by simpa using h⟩
set_option maxRecDepth 100000 in
theorem dcore : ∀ (n : Nat) {cs : List AV} {d : DataW H}, SizeOf.sizeOf d < n → AVD Tryz.prog 28 cs d → ∃ x : Cr, cs = x.cells ∧ x.size + 1 ≤ Rows.uptoBulk d
 | 0, _, _, hn, _ => by omega
 | n + 1, cs, d, hn, h => by
  obtain ⟨hl, ds, hdl, hb, hsz, hf⟩ := avdB_struct Tryz.underlying28 h
  rw [k28] at hl
  obtain ⟨a0, a1, a2, a3, a4, a5, a6, a7, a8, rfl⟩ := at9 hl
  obtain ⟨d0, d1, d2, d3, d4, d5, d6, d7, d8, rfl⟩ := at9 (show ds.length = 9 from hdl)
  have h0 := hf 0 _ d0 rfl rfl
  have h1 := hf 1 _ d1 rfl rfl
  have h2 := hf 2 _ d2 rfl rfl
  have h3 := hf 3 _ d3 rfl rfl
  have h4 := hf 4 _ d4 rfl rfl
  have h5 := hf 5 _ d5 rfl rfl
  have h6 := hf 6 _ d6 rfl rfl
  have h7 := hf 7 _ d7 rfl rfl
  have h8 := hf 8 _ d8 rfl rfl
  have s5 := hsz d5 (by simp)
  have s6 := hsz d6 (by simp)
  have s7 := hsz d7 (by simp)
  have s8 := hsz d8 (by simp)
  change AVD Tryz.prog 3 (List.take (Tryz.prog.cellsOf 3) (List.drop 0 [a0, a1, a2, a3, a4, a5, a6, a7, a8])) d0 at h0
  change AVD Tryz.prog 9 (List.take (Tryz.prog.cellsOf 9) (List.drop 1 [a0, a1, a2, a3, a4, a5, a6, a7, a8])) d1 at h1
  change AVD Tryz.prog 2 (List.take (Tryz.prog.cellsOf 2) (List.drop 2 [a0, a1, a2, a3, a4, a5, a6, a7, a8])) d2 at h2
  change AVD Tryz.prog 3 (List.take (Tryz.prog.cellsOf 3) (List.drop 3 [a0, a1, a2, a3, a4, a5, a6, a7, a8])) d3 at h3
  change AVD Tryz.prog 22 (List.take (Tryz.prog.cellsOf 22) (List.drop 4 [a0, a1, a2, a3, a4, a5, a6, a7, a8])) d4 at h4
  change AVD Tryz.prog 23 (List.take (Tryz.prog.cellsOf 23) (List.drop 5 [a0, a1, a2, a3, a4, a5, a6, a7, a8])) d5 at h5
  change AVD Tryz.prog 24 (List.take (Tryz.prog.cellsOf 24) (List.drop 6 [a0, a1, a2, a3, a4, a5, a6, a7, a8])) d6 at h6
  change AVD Tryz.prog 25 (List.take (Tryz.prog.cellsOf 25) (List.drop 7 [a0, a1, a2, a3, a4, a5, a6, a7, a8])) d7 at h7
  change AVD Tryz.prog 26 (List.take (Tryz.prog.cellsOf 26) (List.drop 8 [a0, a1, a2, a3, a4, a5, a6, a7, a8])) d8 at h8
  simp only [k2, k3, k9, k22, k23, k24, k25, k26, List.drop_zero, List.drop_succ_cons, List.take_succ_cons, List.take_zero] at h0 h1 h2 h3 h4 h5 h6 h7 h8
  obtain ⟨k, e0⟩ := dint h0
  obtain ⟨nm, e1, b1⟩ := avdB_str Tryz.underlying9 h1
  obtain ⟨m, e2⟩ := dint2 h2
  obtain ⟨ar, e3⟩ := dint h3
  obtain ⟨ps, e4, b4⟩ := dtexts h4
  obtain ⟨es5, ds5, e5, l5, b5, z5, q5⟩ := avdB_slice Tryz.underlying23 (by rw [k28]; decide) h5
  obtain ⟨es6, ds6, e6, l6, b6, z6, q6⟩ := avdB_slice Tryz.underlying24 (by rw [k58]; decide) h6
  obtain ⟨es7, ds7, e7, l7, b7, z7, q7⟩ := avdB_slice Tryz.underlying25 (by rw [k59]; decide) h7
  obtain ⟨es8, ds8, e8, l8, b8, z8, q8⟩ := avdB_slice Tryz.underlying26 (by rw [k36]; decide) h8
  obtain ⟨gs, rfl, w5⟩ := bulk_all (f := Cr.cells) (w := Cr.size) (T := sizeL) (by rw [sizeL]) (fun x l => by rw [sizeL]) (Q := fun _ _ => True) es5 ds5 l5 fun i c x g1 g2 => by
   have := z5 x (List.mem_of_getElem? g2)
   obtain ⟨y, hy, hw⟩ := dcore n (by omega) (q5 i c x g1 g2)
   exact ⟨y, hy, by omega⟩
  obtain ⟨al, rfl, w6⟩ := bulk_all (f := altC) (w := fun y => y.2.size) (T := sizeA) (by rw [sizeA]) (fun x l => by obtain ⟨g, y⟩ := x; rw [sizeA]) (Q := fun _ _ => True) es6 ds6 l6 fun i c x g1 g2 => by
   have hzx := z6 x (List.mem_of_getElem? g2)
   obtain ⟨jl, dd, jd, jb, jz, jf⟩ := avdB_struct Tryz.underlying58 (q6 i c x g1 g2)
   rw [k58] at jl
   obtain ⟨c0, c1, c2, c3, r, rfl, hr⟩ : ∃ c0 c1 c2 c3 r, c = c0 :: c1 :: c2 :: c3 :: r ∧ r.length = 9 := by
    match c, jl with
    | c0 :: c1 :: c2 :: c3 :: r, jl => exact ⟨c0, c1, c2, c3, r, rfl, by simpa using jl⟩
   obtain ⟨t0, t1, t2, t3, t4, rfl⟩ := len5' (show dd.length = 5 from jd)
   have u0 := jf 0 _ t0 rfl rfl
   have u1 := jf 1 _ t1 rfl rfl
   have u2 := jf 2 _ t2 rfl rfl
   have u3 := jf 3 _ t3 rfl rfl
   have u4 := jf 4 _ t4 rfl rfl
   have y4 := jz t4 (by simp)
   change AVD Tryz.prog 3 (List.take (Tryz.prog.cellsOf 3) (List.drop 0 (c0 :: c1 :: c2 :: c3 :: r))) t0 at u0
   change AVD Tryz.prog 9 (List.take (Tryz.prog.cellsOf 9) (List.drop 1 (c0 :: c1 :: c2 :: c3 :: r))) t1 at u1
   change AVD Tryz.prog 2 (List.take (Tryz.prog.cellsOf 2) (List.drop 2 (c0 :: c1 :: c2 :: c3 :: r))) t2 at u2
   change AVD Tryz.prog 22 (List.take (Tryz.prog.cellsOf 22) (List.drop 3 (c0 :: c1 :: c2 :: c3 :: r))) t3 at u3
   change AVD Tryz.prog 28 (List.take (Tryz.prog.cellsOf 28) (List.drop 4 (c0 :: c1 :: c2 :: c3 :: r))) t4 at u4
   simp only [k2, k3, k9, k22, k28, List.drop_zero, List.drop_succ_cons, List.take_succ_cons, List.take_zero] at u0 u1 u2 u3 u4
   rw [List.take_of_length_le (by omega)] at u4
   obtain ⟨v0, x0⟩ := dint u0
   obtain ⟨v1, x1, _⟩ := avdB_str Tryz.underlying9 u1
   obtain ⟨v2, x2⟩ := dint2 u2
   obtain ⟨v3, x3, x3b⟩ := dtexts u3
   obtain ⟨y, hy, hw⟩ := dcore n (by omega) u4
   simp only [List.cons.injEq, and_true] at x0 x1 x2 x3
   subst x0 x1 x2 x3 hy
   refine ⟨(⟨v0, v1, v2, v3⟩, y), rfl, ?_⟩
   simp only [Rows.uptoBulkAll] at jb
   simp only
   omega
  obtain ⟨bs, rfl, w7⟩ := bulk_all (f := bindC) (w := fun y => y.2.size) (T := sizeB) (by rw [sizeB]) (fun x l => by obtain ⟨g, y⟩ := x; rw [sizeB]) (Q := fun _ _ => True) es7 ds7 l7 fun i c x g1 g2 => by
   have hzx := z7 x (List.mem_of_getElem? g2)
   obtain ⟨jl, dd, jd, jb, jz, jf⟩ := avdB_struct Tryz.underlying59 (q7 i c x g1 g2)
   rw [k59] at jl
   obtain ⟨c0, r, rfl, hr⟩ := at10 jl
   obtain ⟨t0, t1, rfl⟩ := len2 (show dd.length = 2 from jd)
   have u0 := jf 0 _ t0 rfl rfl
   have u1 := jf 1 _ t1 rfl rfl
   have y4 := jz t1 (by simp)
   change AVD Tryz.prog 9 (List.take (Tryz.prog.cellsOf 9) (List.drop 0 (c0 :: r))) t0 at u0
   change AVD Tryz.prog 28 (List.take (Tryz.prog.cellsOf 28) (List.drop 1 (c0 :: r))) t1 at u1
   simp only [k9, k28, List.drop_zero, List.drop_succ_cons, List.take_succ_cons, List.take_zero] at u0 u1
   rw [List.take_of_length_le (by omega)] at u1
   obtain ⟨v0, x0, x0b⟩ := avdB_str Tryz.underlying9 u0
   obtain ⟨y, hy, hw⟩ := dcore n (by omega) u1
   simp only [List.cons.injEq, and_true] at x0
   subst x0 hy
   refine ⟨(v0, y), rfl, ?_⟩
   simp only [Rows.uptoBulkAll] at jb
   simp only
   omega
  obtain ⟨pk, rfl, w8⟩ := bulk_all (f := pickC) (w := fun y => y.2.size) (T := sizeP) (by rw [sizeP]) (fun x l => by obtain ⟨g, y⟩ := x; rw [sizeP]) (Q := fun _ _ => True) es8 ds8 l8 fun i c x g1 g2 => by
   have hzx := z8 x (List.mem_of_getElem? g2)
   obtain ⟨jl, dd, jd, jb, jz, jf⟩ := avdB_struct Tryz.underlying36 (q8 i c x g1 g2)
   rw [k36] at jl
   obtain ⟨c0, r, rfl, hr⟩ := at10 jl
   obtain ⟨t0, t1, rfl⟩ := len2 (show dd.length = 2 from jd)
   have u0 := jf 0 _ t0 rfl rfl
   have u1 := jf 1 _ t1 rfl rfl
   have y4 := jz t1 (by simp)
   change AVD Tryz.prog 3 (List.take (Tryz.prog.cellsOf 3) (List.drop 0 (c0 :: r))) t0 at u0
   change AVD Tryz.prog 28 (List.take (Tryz.prog.cellsOf 28) (List.drop 1 (c0 :: r))) t1 at u1
   simp only [k3, k28, List.drop_zero, List.drop_succ_cons, List.take_succ_cons, List.take_zero] at u0 u1
   rw [List.take_of_length_le (by omega)] at u1
   obtain ⟨v0, x0⟩ := dint u0
   obtain ⟨y, hy, hw⟩ := dcore n (by omega) u1
   simp only [List.cons.injEq, and_true] at x0
   subst x0 hy
   refine ⟨(v0, y), rfl, ?_⟩
   simp only [Rows.uptoBulkAll] at jb
   simp only
   omega
  simp only [List.cons.injEq, and_true] at e0 e1 e2 e3 e4 e5 e6 e7 e8
  subst e0 e1 e2 e3 e4 e5 e6 e7 e8
  refine ⟨.mk k nm m ar ps gs al bs pk, by rw [Cr.cells_eq], ?_⟩
  simp only [Rows.uptoBulkAll] at hb
  have := one_le d0; have := one_le d2; have := one_le d3
  rw [Cr.size]
  omega
theorem dpick {cs : List AV} {d : DataW H} (h : AVD Tryz.prog 36 cs d) : ∃ x : Int × Cr, cs = pickC x ∧ x.2.size ≤ Rows.uptoBulk d := by
 obtain ⟨jl, dd, jd, jb, jz, jf⟩ := avdB_struct Tryz.underlying36 h
 rw [k36] at jl
 obtain ⟨c0, r, rfl, hr⟩ := at10 jl
 obtain ⟨t0, t1, rfl⟩ := len2 (show dd.length = 2 from jd)
 have u0 := jf 0 _ t0 rfl rfl
 have u1 := jf 1 _ t1 rfl rfl
 change AVD Tryz.prog 3 (List.take (Tryz.prog.cellsOf 3) (List.drop 0 (c0 :: r))) t0 at u0
 change AVD Tryz.prog 28 (List.take (Tryz.prog.cellsOf 28) (List.drop 1 (c0 :: r))) t1 at u1
 simp only [k3, k28, List.drop_zero, List.drop_succ_cons, List.take_succ_cons, List.take_zero] at u0 u1
 rw [List.take_of_length_le (by omega)] at u1
 obtain ⟨v0, x0⟩ := dint u0
 obtain ⟨y, hy, hw⟩ := dcore _ (Nat.lt_succ_self _) u1
 simp only [List.cons.injEq, and_true] at x0
 subst x0 hy
 refine ⟨(v0, y), rfl, ?_⟩
 simp only [Rows.uptoBulkAll] at jb
 simp only
 omega
theorem dpicks {cs : List AV} {d : DataW H} (h : AVD Tryz.prog 26 cs d) : ∃ l : List (Int × Cr), cs = [.list (l.map pickC)] ∧ (l.map fun x => x.2.size).sum + 1 ≤ Rows.uptoBulk d := by
 obtain ⟨es, ds, rfl, hl, hb, _, he⟩ := avdB_slice Tryz.underlying26 (by rw [k36]; decide) h
 obtain ⟨l, rfl, hw⟩ := bulk_all (f := pickC) (w := fun y => y.2.size) (T := sizeP) (by rw [sizeP]) (fun x l => by obtain ⟨g, y⟩ := x; rw [sizeP]) (Q := fun _ _ => True) es ds hl fun i c x h1 h2 => dpick (he i c x h1 h2)
 rw [sizeP_eq] at hw
 exact ⟨l, rfl, by omega⟩
end
end Go.Proofs.YtgjcnkcepdoedaaGreat
