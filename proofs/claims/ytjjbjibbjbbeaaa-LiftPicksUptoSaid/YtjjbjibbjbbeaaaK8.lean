/- A part of the proof of the claim: the abstract layer, the contracts of the functions, the law (no condition of its own). -/
import Derived.Test.YtjjbjibbjbbeaaaK7
open Nat renaming reduceEqDiff → Za, reduceAdd → Zb, reduceLeDiff → Zc
open Int renaming reduceEq → Zd, reduceLT → Ze, reduceLE → Zf, reduceNeg → Zg, reduceAdd → Zh, reduceSub → Zi, reduceToNat → Zj
/- The machine: an expression's value. -/
set_option linter.unusedVariables false
set_option linter.unusedSimpArgs false
namespace Go.AL
theorem thk_le (x : Cr) : 10 ≤ (x.cells ++ [AV.nils]).length := by simp [Cr.len]
theorem thk_mk (x : Cr) (e : Env) : List.take 9 (x.cells ++ [AV.nils]) ++ [AV.list e.flat] ++ List.drop 10 (x.cells ++ [AV.nils]) = thkC (x, e) := by
 rw [List.take_append_of_le_length (by simp [Cr.len]), List.take_of_length_le (by simp [Cr.len]), List.drop_of_length_le (by simp [Cr.len]), List.append_nil]; rfl
theorem lastE_hit {x : ByteArray} {l : List Ent} {m : Nat} {a : Ent} (h : l[m]? = some a) (hx : a.1 = x) (hd : lastE x (l.drop (m + 1)) = none) : lastE x l = some (a.2.1, a.2.2.1) := by
 obtain ⟨h1, h2⟩ := List.getElem?_eq_some_iff.1 h
 have : l = l.take m ++ a :: l.drop (m + 1) := by rw [← h2, ← List.drop_eq_getElem_cons h1, List.take_append_drop]
 rw [this, lastE_app, lastE, hd]
 simp only [hx, reduceIte]
theorem lastE_miss {x : ByteArray} {l : List Ent} {m : Nat} {a : Ent} (h : l[m]? = some a) (hx : ¬ a.1 = x) (hd : lastE x (l.drop (m + 1)) = none) : lastE x (l.drop m) = none := by
 obtain ⟨h1, h2⟩ := List.getElem?_eq_some_iff.1 h
 rw [List.drop_eq_getElem_cons h1, lastE, hd, h2]
 simp only [hx, reduceIte]
theorem lookD_at {x : ByteArray} {b : Cr} : ∀ {l : List (ByteArray × Cr)} {i : Nat}, (∀ y, y ∈ l.take i → ¬ y.1 = x) → l[i]? = some (x, b) → lookD l x = some b
 | [], _, _, h => by simp at h
 | (nm, c) :: r, 0, _, h => by simp at h; obtain ⟨rfl, rfl⟩ := h; rw [lookD, if_pos rfl]
 | (nm, c) :: r, i + 1, hn, h => by
  rw [lookD, if_neg (hn (nm, c) (by simp))]
  exact lookD_at (i := i) (fun y hy => hn y (by simp [hy])) (by simpa using h)
theorem lookD_un {x : ByteArray} {l : List (ByteArray × Cr)} (h : ∀ y, y ∈ l → ¬ y.1 = x) : lookD l x = none := lookD_none.2 fun hm => by
 obtain ⟨y, hy, he⟩ := List.mem_map.1 hm
 exact h y hy he
theorem rec_le (c : Cr) : 10 ≤ (c.cells ++ [AV.int .i64 0]).length := by simp [Cr.len]
theorem rec_mk (c : Cr) (x : AV) : List.take 9 (c.cells ++ [AV.int .i64 0]) ++ [x] ++ List.drop 10 (c.cells ++ [AV.int .i64 0]) = c.cells ++ [x] := by
 rw [List.take_append_of_le_length (by simp [Cr.len]), List.take_of_length_le (by simp [Cr.len]), List.drop_of_length_le (by simp [Cr.len]), List.append_nil]
theorem recE_of (p : ByteArray) (c : Cr) (u : Nat) : AV.str p :: .int .i64 0 :: .str ⟨#[]⟩ :: .int .i64 0 :: .int .i64 0 :: .nils :: .nils :: .nils :: .nils :: .nils :: .nils :: .bool true :: (c.cells ++ [.int .i64 u]) = recE p c u := rfl
theorem pickP_at {sel : Int} {b : Cr} : ∀ {l : List (Int × Cr)} {i : Nat}, (∀ y, y ∈ l.take i → ¬ y.1 = sel) → l[i]? = some (sel, b) → pickP sel l = some b
 | [], _, _, h => by simp at h
 | (nm, c) :: r, 0, _, h => by simp at h; obtain ⟨rfl, rfl⟩ := h; rw [pickP, if_pos rfl]
 | (nm, c) :: r, i + 1, hn, h => by
  rw [pickP, if_neg (hn (nm, c) (by simp))]
  exact pickP_at (i := i) (fun y hy => hn y (by simp [hy])) (by simpa using h)
theorem pickP_un {sel : Int} : ∀ {l : List (Int × Cr)}, (∀ y, y ∈ l → ¬ y.1 = sel) → pickP sel l = none
 | [], _ => rfl
 | (nm, c) :: r, h => by rw [pickP, if_neg (h (nm, c) (by simp)), pickP_un fun y hy => h y (by simp [hy])]
end Go.AL
namespace Go.Proofs.Ytjjbjibbjbbeaaa
open Go.AL
variable {ds : List (ByteArray × Cr)} {sel : Int} {most : Nat}
/-- At least a step is made. -/
def CoreS (ds : List (ByteArray × Cr)) (sel : Int) (most f : Nat) : Prop := ∀ (σ : Store) (mid st : Nat) (c : Cr) (e : Env), σ.get mid = some (mch ds sel st most 0) → st ≤ most → most < f + st → Gd c → WfE (5000000 * st) e →
 ACalls Try.prog 54 [.ptr mid 0 0 0, .agg c.cells, .list e.flat] σ (Ans ds sel doF most (.core c e) σ mid (st + 1))
theorem CoreS.h {f : Nat} (H : CoreS ds sel most f) : CoreH ds sel most f := fun σ mid st c e hm h1 h2 hc he => (H σ mid st c e hm h1 h2 hc he).mono fun _ _ ⟨a, b, c, d, e, f, g, h, i, j⟩ => ⟨a, b, c, d, e, f, g, h, by omega, j⟩
set_option maxHeartbeats 2000000 in
theorem core_step {f : Nat} (H : CoreH ds sel most f) (hmost : most ≤ 50000) (hgd : ∀ d, d ∈ ds → Gd d.2) (hdl : ds.length ≤ 100000000) : CoreS ds sel most (f + 1) := by
 rintro σ mid st ⟨k, nm, m, ar, ps, gs, al, bs, pk⟩ e hm h1 h2 hc he
 refine ACalls_leD (show ACalls Try.prog 54 _ σ (AnsL ds sel doF most (.core (.mk k nm m ar ps gs al bs pk) e) σ mid (st + 1)) from ?_)
 refine in54 (by simp) ?_
 unfold c54
 have hmid := σ.lt hm
 have hz : valZ.length = 15 := rfl
 have hzd : List.drop 15 valZ = [] := rfl
 have hzt : List.take 15 valZ = valZ := rfl
 cases hc with
 | mk hnd hln hg1 hg2 hg3 hg4 =>
 have up := fun n n' t r (h : n ≤ n') (hr : run (lookD ds) sel doF n t = some r) => run_mono (lookD ds) sel doF h hr
 rw [Cr.cells_eq]
 try simp only [YY, ↓reduceIte, Za, Zb, Zc, reduceCtorEq, Zd, Ze, Zf, Zg, Zh, Zi, Zj]
 iterate 2 ((with_reducible refine WW (by decide) ?_); refine unr ?_; try simp only [YY, ↓reduceIte, Za, Zb, Zc, reduceCtorEq, Zd, Ze, Zf, Zg, Zh, Zi, Zj])
 generalize hs : Store.push _ _ = s1
 have k1 : Kp σ s1 := by rw [← hs]; exact (Kp.pushed _ _).push _
 have hn1 : s1.next = σ.next + 2 := by rw [← hs]; rfl
 have e1 : s1.get σ.next = some (.cells 54 0 9 [[.int .i64 k, .str nm, .int .i64 m, .int .i64 ar, strs ps, .list (List.map Cr.cells gs), .list (al.map altC), .list (bs.map bindC), .list (pk.map pickC)]]) := by rw [← hs]; simp [Store.push_get, Store.push_next]
 have e2 : s1.get (σ.next + 1) = some (.cells 132 0 15 [valZ]) := by rw [← hs]; simp [Store.push_get, Store.push_next]; rfl
 have em := k1.get hm
 clear hs
 refine raw ?_
 repeat (first | (with_reducible refine unr ?_; try simp only [YY, ↓reduceIte, Za, Zb, Zc, reduceCtorEq, Zd, Ze, Zf, Zg, Zh, Zi, Zj]) | (with_reducible refine WW (by decide) ?_))
 refine (step_ok em h1 (by omega)).mono ?_
 rintro _ s2 ⟨b0, rfl, hb, hm2, hk⟩
 have e1 := hk.get e1 (by omega)
 have e2 := hk.get e2 (by omega)
 have M2 : MK σ s2 mid := (MK.of k1).trans hk
 have hnx := hk.next
 have hg : ∀ o : AObj, (s2.upd (σ.next + 1) o).get (σ.next + 1) = some o := fun o => Store.get_upd_self _ _ (s2.lt e2)
 cases b0 with
 | false =>
  refine raw ?_
  repeat (first | (with_reducible refine unr ?_; try simp only [YY, ↓reduceIte, Za, Zb, Zc, reduceCtorEq, Zd, Ze, Zf, Zg, Zh, Zi, Zj, e2, hg, hz, hzd, hzt, List.append_nil]) | (with_reducible refine WW (by decide) ?_))
  obtain ⟨q1, q2⟩ := MK.fin (MK.refl σ mid) M2 (by omega) hmid hm2 (id := σ.next + 1) (.cells 132 0 15 [valZ])
  exact AnsL.low rfl q1 q2 (by omega) (by decide)
 | true =>
 have hb := hb.1 rfl
 simp only [reduceIte] at hm2
 have hk : k = 1 ∨ k = 2 ∨ k = 3 ∨ k = 4 ∨ k = 5 ∨ k = 6 ∨ k = 7 ∨ k = 8 ∨ k = 9 ∨ k = 10 ∨ k = 11 := by have := hnd.1.1; have := hnd.1.2.1; omega
 have n2 := hnd.1.2.2.1
 have n1 := hnd.1.2.2.2
 rcases hk with rfl | rfl | rfl | rfl | rfl | rfl | rfl | rfl | rfl | rfl | rfl
 · have hel := entsE_len e
   have hlen := he.len
   have hw0 : IntKind.i64.wrap ((e.flat.length : Int) - 1) = (e.flat.length : Int) - 1 := wrap_of (by omega) (by omega)
   refine raw ?_
   repeat (first | (with_reducible refine unr ?_; try simp only [YY, ↓reduceIte, Za, Zb, Zc, reduceCtorEq, Zd, Ze, Zf, Zg, Zh, Zi, Zj, e1, hw0]) | (with_reducible refine WW (by decide) ?_))
   refine AWP_while [0, 2, 4, 6, 8] (fun n : Nat => n) (fun n => [.ptr mid 0 0 0, .list e.flat, .ptr σ.next 0 0 0, .ptr (σ.next + 1) 0 0 0, .int .i64 ((n : Int) - 1)])
    (fun n s => s = s2 ∧ n ≤ e.flat.length ∧ Hid (lastE nm (e.ents.drop n) = none)) e.flat.length ⟨rfl, by simp, ⟨by rw [List.drop_of_length_le (by omega)]; rfl⟩⟩ ?_ ?_
   · refine raw ?_
     repeat (first | (with_reducible refine unr ?_; try simp only [YY, ↓reduceIte, Za, Zb, Zc, reduceCtorEq, Zd, Ze, Zf, Zg, Zh, Zi, Zj]) | (with_reducible refine WW (by decide) ?_))
   rintro n _ ⟨rfl, hn, hno⟩
   cases n with
   | zero =>
    have h0 : ¬ (0 : Int) ≤ ((0 : Nat) : Int) - 1 := by decide
    refine raw ?_
    repeat (first | (with_reducible refine unr ?_; try simp only [YY, ↓reduceIte, Za, Zb, Zc, reduceCtorEq, Zd, Ze, Zf, Zg, Zh, Zi, Zj, h0]) | (with_reducible refine WW (by decide) ?_))
    refine (wrong_ok hm2 (-2)).mono ?_
    rintro _ s6 ⟨rfl, hm6, hk6⟩
    have f3 := hk6.get e2 (by omega)
    have hg : ∀ o : AObj, (s6.upd (σ.next + 1) o).get (σ.next + 1) = some o := fun o => Store.get_upd_self _ _ (s6.lt f3)
    refine raw ?_
    repeat (first | (with_reducible refine unr ?_; try simp only [YY, ↓reduceIte, Za, Zb, Zc, reduceCtorEq, Zd, Ze, Zf, Zg, Zh, Zi, Zj, f3, hg, hz, hzd, hzt, List.append_nil]) | (with_reducible refine WW (by decide) ?_))
    obtain ⟨q1, q2⟩ := MK.fin M2 hk6 (by omega) hmid hm6 (id := σ.next + 1) (.cells 132 0 15 [valZ])
    exact AnsL.low rfl q1 q2 (by omega) (by decide)
   | succ n =>
    have hi : (((n + 1 : Nat) : Int) - 1) = (n : Int) := by omega
    have h0 : (0 : Int) ≤ (n : Int) := by omega
    have hw : IntKind.i64.wrap ((n : Int) - 1) = (n : Int) - 1 := wrap_of (by omega) (by omega)
    obtain ⟨a, ha⟩ : ∃ a, e.ents[n]? = some a := ⟨_, List.getElem?_eq_getElem (by omega)⟩
    have hga : e.flat[n]? = some (entC a) := by rw [flat_ents]; simp [ha]
    obtain ⟨w1, w2, w3⟩ := he.ent a (List.mem_of_getElem? ha)
    obtain ⟨x, c, e', b⟩ := a
    simp only at w1 w2 w3
    by_cases hx : x = nm
    · have hlook : e.look nm = some (c, e') := by rw [look_ents]; exact lastE_hit ha hx hno.out
      cases b with
      | true =>
       have hga : e.flat[n]? = some (recE x c e'.flat.length) := hga
       obtain ⟨w3, w4⟩ := w3 rfl
       have hl22 : ∀ q, q ∈ e.flat → q.length = 22 := flat_len e
       have hcut : (0 : Int) ≤ 0 ∧ (0 : Int) ≤ (e'.flat.length : Int) ∧ (e'.flat.length : Int) ≤ (e.flat.length : Int) ∧ (∀ q, q ∈ e.flat → q.length = 22) := ⟨by omega, by omega, by omega, hl22⟩
       refine raw ?_
       repeat (first | (with_reducible refine unr ?_; try simp only [YY, ↓reduceIte, Za, Zb, Zc, reduceCtorEq, Zd, Ze, Zf, Zg, Zh, Zi, Zj, hi, h0, hga, e1, recE_nm, recE_rec, recE_b, recE_up, recE_len, hx, hcut, w4, Int.toNat_natCast]) | (with_reducible refine WW (by decide) ?_))
       refine ⟨hl22, (H _ mid (st + 1) c e' hm2 hb (by omega) w1 (w2.mono (by omega))).mono ?_⟩
       rintro _ s6 ⟨cs, b1, st', out, rfl, hl6, hm6, hk6, hst6, hsem⟩
       have f3 := hk6.get e2 (by omega)
       have hg : ∀ o : AObj, (s6.upd (σ.next + 1) o).get (σ.next + 1) = some o := fun o => Store.get_upd_self _ _ (s6.lt f3)
       have htk : List.take 15 cs = cs := List.take_of_length_le (by omega)
       refine raw ?_
       repeat (first | (with_reducible refine unr ?_; try simp only [YY, ↓reduceIte, Za, Zb, Zc, reduceCtorEq, Zd, Ze, Zf, Zg, Zh, Zi, Zj, f3, hl6, hg, htk, hz, hzd, List.append_nil]) | (with_reducible refine WW (by decide) ?_))
       obtain ⟨q1, q2⟩ := MK.fin M2 hk6 (by omega) hmid hm6 (id := σ.next + 1) (.cells 132 0 15 [cs])
       exact AnsL.tail hl6 q1 q2 (by omega) hsem fun n r h => ⟨n + 1, by rw [run_1, hlook]; exact h⟩
      | false =>
       have hga : e.flat[n]? = some (thkE x c e'.flat) := hga
       refine raw ?_
       repeat (first | (with_reducible refine unr ?_; try simp only [YY, ↓reduceIte, Za, Zb, Zc, reduceCtorEq, Zd, Ze, Zf, Zg, Zh, Zi, Zj, hi, h0, hga, e1, thkE_nm, thkE_rec, thkE_t, thkE_len, hx]) | (with_reducible refine WW (by decide) ?_))
       refine (thunk_ok H (c, e') hm2 hb (by omega) ⟨w1, w2.mono (by omega)⟩).mono ?_
       rintro _ s6 ⟨cs, b1, st', out, rfl, hl6, hm6, hk6, hst6, hsem⟩
       have f3 := hk6.get e2 (by omega)
       have hg : ∀ o : AObj, (s6.upd (σ.next + 1) o).get (σ.next + 1) = some o := fun o => Store.get_upd_self _ _ (s6.lt f3)
       have htk : List.take 15 cs = cs := List.take_of_length_le (by omega)
       refine raw ?_
       repeat (first | (with_reducible refine unr ?_; try simp only [YY, ↓reduceIte, Za, Zb, Zc, reduceCtorEq, Zd, Ze, Zf, Zg, Zh, Zi, Zj, f3, hl6, hg, htk, hz, hzd, List.append_nil]) | (with_reducible refine WW (by decide) ?_))
       obtain ⟨q1, q2⟩ := MK.fin M2 hk6 (by omega) hmid hm6 (id := σ.next + 1) (.cells 132 0 15 [cs])
       exact AnsL.tail hl6 q1 q2 (by omega) hsem fun n r h => ⟨n + 1, by rw [run_1, hlook]; exact h⟩
    · have hnm : (entC (x, c, e', b))[0]? = some (.str x) := by cases b <;> rfl
      have hln : (entC (x, c, e', b)).length = 22 := by cases b <;> simp [entC, thkE_len, recE_len]
      refine raw ?_
      repeat (first | (with_reducible refine unr ?_; try simp only [YY, ↓reduceIte, Za, Zb, Zc, reduceCtorEq, Zd, Ze, Zf, Zg, Zh, Zi, Zj, hi, h0, hga, e1, hnm, hln, hx, hw]) | (with_reducible refine WW (by decide) ?_))
      exact ⟨n, rfl, ⟨by omega, ⟨lastE_miss ha hx hno.out⟩⟩, by omega⟩
 · refine raw ?_
   repeat (first | (with_reducible refine unr ?_; try simp only [YY, ↓reduceIte, Za, Zb, Zc, reduceCtorEq, Zd, Ze, Zf, Zg, Zh, Zi, Zj, e1]) | (with_reducible refine WW (by decide) ?_))
   refine AWP_while [0, 2, 4, 6, 9] (fun i : Nat => ds.length - i) (fun i => [.ptr mid 0 0 0, .list e.flat, .ptr σ.next 0 0 0, .ptr (σ.next + 1) 0 0 0, .int .i64 i])
    (fun i s => s = s2 ∧ i ≤ ds.length ∧ Hid (∀ y, y ∈ ds.take i → ¬ y.1 = nm)) 0 ⟨rfl, by simp, ⟨by simp⟩⟩ ?_ ?_
   · refine raw ?_
     repeat (first | (with_reducible refine unr ?_; try simp only [YY, ↓reduceIte, Za, Zb, Zc, reduceCtorEq, Zd, Ze, Zf, Zg, Zh, Zi, Zj]) | (with_reducible refine WW (by decide) ?_))
     rfl
   rintro i _ ⟨rfl, hi, hno⟩
   have hw := wrap_succ (i := i) (by omega)
   have hmm := hm2
   unfold mch at hmm
   by_cases hil : i < ds.length
   · have hil' : (i : Int) < (ds.length : Int) := by omega
     obtain ⟨x, hx⟩ : ∃ x, ds[i]? = some x := ⟨_, List.getElem?_eq_getElem hil⟩
     have hga : (ds.map defC)[i]? = some (defC x) := by simp [hx]
     have hgx := hgd x (List.mem_of_getElem? hx)
     obtain ⟨x, c⟩ := x
     simp only at hgx
     by_cases hxn : x = nm
     · subst hxn
       refine raw ?_
       repeat (first | (with_reducible refine unr ?_; try simp only [YY, ↓reduceIte, Za, Zb, Zc, reduceCtorEq, Zd, Ze, Zf, Zg, Zh, Zi, Zj, hmm, hil', hga, e1, defC, Cr.len, Cr.take9]) | (with_reducible refine WW (by decide) ?_))
       refine (H _ mid (st + 1) c .nil hm2 hb (by omega) hgx .nil).mono ?_
       rintro _ s6 ⟨cs, b1, st', out, rfl, hl6, hm6, hk6, hst6, hsem⟩
       have f3 := hk6.get e2 (by omega)
       have hg : ∀ o : AObj, (s6.upd (σ.next + 1) o).get (σ.next + 1) = some o := fun o => Store.get_upd_self _ _ (s6.lt f3)
       have htk : List.take 15 cs = cs := List.take_of_length_le (by omega)
       refine raw ?_
       repeat (first | (with_reducible refine unr ?_; try simp only [YY, ↓reduceIte, Za, Zb, Zc, reduceCtorEq, Zd, Ze, Zf, Zg, Zh, Zi, Zj, f3, hl6, hg, htk, hz, hzd, List.append_nil]) | (with_reducible refine WW (by decide) ?_))
       obtain ⟨q1, q2⟩ := MK.fin M2 hk6 (by omega) hmid hm6 (id := σ.next + 1) (.cells 132 0 15 [cs])
       exact AnsL.tail hl6 q1 q2 (by omega) hsem fun n r h => ⟨n + 1, by rw [run_2, lookD_at hno.out hx]; exact h⟩
     · refine raw ?_
       repeat (first | (with_reducible refine unr ?_; try simp only [YY, ↓reduceIte, Za, Zb, Zc, reduceCtorEq, Zd, Ze, Zf, Zg, Zh, Zi, Zj, hmm, hil', hga, e1, defC, Cr.len, hxn, hw]) | (with_reducible refine WW (by decide) ?_))
       exact ⟨i + 1, rfl, ⟨by omega, ⟨all_succ (p := fun y => ¬ y.1 = nm) hno.out hx hxn⟩⟩, by omega⟩
   · have hil' : ¬ (i : Int) < (ds.length : Int) := by omega
     refine raw ?_
     repeat (first | (with_reducible refine unr ?_; try simp only [YY, ↓reduceIte, Za, Zb, Zc, reduceCtorEq, Zd, Ze, Zf, Zg, Zh, Zi, Zj, hmm, hil', e1]) | (with_reducible refine WW (by decide) ?_))
     refine (opE nm _).mono ?_
     rintro _ _ ⟨rfl, rfl⟩
     refine raw ?_
     repeat (first | (with_reducible refine unr ?_; try simp only [YY, ↓reduceIte, Za, Zb, Zc, reduceCtorEq, Zd, Ze, Zf, Zg, Zh, Zi, Zj, e2, hg, hz, hzd, hzt, List.append_nil]) | (with_reducible refine WW (by decide) ?_))
     have q := MK.fin (MK.refl σ mid) M2 (by omega) hmid hm2 (id := σ.next + 1)
     refine AnsL.val (.prim (opS nm) []) 1 leD_nil5 (q _).1 (q _).2 (by omega) hb ?_ ⟨⟨by simp, by simp⟩, by simp⟩
     rw [run_2, lookD_un]
     rw [List.take_of_length_le (by omega)] at hno
     exact hno.out
 · refine raw ?_
   repeat (first | (with_reducible refine unr ?_; try simp only [YY, ↓reduceIte, Za, Zb, Zc, reduceCtorEq, Zd, Ze, Zf, Zg, Zh, Zi, Zj, e1, e2, hg, hz, hzd, hzt, List.append_nil]) | (with_reducible refine WW (by decide) ?_))
   have q := MK.fin (MK.refl σ mid) M2 (by omega) hmid hm2 (id := σ.next + 1)
   exact AnsL.val (.whole m) 1 leD_nil5 (q _).1 (q _).2 (by omega) hb (by rw [run_3]) trivial
 · by_cases h0 : ar = 0
   · refine raw ?_
     repeat (first | (with_reducible refine unr ?_; try simp only [YY, ↓reduceIte, Za, Zb, Zc, reduceCtorEq, Zd, Ze, Zf, Zg, Zh, Zi, Zj, e1, e2, h0, hg, hz, hzd, hzt, List.append_nil]) | (with_reducible refine WW (by decide) ?_))
     have q := MK.fin (MK.refl σ mid) M2 (by omega) hmid hm2 (id := σ.next + 1)
     exact AnsL.val (.made nm []) 1 leD_nil5 (q _).1 (q _).2 (by omega) hb (by rw [run_4, if_pos h0]) ⟨by simp, by simp⟩
   · refine raw ?_
     repeat (first | (with_reducible refine unr ?_; try simp only [YY, ↓reduceIte, Za, Zb, Zc, reduceCtorEq, Zd, Ze, Zf, Zg, Zh, Zi, Zj, e1, e2, h0, hg, hz, hzd, hzt, List.append_nil]) | (with_reducible refine WW (by decide) ?_))
     have q := MK.fin (MK.refl σ mid) M2 (by omega) hmid hm2 (id := σ.next + 1)
     exact AnsL.val (.maker nm ar []) 1 leD_nil5 (q _).1 (q _).2 (by omega) hb (by rw [run_4, if_neg h0]) ⟨by simp, by simp⟩
 · obtain ⟨x, y, rfl⟩ := n2 (by omega)
   have hg0 : (List.map Cr.cells [x, y])[0]? = some x.cells := rfl
   have hg1' : (List.map Cr.cells [x, y])[1]? = some y.cells := rfl
   refine raw ?_
   repeat (first | (with_reducible refine unr ?_; try simp only [YY, ↓reduceIte, Za, Zb, Zc, reduceCtorEq, Zd, Ze, Zf, Zg, Zh, Zi, Zj, e1, hg0, Cr.len, Cr.take9]) | (with_reducible refine WW (by decide) ?_))
   refine (H s2 mid (st + 1) x e hm2 hb (by omega) (hg1 x (by simp)) (he.mono (by omega))).mono ?_
   rintro _ s3 ⟨cs, b, st1, out, rfl, hl, hm3, hk3, hst, hsem⟩
   have e1 := hk3.get e1 (by omega)
   have e2 := hk3.get e2 (by omega)
   have hn3 := hk3.next
   have htk : List.take 15 cs = cs := List.take_of_length_le (by omega)
   try simp only [YY, ↓reduceIte, Za, Zb, Zc, reduceCtorEq, Zd, Ze, Zf, Zg, Zh, Zi, Zj, hl]
   iterate 0 ((with_reducible refine WW (by decide) ?_); refine unr ?_; try simp only [YY, ↓reduceIte, Za, Zb, Zc, reduceCtorEq, Zd, Ze, Zf, Zg, Zh, Zi, Zj, hl])
   generalize hs : Store.push s3 _ = s4
   have k4 : Kp s3 s4 := by rw [← hs]; exact .pushed _ _
   have e3 : s4.get s3.next = some (.cells 132 0 15 [cs]) := by rw [← hs]; simp [Store.push_get, Store.push_next]
   have e1 := k4.get e1
   have e2 := k4.get e2
   have hm4 := k4.get hm3
   have M4 : MK σ s4 mid := (M2.trans hk3).trans (.of k4)
   have hn4 := k4.next
   clear hs
   cases b with
   | false =>
    have hg : ∀ o : AObj, (s4.upd (σ.next + 1) o).get (σ.next + 1) = some o := fun o => Store.get_upd_self _ _ (s4.lt e2)
    refine raw ?_
    repeat (first | (with_reducible refine unr ?_; try simp only [YY, ↓reduceIte, Za, Zb, Zc, reduceCtorEq, Zd, Ze, Zf, Zg, Zh, Zi, Zj, e3, e2, hl, hg, htk, hz, hzd, List.append_nil]) | (with_reducible refine WW (by decide) ?_))
    obtain ⟨q1, q2⟩ := MK.fin (MK.refl σ mid) M4 (by omega) hmid hm4 (id := σ.next + 1) (.cells 132 0 15 [cs])
    refine AnsL.fail hl q1 q2 (by omega) hsem fun n k h => ⟨n + 1, ?_⟩
    rw [run_5, h]
   | true =>
   obtain ⟨v, n1, rfl, rfl, hst1, hr1, hw1⟩ := hsem.yes
   refine raw ?_
   repeat (first | (with_reducible refine unr ?_; try simp only [YY, ↓reduceIte, Za, Zb, Zc, reduceCtorEq, Zd, Ze, Zf, Zg, Zh, Zi, Zj, e3, e1, hg1', hl, htk, Cr.len, Cr.take9, thk_le, thk_mk]) | (with_reducible refine WW (by decide) ?_))
   refine (apply_ok H hmost v (y, e) hm4 hst1 (by omega) hw1 ⟨hg1 y (by simp), he.mono (by omega)⟩).mono ?_
   rintro _ s6 ⟨cs, b1, st', out, rfl, hl6, hm6, hk6, hst6, hsem⟩
   have f3 := hk6.get e2 (by omega)
   have hg : ∀ o : AObj, (s6.upd (σ.next + 1) o).get (σ.next + 1) = some o := fun o => Store.get_upd_self _ _ (s6.lt f3)
   have htk : List.take 15 cs = cs := List.take_of_length_le (by omega)
   refine raw ?_
   repeat (first | (with_reducible refine unr ?_; try simp only [YY, ↓reduceIte, Za, Zb, Zc, reduceCtorEq, Zd, Ze, Zf, Zg, Zh, Zi, Zj, f3, hl6, hg, htk, hz, hzd, List.append_nil]) | (with_reducible refine WW (by decide) ?_))
   obtain ⟨q1, q2⟩ := MK.fin M4 hk6 (by omega) hmid hm6 (id := σ.next + 1) (.cells 132 0 15 [cs])
   exact AnsL.tail hl6 q1 q2 (by omega) hsem fun n r h => ⟨n1 + n + 1, by rw [run_5, up _ _ _ _ (by omega) hr1]; exact up _ _ _ _ (by omega) h⟩
 · refine raw ?_
   repeat (first | (with_reducible refine unr ?_; try simp only [YY, ↓reduceIte, Za, Zb, Zc, reduceCtorEq, Zd, Ze, Zf, Zg, Zh, Zi, Zj, e1, e2, hg, hz, hzd, hzt, List.append_nil]) | (with_reducible refine WW (by decide) ?_))
   have q := MK.fin (MK.refl σ mid) M2 (by omega) hmid hm2 (id := σ.next + 1)
   refine AnsL.val (.lam [] (.mk 6 nm m ar ps gs al bs pk) e) 1 ?_ (q _).1 (q _).2 (by omega) hb (by rw [run_6]) ⟨⟨by simp, by simp⟩, .mk hnd hln hg1 hg2 hg3 hg4, rfl, ?_, he.mono (by omega)⟩
   · simp only [Val.cells, valK, Cr.pss, Cr.cells_eq, List.cons_append, List.nil_append, List.map_nil]
     exact leD_nil5
   · have := hnd.2.2.1 rfl
     simp only [Cr.pss, List.length_nil]
     cases ps with
     | nil => exact absurd rfl this
     | cons x l => simp
 · obtain ⟨g, rfl⟩ := n1 (by omega)
   have hlen := he.len
   have hbl := hln.2.2.1
   have hw2 : IntKind.i64.wrap ((e.flat.length : Int) + (bs.length : Int)) = ((e.flat.length + bs.length : Nat) : Int) := by rw [wrap_of (by omega) (by omega)]; omega
   refine raw ?_
   repeat (first | (with_reducible refine unr ?_; try simp only [YY, ↓reduceIte, Za, Zb, Zc, reduceCtorEq, Zd, Ze, Zf, Zg, Zh, Zi, Zj, e1]) | (with_reducible refine WW (by decide) ?_))
   refine AWP_while [0, 2, 4, 6, 12, 13] (fun i : Nat => bs.length - i) (fun i => [.ptr mid 0 0 0, .list e.flat, .ptr σ.next 0 0 0, .ptr (σ.next + 1) 0 0 0, .list (e.flat ++ (bs.take i).map fun b => recE b.1 b.2 (e.flat.length + bs.length)), .int .i64 i])
    (fun i s => s = s2 ∧ i ≤ bs.length) 0 ⟨rfl, by simp⟩ ?_ ?_
   · refine raw ?_
     repeat (first | (with_reducible refine unr ?_; try simp only [YY, ↓reduceIte, Za, Zb, Zc, reduceCtorEq, Zd, Ze, Zf, Zg, Zh, Zi, Zj]) | (with_reducible refine WW (by decide) ?_))
     simp
   rintro i _ ⟨rfl, hi⟩
   have hw := wrap_succ (i := i) (by omega)
   by_cases hil : i < bs.length
   · have hil' : (i : Int) < (bs.length : Int) := by omega
     obtain ⟨x, hx⟩ : ∃ x, bs[i]? = some x := ⟨_, List.getElem?_eq_getElem hil⟩
     have hga : (bs.map bindC)[i]? = some (bindC x) := by simp [hx]
     obtain ⟨x, c⟩ := x
     refine raw ?_
     repeat (first | (with_reducible refine unr ?_; try simp only [YY, ↓reduceIte, Za, Zb, Zc, reduceCtorEq, Zd, Ze, Zf, Zg, Zh, Zi, Zj, hil', hga, e1, bindC, Cr.len, Cr.take9, hw2, rec_le, rec_mk]) | (with_reducible refine WW (by decide) ?_))
     rw [recE_of]
     refine (cwith_ok _ _ (fun q hq => ?_) (recE_len _ _ _) (fun n q hq c' hc => ?_) ?_ _).mono ?_
     · rcases List.mem_append.1 hq with hq | hq
       · exact flat_len e q hq
       · obtain ⟨b, _, rfl⟩ := List.mem_map.1 hq; exact recE_len _ _ _
     · rcases List.mem_append.1 hq with hq | hq
       · rcases List.mem_append.1 hq with hq | hq
         · exact flat_cln e q hq c' hc
         · obtain ⟨b, _, rfl⟩ := List.mem_map.1 hq; exact recE_cln c' hc
       · simp at hq; subst hq; exact recE_cln c' hc
     · simp only [List.length_append, List.length_map, List.length_take]; omega
     rintro _ _ ⟨rfl, rfl⟩
     refine raw ?_
     repeat (first | (with_reducible refine unr ?_; try simp only [YY, ↓reduceIte, Za, Zb, Zc, reduceCtorEq, Zd, Ze, Zf, Zg, Zh, Zi, Zj, hw]) | (with_reducible refine WW (by decide) ?_))
     refine ⟨i + 1, ?_, by omega, by omega⟩
     rw [List.take_add_one, hx]; simp
   · have hil' : ¬ (i : Int) < (bs.length : Int) := by omega
     have hg0 : (List.map Cr.cells [g])[0]? = some g.cells := rfl
     rw [List.take_of_length_le (by omega)]
     refine raw ?_
     repeat (first | (with_reducible refine unr ?_; try simp only [YY, ↓reduceIte, Za, Zb, Zc, reduceCtorEq, Zd, Ze, Zf, Zg, Zh, Zi, Zj, hil', e1, hg0, Cr.len, Cr.take9]) | (with_reducible refine WW (by decide) ?_))
     refine (H _ mid (st + 1) g (.lets e bs) hm2 hb (by omega) (hg1 g (by simp)) (.lets (he.mono (by omega)) hg3 (by omega))).mono ?_
     rintro _ s6 ⟨cs, b1, st', out, rfl, hl6, hm6, hk6, hst6, hsem⟩
     have f3 := hk6.get e2 (by omega)
     have hg : ∀ o : AObj, (s6.upd (σ.next + 1) o).get (σ.next + 1) = some o := fun o => Store.get_upd_self _ _ (s6.lt f3)
     have htk : List.take 15 cs = cs := List.take_of_length_le (by omega)
     refine raw ?_
     repeat (first | (with_reducible refine unr ?_; try simp only [YY, ↓reduceIte, Za, Zb, Zc, reduceCtorEq, Zd, Ze, Zf, Zg, Zh, Zi, Zj, f3, hl6, hg, htk, hz, hzd, List.append_nil]) | (with_reducible refine WW (by decide) ?_))
     obtain ⟨q1, q2⟩ := MK.fin M2 hk6 (by omega) hmid hm6 (id := σ.next + 1) (.cells 132 0 15 [cs])
     exact AnsL.tail hl6 q1 q2 (by omega) hsem fun n r h => ⟨n + 1, by rw [run_7]; exact h⟩
 · obtain ⟨g, rfl⟩ := n1 (by omega)
   refine raw ?_
   repeat (first | (with_reducible refine unr ?_; try simp only [YY, ↓reduceIte, Za, Zb, Zc, reduceCtorEq, Zd, Ze, Zf, Zg, Zh, Zi, Zj, e1]) | (with_reducible refine WW (by decide) ?_))
   have hmc := mcases_ok H hmost nm m ar ps g al bs pk e rfl hm2 hb (by omega) (.mk hnd hln hg1 hg2 hg3 hg4) he
   rw [Cr.cells_eq] at hmc
   refine hmc.mono ?_
   rintro _ s6 ⟨cs, b1, st', out, rfl, hl6, hm6, hk6, hst6, hsem⟩
   have f3 := hk6.get e2 (by omega)
   have hg : ∀ o : AObj, (s6.upd (σ.next + 1) o).get (σ.next + 1) = some o := fun o => Store.get_upd_self _ _ (s6.lt f3)
   have htk : List.take 15 cs = cs := List.take_of_length_le (by omega)
   refine raw ?_
   repeat (first | (with_reducible refine unr ?_; try simp only [YY, ↓reduceIte, Za, Zb, Zc, reduceCtorEq, Zd, Ze, Zf, Zg, Zh, Zi, Zj, f3, hl6, hg, htk, hz, hzd, List.append_nil]) | (with_reducible refine WW (by decide) ?_))
   obtain ⟨q1, q2⟩ := MK.fin M2 hk6 (by omega) hmid hm6 (id := σ.next + 1) (.cells 132 0 15 [cs])
   exact AnsL.tail hl6 q1 q2 (by omega) hsem fun n r h => ⟨n, h⟩
 · obtain ⟨x, y, rfl⟩ := n2 (by omega)
   have hg0 : (List.map Cr.cells [x, y])[0]? = some x.cells := rfl
   have hg1' : (List.map Cr.cells [x, y])[1]? = some y.cells := rfl
   refine raw ?_
   repeat (first | (with_reducible refine unr ?_; try simp only [YY, ↓reduceIte, Za, Zb, Zc, reduceCtorEq, Zd, Ze, Zf, Zg, Zh, Zi, Zj, e1, hg0, hg1', Cr.len, Cr.take9, thk_le, thk_mk]) | (with_reducible refine WW (by decide) ?_))
   refine (prim_ok H m (x, e) (y, e) hm2 hb (by omega) ⟨hg1 x (by simp), he.mono (by omega)⟩ ⟨hg1 y (by simp), he.mono (by omega)⟩).mono ?_
   rintro _ s6 ⟨cs, b1, st', out, rfl, hl6, hm6, hk6, hst6, hsem⟩
   have f3 := hk6.get e2 (by omega)
   have hg : ∀ o : AObj, (s6.upd (σ.next + 1) o).get (σ.next + 1) = some o := fun o => Store.get_upd_self _ _ (s6.lt f3)
   have htk : List.take 15 cs = cs := List.take_of_length_le (by omega)
   refine raw ?_
   repeat (first | (with_reducible refine unr ?_; try simp only [YY, ↓reduceIte, Za, Zb, Zc, reduceCtorEq, Zd, Ze, Zf, Zg, Zh, Zi, Zj, f3, hl6, hg, htk, hz, hzd, List.append_nil]) | (with_reducible refine WW (by decide) ?_))
   obtain ⟨q1, q2⟩ := MK.fin M2 hk6 (by omega) hmid hm6 (id := σ.next + 1) (.cells 132 0 15 [cs])
   exact AnsL.tail hl6 q1 q2 (by omega) hsem fun n r h => ⟨n + 1, by rw [run_9]; exact h⟩
 · refine raw ?_
   repeat (first | (with_reducible refine unr ?_; try simp only [YY, ↓reduceIte, Za, Zb, Zc, reduceCtorEq, Zd, Ze, Zf, Zg, Zh, Zi, Zj, e1]) | (with_reducible refine WW (by decide) ?_))
   refine (wrong_ok hm2 2).mono ?_
   rintro _ s6 ⟨rfl, hm6, hk6⟩
   have f3 := hk6.get e2 (by omega)
   have hg : ∀ o : AObj, (s6.upd (σ.next + 1) o).get (σ.next + 1) = some o := fun o => Store.get_upd_self _ _ (s6.lt f3)
   refine raw ?_
   repeat (first | (with_reducible refine unr ?_; try simp only [YY, ↓reduceIte, Za, Zb, Zc, reduceCtorEq, Zd, Ze, Zf, Zg, Zh, Zi, Zj, f3, hg, hz, hzd, hzt, List.append_nil]) | (with_reducible refine WW (by decide) ?_))
   obtain ⟨q1, q2⟩ := MK.fin M2 hk6 (by omega) hmid hm6 (id := σ.next + 1) (.cells 132 0 15 [valZ])
   exact AnsL.bad 1 rfl q1 q2 (by omega) (by decide) (by rw [run_10])
 · obtain ⟨g, rfl⟩ := n1 (by omega)
   refine raw ?_
   repeat (first | (with_reducible refine unr ?_; try simp only [YY, ↓reduceIte, Za, Zb, Zc, reduceCtorEq, Zd, Ze, Zf, Zg, Zh, Zi, Zj, e1]) | (with_reducible refine WW (by decide) ?_))
   refine AWP_while [0, 2, 4, 6, 14] (fun i : Nat => pk.length - i) (fun i => [.ptr mid 0 0 0, .list e.flat, .ptr σ.next 0 0 0, .ptr (σ.next + 1) 0 0 0, .int .i64 i])
    (fun i s => s = s2 ∧ i ≤ pk.length ∧ Hid (∀ y, y ∈ pk.take i → ¬ y.1 = sel)) 0 ⟨rfl, by simp, ⟨by simp⟩⟩ ?_ ?_
   · refine raw ?_
     repeat (first | (with_reducible refine unr ?_; try simp only [YY, ↓reduceIte, Za, Zb, Zc, reduceCtorEq, Zd, Ze, Zf, Zg, Zh, Zi, Zj]) | (with_reducible refine WW (by decide) ?_))
     rfl
   rintro i _ ⟨rfl, hi, hno⟩
   have hw := wrap_succ (i := i) (by omega)
   have hmm := hm2
   unfold mch at hmm
   by_cases hil : i < pk.length
   · have hil' : (i : Int) < (pk.length : Int) := by omega
     obtain ⟨x, hx⟩ : ∃ x, pk[i]? = some x := ⟨_, List.getElem?_eq_getElem hil⟩
     have hga : (pk.map pickC)[i]? = some (pickC x) := by simp [hx]
     have hgx := hg4 x (List.mem_of_getElem? hx)
     obtain ⟨x, c⟩ := x
     simp only at hgx
     by_cases hxn : x = sel
     · subst hxn
       refine raw ?_
       repeat (first | (with_reducible refine unr ?_; try simp only [YY, ↓reduceIte, Za, Zb, Zc, reduceCtorEq, Zd, Ze, Zf, Zg, Zh, Zi, Zj, hmm, hil', hga, e1, pickC, Cr.len, Cr.take9]) | (with_reducible refine WW (by decide) ?_))
       refine (H _ mid (st + 1) c e hm2 hb (by omega) hgx (he.mono (by omega))).mono ?_
       rintro _ s6 ⟨cs, b1, st', out, rfl, hl6, hm6, hk6, hst6, hsem⟩
       have f3 := hk6.get e2 (by omega)
       have hg : ∀ o : AObj, (s6.upd (σ.next + 1) o).get (σ.next + 1) = some o := fun o => Store.get_upd_self _ _ (s6.lt f3)
       have htk : List.take 15 cs = cs := List.take_of_length_le (by omega)
       refine raw ?_
       repeat (first | (with_reducible refine unr ?_; try simp only [YY, ↓reduceIte, Za, Zb, Zc, reduceCtorEq, Zd, Ze, Zf, Zg, Zh, Zi, Zj, f3, hl6, hg, htk, hz, hzd, List.append_nil]) | (with_reducible refine WW (by decide) ?_))
       obtain ⟨q1, q2⟩ := MK.fin M2 hk6 (by omega) hmid hm6 (id := σ.next + 1) (.cells 132 0 15 [cs])
       exact AnsL.tail hl6 q1 q2 (by omega) hsem fun n r h => ⟨n + 1, by rw [run_11, pickP_at hno.out hx]; exact h⟩
     · refine raw ?_
       repeat (first | (with_reducible refine unr ?_; try simp only [YY, ↓reduceIte, Za, Zb, Zc, reduceCtorEq, Zd, Ze, Zf, Zg, Zh, Zi, Zj, hmm, hil', hga, e1, pickC, Cr.len, hxn, hw]) | (with_reducible refine WW (by decide) ?_))
       exact ⟨i + 1, rfl, ⟨by omega, ⟨all_succ (p := fun y => ¬ y.1 = sel) hno.out hx hxn⟩⟩, by omega⟩
   · have hil' : ¬ (i : Int) < (pk.length : Int) := by omega
     have hg0 : (List.map Cr.cells [g])[0]? = some g.cells := rfl
     refine raw ?_
     repeat (first | (with_reducible refine unr ?_; try simp only [YY, ↓reduceIte, Za, Zb, Zc, reduceCtorEq, Zd, Ze, Zf, Zg, Zh, Zi, Zj, hil', e1, hg0, Cr.len, Cr.take9]) | (with_reducible refine WW (by decide) ?_))
     refine (H _ mid (st + 1) g e hm2 hb (by omega) (hg1 g (by simp)) (he.mono (by omega))).mono ?_
     rintro _ s6 ⟨cs, b1, st', out, rfl, hl6, hm6, hk6, hst6, hsem⟩
     have f3 := hk6.get e2 (by omega)
     have hg : ∀ o : AObj, (s6.upd (σ.next + 1) o).get (σ.next + 1) = some o := fun o => Store.get_upd_self _ _ (s6.lt f3)
     have htk : List.take 15 cs = cs := List.take_of_length_le (by omega)
     refine raw ?_
     repeat (first | (with_reducible refine unr ?_; try simp only [YY, ↓reduceIte, Za, Zb, Zc, reduceCtorEq, Zd, Ze, Zf, Zg, Zh, Zi, Zj, f3, hl6, hg, htk, hz, hzd, List.append_nil]) | (with_reducible refine WW (by decide) ?_))
     obtain ⟨q1, q2⟩ := MK.fin M2 hk6 (by omega) hmid hm6 (id := σ.next + 1) (.cells 132 0 15 [cs])
     rw [List.take_of_length_le (by omega)] at hno
     exact AnsL.tail hl6 q1 q2 (by omega) hsem fun n r h => ⟨n + 1, by rw [run_11, pickP_un hno.out]; exact h⟩
theorem core_ok (hmost : most ≤ 50000) (hgd : ∀ d, d ∈ ds → Gd d.2) (hdl : ds.length ≤ 100000000) : ∀ f, CoreS ds sel most f
 | 0 => fun σ mid st c e hm h1 h2 hc he => by omega
 | f + 1 => core_step (core_ok hmost hgd hdl f).h hmost hgd hdl
end Go.Proofs.Ytjjbjibbjbbeaaa
/- A value told whole, as plain law. -/
set_option linter.unusedVariables false
set_option linter.unusedSimpArgs false
namespace Go.AL
section
variable (D : Defs) (sel : Int) (F : Int → Int → Int → Int × Int)
theorem tell_up : ∀ n, (∀ v o, tell D sel F n v = some o → tell D sel F (n + 1) v = some o) ∧ (∀ l o, tells D sel F n l = some o → tells D sel F (n + 1) l = some o)
 | 0 => ⟨fun v o h => (by rw [tell] at h; cases h), fun l o h => (by rw [tells] at h; cases h)⟩
 | n + 1 => by
  have ih := tell_up n
  refine ⟨fun v o h => ?_, fun l o h => ?_⟩
  · cases v with
    | made con args =>
     rw [tell] at h ⊢
     cases h1 : tells D sel F n args with
     | none => rw [h1] at h; cases h
     | some q => rw [h1] at h; rw [ih.2 _ _ h1]; exact h
    | whole _ => rw [tell] at h ⊢; exact h
    | lam _ _ _ => rw [tell] at h ⊢; exact h
    | maker _ _ _ => rw [tell] at h ⊢; exact h
    | prim _ _ => rw [tell] at h ⊢; exact h
  · cases l with
    | nil => rw [tells] at h ⊢; exact h
    | cons t r =>
     rw [tells] at h ⊢
     cases h1 : run D sel F n (.core t.1 t.2) with
     | none => rw [h1] at h; cases h
     | some q =>
      rw [h1] at h; rw [run_succ D sel F _ _ _ h1]
      cases q with
      | bad k => exact h
      | ok v =>
       simp only at h ⊢
       cases h2 : tell D sel F n v with
       | none => rw [h2] at h; cases h
       | some w =>
        rw [h2] at h; rw [ih.1 _ _ h2]
        cases w with
        | bad k => exact h
        | ok x =>
         simp only at h ⊢
         cases h3 : tells D sel F n r with
         | none => rw [h3] at h; cases h
         | some z => rw [h3] at h; rw [ih.2 _ _ h3]; exact h
theorem tell_mono {n m : Nat} (hnm : n ≤ m) {v : Val} {o : Out2} (h : tell D sel F n v = some o) : tell D sel F m v = some o := by
 induction hnm with
 | refl => exact h
 | step _ ih => exact (tell_up D sel F _).1 _ _ ih
theorem tells_mono {n m : Nat} (hnm : n ≤ m) {l : List Thk} {o : List Tm ⊕ Int} (h : tells D sel F n l = some o) : tells D sel F m l = some o := by
 induction hnm with
 | refl => exact h
 | step _ ih => exact (tell_up D sel F _).2 _ _ ih
/-- Arguments, and what they are told as. -/
inductive Tg : List Thk → List Tm → Prop
 | nil : Tg [] []
 | cons {t : Thk} {l : List Thk} {x : Tm} {xs : List Tm} (n : Nat) (v : Val) (h1 : run D sel F n (.core t.1 t.2) = some (.ok v)) (h2 : tell D sel F n v = some (.ok x)) (h : Tg l xs) : Tg (t :: l) (x :: xs)
theorem Tg.snoc {l : List Thk} {xs : List Tm} (h : Tg D sel F l xs) {t : Thk} {x : Tm} {n m : Nat} {v : Val} (h1 : run D sel F n (.core t.1 t.2) = some (.ok v)) (h2 : tell D sel F m v = some (.ok x)) : Tg D sel F (l ++ [t]) (xs ++ [x]) := by
 induction h with
 | nil => exact .cons (n + m) v (run_mono D sel F (by omega) h1) (tell_mono D sel F (by omega) h2) .nil
 | cons n v h1 h2 _ ih => exact .cons n v h1 h2 ih
theorem Tg.all {l : List Thk} {xs : List Tm} (h : Tg D sel F l xs) : ∃ n, tells D sel F n l = some (.inl xs) := by
 induction h with
 | nil => exact ⟨1, by rw [tells]⟩
 | cons n v h1 h2 _ ih =>
  obtain ⟨m, hm⟩ := ih
  refine ⟨n + m + 1, ?_⟩
  rw [tells, run_mono D sel F (by omega) h1]
  simp only
  rw [tell_mono D sel F (by omega) h2]
  simp only
  rw [tells_mono D sel F (by omega) hm]
theorem Tg.bad {l : List Thk} {xs : List Tm} (h : Tg D sel F l xs) {t : Thk} {r : List Thk} {k : Int} (hb : (∃ n, run D sel F n (.core t.1 t.2) = some (.bad k)) ∨ ∃ n m v, run D sel F n (.core t.1 t.2) = some (.ok v) ∧ tell D sel F m v = some (.bad k)) :
 ∃ n, tells D sel F n (l ++ t :: r) = some (.inr k) := by
 induction h with
 | nil =>
  rcases hb with ⟨n, h⟩ | ⟨n, m, v, h1, h2⟩
  · exact ⟨n + 1, by rw [List.nil_append, tells, h]⟩
  · refine ⟨n + m + 1, ?_⟩
    rw [List.nil_append, tells, run_mono D sel F (by omega) h1]
    simp only
    rw [tell_mono D sel F (by omega) h2]
 | cons n v h1 h2 _ ih =>
  obtain ⟨m, hm⟩ := ih
  refine ⟨n + m + 1, ?_⟩
  rw [List.cons_append, tells, run_mono D sel F (by omega) h1]
  simp only
  rw [tell_mono D sel F (by omega) h2]
  simp only
  rw [tells_mono D sel F (by omega) hm]
theorem tell_low {v : Val} (hv : ¬ (3 : Int) ≤ v.k) {n : Nat} {xs : List Tm} (h : tells D sel F n v.aas = some (.inl xs)) : ∃ m, tell D sel F m v = some (.ok (.mk v.con v.num xs)) := by
 cases v with
 | whole q =>
  refine ⟨1, ?_⟩
  cases n with
  | zero => rw [tells] at h; cases h
  | succ n => rw [show (Val.whole q).aas = [] from rfl, tells] at h; cases h; rw [tell]; rfl
 | made con args => exact ⟨n + 1, by rw [show (Val.made con args).aas = args from rfl] at h; rw [tell, h]; rfl⟩
 | lam _ _ _ => exact absurd (show (3 : Int) ≤ 4 by decide) hv
 | maker _ _ _ => exact absurd (show (3 : Int) ≤ 5 by decide) hv
 | prim _ _ => exact absurd (show (3 : Int) ≤ 6 by decide) hv
theorem tell_lowbad {v : Val} (hv : ¬ (3 : Int) ≤ v.k) {n : Nat} {k : Int} (h : tells D sel F n v.aas = some (.inr k)) : ∃ m, tell D sel F m v = some (.bad k) := by
 cases v with
 | whole q =>
  cases n with
  | zero => rw [tells] at h; cases h
  | succ n => rw [show (Val.whole q).aas = [] from rfl, tells] at h; cases h
 | made con args => exact ⟨n + 1, by rw [show (Val.made con args).aas = args from rfl] at h; rw [tell, h]⟩
 | lam _ _ _ => exact absurd (show (3 : Int) ≤ 4 by decide) hv
 | maker _ _ _ => exact absurd (show (3 : Int) ≤ 5 by decide) hv
 | prim _ _ => exact absurd (show (3 : Int) ≤ 6 by decide) hv
theorem tell_hi {v : Val} (hv : (3 : Int) ≤ v.k) : tell D sel F 1 v = some (.ok (.mk arrow 0 [])) := by
 cases v with
 | whole q => exact absurd hv (show ¬ (3 : Int) ≤ 1 by decide)
 | made con args => exact absurd hv (show ¬ (3 : Int) ≤ 2 by decide)
 | lam _ _ _ => rw [tell]
 | maker _ _ _ => rw [tell]
 | prim _ _ => rw [tell]
end
/-! ### Told values as data -/
mutual
def Tm.cells : Tm → List AV
 | .mk c n l => [.str c, .int .i64 n, .list (Tm.cellsL l)]
def Tm.cellsL : List Tm → List (List AV)
 | [] => []
 | x :: r => x.cells :: Tm.cellsL r
end
theorem Tm.cellsL_map : ∀ l : List Tm, Tm.cellsL l = l.map Tm.cells
 | [] => rfl
 | x :: r => by rw [Tm.cellsL, Tm.cellsL_map r]; rfl
theorem Tm.len (x : Tm) : x.cells.length = 3 := by cases x with | mk c n l => rw [Tm.cells]; rfl
inductive Tm.Sm : Tm → Prop
 | mk {c : ByteArray} {n : Int} {l : List Tm} (hl : l.length ≤ 1000000000000) (h : ∀ x, x ∈ l → Tm.Sm x) : Tm.Sm (.mk c n l)
def TSem (D : Defs) (sel : Int) (dF : Int → Int → Int → Int × Int) (most : Nat) (v : Val) (cs : List AV) (b : Bool) (st : Nat) (out : Int) : Prop :=
 (∃ x n, b = true ∧ cs = Tm.cells x ∧ out = 0 ∧ st ≤ most ∧ tell D sel dF n v = some (.ok x) ∧ x.Sm) ∨ (∃ k n, b = false ∧ 0 < k ∧ out = k ∧ tell D sel dF n v = some (.bad k)) ∨ (b = false ∧ out < 0)
def TAns (ds : List (ByteArray × Cr)) (sel : Int) (dF : Int → Int → Int → Int × Int) (most : Nat) (v : Val) (σ : Store) (mid st : Nat) (r : AV) (s : Store) : Prop :=
 ∃ (cs : List AV) (b : Bool) (st' : Nat) (out : Int), r = .tuple [.agg cs, .bool b] ∧ cs.length = 3 ∧ s.get mid = some (mch ds sel st' most out) ∧ MK σ s mid ∧ st ≤ st' ∧ TSem (lookD ds) sel dF most v cs b st' out
def TAnsL (ds : List (ByteArray × Cr)) (sel : Int) (dF : Int → Int → Int → Int × Int) (most : Nat) (v : Val) (σ : Store) (mid st : Nat) (r : AV) (s : Store) : Prop := ∃ r', LeD r r' ∧ TAns ds sel dF most v σ mid st r' s
@[congr] theorem TAnsL_congr {w : Prop} (hw : Visit = w) {ds : List (ByteArray × Cr)} {sel : Int} {dF : Int → Int → Int → Int × Int} {most : Nat} {t : Val} {σ : Store} {mid st : Nat} {r r' : AV} {s s' : Store} (h : r = r') (h' : s = s') :
 TAnsL ds sel dF most t σ mid st r s = TAnsL ds sel dF most t σ mid st r' s' := by rw [h, h']
/-- Arguments that are told, up to a place. -/
structure TInv (ds : List (ByteArray × Cr)) (sel : Int) (dF : Int → Int → Int → Int × Int) (most : Nat) (v : Val) (σ : Store) (mid st i : Nat) (s : Store) : Prop where
 le : i ≤ v.aas.length
 ex : ∃ (st1 : Nat) (w : AV) (xs : List Tm), s.get mid = some (mch ds sel st1 most 0) ∧ MK σ s mid ∧ st ≤ st1 ∧ st1 ≤ most ∧ s.get σ.next = some (.cells 132 0 15 [valK v.k v.num v.con v.need v.aas ++ v.rest]) ∧ s.get (σ.next + 1) = some (.cells 43 0 3 [[.str ⟨#[]⟩, .int .i64 0, .nils]]) ∧
  s.get (σ.next + 2) = some (.cells 43 0 3 [[.str v.con, .int .i64 v.num, w]]) ∧ σ.next + 3 ≤ s.next ∧ SliceAt s w 43 3 (Tm.cellsL xs) ∧ (∀ j, j ∈ slIds w → σ.next + 3 ≤ j) ∧ Tg (lookD ds) sel dF (v.aas.take i) xs ∧ xs.length = i ∧ ∀ x, x ∈ xs → x.Sm
end Go.AL
/- The machine: a value told whole. -/
set_option linter.unusedVariables false
set_option linter.unusedSimpArgs false
namespace Go.Proofs.Ytjjbjibbjbbeaaa
open Go.AL
variable {ds : List (ByteArray × Cr)} {sel : Int} {most : Nat}
theorem thunkS_ok {f : Nat} (H : CoreS ds sel most f) {mid st : Nat} {σ : Store} (t : Thk) (hm : σ.get mid = some (mch ds sel st most 0)) (h1 : st ≤ most) (h2 : most < f + st) (ht : WfT (5000000 * st) t) :
 ACalls Try.prog 99 [.ptr mid 0 0 0, .agg (thkC t)] σ (Ans ds sel doF most (.core t.1 t.2) σ mid (st + 1)) := by
 refine ACalls_leD (show ACalls Try.prog 99 _ σ (AnsL ds sel doF most (.core t.1 t.2) σ mid (st + 1)) from ?_)
 refine in99 (by simp) ?_
 unfold c99
 have hmid := σ.lt hm
 have hz : valZ.length = 15 := rfl
 have hzd : List.drop 15 valZ = [] := rfl
 try simp only [YY, ↓reduceIte, Za, Zb, Zc, reduceCtorEq, Zd, Ze, Zf, Zg, Zh, Zi, Zj, thkC_len, thkC_10]
 iterate 2 ((with_reducible refine WW (by decide) ?_); refine unr ?_; try simp only [YY, ↓reduceIte, Za, Zb, Zc, reduceCtorEq, Zd, Ze, Zf, Zg, Zh, Zi, Zj, thkC_len, thkC_10])
 generalize hs : Store.push _ _ = s1
 have k1 : Kp σ s1 := by rw [← hs]; exact (Kp.pushed _ _).push _
 have hn1 : s1.next = σ.next + 2 := by rw [← hs]; rfl
 have g1 : s1.get σ.next = some (.cells 211 0 10 [thkC t]) := by rw [← hs]; simp [Store.push_get, Store.push_next]
 have g2 : s1.get (σ.next + 1) = some (.cells 132 0 15 [valZ]) := by rw [← hs]; simp [Store.push_get, Store.push_next]; rfl
 clear hs
 refine raw ?_
 repeat (first | (with_reducible refine unr ?_; try simp only [YY, ↓reduceIte, Za, Zb, Zc, reduceCtorEq, Zd, Ze, Zf, Zg, Zh, Zi, Zj, g1, thkC_c, thkC_e, thkC_len]) | (with_reducible refine WW (by decide) ?_))
 refine (H s1 mid st t.1 t.2 (k1.get hm) h1 h2 ht.1 ht.2).mono ?_
 rintro _ s2 ⟨cs, b, st', out, rfl, hl, hm2, hk, hst, hsem⟩
 have e2 := hk.get g2 (by omega)
 have hg : ∀ o : AObj, (s2.upd (σ.next + 1) o).get (σ.next + 1) = some o := fun o => Store.get_upd_self _ _ (s2.lt e2)
 have htk : List.take 15 cs = cs := List.take_of_length_le (by omega)
 refine raw ?_
 repeat (first | (with_reducible refine unr ?_; try simp only [YY, ↓reduceIte, Za, Zb, Zc, reduceCtorEq, Zd, Ze, Zf, Zg, Zh, Zi, Zj, e2, hl, hg, htk, hz, hzd, List.append_nil]) | (with_reducible refine WW (by decide) ?_))
 obtain ⟨q1, q2⟩ := MK.fin (MK.of k1) hk (by omega) hmid hm2 (id := σ.next + 1) (.cells 132 0 15 [cs])
 exact AnsL.tail hl q1 q2 hst hsem fun n r h => ⟨n, h⟩
def TermH (ds : List (ByteArray × Cr)) (sel : Int) (most f : Nat) : Prop := ∀ (mid st : Nat) (σ : Store) (v : Val), σ.get mid = some (mch ds sel st most 0) → st ≤ most → most < f + st → WfV (5000000 * st) v →
 ACalls Try.prog 55 [.ptr mid 0 0 0, .agg v.cells] σ (TAns ds sel doF most v σ mid st)
theorem term_ok (hmost : most ≤ 50000) (hgd : ∀ d, d ∈ ds → Gd d.2) (hdl : ds.length ≤ 100000000) : ∀ f, TermH ds sel most f
 | 0 => fun _ _ _ _ _ h1 h2 _ => by omega
 | f + 1 => fun mid st σ v hm h1 h2 hv => by
  have hC := core_ok (sel := sel) hmost hgd hdl (f + 1)
  have IH := term_ok hmost hgd hdl f
  refine ACalls_leD (show ACalls Try.prog 55 _ σ (TAnsL ds sel doF most v σ mid st) from ?_)
  refine in55 (by simp) ?_
  unfold c55
  have hmid := σ.lt hm
  have hvl := v.len
  have hv15 := v.take15
  have hrl := v.rest_len
  have hwa := hv.aas
  try simp only [YY, ↓reduceIte, Za, Zb, Zc, reduceCtorEq, Zd, Ze, Zf, Zg, Zh, Zi, Zj, hvl, hv15]
  iterate 2 ((with_reducible refine WW (by decide) ?_); refine unr ?_; try simp only [YY, ↓reduceIte, Za, Zb, Zc, reduceCtorEq, Zd, Ze, Zf, Zg, Zh, Zi, Zj, hvl, hv15])
  generalize hs : Store.push _ _ = s1
  have k1 : Kp σ s1 := by rw [← hs]; exact (Kp.pushed _ _).push _
  have hn1 : s1.next = σ.next + 2 := by rw [← hs]; rfl
  have g1 : s1.get σ.next = some (.cells 132 0 15 [v.cells]) := by rw [← hs]; simp [Store.push_get, Store.push_next]
  have g2 : s1.get (σ.next + 1) = some (.cells 43 0 3 [[.str ⟨#[]⟩, .int .i64 0, .nils]]) := by rw [← hs]; simp [Store.push_get, Store.push_next]
  have em := k1.get hm
  clear hs
  rw [v.shape] at g1
  by_cases h3 : (3 : Int) ≤ v.k
  · have hg : ∀ o : AObj, (s1.upd (σ.next + 1) o).get (σ.next + 1) = some o := fun o => Store.get_upd_self _ _ (s1.lt g2)
    refine raw ?_
    repeat (first | (with_reducible refine unr ?_; try simp only [YY, ↓reduceIte, Za, Zb, Zc, reduceCtorEq, Zd, Ze, Zf, Zg, Zh, Zi, Zj, g1, g2, h3, valK, List.cons_append, List.nil_append, hg]) | (with_reducible refine WW (by decide) ?_))
    obtain ⟨q1, q2⟩ := MK.fin (MK.of k1) (.refl _ _) (by omega) hmid em (id := σ.next + 1) (.cells 43 0 3 [[.str arrow, .int .i64 0, .nils]])
    refine ⟨.tuple [.agg (Tm.cells (.mk arrow 0 [])), .bool true], ?_, _, _, _, _, rfl, Tm.len _, q1, q2, Nat.le_refl _, .inl ⟨.mk arrow 0 [], 1, rfl, rfl, rfl, h1, tell_hi _ _ _ h3, .mk (by simp) (by simp)⟩⟩
    simp only [Tm.cells, Tm.cellsL]
    exact .tuple (.cons (.agg (.cons (.refl _) (.cons (.refl _) (.cons .nil .nil)))) (.cons (.refl _) .nil))
  try simp only [YY, ↓reduceIte, Za, Zb, Zc, reduceCtorEq, Zd, Ze, Zf, Zg, Zh, Zi, Zj, g1, g2, h3, valK, List.cons_append, List.nil_append]
  iterate 10 ((with_reducible refine WW (by decide) ?_); refine unr ?_; try simp only [YY, ↓reduceIte, Za, Zb, Zc, reduceCtorEq, Zd, Ze, Zf, Zg, Zh, Zi, Zj, g1, g2, h3, valK, List.cons_append, List.nil_append])
  generalize hs : Store.push _ _ = s2
  have k2 : Kp s1 s2 := by rw [← hs]; exact .pushed _ _
  have hn2 : s2.next = σ.next + 3 := by rw [← hs]; simp only [Store.push_next]; omega
  have g3 : s2.get (σ.next + 2) = some (.cells 43 0 3 [[.str v.con, .int .i64 v.num, .nils]]) := by rw [← hs, ← hn1]; simp [Store.push_get]
  rw [hn1]
  clear hs
  have hal := hwa.1
  refine raw ?_
  repeat (first | (with_reducible refine unr ?_; try simp only [YY, ↓reduceIte, Za, Zb, Zc, reduceCtorEq, Zd, Ze, Zf, Zg, Zh, Zi, Zj]) | (with_reducible refine WW (by decide) ?_))
  refine AWP_while [0, 3, 4, 6, 7] (fun i : Nat => v.aas.length - i) (fun i => [.ptr mid 0 0 0, .ptr σ.next 0 0 0, .ptr (σ.next + 1) 0 0 0, .ptr (σ.next + 2) 0 0 0, .int .i64 i])
   (fun i s => TInv ds sel doF most v σ mid st i s) 0 ⟨by omega, st, .nils, [], k2.get em, (MK.of k1).trans (.of k2), Nat.le_refl _, h1, k2.get g1, k2.get g2, g3, by omega, .inl ⟨rfl, rfl⟩, by simp [slIds], by simpa using Tg.nil, rfl, by simp⟩ ?_ ?_
  · refine raw ?_
    repeat (first | (with_reducible refine unr ?_; try simp only [YY, ↓reduceIte, Za, Zb, Zc, reduceCtorEq, Zd, Ze, Zf, Zg, Zh, Zi, Zj]) | (with_reducible refine WW (by decide) ?_))
    rfl
  rintro i s ⟨hi, st1, w, xs, hm1, M1, hst1, hst1m, e1, e2, e3, hns, hsl, hwn, htg, hxl, hxs⟩
  have hw := wrap_succ (i := i) (by omega)
  by_cases hil : i < v.aas.length
  · have hil' : (i : Int) < (v.aas.length : Int) := by omega
    obtain ⟨x, hx⟩ : ∃ x, v.aas[i]? = some x := ⟨_, List.getElem?_eq_getElem hil⟩
    have hgx : (v.aas.map thkC)[i]? = some (thkC x) := by simp [hx]
    have hwx := hwa.2 x (List.mem_of_getElem? hx)
    have hsplit : v.aas = v.aas.take i ++ x :: v.aas.drop (i + 1) := split_at hx
    refine raw ?_
    repeat (first | (with_reducible refine unr ?_; try simp only [YY, ↓reduceIte, Za, Zb, Zc, reduceCtorEq, Zd, Ze, Zf, Zg, Zh, Zi, Zj, e1, hil', hgx, thkC_len, thkC_10, valK, List.cons_append, List.nil_append]) | (with_reducible refine WW (by decide) ?_))
    refine (thunkS_ok hC x hm1 hst1m (by omega) (hwx.mono (by omega))).mono ?_
    rintro _ s3 ⟨cs, b, st2, out, rfl, hl, hm3, hk3, hst2, hsem⟩
    have e1 := hk3.get e1 (by omega)
    have e2 := hk3.get e2 (by omega)
    have e3 := hk3.get e3 (by omega)
    have M3 := M1.trans hk3
    have hn3 := hk3.next
    have hsl3 := hsl.keep (σ' := s3) fun j hj => hk3.keep j (hsl.lt hj) (by have := hwn j hj; omega)
    have htk : List.take 15 cs = cs := List.take_of_length_le (by omega)
    try simp only [YY, ↓reduceIte, Za, Zb, Zc, reduceCtorEq, Zd, Ze, Zf, Zg, Zh, Zi, Zj, hl]
    iterate 0 ((with_reducible refine WW (by decide) ?_); refine unr ?_; try simp only [YY, ↓reduceIte, Za, Zb, Zc, reduceCtorEq, Zd, Ze, Zf, Zg, Zh, Zi, Zj, hl])
    generalize hs : Store.push s3 _ = s4
    have k4 : Kp s3 s4 := by rw [← hs]; exact .pushed _ _
    have hn4 : s4.next = s3.next + 1 := by rw [← hs]; rfl
    have e4 : s4.get s3.next = some (.cells 132 0 15 [cs]) := by rw [← hs]; simp [Store.push_get, Store.push_next]
    have e1 := k4.get e1
    have e2 := k4.get e2
    have e3 := k4.get e3
    have hm4 := k4.get hm3
    have M4 : MK σ s4 mid := M3.trans (.of k4)
    have hsl4 := hsl3.keep (σ' := s4) fun j hj => k4.keep j (hsl3.lt hj)
    clear hs
    cases b with
    | false =>
     have hg : ∀ o : AObj, (s4.upd (σ.next + 1) o).get (σ.next + 1) = some o := fun o => Store.get_upd_self _ _ (s4.lt e2)
     refine raw ?_
     repeat (first | (with_reducible refine unr ?_; try simp only [YY, ↓reduceIte, Za, Zb, Zc, reduceCtorEq, Zd, Ze, Zf, Zg, Zh, Zi, Zj, e3, e2, hg]) | (with_reducible refine WW (by decide) ?_))
     obtain ⟨q1, q2⟩ := MK.fin (MK.refl σ mid) M4 (by omega) hmid hm4 (id := σ.next + 1) (.cells 43 0 3 [[.str v.con, .int .i64 v.num, w]])
     refine ⟨_, .refl _, _, _, _, _, rfl, rfl, q1, q2, by omega, .inr ?_⟩
     rcases hsem with ⟨v', n, h1, _⟩ | ⟨k, n, _, h2, rfl, h4⟩ | ⟨_, h5⟩
     · cases h1
     · obtain ⟨n', h6⟩ := htg.bad _ _ _ (r := v.aas.drop (i + 1)) (.inl ⟨n, h4⟩)
       rw [← hsplit] at h6
       obtain ⟨m', h7⟩ := tell_lowbad _ _ _ h3 h6
       exact .inl ⟨out, m', rfl, h2, rfl, h7⟩
     · exact .inr ⟨rfl, h5⟩
    | true =>
    obtain ⟨v1, n1, rfl, rfl, hst2m, hr1, hw1⟩ := hsem.yes
    refine raw ?_
    repeat (first | (with_reducible refine unr ?_; try simp only [YY, ↓reduceIte, Za, Zb, Zc, reduceCtorEq, Zd, Ze, Zf, Zg, Zh, Zi, Zj, e4, hl, htk]) | (with_reducible refine WW (by decide) ?_))
    refine (IH mid st2 s4 v1 hm4 hst2m (by omega) hw1).mono ?_
    rintro _ s5 ⟨cs, b, st3, out, rfl, hl5, hm5, hk5, hst3, hsem5⟩
    have e1 := hk5.get e1 (by omega)
    have e2 := hk5.get e2 (by omega)
    have e3 := hk5.get e3 (by omega)
    have M5 := M4.trans hk5
    have hn5 := hk5.next
    have hsl5 := hsl4.keep (σ' := s5) fun j hj => hk5.keep j (hsl4.lt hj) (by have := hwn j hj; omega)
    have htk3 : List.take 3 cs = cs := List.take_of_length_le (by omega)
    try simp only [YY, ↓reduceIte, Za, Zb, Zc, reduceCtorEq, Zd, Ze, Zf, Zg, Zh, Zi, Zj, hl5]
    iterate 0 ((with_reducible refine WW (by decide) ?_); refine unr ?_; try simp only [YY, ↓reduceIte, Za, Zb, Zc, reduceCtorEq, Zd, Ze, Zf, Zg, Zh, Zi, Zj, hl5])
    generalize hs : Store.push s5 _ = s6
    have k6 : Kp s5 s6 := by rw [← hs]; exact .pushed _ _
    have hn6 : s6.next = s5.next + 1 := by rw [← hs]; rfl
    have e5 : s6.get s5.next = some (.cells 43 0 3 [cs]) := by rw [← hs]; simp [Store.push_get, Store.push_next]
    have e1 := k6.get e1
    have e2 := k6.get e2
    have e3 := k6.get e3
    have hm6 := k6.get hm5
    have M6 : MK σ s6 mid := M5.trans (.of k6)
    have hsl6 := hsl5.keep (σ' := s6) fun j hj => k6.keep j (hsl5.lt hj)
    clear hs
    cases b with
    | false =>
     have hg : ∀ o : AObj, (s6.upd (σ.next + 1) o).get (σ.next + 1) = some o := fun o => Store.get_upd_self _ _ (s6.lt e2)
     refine raw ?_
     repeat (first | (with_reducible refine unr ?_; try simp only [YY, ↓reduceIte, Za, Zb, Zc, reduceCtorEq, Zd, Ze, Zf, Zg, Zh, Zi, Zj, e3, e2, hg]) | (with_reducible refine WW (by decide) ?_))
     obtain ⟨q1, q2⟩ := MK.fin (MK.refl σ mid) M6 (by omega) hmid hm6 (id := σ.next + 1) (.cells 43 0 3 [[.str v.con, .int .i64 v.num, w]])
     refine ⟨_, .refl _, _, _, _, _, rfl, rfl, q1, q2, by omega, .inr ?_⟩
     rcases hsem5 with ⟨v', n, h1, _⟩ | ⟨k, n, _, h2, rfl, h4⟩ | ⟨_, h5⟩
     · cases h1
     · obtain ⟨n', h6⟩ := htg.bad _ _ _ (r := v.aas.drop (i + 1)) (.inr ⟨n1, n, v1, hr1, h4⟩)
       rw [← hsplit] at h6
       obtain ⟨m', h7⟩ := tell_lowbad _ _ _ h3 h6
       exact .inl ⟨out, m', rfl, h2, rfl, h7⟩
     · exact .inr ⟨rfl, h5⟩
    | true =>
    obtain ⟨y, n2, rfl, rfl, hst3m, hr2, hy⟩ : ∃ x n, cs = Tm.cells x ∧ out = 0 ∧ st3 ≤ most ∧ tell (lookD ds) sel doF n v1 = some (.ok x) ∧ x.Sm := by
     rcases hsem5 with ⟨x, n, _, h⟩ | ⟨k, n, h, _⟩ | ⟨h, _⟩
     · exact ⟨x, n, h⟩
     · cases h
     · cases h
    refine raw ?_
    repeat (first | (with_reducible refine unr ?_; try simp only [YY, ↓reduceIte, Za, Zb, Zc, reduceCtorEq, Zd, Ze, Zf, Zg, Zh, Zi, Zj, e3, e5, hl5, htk3]) | (with_reducible refine WW (by decide) ?_))
    have hel : (Tm.cellsL xs).length = i := by rw [Tm.cellsL_map, List.length_map, hxl]
    refine ok_app hsl6 (es2 := [y.cells]) (by simp [Tm.len]) (by simp only [hel, List.length_singleton]; omega) (by simp only [hel, List.length_singleton, maxLen]; omega) ?_
    intro w' s7 hsl7 hfr
    have hnm : ∀ j, j < σ.next + 3 → j ∉ slIds w := fun j hj hm => by have := hwn j hm; omega
    have f1 := (hfr.keep σ.next (by omega) (hnm _ (by omega))).trans e1
    have f2 := (hfr.keep (σ.next + 1) (by omega) (hnm _ (by omega))).trans e2
    have f3 := (hfr.keep (σ.next + 2) (by omega) (hnm _ (by omega))).trans e3
    have fm := (hfr.keep mid (by omega) (hnm _ (by omega))).trans hm6
    have hn7 := hfr.next
    have hwn7 : ∀ j, j ∈ slIds w' → σ.next + 3 ≤ j := fun j hj => (hfr.fresh j hj).elim (hwn j) (fun h => by omega)
    have M7 : MK σ s7 mid := ⟨by omega, fun j hj hne => by rw [hfr.keep j (by omega) (hnm _ (by omega)), M6.keep j hj hne]⟩
    refine raw ?_
    repeat (first | (with_reducible refine unr ?_; try simp only [YY, ↓reduceIte, Za, Zb, Zc, reduceCtorEq, Zd, Ze, Zf, Zg, Zh, Zi, Zj, f3, hsl7.co, hw]) | (with_reducible refine WW (by decide) ?_))
    refine ⟨i + 1, rfl, ⟨by omega, st3, w', xs ++ [y], by rw [Store.get_upd_ne _ _ (by omega)]; exact fm, M7.upd (by omega) _, by omega, hst3m, by rw [Store.get_upd_ne _ _ (by omega)]; exact f1, by rw [Store.get_upd_ne _ _ (by omega)]; exact f2, Store.get_upd_self _ _ (s7.lt f3), by rw [Store.upd_next]; omega, ?_, hwn7, ?_, by simp [hxl], ?_⟩, by omega⟩
    · rw [Tm.cellsL_map, List.map_append, ← Tm.cellsL_map]
      exact hsl7.keep fun j hj => Store.get_upd_ne _ _ (by have := hwn7 j hj; omega)
    · rw [List.take_add_one, hx, Option.toList_some]
      exact htg.snoc _ _ _ hr1 hr2
    · intro z hz
      rcases List.mem_append.1 hz with hz | hz
      · exact hxs z hz
      · simp at hz; subst hz; exact hy
  · have hil' : ¬ (i : Int) < (v.aas.length : Int) := by omega
    rw [List.take_of_length_le (by omega)] at htg
    refine AWP_frozeO hsl e3 (fun hm => by have := hwn _ hm; omega) (os' := [[.str v.con, .int .i64 v.num, .list (Tm.cellsL xs)]]) (.cons (.cons (.refl _) (.cons (.refl _) (.cons .here .nil))) .nil) ?_
    intro s5 z1 z2 z3
    have hnm : ∀ j, j < σ.next + 3 → j ∉ slIds w := fun j hj hm => by have := hwn j hm; omega
    have f1 := (z3 σ.next (hnm _ (by omega)) (by omega)).trans e1
    have f2 := (z3 (σ.next + 1) (hnm _ (by omega)) (by omega)).trans e2
    have fm := (z3 mid (hnm _ (by omega)) (by omega)).trans hm1
    have M5 : MK σ s5 mid := ⟨by omega, fun j hj hne => by rw [z3 j (hnm _ (by omega)) (by omega), M1.keep j hj hne]⟩
    have hg : ∀ o : AObj, (s5.upd (σ.next + 1) o).get (σ.next + 1) = some o := fun o => Store.get_upd_self _ _ (s5.lt f2)
    refine raw ?_
    repeat (first | (with_reducible refine unr ?_; try simp only [YY, ↓reduceIte, Za, Zb, Zc, reduceCtorEq, Zd, Ze, Zf, Zg, Zh, Zi, Zj, f1, hil', z2, f2, hg, valK, List.cons_append, List.nil_append]) | (with_reducible refine WW (by decide) ?_))
    obtain ⟨q1, q2⟩ := MK.fin (MK.refl σ mid) M5 (by omega) hmid fm (id := σ.next + 1) (.cells 43 0 3 [(Tm.mk v.con v.num xs).cells])
    obtain ⟨n, hn⟩ := htg.all _ _ _
    obtain ⟨m, hm⟩ := tell_low _ _ _ h3 hn
    exact ⟨_, .refl _, _, _, _, _, rfl, rfl, q1, q2, by omega, .inl ⟨.mk v.con v.num xs, m, rfl, rfl, rfl, hst1m, hm, .mk (by omega) hxs⟩⟩
end Go.Proofs.Ytjjbjibbjbbeaaa
/- The outcome of a definition; outcomes that are the same. -/
set_option linter.unusedVariables false
set_option linter.unusedSimpArgs false
namespace Go.AL
def Tm.con : Tm → ByteArray | .mk c _ _ => c
def Tm.num : Tm → Int | .mk _ n _ => n
def Tm.args : Tm → List Tm | .mk _ _ l => l
theorem Tm.cells_eq (t : Tm) : t.cells = [.str t.con, .int .i64 t.num, .list (Tm.cellsL t.args)] := by cases t with | mk c n l => rw [Tm.cells]; rfl
def Out2.Sm : Out2 → Prop
 | .ok t => t.Sm
 | .bad _ => True
def Out2.kd : Out2 → Int
 | .ok _ => 1
 | .bad k => k
def Out2.tm : Out2 → Tm
 | .ok t => t
 | .bad _ => .mk ⟨#[]⟩ 0 []
def outC (o : Out2) (st : Nat) : List AV := [.int .i64 o.kd, .str o.tm.con, .int .i64 o.tm.num, .list (Tm.cellsL o.tm.args), .int .i64 st]
theorem Out2.tm_sm (o : Out2) (h : o.Sm) : o.tm.Sm := by
 cases o with
 | ok t => exact h
 | bad k => exact .mk (by simp) (by simp)
theorem outc_run {D : Defs} {sel : Int} {F : Int → Int → Int → Int × Int} {n m : Nat} {c : Cr} {v : Val} {o : Out2} (h : run D sel F n (.core c .nil) = some (.ok v)) (h2 : tell D sel F m v = some o) : outc D sel F (n + m) c = some o := by
 unfold outc
 rw [run_mono D sel F (by omega) h]
 exact tell_mono D sel F (by omega) h2
theorem outc_bad {D : Defs} {sel : Int} {F : Int → Int → Int → Int × Int} {n : Nat} {c : Cr} {k : Int} (h : run D sel F n (.core c .nil) = some (.bad k)) : outc D sel F n c = some (.bad k) := by
 unfold outc; rw [h]
/-- What a run answers. -/
def RAns (D : Defs) (sel : Int) (dF : Int → Int → Int → Int × Int) (c : Cr) (σ : Store) (r : AV) (s : Store) : Prop :=
 ∃ (cs : List AV) (b : Bool), r = .tuple [.agg cs, .bool b] ∧ cs.length = 5 ∧ Kp σ s ∧ (b = true → ∃ o n st, outc D sel dF n c = some o ∧ o.Sm ∧ cs = outC o st)
def RAnsL (D : Defs) (sel : Int) (dF : Int → Int → Int → Int × Int) (c : Cr) (σ : Store) (r : AV) (s : Store) : Prop := ∃ r', LeD r r' ∧ RAns D sel dF c σ r' s
@[congr] theorem RAnsL_congr {w : Prop} (hw : Visit = w) {D : Defs} {sel : Int} {dF : Int → Int → Int → Int × Int} {c : Cr} {σ : Store} {r r' : AV} {s s' : Store} (h : r = r') (h' : s = s') :
 RAnsL D sel dF c σ r s = RAnsL D sel dF c σ r' s' := by rw [h, h']
end Go.AL
namespace Go.Proofs.Ytjjbjibbjbbeaaa
open Go.AL
variable {ds : List (ByteArray × Cr)} {sel : Int} {most : Nat}
theorem sameTerm_ok {x : Tm} (h : x.Sm) : ∀ σ : Store, ACalls Try.prog 45 [.agg x.cells, .agg x.cells] σ fun r s => r = .bool true ∧ Kp σ s := by
 induction h with
 | mk hl h ih =>
 rename_i c n l
 intro σ
 refine in45 (by simp) ?_
 unfold c45
 rw [Tm.cells, Tm.cellsL_map]
 try simp only [YY, ↓reduceIte, Za, Zb, Zc, reduceCtorEq, Zd, Ze, Zf, Zg, Zh, Zi, Zj]
 iterate 2 ((with_reducible refine WW (by decide) ?_); refine unr ?_; try simp only [YY, ↓reduceIte, Za, Zb, Zc, reduceCtorEq, Zd, Ze, Zf, Zg, Zh, Zi, Zj])
 generalize hs : Store.push _ _ = s1
 have k1 : Kp σ s1 := by rw [← hs]; exact (Kp.pushed _ _).push _
 have g1 : s1.get σ.next = some (.cells 43 0 3 [[.str c, .int .i64 n, .list (l.map Tm.cells)]]) := by rw [← hs]; simp [Store.push_get, Store.push_next]
 have g2 : s1.get (σ.next + 1) = some (.cells 43 0 3 [[.str c, .int .i64 n, .list (l.map Tm.cells)]]) := by rw [← hs]; simp [Store.push_get, Store.push_next]
 clear hs
 refine raw ?_
 repeat (first | (with_reducible refine unr ?_; try simp only [YY, ↓reduceIte, Za, Zb, Zc, reduceCtorEq, Zd, Ze, Zf, Zg, Zh, Zi, Zj, g1, g2]) | (with_reducible refine WW (by decide) ?_))
 refine AWP_while [2, 3, 5] (fun i : Nat => l.length - i) (fun i => [.ptr σ.next 0 0 0, .ptr (σ.next + 1) 0 0 0, .int .i64 i]) (fun i s => Kp s1 s ∧ i ≤ l.length) 0 ⟨.refl _, by simp⟩ ?_ ?_
 · refine raw ?_
   repeat (first | (with_reducible refine unr ?_; try simp only [YY, ↓reduceIte, Za, Zb, Zc, reduceCtorEq, Zd, Ze, Zf, Zg, Zh, Zi, Zj]) | (with_reducible refine WW (by decide) ?_))
   rfl
 rintro i s ⟨k, hi⟩
 have hw := wrap_succ (i := i) (by omega)
 have e1 := k.get g1
 have e2 := k.get g2
 by_cases hil : i < l.length
 · have hil' : (i : Int) < (l.length : Int) := by omega
   obtain ⟨x, hx⟩ : ∃ x, l[i]? = some x := ⟨_, List.getElem?_eq_getElem hil⟩
   have hga : (l.map Tm.cells)[i]? = some x.cells := by simp [hx]
   have htk : List.take 3 x.cells = x.cells := List.take_of_length_le (by rw [Tm.len]; omega)
   refine raw ?_
   repeat (first | (with_reducible refine unr ?_; try simp only [YY, ↓reduceIte, Za, Zb, Zc, reduceCtorEq, Zd, Ze, Zf, Zg, Zh, Zi, Zj, e1, e2, hil', hga, Tm.len, htk]) | (with_reducible refine WW (by decide) ?_))
   refine (ih x (List.mem_of_getElem? hx) s).mono ?_
   rintro _ s2 ⟨rfl, k2⟩
   refine raw ?_
   repeat (first | (with_reducible refine unr ?_; try simp only [YY, ↓reduceIte, Za, Zb, Zc, reduceCtorEq, Zd, Ze, Zf, Zg, Zh, Zi, Zj, hw]) | (with_reducible refine WW (by decide) ?_))
   exact ⟨i + 1, rfl, ⟨k.trans k2, by omega⟩, by omega⟩
 · have hil' : ¬ (i : Int) < (l.length : Int) := by omega
   refine raw ?_
   repeat (first | (with_reducible refine unr ?_; try simp only [YY, ↓reduceIte, Za, Zb, Zc, reduceCtorEq, Zd, Ze, Zf, Zg, Zh, Zi, Zj, e1, hil']) | (with_reducible refine WW (by decide) ?_))
   exact k1.trans k
theorem sameOut_ok {o : Out2} (h : o.Sm) (st st' : Nat) (σ : Store) : ACalls Try.prog 23 [.agg (outC o st), .agg (outC o st')] σ fun r s => r = .bool true ∧ Kp σ s := by
 refine in23 (by simp) ?_
 unfold c23
 have hT := sameTerm_ok (o.tm_sm h)
 rw [Tm.cells_eq] at hT
 try simp only [YY, ↓reduceIte, Za, Zb, Zc, reduceCtorEq, Zd, Ze, Zf, Zg, Zh, Zi, Zj, outC]
 iterate 2 ((with_reducible refine WW (by decide) ?_); refine unr ?_; try simp only [YY, ↓reduceIte, Za, Zb, Zc, reduceCtorEq, Zd, Ze, Zf, Zg, Zh, Zi, Zj, outC])
 generalize hs : Store.push _ _ = s1
 have k1 : Kp σ s1 := by rw [← hs]; exact (Kp.pushed _ _).push _
 have g1 : s1.get σ.next = some (.cells 63 0 5 [outC o st]) := by rw [← hs]; simp [Store.push_get, Store.push_next, outC]
 have g2 : s1.get (σ.next + 1) = some (.cells 63 0 5 [outC o st']) := by rw [← hs]; simp [Store.push_get, Store.push_next, outC]
 unfold outC at g1 g2
 clear hs
 refine raw ?_
 repeat (first | (with_reducible refine unr ?_; try simp only [YY, ↓reduceIte, Za, Zb, Zc, reduceCtorEq, Zd, Ze, Zf, Zg, Zh, Zi, Zj, g1, g2]) | (with_reducible refine WW (by decide) ?_))
 refine (hT _).mono ?_
 rintro _ s2 ⟨rfl, k2⟩
 refine raw ?_
 repeat (first | (with_reducible refine unr ?_; try simp only [YY, ↓reduceIte, Za, Zb, Zc, reduceCtorEq, Zd, Ze, Zf, Zg, Zh, Zi, Zj]) | (with_reducible refine WW (by decide) ?_))
 exact k1.trans k2
theorem runCore_ok (hmost : most ≤ 50000) (hgd : ∀ d, d ∈ ds → Gd d.2) (hdl : ds.length ≤ 100000000) (c : Cr) (hc : Gd c) (σ : Store) :
 ACalls Try.prog 21 [.list (ds.map defC), .agg c.cells, .int .i64 sel, .int .i64 most] σ (RAns (lookD ds) sel doF c σ) := by
 refine ACalls_leD (show ACalls Try.prog 21 _ σ (RAnsL (lookD ds) sel doF c σ) from ?_)
 refine in21 (by simp) ?_
 unfold c21
 try simp only [YY, ↓reduceIte, Za, Zb, Zc, reduceCtorEq, Zd, Ze, Zf, Zg, Zh, Zi, Zj, Cr.len, Cr.take9]
 iterate 4 ((with_reducible refine WW (by decide) ?_); refine unr ?_; try simp only [YY, ↓reduceIte, Za, Zb, Zc, reduceCtorEq, Zd, Ze, Zf, Zg, Zh, Zi, Zj, Cr.len, Cr.take9])
 generalize hs : Store.push _ _ = s1
 have k1 : Kp σ s1 := by rw [← hs]; exact ((Kp.pushed _ _).push _).push _
 have hn1 : s1.next = σ.next + 3 := by rw [← hs]; rfl
 have g1 : s1.get σ.next = some (.cells 54 0 9 [c.cells]) := by rw [← hs]; simp [Store.push_get, Store.push_next, self_ne2]
 have g2 : s1.get (σ.next + 1) = some (.cells 63 0 5 [[.int .i64 0, .str ⟨#[]⟩, .int .i64 0, .nils, .int .i64 0]]) := by rw [← hs]; simp [Store.push_get, Store.push_next]
 have gm : s1.get (σ.next + 1 + 1) = some (mch ds sel 0 most 0) := by rw [← hs, mch]; simp [Store.push_get, Store.push_next]
 clear hs
 refine raw ?_
 repeat (first | (with_reducible refine unr ?_; try simp only [YY, ↓reduceIte, Za, Zb, Zc, reduceCtorEq, Zd, Ze, Zf, Zg, Zh, Zi, Zj, g1, Cr.len, Cr.take9]) | (with_reducible refine WW (by decide) ?_))
 refine (core_ok hmost hgd hdl (most + 1) s1 (σ.next + 1 + 1) 0 c .nil gm (by omega) (by omega) hc .nil).mono ?_
 rintro _ s2 ⟨cs, b, st1, out, rfl, hl, hm2, hk2, hst, hsem⟩
 have e2 := hk2.get g2 (by omega)
 have hn2 := hk2.next
 have hkp : ∀ j, j < σ.next → s2.get j = σ.get j := fun j hj => by rw [hk2.keep j (by omega) (by omega), k1.keep j hj]
 have htk : List.take 15 cs = cs := List.take_of_length_le (by omega)
 try simp only [YY, ↓reduceIte, Za, Zb, Zc, reduceCtorEq, Zd, Ze, Zf, Zg, Zh, Zi, Zj, hl]
 iterate 0 ((with_reducible refine WW (by decide) ?_); refine unr ?_; try simp only [YY, ↓reduceIte, Za, Zb, Zc, reduceCtorEq, Zd, Ze, Zf, Zg, Zh, Zi, Zj, hl])
 generalize hs : Store.push s2 _ = s3
 have k3 : Kp s2 s3 := by rw [← hs]; exact .pushed _ _
 have e3 : s3.get s2.next = some (.cells 132 0 15 [cs]) := by rw [← hs]; simp [Store.push_get, Store.push_next]
 have hn3 : s3.next = s2.next + 1 := by rw [← hs]; rfl
 clear hs
 try simp only [YY, ↓reduceIte, Za, Zb, Zc, reduceCtorEq, Zd, Ze, Zf, Zg, Zh, Zi, Zj]
 iterate 2 ((with_reducible refine WW (by decide) ?_); refine unr ?_; try simp only [YY, ↓reduceIte, Za, Zb, Zc, reduceCtorEq, Zd, Ze, Zf, Zg, Zh, Zi, Zj])
 generalize hs : Store.push s3 _ = s4
 have k4 : Kp s3 s4 := by rw [← hs]; exact .pushed _ _
 have e4 : s4.get s3.next = some (.cells 43 0 3 [[.str ⟨#[]⟩, .int .i64 0, .nils]]) := by rw [← hs]; simp [Store.push_get, Store.push_next]
 have hn4 : s4.next = s3.next + 1 := by rw [← hs]; rfl
 have e2 := (k3.trans k4).get e2
 have hm4 := (k3.trans k4).get hm2
 have e3 := k4.get e3
 have hkp4 : ∀ j, j < σ.next → s4.get j = σ.get j := fun j hj => by rw [(k3.trans k4).keep j (by omega), hkp j hj]
 clear hs
 cases b with
 | false =>
  have hg : ∀ o : AObj, (s4.upd (σ.next + 1) o).get (σ.next + 1) = some o := fun o => Store.get_upd_self _ _ (s4.lt e2)
  have kp : ∀ o : AObj, Kp σ (s4.upd (σ.next + 1) o) := fun o => ⟨by rw [Store.upd_next]; omega, fun j hj => by rw [Store.get_upd_ne _ _ (by omega)]; exact hkp4 j hj⟩
  have hmc := hm4
  unfold mch at hmc
  rcases hsem with ⟨v', n, h1, _⟩ | ⟨k, n, _, h2, rfl, h4⟩ | ⟨_, h5⟩
  · cases h1
  · have h2' : ¬ out < 0 := by omega
    refine raw ?_
    repeat (first | (with_reducible refine unr ?_; try simp only [YY, ↓reduceIte, Za, Zb, Zc, reduceCtorEq, Zd, Ze, Zf, Zg, Zh, Zi, Zj, hmc, h2', e2, hg]) | (with_reducible refine WW (by decide) ?_))
    refine ⟨.tuple [.agg (outC (.bad out) st1), .bool true], ?_, _, _, rfl, rfl, kp _, fun _ => ⟨.bad out, _, st1, outc_bad h4, trivial, rfl⟩⟩
    simp only [outC, Tm.args, Tm.con, Tm.num, Out2.tm, Out2.kd, Tm.cellsL]
    exact .tuple (.cons (.agg (.cons (.refl _) (.cons (.refl _) (.cons (.refl _) (.cons .nil (.cons (.refl _) .nil)))))) (.cons (.refl _) .nil))
  · refine raw ?_
    repeat (first | (with_reducible refine unr ?_; try simp only [YY, ↓reduceIte, Za, Zb, Zc, reduceCtorEq, Zd, Ze, Zf, Zg, Zh, Zi, Zj, hmc, h5, e2, hg]) | (with_reducible refine WW (by decide) ?_))
    exact ⟨_, .refl _, _, _, rfl, rfl, kp _, fun h => by cases h⟩
 | true =>
 obtain ⟨v, n1, rfl, rfl, hst1, hr1, hw1⟩ := hsem.yes
 refine raw ?_
 repeat (first | (with_reducible refine unr ?_; try simp only [YY, ↓reduceIte, Za, Zb, Zc, reduceCtorEq, Zd, Ze, Zf, Zg, Zh, Zi, Zj, e3, hl, htk]) | (with_reducible refine WW (by decide) ?_))
 refine (term_ok hmost hgd hdl (most + 1) (σ.next + 1 + 1) st1 s4 v hm4 hst1 (by omega) hw1).mono ?_
 rintro _ s5 ⟨cs, b, st2, out, rfl, hl5, hm5, hk5, hst2, hsem5⟩
 have e2 := hk5.get e2 (by omega)
 have e4 := hk5.get e4 (by omega)
 have hn5 := hk5.next
 have hkp5 : ∀ j, j < σ.next → s5.get j = σ.get j := fun j hj => by rw [hk5.keep j (by omega) (by omega), hkp4 j hj]
 have htk3 : List.take 3 cs = cs := List.take_of_length_le (by omega)
 have hd3 : List.drop 3 [AV.str ⟨#[]⟩, .int .i64 0, .nils] = [] := rfl
 try simp only [YY, ↓reduceIte, Za, Zb, Zc, reduceCtorEq, Zd, Ze, Zf, Zg, Zh, Zi, Zj, e4, hl5, htk3, hd3, List.append_nil]
 iterate 0 ((with_reducible refine WW (by decide) ?_); refine unr ?_; try simp only [YY, ↓reduceIte, Za, Zb, Zc, reduceCtorEq, Zd, Ze, Zf, Zg, Zh, Zi, Zj, e4, hl5, htk3, hd3, List.append_nil])
 generalize hs : s5.upd s3.next _ = s6
 have hn6 : s6.next = s5.next := by rw [← hs, Store.upd_next]
 have e4 : s6.get s3.next = some (.cells 43 0 3 [cs]) := by rw [← hs]; exact Store.get_upd_self _ _ (s5.lt e4)
 have e2 : s6.get (σ.next + 1) = some (.cells 63 0 5 [[.int .i64 0, .str ⟨#[]⟩, .int .i64 0, .nils, .int .i64 0]]) := by rw [← hs, Store.get_upd_ne _ _ (by omega)]; exact e2
 have hm6 : s6.get (σ.next + 1 + 1) = some (mch ds sel st2 most out) := by rw [← hs, Store.get_upd_ne _ _ (by omega)]; exact hm5
 have hkp6 : ∀ j, j < σ.next → s6.get j = σ.get j := fun j hj => by rw [← hs, Store.get_upd_ne _ _ (by omega)]; exact hkp5 j hj
 clear hs
 have hg : ∀ o : AObj, (s6.upd (σ.next + 1) o).get (σ.next + 1) = some o := fun o => Store.get_upd_self _ _ (s6.lt e2)
 have kp : ∀ o : AObj, Kp σ (s6.upd (σ.next + 1) o) := fun o => ⟨by rw [Store.upd_next]; omega, fun j hj => by rw [Store.get_upd_ne _ _ (by omega)]; exact hkp6 j hj⟩
 have hmc := hm6
 unfold mch at hmc
 rcases hsem5 with ⟨x, n, rfl, rfl, rfl, hst2, htl, hx⟩ | ⟨k, n, rfl, h2, rfl, h4⟩ | ⟨rfl, h5⟩
 · have h2' : ¬ (0 : Int) < 0 := by omega
   rw [Tm.cells_eq] at e4
   refine raw ?_
   repeat (first | (with_reducible refine unr ?_; try simp only [YY, ↓reduceIte, Za, Zb, Zc, reduceCtorEq, Zd, Ze, Zf, Zg, Zh, Zi, Zj, hmc, h2', e2, e4, hg]) | (with_reducible refine WW (by decide) ?_))
   exact ⟨_, .refl _, _, _, rfl, rfl, kp _, fun _ => ⟨.ok x, _, st2, outc_run hr1 htl, hx, rfl⟩⟩
 · have h2' : ¬ out < 0 := by omega
   refine raw ?_
   repeat (first | (with_reducible refine unr ?_; try simp only [YY, ↓reduceIte, Za, Zb, Zc, reduceCtorEq, Zd, Ze, Zf, Zg, Zh, Zi, Zj, hmc, h2', e2, hg]) | (with_reducible refine WW (by decide) ?_))
   refine ⟨.tuple [.agg (outC (.bad out) st2), .bool true], ?_, _, _, rfl, rfl, kp _, fun _ => ⟨.bad out, _, st2, outc_run hr1 h4, trivial, rfl⟩⟩
   simp only [outC, Tm.args, Tm.con, Tm.num, Out2.tm, Out2.kd, Tm.cellsL]
   exact .tuple (.cons (.agg (.cons (.refl _) (.cons (.refl _) (.cons (.refl _) (.cons .nil (.cons (.refl _) .nil)))))) (.cons (.refl _) .nil))
 · refine raw ?_
   repeat (first | (with_reducible refine unr ?_; try simp only [YY, ↓reduceIte, Za, Zb, Zc, reduceCtorEq, Zd, Ze, Zf, Zg, Zh, Zi, Zj, hmc, h5, e2, hg]) | (with_reducible refine WW (by decide) ?_))
   exact ⟨_, .refl _, _, _, rfl, rfl, kp _, fun h => by cases h⟩
end Go.Proofs.Ytjjbjibbjbbeaaa
/- What may be is well formed, and so is what is made of it, as plain law. -/
set_option linter.unusedVariables false
set_option linter.unusedSimpArgs false
namespace Go.AL
theorem bulkL_mem : ∀ {l : List Cr} {x : Cr}, x ∈ l → x.bulk ≤ Cr.bulkL l
 | [], _, h => by simp at h
 | y :: r, x, h => by
  rw [Cr.bulkL]
  rcases List.mem_cons.1 h with rfl | h
  · omega
  · have := bulkL_mem h; omega
theorem bulkA_mem : ∀ {l : List (AltH × Cr)} {x : AltH × Cr}, x ∈ l → x.1.ps.length + x.2.bulk ≤ Cr.bulkA l
 | [], _, h => by simp at h
 | (a, y) :: r, x, h => by
  rw [Cr.bulkA]
  rcases List.mem_cons.1 h with rfl | h
  · simp only; omega
  · have := bulkA_mem h; omega
theorem bulkB_mem : ∀ {l : List (ByteArray × Cr)} {x : ByteArray × Cr}, x ∈ l → x.2.bulk ≤ Cr.bulkB l
 | [], _, h => by simp at h
 | (a, y) :: r, x, h => by
  rw [Cr.bulkB]
  rcases List.mem_cons.1 h with rfl | h
  · simp only; omega
  · have := bulkB_mem h; omega
theorem bulkP_mem : ∀ {l : List (Int × Cr)} {x : Int × Cr}, x ∈ l → x.2.bulk ≤ Cr.bulkP l
 | [], _, h => by simp at h
 | (a, y) :: r, x, h => by
  rw [Cr.bulkP]
  rcases List.mem_cons.1 h with rfl | h
  · simp only; omega
  · have := bulkP_mem h; omega
theorem gd_of {gl : List ByteArray} : ∀ (x : Cr) (ins : List ByteArray), x.RtE gl ins → x.bulk ≤ 5000000 → Gd x := by
 intro x
 induction x using Cr.ind with
 | _ k nm m ar ps gs al bs pk i1 i2 i3 i4 =>
  intro ins hr hb
  have hnd := nd_of hr
  obtain ⟨hhd, g1, ha, g2, g3, hp, g4⟩ := rtE_iff.1 hr
  rw [Cr.bulk] at hb
  have l1 := Cr.lenL gs; have l2 := Cr.lenA al; have l3 := Cr.lenB bs; have l4 := Cr.lenP pk
  refine .mk hnd ⟨by omega, by omega, by omega, by omega, fun a ha => ?_⟩ (fun x hx => i1 x hx _ (g1 x hx) ?_) (fun x hx => i2 x hx _ (g2 x hx) ?_) (fun x hx => i3 x hx _ (g3 x hx) ?_) (fun x hx => i4 x hx _ (g4 x hx) ?_)
  · have := bulkA_mem ha; omega
  · have := bulkL_mem hx; omega
  · have := bulkA_mem hx; omega
  · have := bulkB_mem hx; omega
  · have := bulkP_mem hx; omega
theorem gd_glob (s : ByteArray) : Gd (.glob s) := by
 rw [Cr.glob]
 exact .mk ⟨⟨by omega, by omega, by omega, by omega⟩, fun _ => rfl, by omega, by simp⟩ (by simp) (by simp) (by simp) (by simp) (by simp)
theorem gd_var (s : ByteArray) : Gd (.var s) := by
 rw [Cr.var]
 exact .mk ⟨⟨by omega, by omega, by omega, by omega⟩, fun _ => rfl, by omega, by simp⟩ (by simp) (by simp) (by simp) (by simp) (by simp)
theorem gd_app {f a : Cr} (hf : Gd f) (ha : Gd a) : Gd (f.app a) := by
 rw [Cr.app]
 refine .mk ⟨⟨by omega, by omega, fun _ => ⟨f, a, rfl⟩, by omega⟩, fun _ => rfl, by omega, by simp⟩ (by simp) (fun x hx => ?_) (by simp) (by simp) (by simp)
 simp only [List.mem_cons, List.not_mem_nil, or_false] at hx
 rcases hx with rfl | rfl
 · exact hf
 · exact ha
theorem gd_apps : ∀ (l : List ByteArray) {f : Cr}, Gd f → Gd (Cr.apps f l)
 | [], f, h => h
 | x :: r, f, h => gd_apps r (f := f.app (.var x)) (gd_app h (gd_var x))
theorem gd_lam {ps : List ByteArray} {b : Cr} (hp : ps.length ≤ 5000000) (h : Gd b) : Gd (lamOf ps b) := by
 unfold lamOf
 split
 · exact h
 · rename_i hne
   refine .mk ⟨⟨by omega, by omega, by omega, fun _ => ⟨b, rfl⟩⟩, fun h => absurd rfl h, fun _ => hne, by simp⟩ ⟨hp, by simp, by simp, by simp, by simp⟩ (fun x hx => ?_) (by simp) (by simp) (by simp)
   simp only [List.mem_cons, List.not_mem_nil, or_false] at hx
   subst hx; exact h
section
variable (df : ByteArray) (T : Int → ByteArray)
/-- A part that is well formed. -/
def GdS (p : Sup) : Prop := p.ps.length ≤ 5000000 ∧ Gd p.bd
abbrev GL (x : Cr) : Prop := ∀ (now : Bool) (n : Nat), Gd (liftS df T now n x).1 ∧ ∀ p, p ∈ (liftS df T now n x).2 → GdS p
theorem gdL_of : ∀ (l : List Cr), (∀ x, x ∈ l → GL df T x) → ∀ (now : Bool) (n : Nat), (∀ y, y ∈ (liftL df T now n l).1 → Gd y) ∧ ∀ p, p ∈ (liftL df T now n l).2 → GdS p
 | [], _, now, n => by rw [liftL]; simp
 | x :: r, h, now, n => by
  rw [liftL]
  obtain ⟨h1, h2⟩ := h x (by simp) now n
  obtain ⟨h3, h4⟩ := gdL_of r (fun y hy => h y (by simp [hy])) now (n + (liftS df T now n x).2.length)
  exact ⟨fun y hy => (List.mem_cons.1 hy).elim (fun e => e ▸ h1) (h3 y), fun p hp => (List.mem_append.1 hp).elim (h2 p) (h4 p)⟩
theorem gdA_of : ∀ (l : List (AltH × Cr)), (∀ x, x ∈ l → GL df T x.2) → ∀ (now : Bool) (n : Nat), (∀ y, y ∈ (liftA df T now n l).1 → Gd y.2) ∧ (∀ p, p ∈ (liftA df T now n l).2 → GdS p) ∧ (liftA df T now n l).1.map (·.1) = l.map (·.1)
 | [], _, now, n => by rw [liftA]; simp
 | (a, x) :: r, h, now, n => by
  rw [liftA]
  obtain ⟨h1, h2⟩ := h (a, x) (by simp) now n
  obtain ⟨h3, h4, h5⟩ := gdA_of r (fun y hy => h y (by simp [hy])) now (n + (liftS df T now n x).2.length)
  exact ⟨fun y hy => (List.mem_cons.1 hy).elim (fun e => e ▸ h1) (h3 y), fun p hp => (List.mem_append.1 hp).elim (h2 p) (h4 p), by simp only [List.map_cons, h5]⟩
theorem gdB_of : ∀ (l : List (ByteArray × Cr)), (∀ x, x ∈ l → GL df T x.2) → ∀ (now : Bool) (n : Nat), (∀ y, y ∈ (liftB df T now n l).1 → Gd y.2) ∧ (∀ p, p ∈ (liftB df T now n l).2 → GdS p) ∧ (liftB df T now n l).1.map (·.1) = l.map (·.1)
 | [], _, now, n => by rw [liftB]; simp
 | (a, x) :: r, h, now, n => by
  rw [liftB]
  obtain ⟨h1, h2⟩ := h (a, x) (by simp) now n
  obtain ⟨h3, h4, h5⟩ := gdB_of r (fun y hy => h y (by simp [hy])) now (n + (liftS df T now n x).2.length)
  exact ⟨fun y hy => (List.mem_cons.1 hy).elim (fun e => e ▸ h1) (h3 y), fun p hp => (List.mem_append.1 hp).elim (h2 p) (h4 p), by simp only [List.map_cons, h5]⟩
theorem gdP_of : ∀ (l : List (Int × Cr)), (∀ x, x ∈ l → GL df T x.2) → ∀ (now : Bool) (n : Nat), (∀ y, y ∈ (liftP df T now n l).1 → Gd y.2) ∧ (∀ p, p ∈ (liftP df T now n l).2 → GdS p) ∧ (liftP df T now n l).1.map (·.1) = l.map (·.1)
 | [], _, now, n => by rw [liftP]; simp
 | (a, x) :: r, h, now, n => by
  rw [liftP]
  obtain ⟨h1, h2⟩ := h (a, x) (by simp) now n
  obtain ⟨h3, h4, h5⟩ := gdP_of r (fun y hy => h y (by simp [hy])) now (n + (liftS df T now n x).2.length)
  exact ⟨fun y hy => (List.mem_cons.1 hy).elim (fun e => e ▸ h1) (h3 y), fun p hp => (List.mem_append.1 hp).elim (h2 p) (h4 p), by simp only [List.map_cons, h5]⟩
theorem len_map {α β : Type} {l l' : List (α × β)} (h : l.map (·.1) = l'.map (·.1)) : l.length = l'.length := by have := congrArg List.length h; simpa using this
theorem gd_map {k : Int} {nm : ByteArray} {m ar : Int} {ps : List ByteArray} {gs : List Cr} {al : List (AltH × Cr)} {bs : List (ByteArray × Cr)} {pk : List (Int × Cr)} (h6 : k ≠ 6) (hn : Nd (.mk k nm m ar ps gs al bs pk))
 (hl : ps.length ≤ 5000000 ∧ al.length ≤ 5000000 ∧ bs.length ≤ 5000000 ∧ pk.length ≤ 5000000 ∧ ∀ a, a ∈ al → a.1.ps.length ≤ 5000000)
 (i1 : ∀ x, x ∈ gs → GL df T x) (i2 : ∀ x, x ∈ al → GL df T x.2) (i3 : ∀ x, x ∈ bs → GL df T x.2) (i4 : ∀ x, x ∈ pk → GL df T x.2) (now : Bool) (n : Nat) :
 Gd (mapS df T now n (.mk k nm m ar ps gs al bs pk)).1 ∧ ∀ p, p ∈ (mapS df T now n (.mk k nm m ar ps gs al bs pk)).2 → GdS p := by
 simp only [mapS]
 generalize hn1 : n + (liftL df T (now && k != 5) n gs).2.length = n1
 have a1 := gdL_of df T gs i1 (now && k != 5) n
 have a2 := gdA_of df T al i2 now n1
 have a1l := liftL_l df T (now && k != 5) n gs
 generalize liftL df T (now && k != 5) n gs = z1 at a1 a1l ⊢
 generalize liftA df T now n1 al = z2 at a2 ⊢
 have a3 := gdB_of df T bs i3 false (n1 + z2.2.length)
 generalize liftB df T false (n1 + z2.2.length) bs = z3 at a3 ⊢
 have a4 := gdP_of df T pk i4 now (n1 + z2.2.length + z3.2.length)
 generalize liftP df T now (n1 + z2.2.length + z3.2.length) pk = z4 at a4 ⊢
 have e2 := len_map a2.2.2
 have e3 := len_map a3.2.2
 have e4 := len_map a4.2.2
 have mem : ∀ a, a ∈ z2.1 → ∃ b, b ∈ al ∧ b.1 = a.1 := fun a ha => by
  have : a.1 ∈ z2.1.map (·.1) := List.mem_map.2 ⟨a, ha, rfl⟩
  rw [a2.2.2] at this
  obtain ⟨b, hb, he⟩ := List.mem_map.1 this
  exact ⟨b, hb, he⟩
 have two : ∀ {l : List Cr}, l.length = 2 → ∃ f a, l = [f, a] := fun {l} h => by
  match l, h with
  | [f, a], _ => exact ⟨f, a, rfl⟩
 have one : ∀ {l : List Cr}, l.length = 1 → ∃ f, l = [f] := fun {l} h => by
  match l, h with
  | [f], _ => exact ⟨f, rfl⟩
 obtain ⟨⟨b1, b2, b3, b4⟩, c2, c3, c4⟩ := hn
 refine ⟨.mk ⟨⟨b1, b2, fun h => two ?_, fun h => one ?_⟩, c2, c3, fun a ha h1 => ?_⟩ ⟨hl.1, by omega, by omega, by omega, fun a ha => ?_⟩ a1.1 a2.1 a3.1 a4.1, fun p hp => ?_⟩
 · obtain ⟨f, a, rfl⟩ := b3 h; exact a1l
 · obtain ⟨f, rfl⟩ := b4 h; exact a1l
 · obtain ⟨b, hb, he⟩ := mem a ha
   rw [← he] at h1 ⊢; exact c4 b hb h1
 · obtain ⟨b, hb, he⟩ := mem a ha
   rw [← he]; exact hl.2.2.2.2 b hb
 · rcases List.mem_append.1 hp with hp | hp
   · rcases List.mem_append.1 hp with hp | hp
     · rcases List.mem_append.1 hp with hp | hp
       · exact a1.2 p hp
       · exact a2.2.1 p hp
     · exact a3.2.1 p hp
   · exact a4.2.1 p hp
theorem gl_of : ∀ (x : Cr), Gd x → x.bulk ≤ 2000000 → GL df T x := by
 intro x
 induction x using Cr.ind with
 | _ k nm m ar ps gs al bs pk i1 i2 i3 i4 =>
  intro hg hb now n
  have hfl := freeS_len (.mk k nm m ar ps gs al bs pk) [] []
  rw [List.length_nil] at hfl
  have hb' := hb
  rw [Cr.bulk] at hb'
  cases hg with
  | mk hnd hl g1 g2 g3 g4 =>
  have j1 := fun x hx => i1 x hx (g1 x hx) (by have := bulkL_mem hx; omega)
  have j2 := fun x hx => i2 x hx (g2 x hx) (by have := bulkA_mem hx; omega)
  have j3 := fun x hx => i3 x hx (g3 x hx) (by have := bulkB_mem hx; omega)
  have j4 := fun x hx => i4 x hx (g4 x hx) (by have := bulkP_mem hx; omega)
  by_cases h6 : k = 6
  · subst h6
    obtain ⟨⟨_, _, _, h1⟩, _, h3, _⟩ := hnd
    obtain ⟨b, rfl⟩ := h1 (.inl rfl)
    rw [liftS_lam]
    obtain ⟨q1, q2⟩ := j1 b (by simp) true (n + 1)
    refine ⟨gd_apps _ (gd_glob _), fun p hp => ?_⟩
    rcases List.mem_cons.1 hp with rfl | hp
    · exact ⟨by rw [List.length_append]; omega, q1⟩
    · exact q2 p hp
  · by_cases hl2 : now = false ∧ (k = 8 ∨ k = 11 ∨ k = 10)
    · obtain ⟨rfl, hk⟩ := hl2
      rw [liftS_late df T n k nm m ar ps gs al bs pk hk]
      obtain ⟨q1, q2⟩ := gd_map df T h6 hnd hl j1 j2 j3 j4 true (n + 1)
      refine ⟨gd_apps _ (gd_glob _), fun p hp => ?_⟩
      rcases List.mem_cons.1 hp with rfl | hp
      · exact ⟨by simp only; omega, q1⟩
      · exact q2 p hp
    · rw [liftS_map df T now n k nm m ar ps gs al bs pk h6 hl2]
      exact gd_map df T h6 hnd hl j1 j2 j3 j4 now n
end
/-- Definitions that may be, and their supercombinators, are well formed. -/
theorem gd_defs {ds : List (ByteArray × Cr)} (h : DefsOK ds) (hb : ∀ d, d ∈ ds → d.2.bulk ≤ 2000000) : ∀ d, d ∈ ds → Gd d.2 := fun d hd => gd_of _ _ (h.2 d hd) (by have := hb d hd; omega)
theorem gd_lifted {ds : List (ByteArray × Cr)} (h : DefsOK ds) (hb : ∀ d, d ∈ ds → d.2.bulk ≤ 2000000) : ∀ d, d ∈ (liftAll ds).map defOf → Gd d.2 := by
 intro d hd
 obtain ⟨p, hp, rfl⟩ := List.mem_map.1 hd
 rw [defOf_eq]
 have hG : GdS p := by
  unfold liftAll at hp
  obtain ⟨l, hl, hp⟩ := List.mem_flatten.1 hp
  obtain ⟨d, hd, rfl⟩ := List.mem_map.1 hl
  have hg := gd_defs h hb d hd
  have hbd := hb d hd
  obtain ⟨nm, x⟩ := d
  obtain ⟨k, xn, m, ar, ps, gs, al, bs, pk⟩ := x
  simp only at hg hbd
  rw [liftDef] at hp
  have hps : ps.length ≤ 5000000 := by rw [Cr.bulk] at hbd; omega
  have key : Gd (defBody (.mk k xn m ar ps gs al bs pk)).2 ∧ (defBody (.mk k xn m ar ps gs al bs pk)).1.length ≤ 5000000 := by
   rw [defBody]
   split
   · cases hg with
     | mk hnd hl g1 g2 g3 g4 =>
     obtain ⟨b, rfl⟩ := hnd.1.2.2.2 (.inl (by assumption))
     exact ⟨g1 b (by simp), hps⟩
   · exact ⟨hg, by simp⟩
  have hbb := defBody_bulk (.mk k xn m ar ps gs al bs pk)
  obtain ⟨q1, q2⟩ := gl_of nm textOf _ key.1 (by omega) true 0
  rcases List.mem_cons.1 hp with rfl | hp
  · exact ⟨key.2, q1⟩
  · exact q2 p hp
 exact gd_lam hG.1 hG.2
end Go.AL
/- The document's numbers read, local names: exactly. -/
set_option linter.unusedVariables false
set_option linter.unusedSimpArgs false
namespace Go.AL
theorem dg_len : ∀ (k n : Nat), n < 10 ^ (k + 1) → (dg n).length ≤ k + 1
 | 0, n, h => by rw [dg_lt (by simpa using h)]; simp
 | k + 1, n, h => by
  by_cases h10 : n < 10
  · rw [dg_lt h10]; simp
  · rw [dg_ge h10, List.length_append]
    have := dg_len k (n / 10) (by rw [Nat.pow_succ] at h; omega)
    simp; omega
theorem dg_len20 {n : Nat} (h : n < 18446744073709551616) : (dg n).length ≤ 20 := dg_len 19 n (by omega)
theorem cut10 {n : Nat} (h : n < 10) : bl ((⟨#[48, 49, 50, 51, 52, 53, 54, 55, 56, 57]⟩ : ByteArray).extract n (n + 1)) = [UInt8.ofNat (48 + n)] := by
 rw [bl_ext]
 have : ∀ n : Nat, n < 10 → (([48, 49, 50, 51, 52, 53, 54, 55, 56, 57] : List UInt8).take (n + 1)).drop n = [UInt8.ofNat (48 + n)] := by decide
 exact this n h
end Go.AL
namespace Go.Proofs.Ytjjbjibbjbbeaaa
open Go.AL
theorem digitsE : ∀ n : Nat, n < 18446744073709551616 → ∀ σ : Store, ACalls Try.prog 161 [.int .u64 n] σ fun r σ' => (∃ s, r = .str s ∧ bl s = dg n) ∧ σ' = σ := by
 intro n
 induction n using Nat.strongRecOn with
 | _ n ih =>
  intro hn σ
  refine in161 (by simp) ?_
  unfold c161
  have h10 : (⟨#[48, 49, 50, 51, 52, 53, 54, 55, 56, 57]⟩ : ByteArray).size = 10 := rfl
  by_cases h : n < 10
  · have h' : (n : Int) < 10 := by omega
    have w : IntKind.u64.wrap ((n : Int) + 1) = ((n + 1 : Nat) : Int) := by rw [u64_of (by omega) (by omega)]; omega
    have c1 : (n : Int) ≤ ((n + 1 : Nat) : Int) := by omega
    have c2 : ((n + 1 : Nat) : Int) ≤ ((10 : Nat) : Int) := by omega
    refine raw ?_
    repeat (first | (with_reducible refine unr ?_; try simp only [YY, ↓reduceIte, Za, Zb, Zc, reduceCtorEq, Zd, Ze, Zf, Zg, Zh, Zi, Zj, h', w, c1, c2, h10]) | (with_reducible refine WW (by decide) ?_))
    exact ⟨_, rfl, by rw [cut10 h, dg_lt h]⟩
  · have h' : ¬ (n : Int) < 10 := by omega
    have q : (n : Int).tdiv 10 = ((n / 10 : Nat) : Int) := by rw [Int.tdiv_eq_ediv_of_nonneg (by omega)]; omega
    have m : (n : Int).tmod 10 = ((n % 10 : Nat) : Int) := by rw [Int.tmod_eq_emod_of_nonneg (by omega)]; omega
    have wq : IntKind.u64.wrap ((n / 10 : Nat) : Int) = ((n / 10 : Nat) : Int) := u64_of (by omega) (by omega)
    have w : IntKind.u64.wrap (((n % 10 : Nat) : Int) + 1) = ((n % 10 + 1 : Nat) : Int) := by rw [u64_of (by omega) (by omega)]; omega
    have c1 : ((n % 10 : Nat) : Int) ≤ ((n % 10 + 1 : Nat) : Int) := by omega
    have c2 : ((n % 10 + 1 : Nat) : Int) ≤ ((10 : Nat) : Int) := by omega
    refine raw ?_
    repeat (first | (with_reducible refine unr ?_; try simp only [YY, ↓reduceIte, Za, Zb, Zc, reduceCtorEq, Zd, Ze, Zf, Zg, Zh, Zi, Zj, h', q, m, wq, w, c1, c2, h10, bin_quo, bin_rem]) | (with_reducible refine WW (by decide) ?_))
    refine (ih (n / 10) (by omega) (by omega) σ).mono ?_
    rintro _ t ⟨⟨s, rfl, hs⟩, rfl⟩
    have ce := cut10 (n := n % 10) (by omega)
    have z1 : ((⟨#[48, 49, 50, 51, 52, 53, 54, 55, 56, 57]⟩ : ByteArray).extract (n % 10) (n % 10 + 1)).size = 1 := by rw [← bl_len, ce]; rfl
    have z2 : s.size ≤ 20 := by rw [← bl_len, hs]; exact dg_len20 (by omega)
    have z3 : s.size + 1 ≤ maxLen := by simp only [maxLen]; omega
    refine raw ?_
    repeat (first | (with_reducible refine unr ?_; try simp only [YY, ↓reduceIte, Za, Zb, Zc, reduceCtorEq, Zd, Ze, Zf, Zg, Zh, Zi, Zj, h', q, m, wq, w, c1, c2, h10, bin_quo, bin_rem, z1, z3]) | (with_reducible refine WW (by decide) ?_))
    exact ⟨_, rfl, by rw [bl_app, hs, ce, dg_ge h]⟩
/-- A number without its sign, with it. -/
theorem sizeE (n : Int) (h0 : -9223372036854775808 ≤ n) (h1 : n ≤ 9223372036854775807) (σ : Store) : ACalls Try.prog 162 [.int .i64 n] σ fun r σ' => r = .int .u64 (n.natAbs : Int) ∧ σ' = σ := by
 refine in162 (by simp) ?_
 unfold c162
 by_cases h : n < 0
 · have w : IntKind.u64.wrap n = n + 18446744073709551616 := by rw [wrap_u64']; omega
   have w2 : IntKind.u64.wrap (0 - (n + 18446744073709551616)) = (n.natAbs : Int) := by rw [wrap_u64']; omega
   refine raw ?_
   repeat (first | (with_reducible refine unr ?_; try simp only [YY, ↓reduceIte, Za, Zb, Zc, reduceCtorEq, Zd, Ze, Zf, Zg, Zh, Zi, Zj, h, w, w2]) | (with_reducible refine WW (by decide) ?_))
 · have w : IntKind.u64.wrap n = (n.natAbs : Int) := by rw [wrap_u64']; omega
   refine raw ?_
   repeat (first | (with_reducible refine unr ?_; try simp only [YY, ↓reduceIte, Za, Zb, Zc, reduceCtorEq, Zd, Ze, Zf, Zg, Zh, Zi, Zj, h, w]) | (with_reducible refine WW (by decide) ?_))
theorem textE (n : Int) (h0 : -9223372036854775808 ≤ n) (h1 : n ≤ 9223372036854775807) (σ : Store) : ACalls Try.prog 147 [.int .i64 n] σ fun r σ' => (∃ s, r = .str s ∧ bl s = if n < 0 then 45 :: dg n.natAbs else dg n.natAbs) ∧ σ' = σ := by
 refine in147 (by simp) ?_
 unfold c147
 by_cases h : n < 0
 · refine raw ?_
   repeat (first | (with_reducible refine unr ?_; try simp only [YY, ↓reduceIte, Za, Zb, Zc, reduceCtorEq, Zd, Ze, Zf, Zg, Zh, Zi, Zj, h]) | (with_reducible refine WW (by decide) ?_))
   refine (sizeE n h0 h1 σ).mono ?_
   rintro _ t ⟨rfl, rfl⟩
   refine raw ?_
   repeat (first | (with_reducible refine unr ?_; try simp only [YY, ↓reduceIte, Za, Zb, Zc, reduceCtorEq, Zd, Ze, Zf, Zg, Zh, Zi, Zj]) | (with_reducible refine WW (by decide) ?_))
   refine (digitsE n.natAbs (by omega) _).mono ?_
   rintro _ t ⟨⟨s, rfl, hs⟩, rfl⟩
   have z2 : s.size ≤ 20 := by rw [← bl_len, hs]; exact dg_len20 (by omega)
   have z1 : (⟨#[45]⟩ : ByteArray).size = 1 := rfl
   have z3 : 1 + s.size ≤ maxLen := by simp only [maxLen]; omega
   refine raw ?_
   repeat (first | (with_reducible refine unr ?_; try simp only [YY, ↓reduceIte, Za, Zb, Zc, reduceCtorEq, Zd, Ze, Zf, Zg, Zh, Zi, Zj, z1, z3]) | (with_reducible refine WW (by decide) ?_))
   exact ⟨_, rfl, by rw [bl_app, hs]; rfl⟩
 · refine raw ?_
   repeat (first | (with_reducible refine unr ?_; try simp only [YY, ↓reduceIte, Za, Zb, Zc, reduceCtorEq, Zd, Ze, Zf, Zg, Zh, Zi, Zj, h]) | (with_reducible refine WW (by decide) ?_))
   refine (sizeE n h0 h1 σ).mono ?_
   rintro _ t ⟨rfl, rfl⟩
   refine raw ?_
   repeat (first | (with_reducible refine unr ?_; try simp only [YY, ↓reduceIte, Za, Zb, Zc, reduceCtorEq, Zd, Ze, Zf, Zg, Zh, Zi, Zj]) | (with_reducible refine WW (by decide) ?_))
   refine (digitsE n.natAbs (by omega) _).mono ?_
   rintro _ t ⟨⟨s, rfl, hs⟩, rfl⟩
   refine raw ?_
   repeat (first | (with_reducible refine unr ?_; try simp only [YY, ↓reduceIte, Za, Zb, Zc, reduceCtorEq, Zd, Ze, Zf, Zg, Zh, Zi, Zj]) | (with_reducible refine WW (by decide) ?_))
   exact ⟨_, rfl, by rw [hs]⟩
theorem signedE (n : Nat) (below : Bool) (h : n ≤ 9223372036854775808) (σ : Store) :
 ACalls Try.prog 148 [.int .u64 n, .bool below] σ fun r σ' => r = .int .i64 (if below = true then -(n : Int) else if n = 9223372036854775808 then -9223372036854775808 else n) ∧ σ' = σ := by
 refine in148 (by simp) ?_
 unfold c148
 cases below with
 | true =>
  have w : IntKind.i64.wrap (IntKind.u64.wrap (0 - (n : Int))) = -(n : Int) := by rw [wrap_u64', IntKind.wrap_i64]; omega
  refine raw ?_
  repeat (first | (with_reducible refine unr ?_; try simp only [YY, ↓reduceIte, Za, Zb, Zc, reduceCtorEq, Zd, Ze, Zf, Zg, Zh, Zi, Zj, w]) | (with_reducible refine WW (by decide) ?_))
 | false =>
  have w : IntKind.i64.wrap (n : Int) = if n = 9223372036854775808 then -9223372036854775808 else (n : Int) := by rw [IntKind.wrap_i64]; split <;> omega
  refine raw ?_
  repeat (first | (with_reducible refine unr ?_; try simp only [YY, ↓reduceIte, Za, Zb, Zc, reduceCtorEq, Zd, Ze, Zf, Zg, Zh, Zi, Zj, w]) | (with_reducible refine WW (by decide) ?_))
/-- Digits read. -/
def Dig (l : List UInt8) : Prop := l ≠ [] ∧ l.length ≤ 19 ∧ ∀ b, b ∈ l → digitB b
theorem plainE (x : ByteArray) (σ : Store) : ACalls Try.prog 146 [.str x] σ fun r σ' => ((Dig (bl x) ∧ r = .tuple [.int .u64 (valN (bl x)), .bool true]) ∨ (¬ Dig (bl x) ∧ r = .tuple [.int .u64 0, .bool false])) ∧ σ' = σ := by
 refine in146 (by simp) ?_
 unfold c146
 by_cases h0 : x.size = 0
 · have h0' : (x.size : Int) = 0 := by omega
   refine raw ?_
   repeat (first | (with_reducible refine unr ?_; try simp only [YY, ↓reduceIte, Za, Zb, Zc, reduceCtorEq, Zd, Ze, Zf, Zg, Zh, Zi, Zj, h0']) | (with_reducible refine WW (by decide) ?_))
   refine .inr (fun h => h.1 (List.eq_nil_of_length_eq_zero (by rw [bl_len]; exact h0)))
 have h0' : ¬ (x.size : Int) = 0 := by omega
 by_cases h19 : (19 : Int) < (x.size : Int)
 · refine raw ?_
   repeat (first | (with_reducible refine unr ?_; try simp only [YY, ↓reduceIte, Za, Zb, Zc, reduceCtorEq, Zd, Ze, Zf, Zg, Zh, Zi, Zj, h0, h0', h19]) | (with_reducible refine WW (by decide) ?_))
   refine .inr (fun h => by have := h.2.1; rw [bl_len] at this; omega)
 refine raw ?_
 repeat (first | (with_reducible refine unr ?_; try simp only [YY, ↓reduceIte, Za, Zb, Zc, reduceCtorEq, Zd, Ze, Zf, Zg, Zh, Zi, Zj, h0, h0', h19]) | (with_reducible refine WW (by decide) ?_))
 refine AWP_while [0, 4, 5] (fun i : Nat => x.size - i) (fun i => [.str x, .int .u64 (valN ((bl x).take i)), .int .i64 i]) (fun i s' => s' = σ ∧ i ≤ x.size ∧ Hid (∀ c, c ∈ (bl x).take i → digitB c)) 0 ⟨rfl, by simp, ⟨by simp⟩⟩ ?_ ?_
 · refine raw ?_
   repeat (first | (with_reducible refine unr ?_; try simp only [YY, ↓reduceIte, Za, Zb, Zc, reduceCtorEq, Zd, Ze, Zf, Zg, Zh, Zi, Zj]) | (with_reducible refine WW (by decide) ?_))
   rfl
 rintro i t ⟨rfl, hi, hd⟩
 have hw := wrap_succ (i := i) (by omega)
 by_cases hil : i < x.size
 · have hil' : (i : Int) < (x.size : Int) := by omega
   have hb : x.data.toList[i]? = some (x.data.toList[i]'(by simpa using hil)) := List.getElem?_eq_getElem _
   generalize x.data.toList[i]'(by simpa using hil) = b at hb
   have hm := List.mem_of_getElem? (l := bl x) hb
   by_cases b1 : (b.toNat : Int) < 48
   · refine raw ?_
     repeat (first | (with_reducible refine unr ?_; try simp only [YY, ↓reduceIte, Za, Zb, Zc, reduceCtorEq, Zd, Ze, Zf, Zg, Zh, Zi, Zj, hil', hb, b1]) | (with_reducible refine WW (by decide) ?_))
     exact .inr (fun h => by have := h.2.2 b hm; unfold digitB at this; omega)
   by_cases b2 : (57 : Int) < (b.toNat : Int)
   · refine raw ?_
     repeat (first | (with_reducible refine unr ?_; try simp only [YY, ↓reduceIte, Za, Zb, Zc, reduceCtorEq, Zd, Ze, Zf, Zg, Zh, Zi, Zj, hil', hb, b1, b2]) | (with_reducible refine WW (by decide) ?_))
     exact .inr (fun h => by have := h.2.2 b hm; unfold digitB at this; omega)
   have hb3 : digitB b := by unfold digitB; omega
   have hst := valN_step (l := bl x) hb (by rw [bl_len]; omega) hd.out hb3
   refine raw ?_
   repeat (first | (with_reducible refine unr ?_; try simp only [YY, ↓reduceIte, Za, Zb, Zc, reduceCtorEq, Zd, Ze, Zf, Zg, Zh, Zi, Zj, hil', hb, b1, b2, hst, hw]) | (with_reducible refine WW (by decide) ?_))
   exact ⟨i + 1, rfl, ⟨by omega, ⟨dig_take (l := bl x) hb hd.out hb3⟩⟩, by omega⟩
 · have hil' : ¬ (i : Int) < (x.size : Int) := by omega
   have hd := hd.out
   rw [List.take_of_length_le (by rw [bl_len]; omega)] at hd
   rw [List.take_of_length_le (by rw [bl_len]; omega)]
   refine raw ?_
   repeat (first | (with_reducible refine unr ?_; try simp only [YY, ↓reduceIte, Za, Zb, Zc, reduceCtorEq, Zd, Ze, Zf, Zg, Zh, Zi, Zj, hil']) | (with_reducible refine WW (by decide) ?_))
   exact .inl ⟨fun e => by have := bl_len x; rw [e] at this; simp at this; omega, by rw [bl_len]; omega, hd⟩
theorem parseE2 (s : ByteArray) (σ : Store) : ACalls Try.prog 91 [.str s] σ fun r σ' => (∃ p : Int × Int, r = .tuple [.int .i64 p.1, .int .i64 p.2] ∧ (p.2 = 0 ↔ NumT (bl s))) ∧ σ' = σ := by
 refine in91 (by simp) ?_
 unfold c91
 by_cases hs0 : s.size = 0
 · have h1 : ¬ (0 : Int) < (s.size : Int) := by omega
   have hn : bl s = [] := List.eq_nil_of_length_eq_zero (by rw [bl_len]; exact hs0)
   refine raw ?_
   repeat (first | (with_reducible refine unr ?_; try simp only [YY, ↓reduceIte, Za, Zb, Zc, reduceCtorEq, Zd, Ze, Zf, Zg, Zh, Zi, Zj, h1]) | (with_reducible refine WW (by decide) ?_))
   refine (plainE s σ).mono ?_
   rintro _ t ⟨⟨hD, rfl⟩ | ⟨hD, rfl⟩, rfl⟩
   · exact absurd hn hD.1
   · refine raw ?_
     repeat (first | (with_reducible refine unr ?_; try simp only [YY, ↓reduceIte, Za, Zb, Zc, reduceCtorEq, Zd, Ze, Zf, Zg, Zh, Zi, Zj]) | (with_reducible refine WW (by decide) ?_))
     refine ⟨(_, _), rfl, fun e => absurd e (by decide), fun h => ?_⟩
     rw [hn] at h
     simp [NumT, NumD] at h
 have h1 : (0 : Int) < (s.size : Int) := by omega
 have h1' : (1 : Int) ≤ (s.size : Int) := by omega
 have hb : s.data.toList[0]? = some (s.data.toList[0]'(by have : s.data.toList.length = s.size := bl_len s; omega)) := List.getElem?_eq_getElem _
 generalize s.data.toList[0]'(by have : s.data.toList.length = s.size := bl_len s; omega) = b at hb
 have hbb : (bl s)[0]? = some b := hb
 by_cases h45 : (b.toNat : Int) = 45
 · have e45 := (u8_45 b).1 h45
   refine raw ?_
   repeat (first | (with_reducible refine unr ?_; try simp only [YY, ↓reduceIte, Za, Zb, Zc, reduceCtorEq, Zd, Ze, Zf, Zg, Zh, Zi, Zj, h1, hb, h45, h1']) | (with_reducible refine WW (by decide) ?_))
   have hx : bl (s.extract 1 s.size) = (bl s).drop 1 := by rw [bl_ext, List.take_of_length_le (by rw [bl_len]; simp)]
   have hN : NumT (bl s) ↔ NumD true (bl (s.extract 1 s.size)) := by rw [NumT, if_pos (by rw [hbb, e45]), hx]
   have hs : bl s = 45 :: bl (s.extract 1 s.size) := by
    rw [hx]
    cases hl : bl s with
    | nil => rw [hl] at hbb; simp at hbb
    | cons y r => rw [hl] at hbb; simp at hbb; simp [hbb, e45]
   generalize s.extract 1 s.size = x at hx hN hs
   refine (plainE x σ).mono ?_
   rintro _ t ⟨⟨hD, rfl⟩ | ⟨hD, rfl⟩, rfl⟩
   · by_cases hv : valN (bl x) ≤ 9223372036854775808
     · have hv' : ¬ (9223372036854775808 : Int) < (valN (bl x) : Int) := by omega
       refine raw ?_
       repeat (first | (with_reducible refine unr ?_; try simp only [YY, ↓reduceIte, Za, Zb, Zc, reduceCtorEq, Zd, Ze, Zf, Zg, Zh, Zi, Zj, hv']) | (with_reducible refine WW (by decide) ?_))
       refine (signedE (valN (bl x)) true hv _).mono ?_
       rintro _ t ⟨rfl, rfl⟩
       refine raw ?_
       repeat (first | (with_reducible refine unr ?_; try simp only [YY, ↓reduceIte, Za, Zb, Zc, reduceCtorEq, Zd, Ze, Zf, Zg, Zh, Zi, Zj]) | (with_reducible refine WW (by decide) ?_))
       refine (textE _ (by omega) (by omega) _).mono ?_
       rintro _ t ⟨⟨u, rfl, hu⟩, rfl⟩
       rw [Int.natAbs_neg, Int.natAbs_natCast] at hu
       by_cases hus : u = s
       · subst hus
         refine raw ?_
         repeat (first | (with_reducible refine unr ?_; try simp only [YY, ↓reduceIte, Za, Zb, Zc, reduceCtorEq, Zd, Ze, Zf, Zg, Zh, Zi, Zj]) | (with_reducible refine WW (by decide) ?_))
         refine (signedE (valN (bl x)) true hv _).mono ?_
         rintro _ t ⟨rfl, rfl⟩
         refine raw ?_
         repeat (first | (with_reducible refine unr ?_; try simp only [YY, ↓reduceIte, Za, Zb, Zc, reduceCtorEq, Zd, Ze, Zf, Zg, Zh, Zi, Zj]) | (with_reducible refine WW (by decide) ?_))
         refine ⟨(_, _), rfl, fun _ => hN.2 ⟨hD.1, hD.2.1, hD.2.2, fun e => ?_, hv, fun _ => rfl⟩, fun _ => rfl⟩
         by_cases hz : valN (bl x) = 0
         · rw [if_neg (by omega), hs, hz] at hu
           have := congrArg (fun l => l[0]?) hu
           simp [dg_lt] at this
         · rw [if_pos (by omega), hs] at hu
           have hu := (List.cons.inj hu).2
           rw [hu] at e
           exact absurd rfl (dg_head _ (by omega) _ e)
       · refine raw ?_
         repeat (first | (with_reducible refine unr ?_; try simp only [YY, ↓reduceIte, Za, Zb, Zc, reduceCtorEq, Zd, Ze, Zf, Zg, Zh, Zi, Zj, hus]) | (with_reducible refine WW (by decide) ?_))
         refine ⟨(_, _), rfl, fun e => absurd e (by decide), fun h => absurd ?_ hus⟩
         have h := hN.1 h
         have h48 : (bl x)[0]? ≠ some 48 := fun e => by have := (h.2.2.2.1 e).2; cases this
         have hdg := (dg_iff hD.1 hD.2.2).2 fun e => absurd e h48
         obtain ⟨c, hc⟩ : ∃ c, (bl x)[0]? = some c := ⟨_, List.getElem?_eq_getElem (List.length_pos_iff.2 hD.1)⟩
         have := valN_pos hD.2.2 hc (fun e => h48 (by rw [hc, e]))
         rw [if_pos (by omega), hdg, ← hs] at hu
         exact bl_inj hu
     · have hv' : (9223372036854775808 : Int) < (valN (bl x) : Int) := by omega
       refine raw ?_
       repeat (first | (with_reducible refine unr ?_; try simp only [YY, ↓reduceIte, Za, Zb, Zc, reduceCtorEq, Zd, Ze, Zf, Zg, Zh, Zi, Zj, hv']) | (with_reducible refine WW (by decide) ?_))
       exact ⟨(_, _), rfl, fun e => absurd e (by decide), fun h => absurd (hN.1 h).2.2.2.2.1 hv⟩
   · refine raw ?_
     repeat (first | (with_reducible refine unr ?_; try simp only [YY, ↓reduceIte, Za, Zb, Zc, reduceCtorEq, Zd, Ze, Zf, Zg, Zh, Zi, Zj]) | (with_reducible refine WW (by decide) ?_))
     exact ⟨(_, _), rfl, fun e => absurd e (by decide), fun h => absurd ((fun h : NumD true (bl x) => (⟨h.1, h.2.1, h.2.2.1⟩ : Dig (bl x))) (hN.1 h)) hD⟩
 · have e45 : b ≠ 45 := fun e => h45 ((u8_45 b).2 e)
   refine raw ?_
   repeat (first | (with_reducible refine unr ?_; try simp only [YY, ↓reduceIte, Za, Zb, Zc, reduceCtorEq, Zd, Ze, Zf, Zg, Zh, Zi, Zj, h1, hb, h45, h1']) | (with_reducible refine WW (by decide) ?_))
   have hN : NumT (bl s) ↔ NumD false (bl s) := by rw [NumT, if_neg (by rw [hbb]; simpa using e45)]
   refine (plainE s σ).mono ?_
   rintro _ t ⟨⟨hD, rfl⟩ | ⟨hD, rfl⟩, rfl⟩
   · by_cases hv : valN (bl s) ≤ 9223372036854775808
     · have hv' : ¬ (9223372036854775808 : Int) < (valN (bl s) : Int) := by omega
       have hm : -9223372036854775808 ≤ (if valN (bl s) = 9223372036854775808 then -9223372036854775808 else (valN (bl s) : Int)) ∧ (if valN (bl s) = 9223372036854775808 then -9223372036854775808 else (valN (bl s) : Int)) ≤ 9223372036854775807 := by split <;> omega
       refine raw ?_
       repeat (first | (with_reducible refine unr ?_; try simp only [YY, ↓reduceIte, Za, Zb, Zc, reduceCtorEq, Zd, Ze, Zf, Zg, Zh, Zi, Zj, hv']) | (with_reducible refine WW (by decide) ?_))
       refine (signedE (valN (bl s)) false hv _).mono ?_
       rintro _ t ⟨rfl, rfl⟩
       refine raw ?_
       repeat (first | (with_reducible refine unr ?_; try simp only [YY, ↓reduceIte, Za, Zb, Zc, reduceCtorEq, Zd, Ze, Zf, Zg, Zh, Zi, Zj]) | (with_reducible refine WW (by decide) ?_))
       refine (textE _ hm.1 hm.2 _).mono ?_
       rintro _ t ⟨⟨u, rfl, hu⟩, rfl⟩
       by_cases h63 : valN (bl s) = 9223372036854775808
       · have hus : ¬ u = s := by
          rintro rfl
          rw [if_pos h63, if_pos (by omega)] at hu
          rw [hu] at hbb
          simp at hbb
          exact e45 hbb.symm
         refine raw ?_
         repeat (first | (with_reducible refine unr ?_; try simp only [YY, ↓reduceIte, Za, Zb, Zc, reduceCtorEq, Zd, Ze, Zf, Zg, Zh, Zi, Zj, hus]) | (with_reducible refine WW (by decide) ?_))
         exact ⟨(_, _), rfl, fun e => absurd e (by decide), fun h => by have := (hN.1 h).2.2.2.2.2 h63; cases this⟩
       rw [if_neg h63, if_neg (by omega), Int.natAbs_natCast] at hu
       by_cases hus : u = s
       · subst hus
         refine raw ?_
         repeat (first | (with_reducible refine unr ?_; try simp only [YY, ↓reduceIte, Za, Zb, Zc, reduceCtorEq, Zd, Ze, Zf, Zg, Zh, Zi, Zj]) | (with_reducible refine WW (by decide) ?_))
         refine (signedE (valN (bl u)) false hv _).mono ?_
         rintro _ t ⟨rfl, rfl⟩
         refine raw ?_
         repeat (first | (with_reducible refine unr ?_; try simp only [YY, ↓reduceIte, Za, Zb, Zc, reduceCtorEq, Zd, Ze, Zf, Zg, Zh, Zi, Zj]) | (with_reducible refine WW (by decide) ?_))
         exact ⟨(_, _), rfl, fun _ => hN.2 ⟨hD.1, hD.2.1, hD.2.2, fun e => ⟨(dg_iff hD.1 hD.2.2).1 hu.symm e, rfl⟩, hv, fun e => absurd e h63⟩, fun _ => rfl⟩
       · refine raw ?_
         repeat (first | (with_reducible refine unr ?_; try simp only [YY, ↓reduceIte, Za, Zb, Zc, reduceCtorEq, Zd, Ze, Zf, Zg, Zh, Zi, Zj, hus]) | (with_reducible refine WW (by decide) ?_))
         refine ⟨(_, _), rfl, fun e => absurd e (by decide), fun h => absurd ?_ hus⟩
         have h := hN.1 h
         rw [(dg_iff hD.1 hD.2.2).2 fun e => (h.2.2.2.1 e).1] at hu
         exact bl_inj hu
     · have hv' : (9223372036854775808 : Int) < (valN (bl s) : Int) := by omega
       refine raw ?_
       repeat (first | (with_reducible refine unr ?_; try simp only [YY, ↓reduceIte, Za, Zb, Zc, reduceCtorEq, Zd, Ze, Zf, Zg, Zh, Zi, Zj, hv']) | (with_reducible refine WW (by decide) ?_))
       exact ⟨(_, _), rfl, fun e => absurd e (by decide), fun h => absurd (hN.1 h).2.2.2.2.1 hv⟩
   · refine raw ?_
     repeat (first | (with_reducible refine unr ?_; try simp only [YY, ↓reduceIte, Za, Zb, Zc, reduceCtorEq, Zd, Ze, Zf, Zg, Zh, Zi, Zj]) | (with_reducible refine WW (by decide) ?_))
     exact ⟨(_, _), rfl, fun e => absurd e (by decide), fun h => absurd ((fun h : NumD false (bl s) => (⟨h.1, h.2.1, h.2.2.1⟩ : Dig (bl s))) (hN.1 h)) hD⟩
theorem localE2 (s : ByteArray) (σ : Store) : ACalls Try.prog 149 [.str s] σ fun r σ' => (∃ b : Bool, r = .bool b ∧ (b = true ↔ LocN s)) ∧ σ' = σ := by
 refine in149 (by simp) ?_
 unfold c149
 by_cases h2 : (s.size : Int) < 2
 · refine raw ?_
   repeat (first | (with_reducible refine unr ?_; try simp only [YY, ↓reduceIte, Za, Zb, Zc, reduceCtorEq, Zd, Ze, Zf, Zg, Zh, Zi, Zj, h2]) | (with_reducible refine WW (by decide) ?_))
   refine ⟨_, rfl, by simp, fun h => ?_⟩
   have h3 := h.2.2
   have : (bl s).drop 1 = [] := by
    cases hl : bl s with
    | nil => rfl
    | cons a r =>
     have := bl_len s
     rw [hl] at this
     have : r = [] := List.eq_nil_of_length_eq_zero (by simp at this; omega)
     simp [this]
   rw [this] at h3
   simp [NumT, NumD] at h3
 obtain ⟨a, b, r, hl⟩ : ∃ a b r, bl s = a :: b :: r := by
  have := bl_len s
  match hl : bl s with
  | [] => rw [hl] at this; simp at this; omega
  | [a] => rw [hl] at this; simp at this; omega
  | a :: b :: r => exact ⟨a, b, r, rfl⟩
 have g0 : s.data.toList[0]? = some a := by show (bl s)[0]? = _; rw [hl]; rfl
 have g1 : s.data.toList[1]? = some b := by show (bl s)[1]? = _; rw [hl]; rfl
 have h1' : (1 : Int) ≤ (s.size : Int) := by omega
 by_cases h35 : (a.toNat : Int) = 35
 · by_cases h45 : (b.toNat : Int) = 45
   · refine raw ?_
     repeat (first | (with_reducible refine unr ?_; try simp only [YY, ↓reduceIte, Za, Zb, Zc, reduceCtorEq, Zd, Ze, Zf, Zg, Zh, Zi, Zj, h2, g0, g1, h35, h45]) | (with_reducible refine WW (by decide) ?_))
     refine ⟨_, rfl, by simp, fun h => absurd ?_ h.2.1⟩
     rw [hl]; simp [(u8_45 b).1 h45]
   · refine raw ?_
     repeat (first | (with_reducible refine unr ?_; try simp only [YY, ↓reduceIte, Za, Zb, Zc, reduceCtorEq, Zd, Ze, Zf, Zg, Zh, Zi, Zj, h2, g0, g1, h35, h45, h1']) | (with_reducible refine WW (by decide) ?_))
     refine (parseE2 _ _).mono ?_
     rintro r t ⟨⟨⟨n, e⟩, rfl, hp⟩, rfl⟩
     refine raw ?_
     repeat (first | (with_reducible refine unr ?_; try simp only [YY, ↓reduceIte, Za, Zb, Zc, reduceCtorEq, Zd, Ze, Zf, Zg, Zh, Zi, Zj]) | (with_reducible refine WW (by decide) ?_))
     refine ⟨_, rfl, ?_⟩
     rw [decide_eq_true_iff, hp, bl_ext, List.take_of_length_le (by rw [bl_len]; simp)]
     refine ⟨fun h => ⟨by rw [hl]; simp [(u8_35 a).1 h35], fun e => h45 ?_, h⟩, fun h => h.2.2⟩
     rw [hl] at e
     simp at e
     exact (u8_45 b).2 e
 · refine raw ?_
   repeat (first | (with_reducible refine unr ?_; try simp only [YY, ↓reduceIte, Za, Zb, Zc, reduceCtorEq, Zd, Ze, Zf, Zg, Zh, Zi, Zj, h2, g0, g1, h35]) | (with_reducible refine WW (by decide) ?_))
   refine ⟨_, rfl, by simp, fun h => absurd ?_ h35⟩
   have := h.1
   rw [hl] at this
   simp at this
   exact (u8_35 a).2 this
theorem localsE2 (l : List ByteArray) (hl : l.length ≤ 100000000) (σ : Store) : ACalls Try.prog 92 [strs l] σ fun r σ' => (∃ b : Bool, r = .bool b ∧ (b = true ↔ Locs l)) ∧ σ' = σ := by
 refine in92 (by simp) ?_
 unfold c92
 refine raw ?_
 repeat (first | (with_reducible refine unr ?_; try simp only [YY, ↓reduceIte, Za, Zb, Zc, reduceCtorEq, Zd, Ze, Zf, Zg, Zh, Zi, Zj]) | (with_reducible refine WW (by decide) ?_))
 refine AWP_while [0, 3] (fun i : Nat => l.length - i) (fun i => [strs l, .int .i64 i]) (fun i t => t = σ ∧ i ≤ l.length ∧ Hid (Locs (l.take i))) 0 ⟨rfl, by simp, ⟨by simp [Locs.nil]⟩⟩ ?_ ?_
 · refine raw ?_
   repeat (first | (with_reducible refine unr ?_; try simp only [YY, ↓reduceIte, Za, Zb, Zc, reduceCtorEq, Zd, Ze, Zf, Zg, Zh, Zi, Zj]) | (with_reducible refine WW (by decide) ?_))
   rfl
 rintro i t ⟨rfl, hi, hn⟩
 have hw := wrap_succ (i := i) (by omega)
 by_cases hil : i < l.length
 · have hil' : (i : Int) < (l.length : Int) := by omega
   obtain ⟨x, hx⟩ : ∃ x, l[i]? = some x := ⟨_, List.getElem?_eq_getElem hil⟩
   have hg := strs_get hx
   have hsn : Locs (l.take (i + 1)) ↔ LocN x ∧ x ∉ l.take i := by
    rw [List.take_add_one, hx]
    exact Locs.snoc.trans ⟨fun h => h.2, fun h => ⟨hn.out, h⟩⟩
   have hbad : ¬ Locs (l.take (i + 1)) → ¬ Locs l := fun h hh => h ⟨fun s hs => hh.1 s (List.mem_of_mem_take hs), hh.2.sublist (List.take_sublist _ _)⟩
   refine raw ?_
   repeat (first | (with_reducible refine unr ?_; try simp only [YY, ↓reduceIte, Za, Zb, Zc, reduceCtorEq, Zd, Ze, Zf, Zg, Zh, Zi, Zj, hil', hg, all_strs, map_take', map_drop']) | (with_reducible refine WW (by decide) ?_))
   refine (localE2 x _).mono ?_
   rintro _ t ⟨⟨b, rfl, hb⟩, rfl⟩
   cases b with
   | false =>
    refine raw ?_
    repeat (first | (with_reducible refine unr ?_; try simp only [YY, ↓reduceIte, Za, Zb, Zc, reduceCtorEq, Zd, Ze, Zf, Zg, Zh, Zi, Zj]) | (with_reducible refine WW (by decide) ?_))
    exact ⟨_, rfl, by simp, fun h => absurd h (hbad fun e => absurd (hb.2 (hsn.1 e).1) (by simp))⟩
   | true =>
    have hc1 : (i : Int) ≤ (l.length : Int) := by omega
    have hc0 : (0 : Int) ≤ (i : Int) := by omega
    have hlen : i ≤ l.length := hi
    refine raw ?_
    repeat (first | (with_reducible refine unr ?_; try simp only [YY, ↓reduceIte, Za, Zb, Zc, reduceCtorEq, Zd, Ze, Zf, Zg, Zh, Zi, Zj, hil', hg, all_strs, map_take', map_drop', hc1, hc0, Int.toNat_natCast]) | (with_reducible refine WW (by decide) ?_))
    refine (has14 (l.take i) (by simp; omega) x _).mono ?_
    rintro _ t ⟨rfl, rfl⟩
    by_cases hm : x ∈ l.take i
    · rw [decP_t hm]
      refine raw ?_
      repeat (first | (with_reducible refine unr ?_; try simp only [YY, ↓reduceIte, Za, Zb, Zc, reduceCtorEq, Zd, Ze, Zf, Zg, Zh, Zi, Zj]) | (with_reducible refine WW (by decide) ?_))
      exact ⟨_, rfl, by simp, fun h => absurd h (hbad fun e => (hsn.1 e).2 hm)⟩
    · rw [decP_f hm]
      refine raw ?_
      repeat (first | (with_reducible refine unr ?_; try simp only [YY, ↓reduceIte, Za, Zb, Zc, reduceCtorEq, Zd, Ze, Zf, Zg, Zh, Zi, Zj, hw]) | (with_reducible refine WW (by decide) ?_))
      exact ⟨i + 1, rfl, ⟨by omega, ⟨hsn.2 ⟨hb.1 rfl, hm⟩⟩⟩, by omega⟩
 · have hil' : ¬ (i : Int) < (l.length : Int) := by omega
   have hnn := hn.out
   rw [List.take_of_length_le (by omega)] at hnn
   refine raw ?_
   repeat (first | (with_reducible refine unr ?_; try simp only [YY, ↓reduceIte, Za, Zb, Zc, reduceCtorEq, Zd, Ze, Zf, Zg, Zh, Zi, Zj, hil']) | (with_reducible refine WW (by decide) ?_))
   exact ⟨_, rfl, by simp [hnn]⟩
theorem localsE (l : List ByteArray) (hl : l.length ≤ 100000000) (σ : Store) : ACalls Try.prog 111 [strs l] σ fun r σ' => (∃ b : Bool, r = .bool b ∧ (b = true ↔ Locs l)) ∧ σ' = σ := by
 refine in111 (by simp) ?_
 unfold c111
 refine raw ?_
 repeat (first | (with_reducible refine unr ?_; try simp only [YY, ↓reduceIte, Za, Zb, Zc, reduceCtorEq, Zd, Ze, Zf, Zg, Zh, Zi, Zj]) | (with_reducible refine WW (by decide) ?_))
 refine AWP_while [0, 5, 6, 7] (fun i : Nat => l.length - i) (fun i => [strs l, strs l, .int .i64 l.length, .int .i64 i]) (fun i t => t = σ ∧ i ≤ l.length ∧ Hid (Locs (l.take i))) 0 ⟨rfl, by simp, ⟨by simp [Locs.nil]⟩⟩ ?_ ?_
 · refine raw ?_
   repeat (first | (with_reducible refine unr ?_; try simp only [YY, ↓reduceIte, Za, Zb, Zc, reduceCtorEq, Zd, Ze, Zf, Zg, Zh, Zi, Zj]) | (with_reducible refine WW (by decide) ?_))
   rfl
 rintro i t ⟨rfl, hi, hn⟩
 have hw := wrap_succ (i := i) (by omega)
 by_cases hil : i < l.length
 · have hil' : (i : Int) < (l.length : Int) := by omega
   obtain ⟨x, hx⟩ : ∃ x, l[i]? = some x := ⟨_, List.getElem?_eq_getElem hil⟩
   have hg := strs_get hx
   have hsn : Locs (l.take (i + 1)) ↔ LocN x ∧ x ∉ l.take i := by
    rw [List.take_add_one, hx]
    exact Locs.snoc.trans ⟨fun h => h.2, fun h => ⟨hn.out, h⟩⟩
   have hbad : ¬ Locs (l.take (i + 1)) → ¬ Locs l := fun h hh => h ⟨fun s hs => hh.1 s (List.mem_of_mem_take hs), hh.2.sublist (List.take_sublist _ _)⟩
   refine raw ?_
   repeat (first | (with_reducible refine unr ?_; try simp only [YY, ↓reduceIte, Za, Zb, Zc, reduceCtorEq, Zd, Ze, Zf, Zg, Zh, Zi, Zj, hil', hg, all_strs, map_take', map_drop']) | (with_reducible refine WW (by decide) ?_))
   refine (localE x _).mono ?_
   rintro _ t ⟨⟨b, rfl, hb⟩, rfl⟩
   cases b with
   | false =>
    refine raw ?_
    repeat (first | (with_reducible refine unr ?_; try simp only [YY, ↓reduceIte, Za, Zb, Zc, reduceCtorEq, Zd, Ze, Zf, Zg, Zh, Zi, Zj]) | (with_reducible refine WW (by decide) ?_))
    exact ⟨_, rfl, by simp, fun h => absurd h (hbad fun e => absurd (hb.2 (hsn.1 e).1) (by simp))⟩
   | true =>
    have hc1 : (i : Int) ≤ (l.length : Int) := by omega
    have hc0 : (0 : Int) ≤ (i : Int) := by omega
    have hlen : i ≤ l.length := hi
    refine raw ?_
    repeat (first | (with_reducible refine unr ?_; try simp only [YY, ↓reduceIte, Za, Zb, Zc, reduceCtorEq, Zd, Ze, Zf, Zg, Zh, Zi, Zj, hil', hg, all_strs, map_take', map_drop', hc1, hc0, Int.toNat_natCast]) | (with_reducible refine WW (by decide) ?_))
    refine (contains_strs (l.take i) (by simp; omega) x _).mono ?_
    rintro _ t ⟨rfl, rfl⟩
    by_cases hm : x ∈ l.take i
    · rw [decP_t hm]
      refine raw ?_
      repeat (first | (with_reducible refine unr ?_; try simp only [YY, ↓reduceIte, Za, Zb, Zc, reduceCtorEq, Zd, Ze, Zf, Zg, Zh, Zi, Zj]) | (with_reducible refine WW (by decide) ?_))
      exact ⟨_, rfl, by simp, fun h => absurd h (hbad fun e => (hsn.1 e).2 hm)⟩
    · rw [decP_f hm]
      refine raw ?_
      repeat (first | (with_reducible refine unr ?_; try simp only [YY, ↓reduceIte, Za, Zb, Zc, reduceCtorEq, Zd, Ze, Zf, Zg, Zh, Zi, Zj, hw]) | (with_reducible refine WW (by decide) ?_))
      exact ⟨i + 1, rfl, ⟨by omega, ⟨hsn.2 ⟨hb.1 rfl, hm⟩⟩⟩, by omega⟩
 · have hil' : ¬ (i : Int) < (l.length : Int) := by omega
   have hnn := hn.out
   rw [List.take_of_length_le (by omega)] at hnn
   refine raw ?_
   repeat (first | (with_reducible refine unr ?_; try simp only [YY, ↓reduceIte, Za, Zb, Zc, reduceCtorEq, Zd, Ze, Zf, Zg, Zh, Zi, Zj, hil']) | (with_reducible refine WW (by decide) ?_))
   exact ⟨_, rfl, by simp [hnn]⟩
end Go.Proofs.Ytjjbjibbjbbeaaa
/- Which expressions may be, exactly: the program's answer. -/
set_option linter.unusedVariables false
set_option linter.unusedSimpArgs false
namespace Go.AL
theorem mem_take_succI {l : List Int} {i : Nat} {x s : Int} (hx : l[i]? = some x) (h : s ∉ l.take i) (hn : ¬ x = s) : s ∉ l.take (i + 1) := by
 intro hm
 rw [List.take_add_one, hx] at hm
 rcases List.mem_append.1 hm with h1 | h1
 · exact h h1
 · simp at h1; exact hn h1.symm
theorem nodup_succ {α : Type} {l : List α} {i : Nat} {x : α} (hx : l[i]? = some x) (h : (l.take i).Nodup) : (l.take (i + 1)).Nodup ↔ x ∉ l.take i := by
 rw [List.take_add_one, hx, Option.toList_some, List.nodup_append]
 constructor
 · rintro ⟨_, _, h3⟩ hm
   exact h3 x hm x (by simp) rfl
 · intro hn
   exact ⟨h, by simp, fun a ha b hb e => by simp at hb; subst hb; subst e; exact hn ha⟩
theorem not_take {α : Type} {l : List α} {n : Nat} (h : ¬ (l.take n).Nodup) : ¬ l.Nodup := fun hh => h (hh.sublist (List.take_sublist _ _))
end Go.AL
namespace Go.Proofs.Ytjjbjibbjbbeaaa
open Go.AL
theorem indexIE {σ : Store} {v : AV} {l : List Int} (h : Rds σ v 1 (l.map fun s => [.int .i64 s])) (hl : l.length ≤ 9223372036854775806) (k : Int) :
 ACalls Try.prog 172 [v, .int .i64 k] σ fun r σ' => (∃ m : Int, r = .int .i64 m ∧ (0 ≤ m ↔ k ∈ l)) ∧ σ' = σ := by
 refine in172 (by simp) ?_
 unfold c172
 have hlen := h.len
 simp only [List.length_map] at hlen
 refine raw ?_
 repeat (first | (with_reducible refine unr ?_; try simp only [YY, ↓reduceIte, Za, Zb, Zc, reduceCtorEq, Zd, Ze, Zf, Zg, Zh, Zi, Zj, hlen]) | (with_reducible refine WW (by decide) ?_))
 refine AWP_while [0, 1, 7, 8] (fun i : Nat => l.length - i) (fun i => [v, .int .i64 k, .int .i64 l.length, .int .i64 i])
  (fun i s => s = σ ∧ i ≤ l.length ∧ Hid (k ∉ l.take i)) 0 ⟨rfl, by omega, ⟨by simp⟩⟩ ?_ ?_
 · refine raw ?_
   repeat (first | (with_reducible refine unr ?_; try simp only [YY, ↓reduceIte, Za, Zb, Zc, reduceCtorEq, Zd, Ze, Zf, Zg, Zh, Zi, Zj]) | (with_reducible refine WW (by decide) ?_))
   rfl
 · rintro i s ⟨rfl, hi, hn⟩
   have hw := wrap_succ (i := i) (by omega)
   by_cases hil : i < l.length
   · have hil' : (i : Int) < (l.length : Int) := by omega
     obtain ⟨x, hx⟩ : ∃ x, l[i]? = some x := ⟨_, List.getElem?_eq_getElem hil⟩
     obtain ⟨p, hp, hep⟩ := h.iad i [.int .i64 x] (by simp [hx])
     have hld := hep.load none
     by_cases hk : x = k
     · have hk2 : k = x := hk.symm
       have hm := List.mem_of_getElem? hx
       refine raw ?_
       repeat (first | (with_reducible refine unr ?_; try simp only [YY, ↓reduceIte, Za, Zb, Zc, reduceCtorEq, Zd, Ze, Zf, Zg, Zh, Zi, Zj, hil', hp, hld, hk2]) | (with_reducible refine WW (by decide) ?_))
       exact ⟨_, rfl, ⟨fun _ => hm, fun _ => by omega⟩⟩
     · have hk2 : ¬ k = x := fun e => hk e.symm
       refine raw ?_
       repeat (first | (with_reducible refine unr ?_; try simp only [YY, ↓reduceIte, Za, Zb, Zc, reduceCtorEq, Zd, Ze, Zf, Zg, Zh, Zi, Zj, hil', hp, hld, hk2, hw]) | (with_reducible refine WW (by decide) ?_))
       exact ⟨i + 1, rfl, ⟨by omega, ⟨mem_take_succI hx hn.out hk⟩⟩, by omega⟩
   · have hil' : ¬ (i : Int) < (l.length : Int) := by omega
     have hnn := hn.out
     rw [List.take_of_length_le (by omega)] at hnn
     refine raw ?_
     repeat (first | (with_reducible refine unr ?_; try simp only [YY, ↓reduceIte, Za, Zb, Zc, reduceCtorEq, Zd, Ze, Zf, Zg, Zh, Zi, Zj, hil']) | (with_reducible refine WW (by decide) ?_))
     exact ⟨_, rfl, by omega, fun e => absurd e hnn⟩
theorem containsIE {σ : Store} {v : AV} {l : List Int} (h : Rds σ v 1 (l.map fun s => [.int .i64 s])) (hl : l.length ≤ 9223372036854775806) (k : Int) :
 ACalls Try.prog 160 [v, .int .i64 k] σ fun r σ' => (∃ b : Bool, r = .bool b ∧ (b = true ↔ k ∈ l)) ∧ σ' = σ := by
 refine in160 (by simp) ?_
 unfold c160
 refine raw ?_
 repeat (first | (with_reducible refine unr ?_; try simp only [YY, ↓reduceIte, Za, Zb, Zc, reduceCtorEq, Zd, Ze, Zf, Zg, Zh, Zi, Zj]) | (with_reducible refine WW (by decide) ?_))
 refine (indexIE h hl k).mono ?_
 rintro _ t ⟨⟨m, rfl, hm⟩, rfl⟩
 refine raw ?_
 repeat (first | (with_reducible refine unr ?_; try simp only [YY, ↓reduceIte, Za, Zb, Zc, reduceCtorEq, Zd, Ze, Zf, Zg, Zh, Zi, Zj]) | (with_reducible refine WW (by decide) ?_))
 exact ⟨_, rfl, by rw [decide_eq_true_iff]; exact hm⟩
abbrev RightAtE (x : Cr) : Prop := ∀ (σ : Store) (cid : Nat) (v : AV) (l ins : List ByteArray), Chk σ cid v l → ins.length + x.bulk ≤ 50000000 → ACalls Try.prog 86 [.ptr cid 0 0 0, .agg x.cells, strs ins] σ fun r σ' => (∃ b : Bool, r = .bool b ∧ (b = true ↔ x.RtE l ins)) ∧ σ' = σ
theorem picksE (pk : List (Int × Cr)) (ih : ∀ x, x ∈ pk → RightAtE x.2) (σ : Store) (cid : Nat) (v : AV) (l ins : List ByteArray) (hc : Chk σ cid v l) (hb : ins.length + Cr.bulkP pk ≤ 50000000) :
 ACalls Try.prog 145 [.ptr cid 0 0 0, .list (pk.map pickC), strs ins] σ fun r σ' => RE ((pk.map (·.1)).Nodup ∧ ∀ x, x ∈ pk → x.2.RtE l ins) r ∧ σ' = σ := by
 refine ACalls_fp (p := RE _) ?_
 refine in145 (by simp) ?_
 unfold c145
 have hpl := Cr.lenP pk
 refine raw ?_
 repeat (first | (with_reducible refine unr ?_; try simp only [YY, ↓reduceIte, Za, Zb, Zc, reduceCtorEq, Zd, Ze, Zf, Zg, Zh, Zi, Zj]) | (with_reducible refine WW (by decide) ?_))
 refine AWP_while [0, 1, 2, 7, 10, 11, 12] (fun y : AV × Nat => pk.length - y.2) (fun y => [.ptr cid 0 0 0, .list (pk.map pickC), strs ins, y.1, .list (pk.map pickC), .int .i64 pk.length, .int .i64 y.2])
  (fun y t => y.2 ≤ pk.length ∧ Grow σ t y.1 3 1 (((pk.map (·.1)).take y.2).map fun s => [.int .i64 s]) ∧ Hid (((pk.map (·.1)).take y.2).Nodup ∧ ∀ x, x ∈ pk.take y.2 → x.2.RtE l ins)) (.nils, 0) ⟨by simp, .start _ _ _, ⟨by simp⟩⟩ ?_ ?_
 · refine raw ?_
   repeat (first | (with_reducible refine unr ?_; try simp only [YY, ↓reduceIte, Za, Zb, Zc, reduceCtorEq, Zd, Ze, Zf, Zg, Zh, Zi, Zj]) | (with_reducible refine WW (by decide) ?_))
   rfl
 rintro ⟨u, i⟩ t ⟨hi, hG, hall⟩
 simp only at hi hG hall
 have hw := wrap_succ (i := i) (by omega)
 by_cases hil : i < pk.length
 · have hil' : (i : Int) < (pk.length : Int) := by omega
   obtain ⟨x, hx⟩ : ∃ x, pk[i]? = some x := ⟨_, List.getElem?_eq_getElem hil⟩
   have hxm := List.mem_of_getElem? hx
   have hg : (pk.map pickC)[i]? = some (pickC x) := by simp [hx]
   have hx1 : (pk.map (·.1))[i]? = some x.1 := by simp [hx]
   have hxb := Cr.bulkP_le hxm
   refine raw ?_
   repeat (first | (with_reducible refine unr ?_; try simp only [YY, ↓reduceIte, Za, Zb, Zc, reduceCtorEq, Zd, Ze, Zf, Zg, Zh, Zi, Zj, hil', hg, pickC, Cr.len, Cr.take9]) | (with_reducible refine WW (by decide) ?_))
   refine (containsIE (hG.push _).sl.rds (by simp; omega) _).mono ?_
   rintro _ t2 ⟨⟨b, rfl, hbb⟩, rfl⟩
   cases b with
   | true =>
    refine raw ?_
    repeat (first | (with_reducible refine unr ?_; try simp only [YY, ↓reduceIte, Za, Zb, Zc, reduceCtorEq, Zd, Ze, Zf, Zg, Zh, Zi, Zj]) | (with_reducible refine WW (by decide) ?_))
    exact FP.same (hG.kp.trans (.pushed _ _)) (RE.f fun h => not_take (fun hh => (nodup_succ hx1 hall.out.1).1 hh (hbb.1 rfl)) h.1) (.bool _)
   | false =>
    refine raw ?_
    repeat (first | (with_reducible refine unr ?_; try simp only [YY, ↓reduceIte, Za, Zb, Zc, reduceCtorEq, Zd, Ze, Zf, Zg, Zh, Zi, Zj, Cr.len, Cr.take9, Cr.drop9, pickC]) | (with_reducible refine WW (by decide) ?_))
    refine (ih x hxm _ cid v l ins ((hc.keep hG.kp).keep (.pushed _ _)) (by omega)).mono ?_
    rintro _ t2 ⟨⟨b, rfl, hrb⟩, rfl⟩
    cases b with
    | false =>
     refine raw ?_
     repeat (first | (with_reducible refine unr ?_; try simp only [YY, ↓reduceIte, Za, Zb, Zc, reduceCtorEq, Zd, Ze, Zf, Zg, Zh, Zi, Zj]) | (with_reducible refine WW (by decide) ?_))
     exact FP.same (hG.kp.trans (.pushed _ _)) (RE.f fun h => iff_f hrb rfl (h.2 x hxm)) (.bool _)
    | true =>
     refine raw ?_
     repeat (first | (with_reducible refine unr ?_; try simp only [YY, ↓reduceIte, Za, Zb, Zc, reduceCtorEq, Zd, Ze, Zf, Zg, Zh, Zi, Zj]) | (with_reducible refine WW (by decide) ?_))
     refine ok_grow (hG.push _) (es2 := [[.int .i64 x.1]]) (by simp) (by simp; omega) (by simp [maxLen]; omega) ?_
     intro v' t3 hG3 _ _
     refine raw ?_
     repeat (first | (with_reducible refine unr ?_; try simp only [YY, ↓reduceIte, Za, Zb, Zc, reduceCtorEq, Zd, Ze, Zf, Zg, Zh, Zi, Zj, hw]) | (with_reducible refine WW (by decide) ?_))
     refine ⟨(v', i + 1), rfl, ⟨by simp only; omega, ?_, ⟨(nodup_succ hx1 hall.out.1).2 (iff_f hbb rfl), all_succ hall.out.2 hx (hrb.1 rfl)⟩⟩, by simp only; omega⟩
     have : ((pk.map (·.1)).take (i + 1)).map (fun x => [AV.int .i64 x]) = ((pk.map (·.1)).take i).map (fun x => [AV.int .i64 x]) ++ [[AV.int .i64 x.1]] := by rw [List.take_add_one, hx1]; simp
     simp only [this]; exact hG3
 · have hil' : ¬ (i : Int) < (pk.length : Int) := by omega
   have hq := hall.out
   rw [List.take_of_length_le (by simp; omega), List.take_of_length_le (by omega)] at hq
   refine raw ?_
   repeat (first | (with_reducible refine unr ?_; try simp only [YY, ↓reduceIte, Za, Zb, Zc, reduceCtorEq, Zd, Ze, Zf, Zg, Zh, Zi, Zj, hil']) | (with_reducible refine WW (by decide) ?_))
   exact FP.same hG.kp (RE.t hq) (.bool _)
theorem altsE (al : List (AltH × Cr)) (ih : ∀ x, x ∈ al → RightAtE x.2) (σ : Store) (cid : Nat) (v : AV) (l ins : List ByteArray) (hc : Chk σ cid v l) (hb : ins.length + Cr.bulkA al ≤ 50000000) :
 ACalls Try.prog 144 [.ptr cid 0 0 0, .list (al.map altC), strs ins] σ fun r σ' => RE ((AltsOK (al.map (·.1)) ∧ ∀ x, x ∈ al → x.2.RtE l (ins ++ x.1.ps)) ∧ al.length ≠ 0) r ∧ σ' = σ := by
 refine ACalls_fp (p := RE _) ?_
 refine in144 (by simp) ?_
 unfold c144
 have hpl := Cr.lenA al
 refine raw ?_
 repeat (first | (with_reducible refine unr ?_; try simp only [YY, ↓reduceIte, Za, Zb, Zc, reduceCtorEq, Zd, Ze, Zf, Zg, Zh, Zi, Zj]) | (with_reducible refine WW (by decide) ?_))
 refine AWP_while [0, 1, 2, 11, 12, 13] (fun i : Nat => al.length - i) (fun i => [.ptr cid 0 0 0, .list (al.map altC), strs ins, .list (al.map altC), .int .i64 al.length, .int .i64 i])
  (fun i t => i ≤ al.length ∧ Kp σ t ∧ Hid ((∀ j a, j < i → (al.map (·.1))[j]? = some a → AltHead a (j + 1 = (al.map (·.1)).length) ∧ ∀ b, b ∈ (al.map (·.1)).take j → ¬ Clash b a) ∧ ∀ x, x ∈ al.take i → x.2.RtE l (ins ++ x.1.ps))) 0 ⟨by simp, .refl _, ⟨by simp⟩⟩ ?_ ?_
 · refine raw ?_
   repeat (first | (with_reducible refine unr ?_; try simp only [YY, ↓reduceIte, Za, Zb, Zc, reduceCtorEq, Zd, Ze, Zf, Zg, Zh, Zi, Zj]) | (with_reducible refine WW (by decide) ?_))
   rfl
 rintro i t ⟨hi, hk, hall⟩
 have hw := wrap_succ (i := i) (by omega)
 by_cases hil : i < al.length
 · have hil' : (i : Int) < (al.length : Int) := by omega
   obtain ⟨x, hx⟩ : ∃ x, al[i]? = some x := ⟨_, List.getElem?_eq_getElem hil⟩
   have hxm := List.mem_of_getElem? hx
   have hg : (al.map altC)[i]? = some (altC x) := by simp [hx]
   have hxi : (al.map (·.1))[i]? = some x.1 := by simp [hx]
   have hml : (al.map (·.1)).length = al.length := by simp
   have hxb := Cr.bulkA_le hxm
   try simp only [YY, ↓reduceIte, Za, Zb, Zc, reduceCtorEq, Zd, Ze, Zf, Zg, Zh, Zi, Zj, hil', hg, altC, AltH.cells, Cr.len, Cr.take9]
   iterate 9 ((with_reducible refine WW (by decide) ?_); refine unr ?_; try simp only [YY, ↓reduceIte, Za, Zb, Zc, reduceCtorEq, Zd, Ze, Zf, Zg, Zh, Zi, Zj, hil', hg, altC, AltH.cells, Cr.len, Cr.take9])
   generalize hs : Store.push _ _ = s
   have k1 : Kp σ s := by rw [← hs]; exact hk.push _
   have he : s.get t.next = some (.cells 113 0 13 [[.int .i64 x.1.k, .str x.1.nm, .int .i64 x.1.n, strs x.1.ps] ++ x.2.cells]) := by rw [← hs]; simp [Store.push_get]
   clear hs
   replace hxi : Hid ((al.map (·.1))[i]? = some x.1) := ⟨hxi⟩
   replace hml : Hid ((al.map (·.1)).length = al.length) := ⟨hml⟩
   replace hx : Hid (al[i]? = some x) := ⟨hx⟩
   refine AWP_cut [0, 1, 2, 7, 8, 11, 12, 13] (fun _ : Unit => [.ptr cid 0 0 0, .list (al.map altC), strs ins, .int .i64 i, .ptr t.next 0 0 0, .list (al.map altC), .int .i64 al.length, .int .i64 i]) (fun _ s' => s = s' ∧ AltHead x.1 (i + 1 = al.length)) ?_ ?_
   · have hlm : IntKind.i64.wrap ((al.length : Int) - 1) = (al.length : Int) - 1 := wrap_of (by omega) (by omega)
     refine raw ?_
     repeat' (first | (with_reducible refine unr ?_; try simp only [YY, ↓reduceIte, Za, Zb, Zc, reduceCtorEq, Zd, Ze, Zf, Zg, Zh, Zi, Zj, he, str_nil, *]) | (with_reducible first | refine WW (by decide) ?_ | refine ok_idx (by first | assumption | omega) (fun b hb => raw ?_) | refine ok_iad (by first | assumption | omega) (fun x hx hxm => raw ?_) | refine And.intro (by omega) (raw ?_) | (refine guardW_b (fun h => raw ?_) (fun h => raw ?_) <;> try simp only [Ty] at h) | (refine ePick_b (fun h => raw ?_) (fun h => raw ?_) <;> try simp only [Ty] at h) | (refine condW_b (fun h => raw ?_) (fun h => raw ?_) <;> try simp only [Ty] at h) | (refine (localsE _ (by omega) _).mono ?_; rintro _ _ ⟨⟨b, rfl, hb⟩, rfl⟩; refine raw ?_)))
     all_goals first
      | exact ⟨(), .inl ⟨by omega, by omega, by omega, hb.1 h⟩⟩
      | exact ⟨(), .inr (.inl ⟨by omega, by omega, by omega⟩)⟩
      | exact ⟨(), .inr (.inr ⟨by omega, by omega, by omega, by omega, by omega⟩)⟩
      | exact FP.same k1 (RE.f fun hh => by
       have hml := hml.out
       rcases (hh.1.1 i x.1 hxi.out).1 with q | q | q <;> first | omega | exact absurd q.2.2.2 (iff_f hb h)) (.bool _)
   rintro _ _ ⟨rfl, haq⟩
   have hal : (∀ q, q ∈ al.map altC → q.length = 13) = True := by
    refine eq_true fun q hq => ?_
    obtain ⟨y, _, rfl⟩ := List.mem_map.1 hq
    exact altC_len y
   have hi' : (i : Int) ≤ (al.length : Int) := by omega
   have hlt : (((al.take i).length : Nat) : Int) = (i : Int) := by simp; omega
   replace haq : Hid (AltHead x.1 (i + 1 = al.length)) := ⟨haq⟩
   refine AWP_cut [0, 1, 2, 7, 8, 11, 12, 13] (fun _ : Unit => [.ptr cid 0 0 0, .list (al.map altC), strs ins, .int .i64 i, .ptr t.next 0 0 0, .list (al.map altC), .int .i64 al.length, .int .i64 i]) (fun _ s' => Kp s s' ∧ Hid (∀ b, b ∈ (al.map (·.1)).take i → ¬ Clash b x.1)) ?_ ?_
   · refine raw ?_
     repeat (first | (with_reducible refine unr ?_; try simp only [YY, ↓reduceIte, Za, Zb, Zc, reduceCtorEq, Zd, Ze, Zf, Zg, Zh, Zi, Zj, hal, hi', map_take', hlt]) | (with_reducible refine WW (by decide) ?_))
     refine AWP_while [0, 1, 2, 7, 8, 11, 12, 13, 72, 73, 74] (fun j : Nat => i - j) (fun j => [.ptr cid 0 0 0, .list (al.map altC), strs ins, .int .i64 i, .ptr t.next 0 0 0, .list (al.map altC), .int .i64 al.length, .int .i64 i, .list ((al.take i).map altC), .int .i64 i, .int .i64 j]) (fun j s' => Kp s s' ∧ j ≤ i ∧ Hid (∀ b, b ∈ (al.take i).take j → ¬ Clash b.1 x.1)) 0 ⟨.refl _, by omega, ⟨by simp⟩⟩ ?_ ?_
     · refine raw ?_
       repeat (first | (with_reducible refine unr ?_; try simp only [YY, ↓reduceIte, Za, Zb, Zc, reduceCtorEq, Zd, Ze, Zf, Zg, Zh, Zi, Zj]) | (with_reducible refine WW (by decide) ?_))
       rfl
     rintro j t2 ⟨k2, hj, hcl⟩
     have hwj := wrap_succ (i := j) (by omega)
     have he2 := k2.get he
     have hq := lt_ne (t2.lt he2)
     by_cases hjl : j < i
     · have hjl' : (j : Int) < (i : Int) := by omega
       obtain ⟨z, hz⟩ : ∃ z, (al.take i)[j]? = some z := ⟨_, List.getElem?_eq_getElem (by simp; omega)⟩
       have hgz : ((al.take i).map altC)[j]? = some (altC z) := by rw [List.getElem?_map, hz]; rfl
       have hzm : z.1 ∈ (al.map (·.1)).take i := by rw [← List.map_take]; exact List.mem_map.2 ⟨z, List.mem_of_getElem? hz, rfl⟩
       replace hz : Hid ((al.take i)[j]? = some z) := ⟨hz⟩
       refine raw ?_
       repeat' (first | (with_reducible refine unr ?_; try simp only [YY, ↓reduceIte, Za, Zb, Zc, reduceCtorEq, Zd, Ze, Zf, Zg, Zh, Zi, Zj, hjl', he2, hq, hgz, altC, AltH.cells, Cr.len, Cr.take9, str_nil, *]) | (with_reducible first | refine WW (by decide) ?_ | refine ok_idx (by first | assumption | omega) (fun b hb => raw ?_) | refine ok_iad (by first | assumption | omega) (fun x hx hxm => raw ?_) | refine And.intro (by omega) (raw ?_) | (refine guardW_b (fun h => raw ?_) (fun h => raw ?_) <;> try simp only [Ty] at h) | (refine ePick_b (fun h => raw ?_) (fun h => raw ?_) <;> try simp only [Ty] at h) | (refine condW_b (fun h => raw ?_) (fun h => raw ?_) <;> try simp only [Ty] at h)))
       all_goals first
        | exact FP.same (k1.trans (k2.push _)) (RE.f fun hh => (hh.1.1 i x.1 hxi.out).2 z.1 hzm (by first | exact .inl ⟨by omega, by omega⟩ | exact .inr ⟨by omega, by assumption, by omega⟩)) (.bool _)
        | exact ⟨j + 1, rfl, ⟨k2.push _, by omega, ⟨all_succ (p := fun b => ¬ Clash b.1 x.1) hcl.out hz.out (by
         rintro (hh | ⟨h1, h2, h3⟩)
         · omega
         · first | omega | exact absurd h2 (by assumption))⟩⟩, by omega⟩
     · have hjl' : ¬ (j : Int) < (i : Int) := by omega
       have hcl := hcl.out
       rw [List.take_of_length_le (by simp; omega)] at hcl
       refine raw ?_
       repeat (first | (with_reducible refine unr ?_; try simp only [YY, ↓reduceIte, Za, Zb, Zc, reduceCtorEq, Zd, Ze, Zf, Zg, Zh, Zi, Zj, hjl']) | (with_reducible refine WW (by decide) ?_))
       refine ⟨(), k2, ⟨fun b hb => ?_⟩⟩
       obtain ⟨y, hy, rfl⟩ := List.mem_map.1 hb
       exact hcl y hy
   rintro _ s2 ⟨k2, hcl⟩
   have he2 := k2.get he
   have hp1 : ((al.take i).length : Int) = i := hlt
   refine raw ?_
   repeat (first | (with_reducible refine unr ?_; try simp only [YY, ↓reduceIte, Za, Zb, Zc, reduceCtorEq, Zd, Ze, Zf, Zg, Zh, Zi, Zj, he2, Cr.len, Cr.take9, Cr.drop9]) | (with_reducible refine WW (by decide) ?_))
   refine (joined_ok ins x.1.ps (by omega) _).mono ?_
   rintro _ t3 ⟨rfl, rfl⟩
   refine raw ?_
   repeat (first | (with_reducible refine unr ?_; try simp only [YY, ↓reduceIte, Za, Zb, Zc, reduceCtorEq, Zd, Ze, Zf, Zg, Zh, Zi, Zj, he2, Cr.len, Cr.take9, Cr.drop9]) | (with_reducible refine WW (by decide) ?_))
   refine (ih x hxm _ cid v l (ins ++ x.1.ps) (hc.keep (k1.trans k2)) (by simp; omega)).mono ?_
   rintro _ t3 ⟨⟨b, rfl, hrb⟩, rfl⟩
   cases b with
   | false =>
    refine raw ?_
    repeat (first | (with_reducible refine unr ?_; try simp only [YY, ↓reduceIte, Za, Zb, Zc, reduceCtorEq, Zd, Ze, Zf, Zg, Zh, Zi, Zj]) | (with_reducible refine WW (by decide) ?_))
    exact FP.same (k1.trans k2) (RE.f fun hh => iff_f hrb rfl (hh.1.2 x hxm)) (.bool _)
   | true =>
    refine raw ?_
    repeat (first | (with_reducible refine unr ?_; try simp only [YY, ↓reduceIte, Za, Zb, Zc, reduceCtorEq, Zd, Ze, Zf, Zg, Zh, Zi, Zj, hw]) | (with_reducible refine WW (by decide) ?_))
    refine ⟨i + 1, rfl, ⟨by omega, k1.trans k2, ⟨fun j a hj ha => ?_, all_succ (p := fun x => x.2.RtE l (ins ++ x.1.ps)) hall.out.2 hx.out (hrb.1 rfl)⟩⟩, by omega⟩
    by_cases e : j = i
    · subst e
      rw [hxi.out] at ha
      cases ha
      exact ⟨haq.out, hcl.out⟩
    · have := hall.out.1 j a (by omega) ha
      rw [hml.out] at this
      exact this
 · have hil' : ¬ (i : Int) < (al.length : Int) := by omega
   have hq := hall.out
   rw [List.take_of_length_le (by omega)] at hq
   have hA : AltsOK (al.map (·.1)) := fun j a ha => hq.1 j a (by have := (List.getElem?_eq_some_iff.1 ha).1; simp at this; omega) ha
   refine raw ?_
   repeat (first | (with_reducible refine unr ?_; try simp only [YY, ↓reduceIte, Za, Zb, Zc, reduceCtorEq, Zd, Ze, Zf, Zg, Zh, Zi, Zj, hil']) | (with_reducible refine WW (by decide) ?_))
   exact FP.same hk (RE.mk (by rw [decide_eq_true_iff]; exact ⟨fun h => ⟨⟨hA, hq.2⟩, by omega⟩, fun h => by omega⟩)) (.bool _)
end Go.Proofs.Ytjjbjibbjbbeaaa
/- Which expressions may be, exactly: the program's answer, for an expression. -/
set_option linter.unusedVariables false
set_option linter.unusedSimpArgs false
namespace Go.AL
/-- The marks of an expression that has none of them. -/
def Marks (k : Int) (nm : ByteArray) (n ar : Int) : Prop := (k ≠ 1 → k ≠ 2 → k ≠ 4 → nm.size = 0) ∧ (k ≠ 3 → k ≠ 4 → k ≠ 9 → n = 0) ∧ (k ≠ 4 → ar = 0)
theorem head_marks {gl ins : List ByteArray} {k : Int} {nm : ByteArray} {n ar : Int} {ps : List ByteArray} {g a : Nat} {bn : List ByteArray} {q : Nat} (h : HeadOK gl ins k nm n ar ps g a bn q) : Marks k nm n ar := by
 unfold HeadOK at h
 have key : ∀ (p : Prop), (k = 1 ∨ k = 2 ∨ k = 3 ∨ k = 4 ∨ k = 5 ∨ k = 6 ∨ k = 7 ∨ k = 8 ∨ k = 9 ∨ k = 10 ∨ k = 11 → p) → p := by
  intro p hp
  by_cases hk : 1 ≤ k ∧ k ≤ 11
  · exact hp (by omega)
  · rw [if_neg (by omega), if_neg (by omega), if_neg (by omega), if_neg (by omega), if_neg (by omega), if_neg (by omega), if_neg (by omega), if_neg (by omega), if_neg (by omega), if_neg (by omega), if_neg (by omega)] at h
    exact h.elim
 refine key _ fun hk => ?_
 rcases hk with rfl | rfl | rfl | rfl | rfl | rfl | rfl | rfl | rfl | rfl | rfl <;> simp only [Zd, reduceIte] at h <;> refine ⟨?_, ?_, ?_⟩ <;> intros <;> omega
theorem head_1 {gl ins : List ByteArray} {nm : ByteArray} {n ar : Int} {ps : List ByteArray} {g a : Nat} {bn : List ByteArray} {q : Nat} : HeadOK gl ins 1 nm n ar ps g a bn q = (nm ∈ ins ∧ n = 0 ∧ ar = 0 ∧ Shp ps.length g a bn.length q 0 0 0 0 0) := by simp only [HeadOK, Zd, reduceIte]
theorem head_2 {gl ins : List ByteArray} {nm : ByteArray} {n ar : Int} {ps : List ByteArray} {g a : Nat} {bn : List ByteArray} {q : Nat} : HeadOK gl ins 2 nm n ar ps g a bn q = ((nm ∈ gl ∨ 0 < opS nm) ∧ n = 0 ∧ ar = 0 ∧ Shp ps.length g a bn.length q 0 0 0 0 0) := by simp only [HeadOK, Zd, reduceIte]
theorem head_3 {gl ins : List ByteArray} {nm : ByteArray} {n ar : Int} {ps : List ByteArray} {g a : Nat} {bn : List ByteArray} {q : Nat} : HeadOK gl ins 3 nm n ar ps g a bn q = (nm.size = 0 ∧ ar = 0 ∧ Shp ps.length g a bn.length q 0 0 0 0 0) := by simp only [HeadOK, Zd, reduceIte]
theorem head_4 {gl ins : List ByteArray} {nm : ByteArray} {n ar : Int} {ps : List ByteArray} {g a : Nat} {bn : List ByteArray} {q : Nat} : HeadOK gl ins 4 nm n ar ps g a bn q = (nm.size ≠ 0 ∧ 0 ≤ n ∧ 0 ≤ ar ∧ Shp ps.length g a bn.length q 0 0 0 0 0) := by simp only [HeadOK, Zd, reduceIte]
theorem head_5 {gl ins : List ByteArray} {nm : ByteArray} {n ar : Int} {ps : List ByteArray} {g a : Nat} {bn : List ByteArray} {q : Nat} : HeadOK gl ins 5 nm n ar ps g a bn q = (nm.size = 0 ∧ n = 0 ∧ ar = 0 ∧ Shp ps.length g a bn.length q 0 2 0 0 0) := by simp only [HeadOK, Zd, reduceIte]
theorem head_6 {gl ins : List ByteArray} {nm : ByteArray} {n ar : Int} {ps : List ByteArray} {g a : Nat} {bn : List ByteArray} {q : Nat} : HeadOK gl ins 6 nm n ar ps g a bn q = (nm.size = 0 ∧ n = 0 ∧ ar = 0 ∧ Shp ps.length g a bn.length q ps.length 1 0 0 0 ∧ ps.length ≠ 0 ∧ Locs ps) := by simp only [HeadOK, Zd, reduceIte]
theorem head_7 {gl ins : List ByteArray} {nm : ByteArray} {n ar : Int} {ps : List ByteArray} {g a : Nat} {bn : List ByteArray} {q : Nat} : HeadOK gl ins 7 nm n ar ps g a bn q = (nm.size = 0 ∧ n = 0 ∧ ar = 0 ∧ Shp ps.length g a bn.length q 0 1 0 bn.length 0 ∧ bn.length ≠ 0 ∧ Locs bn) := by simp only [HeadOK, Zd, reduceIte]
theorem head_8 {gl ins : List ByteArray} {nm : ByteArray} {n ar : Int} {ps : List ByteArray} {g a : Nat} {bn : List ByteArray} {q : Nat} : HeadOK gl ins 8 nm n ar ps g a bn q = (nm.size = 0 ∧ n = 0 ∧ ar = 0 ∧ Shp ps.length g a bn.length q 0 1 a 0 0 ∧ a ≠ 0) := by simp only [HeadOK, Zd, reduceIte]
theorem head_9 {gl ins : List ByteArray} {nm : ByteArray} {n ar : Int} {ps : List ByteArray} {g a : Nat} {bn : List ByteArray} {q : Nat} : HeadOK gl ins 9 nm n ar ps g a bn q = (nm.size = 0 ∧ 1 ≤ n ∧ n ≤ 11 ∧ ar = 0 ∧ Shp ps.length g a bn.length q 0 2 0 0 0) := by simp only [HeadOK, Zd, reduceIte]
theorem head_10 {gl ins : List ByteArray} {nm : ByteArray} {n ar : Int} {ps : List ByteArray} {g a : Nat} {bn : List ByteArray} {q : Nat} : HeadOK gl ins 10 nm n ar ps g a bn q = (nm.size = 0 ∧ n = 0 ∧ ar = 0 ∧ Shp ps.length g a bn.length q 0 0 0 0 0) := by simp only [HeadOK, Zd, reduceIte]
theorem head_11 {gl ins : List ByteArray} {nm : ByteArray} {n ar : Int} {ps : List ByteArray} {g a : Nat} {bn : List ByteArray} {q : Nat} : HeadOK gl ins 11 nm n ar ps g a bn q = (nm.size = 0 ∧ n = 0 ∧ ar = 0 ∧ Shp ps.length g a bn.length q 0 1 0 0 q) := by simp only [HeadOK, Zd, reduceIte]
theorem head_no {gl ins : List ByteArray} {k : Int} {nm : ByteArray} {n ar : Int} {ps : List ByteArray} {g a : Nat} {bn : List ByteArray} {q : Nat} (h : HeadOK gl ins k nm n ar ps g a bn q) : 1 ≤ k ∧ k ≤ 11 := by
 by_cases hk : 1 ≤ k ∧ k ≤ 11
 · exact hk
 · unfold HeadOK at h
   rw [if_neg (by omega), if_neg (by omega), if_neg (by omega), if_neg (by omega), if_neg (by omega), if_neg (by omega), if_neg (by omega), if_neg (by omega), if_neg (by omega), if_neg (by omega), if_neg (by omega)] at h
   exact h.elim
theorem alts_nil {gl ins : List ByteArray} {al : List (AltH × Cr)} (h : al.length = 0) : AltsOK (al.map (·.1)) ∧ ∀ x, x ∈ al → x.2.RtE gl (ins ++ x.1.ps) := by
 have := nil_of h; subst this
 exact ⟨by intro i a h; simp at h, by simp⟩
theorem picks_nil {gl ins : List ByteArray} {pk : List (Int × Cr)} (h : pk.length = 0) : (pk.map (·.1)).Nodup ∧ ∀ x, x ∈ pk → x.2.RtE gl ins := by
 have := nil_of h; subst this
 exact ⟨by simp, by simp⟩
theorem innerE_ne {k : Int} {ins ps bn : List ByteArray} (a : k ≠ 6) (b : k ≠ 7) : innerE k ins ps bn = ins := by rw [innerE, if_neg a, if_neg b]
theorem innerE_6 {ins ps bn : List ByteArray} : innerE 6 ins ps bn = ins ++ ps := by rw [innerE, if_pos rfl]
theorem innerE_7 {ins ps bn : List ByteArray} : innerE 7 ins ps bn = ins ++ bn := by rw [innerE, if_neg (by decide), if_pos rfl]
end Go.AL
namespace Go.Proofs.Ytjjbjibbjbbeaaa
open Go.AL
theorem containsE2 {σ : Store} {cid : Nat} {v : AV} {l : List ByteArray} (hc : Chk σ cid v l) (k : ByteArray) : ACalls Try.prog 85 [v, .str k] σ fun r σ' => (∃ b : Bool, r = .bool b ∧ (b = true ↔ k ∈ l)) ∧ σ' = σ :=
 (contains_ok (hc.sl.rds) (by have := hc.len; omega) k).mono fun _ _ h => ⟨⟨_, h.1, @decide_eq_true_iff _ (Classical.propDecidable _)⟩, h.2⟩
theorem containsE1 (l : List ByteArray) (hl : l.length ≤ 9223372036854775806) (k : ByteArray) (σ : Store) : ACalls Try.prog 85 [strs l, .str k] σ fun r σ' => (∃ b : Bool, r = .bool b ∧ (b = true ↔ k ∈ l)) ∧ σ' = σ :=
 (contains_strs l hl k σ).mono fun _ _ h => ⟨⟨_, h.1, @decide_eq_true_iff _ (Classical.propDecidable _)⟩, h.2⟩
theorem opE1 (s : ByteArray) (σ : Store) : ACalls Try.prog 83 [.str s] σ fun r σ' => (∃ b : Int, r = .int .i64 b ∧ b = opS s) ∧ σ' = σ := (opX s σ).mono fun _ _ h => ⟨⟨_, h.1, rfl⟩, h.2⟩
theorem picksE' (pk : List (Int × Cr)) (ih : ∀ x, x ∈ pk → RightAtE x.2) (σ : Store) (cid : Nat) (v : AV) (l ins : List ByteArray) (hc : Chk σ cid v l) (hb : ins.length + Cr.bulkP pk ≤ 50000000) :
 ACalls Try.prog 145 [.ptr cid 0 0 0, .list (pk.map pickC), strs ins] σ fun r σ' => (∃ b : Bool, r = .bool b ∧ (b = true ↔ (pk.map (·.1)).Nodup ∧ ∀ x, x ∈ pk → x.2.RtE l ins)) ∧ σ' = σ := picksE pk ih σ cid v l ins hc hb
theorem altsE' (al : List (AltH × Cr)) (ih : ∀ x, x ∈ al → RightAtE x.2) (σ : Store) (cid : Nat) (v : AV) (l ins : List ByteArray) (hc : Chk σ cid v l) (hb : ins.length + Cr.bulkA al ≤ 50000000) :
 ACalls Try.prog 144 [.ptr cid 0 0 0, .list (al.map altC), strs ins] σ fun r σ' => (∃ b : Bool, r = .bool b ∧ (b = true ↔ (AltsOK (al.map (·.1)) ∧ ∀ x, x ∈ al → x.2.RtE l (ins ++ x.1.ps)) ∧ al.length ≠ 0)) ∧ σ' = σ := altsE al ih σ cid v l ins hc hb
set_option maxHeartbeats 2000000 in
theorem rightE : ∀ x : Cr, RightAtE x := by
 intro x
 induction x using Cr.ind with
 | _ k nm n ar ps gs al bs pk ih1 ih2 ih3 ih4 =>
  intro σ cid v l ins hc hbk
  rw [Cr.bulk] at hbk
  refine ACalls_fp (p := RE ((Cr.mk k nm n ar ps gs al bs pk).RtE l ins)) ?_
  refine in86 (by simp) ?_
  unfold c86
  rw [Cr.cells_eq]
  have hgl := Cr.lenL gs
  have hbl := Cr.lenB bs
  try simp only [YY, ↓reduceIte, Za, Zb, Zc, reduceCtorEq, Zd, Ze, Zf, Zg, Zh, Zi, Zj]
  iterate 2 ((with_reducible refine WW (by decide) ?_); refine unr ?_; try simp only [YY, ↓reduceIte, Za, Zb, Zc, reduceCtorEq, Zd, Ze, Zf, Zg, Zh, Zi, Zj])
  generalize hs : Store.push _ _ = s
  have k1 : Kp σ s := by rw [← hs]; exact .pushed _ _
  have he : s.get σ.next = some (.cells 54 0 9 [[.int .i64 k, .str nm, .int .i64 n, .int .i64 ar, strs ps, .list (gs.map Cr.cells), .list (al.map altC), .list (bs.map bindC), .list (pk.map pickC)]]) := by rw [← hs]; simp [Store.push_get]
  have hcs := hc.keep k1
  have hgc := hcs.hd
  clear hs
  refine AWP_cut [0, 2, 4, 7] (fun _ : Unit => [.ptr cid 0 0 0, strs ins, .ptr σ.next 0 0 0, .bool (decide (k = 1 ∨ k = 2 ∨ k = 4))]) (fun b s' => s = s') ?_ ?_
  · refine raw ?_
    repeat' (first | (with_reducible refine unr ?_; try simp only [YY, ↓reduceIte, Za, Zb, Zc, reduceCtorEq, Zd, Ze, Zf, Zg, Zh, Zi, Zj, he, str_nil, *]) | (with_reducible first | refine WW (by decide) ?_ | refine ok_idx (by first | assumption | omega) (fun b hb => raw ?_) | refine ok_iad (by first | assumption | omega) (fun x hx hxm => raw ?_) | refine And.intro (by omega) (raw ?_) | (refine guardW_b (fun h => raw ?_) (fun h => raw ?_) <;> try simp only [Ty] at h) | (refine ePick_b (fun h => raw ?_) (fun h => raw ?_) <;> try simp only [Ty] at h) | (refine condW_b (fun h => raw ?_) (fun h => raw ?_) <;> try simp only [Ty] at h)))
    all_goals exact ⟨(), by simp; try omega⟩
  rintro _ _ rfl
  refine AWP_cut [0, 2, 4, 7, 8] (fun _ : Unit => [.ptr cid 0 0 0, strs ins, .ptr σ.next 0 0 0, .bool (decide (k = 1 ∨ k = 2 ∨ k = 4)), .bool (decide (k = 3 ∨ k = 4 ∨ k = 9))]) (fun b s' => s = s') ?_ ?_
  · refine raw ?_
    repeat' (first | (with_reducible refine unr ?_; try simp only [YY, ↓reduceIte, Za, Zb, Zc, reduceCtorEq, Zd, Ze, Zf, Zg, Zh, Zi, Zj, he, str_nil, *]) | (with_reducible first | refine WW (by decide) ?_ | refine ok_idx (by first | assumption | omega) (fun b hb => raw ?_) | refine ok_iad (by first | assumption | omega) (fun x hx hxm => raw ?_) | refine And.intro (by omega) (raw ?_) | (refine guardW_b (fun h => raw ?_) (fun h => raw ?_) <;> try simp only [Ty] at h) | (refine ePick_b (fun h => raw ?_) (fun h => raw ?_) <;> try simp only [Ty] at h) | (refine condW_b (fun h => raw ?_) (fun h => raw ?_) <;> try simp only [Ty] at h)))
    all_goals exact ⟨(), by simp; try omega⟩
  rintro _ _ rfl
  refine AWP_cut [0, 2, 4] (fun _ : Unit => [.ptr cid 0 0 0, strs ins, .ptr σ.next 0 0 0]) (fun _ s' => s = s' ∧ Marks k nm n ar) ?_ ?_
  · refine raw ?_
    repeat' (first | (with_reducible refine unr ?_; try simp only [YY, ↓reduceIte, Za, Zb, Zc, reduceCtorEq, Zd, Ze, Zf, Zg, Zh, Zi, Zj, he, str_nil, *]) | (with_reducible first | refine WW (by decide) ?_ | refine ok_idx (by first | assumption | omega) (fun b hb => raw ?_) | refine ok_iad (by first | assumption | omega) (fun x hx hxm => raw ?_) | refine And.intro (by omega) (raw ?_) | (refine guardW_b (fun h => raw ?_) (fun h => raw ?_) <;> try simp only [Ty] at h) | (refine ePick_b (fun h => raw ?_) (fun h => raw ?_) <;> try simp only [Ty] at h) | (refine condW_b (fun h => raw ?_) (fun h => raw ?_) <;> try simp only [Ty] at h)))
    all_goals first
     | exact FP.same k1 (RE.f fun hh => by
      obtain ⟨m1, m2, m3⟩ := head_marks (rtE_iff.1 hh).hh
      omega) (.bool _)
     | exact ⟨(), by omega, by omega, by omega⟩
  rintro _ _ ⟨rfl, hm⟩
  obtain ⟨m1, m2, m3⟩ := hm
  try simp only [YY, ↓reduceIte, Za, Zb, Zc, reduceCtorEq, Zd, Ze, Zf, Zg, Zh, Zi, Zj, he]
  iterate 4 ((with_reducible refine WW (by decide) ?_); refine unr ?_; try simp only [YY, ↓reduceIte, Za, Zb, Zc, reduceCtorEq, Zd, Ze, Zf, Zg, Zh, Zi, Zj, he])
  generalize hs : Store.push s _ = s9
  have k9 : Kp s s9 := by rw [← hs]; exact .pushed _ _
  have he9 := k9.get he
  have hf : s9.get s.next = some (.cells 246 0 5 [[.int .i64 ps.length, .int .i64 gs.length, .int .i64 al.length, .int .i64 bs.length, .int .i64 pk.length]]) := by rw [← hs]; simp [Store.push_get]
  have hc9 := hcs.keep k9
  have kk := k1.trans k9
  clear hs
  have hlen9 := hc9.len
  refine AWP_cut [0, 4, 10] (fun _ : Unit => [.ptr cid 0 0 0, .ptr σ.next 0 0 0, strs (innerE k ins ps (bs.map (·.1)))]) (fun y s' => s9 = s' ∧ Hid (HeadOK l ins k nm n ar ps gs.length al.length (bs.map (·.1)) pk.length ∧ (AltsOK (al.map (·.1)) ∧ ∀ x, x ∈ al → x.2.RtE l (ins ++ x.1.ps)) ∧ (pk.map (·.1)).Nodup ∧ ∀ x, x ∈ pk → x.2.RtE l ins)) ?_ ?_
  · by_cases h1 : k = 1
    · subst h1
      refine raw ?_
      repeat' (first | (with_reducible refine unr ?_; try simp only [YY, ↓reduceIte, Za, Zb, Zc, reduceCtorEq, Zd, Ze, Zf, Zg, Zh, Zi, Zj, he9, hf, row5_eq, row5_ne, str_nil, *]) | (with_reducible first | refine WW (by decide) ?_ | refine ok_idx (by first | assumption | omega) (fun b hb => raw ?_) | refine ok_iad (by first | assumption | omega) (fun x hx hxm => raw ?_) | refine And.intro (by omega) (raw ?_) | (refine guardW_b (fun h => raw ?_) (fun h => raw ?_) <;> try simp only [Ty] at h) | (refine ePick_b (fun h => raw ?_) (fun h => raw ?_) <;> try simp only [Ty] at h) | (refine condW_b (fun h => raw ?_) (fun h => raw ?_) <;> try simp only [Ty] at h) | (refine (containsE1 ins (by omega) _ _).mono ?_; rintro _ _ ⟨⟨b, rfl, hb⟩, rfl⟩; refine raw ?_)))
      · refine FP.same kk (RE.mk ?_) (.bool _)
        rw [rtE_leaf (by rw [head_1, Shp, List.length_map]; exact fun h => h.2.2.2), head_1, Shp, List.length_map]
        exact ⟨fun e => ⟨hb.1 e, by omega, by omega, by omega⟩, fun h => hb.2 h.1⟩
      · exact FP.same kk (RE.f fun hh => by have h' := (rtE_iff.1 hh).hh; rw [head_1, Shp, List.length_map] at h'; omega) (.bool _)
    by_cases h2 : k = 2
    · subst h2
      refine raw ?_
      repeat' (first | (with_reducible refine unr ?_; try simp only [YY, ↓reduceIte, Za, Zb, Zc, reduceCtorEq, Zd, Ze, Zf, Zg, Zh, Zi, Zj, he9, hf, hc9.hd, row5_eq, row5_ne, str_nil, *]) | (with_reducible first | refine WW (by decide) ?_ | refine ok_idx (by first | assumption | omega) (fun b hb => raw ?_) | refine ok_iad (by first | assumption | omega) (fun x hx hxm => raw ?_) | refine And.intro (by omega) (raw ?_) | (refine guardW_b (fun h => raw ?_) (fun h => raw ?_) <;> try simp only [Ty] at h) | (refine ePick_b (fun h => raw ?_) (fun h => raw ?_) <;> try simp only [Ty] at h) | (refine condW_b (fun h => raw ?_) (fun h => raw ?_) <;> try simp only [Ty] at h) | (refine (containsE2 hc9 _).mono ?_; rintro _ _ ⟨⟨b, rfl, hb⟩, rfl⟩; refine raw ?_) | (refine (opE1 _ _).mono ?_; rintro _ _ ⟨⟨b, rfl, hb⟩, rfl⟩; refine raw ?_)))
      · refine FP.same kk (RE.t ?_) (.bool _)
        rw [rtE_leaf (by rw [head_2, Shp, List.length_map]; exact fun h => h.2.2.2), head_2, Shp, List.length_map]
        exact ⟨.inl (by first | exact hb.1 h | exact hb.1 ‹_›), by omega, by omega, by omega⟩
      · refine FP.same kk (RE.mk ?_) (.bool _)
        rw [rtE_leaf (by rw [head_2, Shp, List.length_map]; exact fun h => h.2.2.2), head_2, Shp, List.length_map]
        rw [decide_eq_true_iff]
        exact ⟨fun e => ⟨.inr e, by omega, by omega, by omega⟩, fun hh => hh.1.resolve_left (iff_f (p := nm ∈ l) (by assumption) h)⟩
      · exact FP.same kk (RE.f fun hh => by have h' := (rtE_iff.1 hh).hh; rw [head_2, Shp, List.length_map] at h'; omega) (.bool _)
    by_cases h3 : k = 3
    · subst h3
      refine raw ?_
      repeat' (first | (with_reducible refine unr ?_; try simp only [YY, ↓reduceIte, Za, Zb, Zc, reduceCtorEq, Zd, Ze, Zf, Zg, Zh, Zi, Zj, he9, hf, row5_eq, row5_ne, str_nil, *]) | (with_reducible first | refine WW (by decide) ?_ | refine ok_idx (by first | assumption | omega) (fun b hb => raw ?_) | refine ok_iad (by first | assumption | omega) (fun x hx hxm => raw ?_) | refine And.intro (by omega) (raw ?_) | (refine guardW_b (fun h => raw ?_) (fun h => raw ?_) <;> try simp only [Ty] at h) | (refine ePick_b (fun h => raw ?_) (fun h => raw ?_) <;> try simp only [Ty] at h) | (refine condW_b (fun h => raw ?_) (fun h => raw ?_) <;> try simp only [Ty] at h)))
      refine FP.same kk (RE.mk ?_) (.bool _)
      rw [rtE_leaf (by rw [head_3, Shp, List.length_map]; exact fun h => h.2.2), head_3, Shp, List.length_map]
      rw [decide_eq_true_iff]
      omega
    by_cases h10 : k = 10
    · subst h10
      refine raw ?_
      repeat' (first | (with_reducible refine unr ?_; try simp only [YY, ↓reduceIte, Za, Zb, Zc, reduceCtorEq, Zd, Ze, Zf, Zg, Zh, Zi, Zj, he9, hf, row5_eq, row5_ne, str_nil, *]) | (with_reducible first | refine WW (by decide) ?_ | refine ok_idx (by first | assumption | omega) (fun b hb => raw ?_) | refine ok_iad (by first | assumption | omega) (fun x hx hxm => raw ?_) | refine And.intro (by omega) (raw ?_) | (refine guardW_b (fun h => raw ?_) (fun h => raw ?_) <;> try simp only [Ty] at h) | (refine ePick_b (fun h => raw ?_) (fun h => raw ?_) <;> try simp only [Ty] at h) | (refine condW_b (fun h => raw ?_) (fun h => raw ?_) <;> try simp only [Ty] at h)))
      refine FP.same kk (RE.mk ?_) (.bool _)
      rw [rtE_leaf (by rw [head_10, Shp, List.length_map]; exact fun h => h.2.2.2), head_10, Shp, List.length_map]
      rw [decide_eq_true_iff]
      omega
    by_cases h4 : k = 4
    · subst h4
      refine raw ?_
      repeat' (first | (with_reducible refine unr ?_; try simp only [YY, ↓reduceIte, Za, Zb, Zc, reduceCtorEq, Zd, Ze, Zf, Zg, Zh, Zi, Zj, he9, hf, row5_eq, row5_ne, str_nil, *]) | (with_reducible first | refine WW (by decide) ?_ | refine ok_idx (by first | assumption | omega) (fun b hb => raw ?_) | refine ok_iad (by first | assumption | omega) (fun x hx hxm => raw ?_) | refine And.intro (by omega) (raw ?_) | (refine guardW_b (fun h => raw ?_) (fun h => raw ?_) <;> try simp only [Ty] at h) | (refine ePick_b (fun h => raw ?_) (fun h => raw ?_) <;> try simp only [Ty] at h) | (refine condW_b (fun h => raw ?_) (fun h => raw ?_) <;> try simp only [Ty] at h)))
      · refine FP.same kk (RE.mk ?_) (.bool _)
        rw [rtE_leaf (by rw [head_4, Shp, List.length_map]; exact fun h => h.2.2.2), head_4, Shp, List.length_map]
        rw [decide_eq_true_iff]
        omega
      all_goals exact FP.same kk (RE.f fun hh => by have h' := (rtE_iff.1 hh).hh; rw [head_4, Shp, List.length_map] at h'; omega) (.bool _)
    by_cases h5 : k = 5
    · subst h5
      refine raw ?_
      repeat' (first | (with_reducible refine unr ?_; try simp only [YY, ↓reduceIte, Za, Zb, Zc, reduceCtorEq, Zd, Ze, Zf, Zg, Zh, Zi, Zj, he9, hf, row5_eq, row5_ne, str_nil, *]) | (with_reducible first | refine WW (by decide) ?_ | refine ok_idx (by first | assumption | omega) (fun b hb => raw ?_) | refine ok_iad (by first | assumption | omega) (fun x hx hxm => raw ?_) | refine And.intro (by omega) (raw ?_) | (refine guardW_b (fun h => raw ?_) (fun h => raw ?_) <;> try simp only [Ty] at h) | (refine ePick_b (fun h => raw ?_) (fun h => raw ?_) <;> try simp only [Ty] at h) | (refine condW_b (fun h => raw ?_) (fun h => raw ?_) <;> try simp only [Ty] at h)))
      · exact FP.same kk (RE.f fun hh => by have h' := (rtE_iff.1 hh).hh; rw [head_5, Shp, List.length_map] at h'; omega) (.bool _)
      · exact ⟨(), by rw [innerE_ne (by decide) (by decide)], ⟨by rw [head_5, Shp, List.length_map]; exact ⟨by omega, by omega, by omega, by omega⟩, alts_nil (by omega), picks_nil (by omega)⟩⟩
    by_cases h9 : k = 9
    · subst h9
      refine raw ?_
      repeat' (first | (with_reducible refine unr ?_; try simp only [YY, ↓reduceIte, Za, Zb, Zc, reduceCtorEq, Zd, Ze, Zf, Zg, Zh, Zi, Zj, he9, hf, row5_eq, row5_ne, str_nil, *]) | (with_reducible first | refine WW (by decide) ?_ | refine ok_idx (by first | assumption | omega) (fun b hb => raw ?_) | refine ok_iad (by first | assumption | omega) (fun x hx hxm => raw ?_) | refine And.intro (by omega) (raw ?_) | (refine guardW_b (fun h => raw ?_) (fun h => raw ?_) <;> try simp only [Ty] at h) | (refine ePick_b (fun h => raw ?_) (fun h => raw ?_) <;> try simp only [Ty] at h) | (refine condW_b (fun h => raw ?_) (fun h => raw ?_) <;> try simp only [Ty] at h)))
      all_goals first
       | exact ⟨(), by rw [innerE_ne (by decide) (by decide)], ⟨by rw [head_9, Shp, List.length_map]; exact ⟨by omega, by omega, by omega, by omega, by omega⟩, alts_nil (by omega), picks_nil (by omega)⟩⟩
       | exact FP.same kk (RE.f fun hh => by have h' := (rtE_iff.1 hh).hh; rw [head_9, Shp, List.length_map] at h'; omega) (.bool _)
    by_cases h6 : k = 6
    · subst h6
      refine raw ?_
      repeat' (first | (with_reducible refine unr ?_; try simp only [YY, ↓reduceIte, Za, Zb, Zc, reduceCtorEq, Zd, Ze, Zf, Zg, Zh, Zi, Zj, he9, hf, row5_eq, row5_ne, str_nil, *]) | (with_reducible first | refine WW (by decide) ?_ | refine ok_idx (by first | assumption | omega) (fun b hb => raw ?_) | refine ok_iad (by first | assumption | omega) (fun x hx hxm => raw ?_) | refine And.intro (by omega) (raw ?_) | (refine guardW_b (fun h => raw ?_) (fun h => raw ?_) <;> try simp only [Ty] at h) | (refine ePick_b (fun h => raw ?_) (fun h => raw ?_) <;> try simp only [Ty] at h) | (refine condW_b (fun h => raw ?_) (fun h => raw ?_) <;> try simp only [Ty] at h) | (refine (localsE _ (by omega) _).mono ?_; rintro _ _ ⟨⟨b, rfl, hb⟩, rfl⟩; refine raw ?_) | (refine (joined_ok _ _ (by omega) _).mono ?_; rintro _ _ ⟨rfl, rfl⟩; refine raw ?_)))
      all_goals first
       | exact ⟨(), by rw [innerE_6], ⟨by rw [head_6, Shp, List.length_map]; exact ⟨by omega, by omega, by omega, by omega, by omega, hb.1 h⟩, alts_nil (by omega), picks_nil (by omega)⟩⟩
       | exact FP.same kk (RE.f fun hh => by have h' := (rtE_iff.1 hh).hh; rw [head_6, Shp, List.length_map] at h'; omega) (.bool _)
       | exact FP.same kk (RE.f fun hh => by have h' := (rtE_iff.1 hh).hh; rw [head_6] at h'; exact iff_f hb h h'.2.2.2.2.2) (.bool _)
    by_cases h7 : k = 7
    · subst h7
      refine raw ?_
      repeat' (first | (with_reducible refine unr ?_; try simp only [YY, ↓reduceIte, Za, Zb, Zc, reduceCtorEq, Zd, Ze, Zf, Zg, Zh, Zi, Zj, he9, hf, row5_eq, row5_ne, str_nil, *]) | (with_reducible first | refine WW (by decide) ?_ | refine ok_idx (by first | assumption | omega) (fun b hb => raw ?_) | refine ok_iad (by first | assumption | omega) (fun x hx hxm => raw ?_) | refine And.intro (by omega) (raw ?_) | (refine guardW_b (fun h => raw ?_) (fun h => raw ?_) <;> try simp only [Ty] at h) | (refine ePick_b (fun h => raw ?_) (fun h => raw ?_) <;> try simp only [Ty] at h) | (refine condW_b (fun h => raw ?_) (fun h => raw ?_) <;> try simp only [Ty] at h) | (refine (localsE _ (by (try simp); omega) _).mono ?_; rintro _ _ ⟨⟨b, rfl, hb⟩, rfl⟩; refine raw ?_) | (refine (names_ok _ (by omega) _).mono ?_; rintro _ _ ⟨rfl, rfl⟩; refine raw ?_) | (refine (joined_ok _ _ (by (try simp); omega) _).mono ?_; rintro _ _ ⟨rfl, rfl⟩; refine raw ?_)))
      all_goals first
       | exact ⟨(), by rw [innerE_7], ⟨by rw [head_7, Shp, List.length_map]; exact ⟨by omega, by omega, by omega, by omega, by omega, hb.1 h⟩, alts_nil (by omega), picks_nil (by omega)⟩⟩
       | exact FP.same kk (RE.f fun hh => by have h' := (rtE_iff.1 hh).hh; rw [head_7, Shp, List.length_map] at h'; omega) (.bool _)
       | exact FP.same kk (RE.f fun hh => by have h' := (rtE_iff.1 hh).hh; rw [head_7] at h'; exact iff_f hb h h'.2.2.2.2.2) (.bool _)
    by_cases h8 : k = 8
    · subst h8
      refine raw ?_
      repeat' (first | (with_reducible refine unr ?_; try simp only [YY, ↓reduceIte, Za, Zb, Zc, reduceCtorEq, Zd, Ze, Zf, Zg, Zh, Zi, Zj, he9, hf, row5_eq, row5_ne, str_nil, *]) | (with_reducible first | refine WW (by decide) ?_ | refine ok_idx (by first | assumption | omega) (fun b hb => raw ?_) | refine ok_iad (by first | assumption | omega) (fun x hx hxm => raw ?_) | refine And.intro (by omega) (raw ?_) | (refine guardW_b (fun h => raw ?_) (fun h => raw ?_) <;> try simp only [Ty] at h) | (refine ePick_b (fun h => raw ?_) (fun h => raw ?_) <;> try simp only [Ty] at h) | (refine condW_b (fun h => raw ?_) (fun h => raw ?_) <;> try simp only [Ty] at h) | (refine (altsE' al ih2 _ cid v l ins hc9 (by omega)).mono ?_; rintro _ _ ⟨⟨b, rfl, hb⟩, rfl⟩; refine raw ?_)))
      all_goals first
       | exact ⟨(), by rw [innerE_ne (by decide) (by decide)], ⟨by rw [head_8, Shp, List.length_map]; exact ⟨by omega, by omega, by omega, by omega, (hb.1 h).2⟩, (hb.1 h).1, picks_nil (by omega)⟩⟩
       | exact FP.same kk (RE.f fun hh => by have h' := (rtE_iff.1 hh).hh; rw [head_8, Shp, List.length_map] at h'; omega) (.bool _)
       | exact FP.same kk (RE.f fun (hh : (Cr.mk 8 nm n ar ps gs al bs pk).RtE l ins) => by have h' := rtE_iff.1 hh; have h2 := h'.hh; rw [head_8] at h2; exact iff_f hb h ⟨⟨h'.ha, h'.g2⟩, h2.2.2.2.2⟩) (.bool _)
    by_cases h11 : k = 11
    · subst h11
      refine raw ?_
      repeat' (first | (with_reducible refine unr ?_; try simp only [YY, ↓reduceIte, Za, Zb, Zc, reduceCtorEq, Zd, Ze, Zf, Zg, Zh, Zi, Zj, he9, hf, row5_eq, row5_ne, str_nil, *]) | (with_reducible first | refine WW (by decide) ?_ | refine ok_idx (by first | assumption | omega) (fun b hb => raw ?_) | refine ok_iad (by first | assumption | omega) (fun x hx hxm => raw ?_) | refine And.intro (by omega) (raw ?_) | (refine guardW_b (fun h => raw ?_) (fun h => raw ?_) <;> try simp only [Ty] at h) | (refine ePick_b (fun h => raw ?_) (fun h => raw ?_) <;> try simp only [Ty] at h) | (refine condW_b (fun h => raw ?_) (fun h => raw ?_) <;> try simp only [Ty] at h) | (refine (picksE' pk ih4 _ cid v l ins hc9 (by omega)).mono ?_; rintro _ _ ⟨⟨b, rfl, hb⟩, rfl⟩; refine raw ?_)))
      all_goals first
       | exact ⟨(), by rw [innerE_ne (by decide) (by decide)], ⟨by rw [head_11, Shp, List.length_map]; exact ⟨by omega, by omega, by omega, by omega⟩, alts_nil (by omega), hb.1 h⟩⟩
       | exact FP.same kk (RE.f fun hh => by have h' := (rtE_iff.1 hh).hh; rw [head_11, Shp, List.length_map] at h'; omega) (.bool _)
       | exact FP.same kk (RE.f fun (hh : (Cr.mk 11 nm n ar ps gs al bs pk).RtE l ins) => by have h' := rtE_iff.1 hh; exact iff_f hb h ⟨h'.hp, h'.g4⟩) (.bool _)
    refine raw ?_
    repeat (first | (with_reducible refine unr ?_; try simp only [YY, ↓reduceIte, Za, Zb, Zc, reduceCtorEq, Zd, Ze, Zf, Zg, Zh, Zi, Zj, he9, hf, h1, h2, h3, h4, h5, h6, h7, h8, h9, h10, h11]) | (with_reducible refine WW (by decide) ?_))
    exact FP.same kk (RE.f fun hh => by have h' := head_no (rtE_iff.1 hh).hh; omega) (.bool _)
  rintro _ _ ⟨rfl, hout⟩
  have hinl : (innerE k ins ps (bs.map (·.1))).length ≤ ins.length + ps.length + bs.length := by
   unfold innerE
   split
   · rw [List.length_append]; omega
   · split
     · rw [List.length_append, List.length_map]; omega
     · omega
  have hin : (innerE k ins ps (bs.map (·.1))).length + Cr.bulkL gs ≤ 50000000 := by omega
  have hin2 : ∀ z, z ∈ bs → (innerE k ins ps (bs.map (·.1))).length + z.2.bulk ≤ 50000000 := fun z hz => by
   have := Cr.bulkB_le2 hz
   omega
  generalize hinner : innerE k ins ps (bs.map (·.1)) = inner at hinl hin hin2
  replace hinner : Hid (innerE k ins ps (bs.map (·.1)) = inner) := ⟨hinner⟩
  clear hinl
  refine AWP_cut [0, 4, 10] (fun _ : Unit => [.ptr cid 0 0 0, .ptr σ.next 0 0 0, strs inner]) (fun _ s' => Kp s9 s' ∧ Hid (∀ x, x ∈ gs → x.RtE l inner)) ?_ ?_
  · refine raw ?_
    repeat (first | (with_reducible refine unr ?_; try simp only [YY, ↓reduceIte, Za, Zb, Zc, reduceCtorEq, Zd, Ze, Zf, Zg, Zh, Zi, Zj, he9]) | (with_reducible refine WW (by decide) ?_))
    refine AWP_while [0, 4, 10, 240, 241, 242] (fun i : Nat => gs.length - i) (fun i => [.ptr cid 0 0 0, .ptr σ.next 0 0 0, strs inner, .list (gs.map Cr.cells), .int .i64 gs.length, .int .i64 i])
     (fun i t => i ≤ gs.length ∧ Kp s9 t ∧ Hid (∀ x, x ∈ gs.take i → x.RtE l inner)) 0 ⟨by simp, .refl _, ⟨by simp⟩⟩ ?_ ?_
    · refine raw ?_
      repeat (first | (with_reducible refine unr ?_; try simp only [YY, ↓reduceIte, Za, Zb, Zc, reduceCtorEq, Zd, Ze, Zf, Zg, Zh, Zi, Zj]) | (with_reducible refine WW (by decide) ?_))
      rfl
    rintro i t ⟨hi, k2, hall⟩
    have hw := wrap_succ (i := i) (by omega)
    by_cases hil : i < gs.length
    · have hil' : (i : Int) < (gs.length : Int) := by omega
      obtain ⟨x, hx⟩ : ∃ x, gs[i]? = some x := ⟨_, List.getElem?_eq_getElem hil⟩
      have hxm := List.mem_of_getElem? hx
      have hg : (gs.map Cr.cells)[i]? = some (Cr.cells x) := by simp [hx]
      have hxb := Cr.bulkL_le hxm
      refine raw ?_
      repeat' (first | (with_reducible refine unr ?_; try simp only [YY, ↓reduceIte, Za, Zb, Zc, reduceCtorEq, Zd, Ze, Zf, Zg, Zh, Zi, Zj, hil', hg, Cr.len, Cr.take9, str_nil, *]) | (with_reducible first | refine WW (by decide) ?_ | refine ok_idx (by first | assumption | omega) (fun b hb => raw ?_) | refine ok_iad (by first | assumption | omega) (fun x hx hxm => raw ?_) | refine And.intro (by omega) (raw ?_) | (refine guardW_b (fun h => raw ?_) (fun h => raw ?_) <;> try simp only [Ty] at h) | (refine ePick_b (fun h => raw ?_) (fun h => raw ?_) <;> try simp only [Ty] at h) | (refine condW_b (fun h => raw ?_) (fun h => raw ?_) <;> try simp only [Ty] at h) | (refine (ih1 x hxm _ cid v l inner ((hc9.keep k2).keep (.pushed _ _)) (by omega)).mono ?_; rintro _ _ ⟨⟨b, rfl, hb⟩, rfl⟩; refine raw ?_)))
      · exact FP.same (kk.trans (k2.push _)) (RE.f fun hh => iff_f hb h (by have := (rtE_iff.1 hh).g1 x hxm; rw [hinner.out] at this; exact this)) (.bool _)
      · exact ⟨i + 1, rfl, ⟨by omega, k2.push _, ⟨all_succ hall.out hx (hb.1 h)⟩⟩, by omega⟩
    · have hil' : ¬ (i : Int) < (gs.length : Int) := by omega
      have hall := hall.out
      rw [List.take_of_length_le (by omega)] at hall
      refine raw ?_
      repeat (first | (with_reducible refine unr ?_; try simp only [YY, ↓reduceIte, Za, Zb, Zc, reduceCtorEq, Zd, Ze, Zf, Zg, Zh, Zi, Zj, hil']) | (with_reducible refine WW (by decide) ?_))
      exact ⟨(), k2, ⟨hall⟩⟩
  rintro _ s2 ⟨k2, hgs⟩
  have he2 := k2.get he9
  refine raw ?_
  repeat (first | (with_reducible refine unr ?_; try simp only [YY, ↓reduceIte, Za, Zb, Zc, reduceCtorEq, Zd, Ze, Zf, Zg, Zh, Zi, Zj, he2]) | (with_reducible refine WW (by decide) ?_))
  refine AWP_while [0, 10, 253, 254, 255] (fun i : Nat => bs.length - i) (fun i => [.ptr cid 0 0 0, strs inner, .list (bs.map bindC), .int .i64 bs.length, .int .i64 i])
   (fun i t => i ≤ bs.length ∧ Kp s2 t ∧ Hid (∀ x, x ∈ bs.take i → x.2.RtE l inner)) 0 ⟨by simp, .refl _, ⟨by simp⟩⟩ ?_ ?_
  · refine raw ?_
    repeat (first | (with_reducible refine unr ?_; try simp only [YY, ↓reduceIte, Za, Zb, Zc, reduceCtorEq, Zd, Ze, Zf, Zg, Zh, Zi, Zj]) | (with_reducible refine WW (by decide) ?_))
    rfl
  rintro i t ⟨hi, k3, hall⟩
  have hw := wrap_succ (i := i) (by omega)
  by_cases hil : i < bs.length
  · have hil' : (i : Int) < (bs.length : Int) := by omega
    obtain ⟨x, hx⟩ : ∃ x, bs[i]? = some x := ⟨_, List.getElem?_eq_getElem hil⟩
    have hxm := List.mem_of_getElem? hx
    have hg : (bs.map bindC)[i]? = some (bindC x) := by simp [hx]
    refine raw ?_
    repeat' (first | (with_reducible refine unr ?_; try simp only [YY, ↓reduceIte, Za, Zb, Zc, reduceCtorEq, Zd, Ze, Zf, Zg, Zh, Zi, Zj, hil', hg, bindC, Cr.len, Cr.take9, str_nil, *]) | (with_reducible first | refine WW (by decide) ?_ | refine ok_idx (by first | assumption | omega) (fun b hb => raw ?_) | refine ok_iad (by first | assumption | omega) (fun x hx hxm => raw ?_) | refine And.intro (by omega) (raw ?_) | (refine guardW_b (fun h => raw ?_) (fun h => raw ?_) <;> try simp only [Ty] at h) | (refine ePick_b (fun h => raw ?_) (fun h => raw ?_) <;> try simp only [Ty] at h) | (refine condW_b (fun h => raw ?_) (fun h => raw ?_) <;> try simp only [Ty] at h) | (refine (ih3 x hxm _ cid v l inner ((hc9.keep (k2.trans k3)).keep (.pushed _ _)) (hin2 x hxm)).mono ?_; rintro _ _ ⟨⟨b, rfl, hb⟩, rfl⟩; refine raw ?_)))
    · exact FP.same (kk.trans (k2.trans (k3.push _))) (RE.f fun hh => iff_f hb h (by have := (rtE_iff.1 hh).g3 x hxm; rw [hinner.out] at this; exact this)) (.bool _)
    · exact ⟨i + 1, rfl, ⟨by omega, k3.push _, ⟨all_succ hall.out hx (hb.1 h)⟩⟩, by omega⟩
  · have hil' : ¬ (i : Int) < (bs.length : Int) := by omega
    have hall := hall.out
    rw [List.take_of_length_le (by omega)] at hall
    refine raw ?_
    repeat (first | (with_reducible refine unr ?_; try simp only [YY, ↓reduceIte, Za, Zb, Zc, reduceCtorEq, Zd, Ze, Zf, Zg, Zh, Zi, Zj, hil']) | (with_reducible refine WW (by decide) ?_))
    exact FP.same (kk.trans (k2.trans k3)) (RE.t (rtE_iff.2 ⟨hout.out.1, by rw [hinner.out]; exact hgs.out, hout.out.2.1.1, hout.out.2.1.2, by rw [hinner.out]; exact hall, hout.out.2.2.1, hout.out.2.2.2⟩)) (.bool _)
end Go.Proofs.Ytjjbjibbjbbeaaa
/- What is flat, exactly: the program's answer. -/
set_option linter.unusedVariables false
set_option linter.unusedSimpArgs false
namespace Go.AL
structure FlParts (now : Bool) (k : Int) (gs : List Cr) (al : List (AltH × Cr)) (bs : List (ByteArray × Cr)) (pk : List (Int × Cr)) : Prop where
 h6 : k ≠ 6
 hl : now = false → k ≠ 8 ∧ k ≠ 10 ∧ k ≠ 11
 g1 : ∀ x, x ∈ gs → Cr.Fl (now && !decide (k = 5)) x
 g2 : ∀ x, x ∈ al → Cr.Fl now x.2
 g3 : ∀ x, x ∈ bs → Cr.Fl false x.2
 g4 : ∀ x, x ∈ pk → Cr.Fl now x.2
end Go.AL
namespace Go.Proofs.Ytjjbjibbjbbeaaa
open Go.AL
end Go.Proofs.Ytjjbjibbjbbeaaa
