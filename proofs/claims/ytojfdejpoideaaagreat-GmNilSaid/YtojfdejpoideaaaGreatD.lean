/- A part of the proof of the claim: the abstract layer, the contracts of the functions, the law (no condition of its own). -/
import Derived.Test.YtojfdejpoideaaaGreatK3
import Derived.Test.YtojfdejpoideaaaGreatC
import Derived.Test.YtojfdejpoideaaaGreatG5
import Derived.Test.YtojfdejpoideaaaGreatG4
import Derived.Test.YtojfdejpoideaaaGreatH
open Nat renaming reduceEqDiff → Za, reduceAdd → Zb, reduceLeDiff → Zc
open Int renaming reduceEq → Zd, reduceLT → Ze, reduceLE → Zf, reduceNeg → Zg, reduceAdd → Zh, reduceSub → Zi, reduceToNat → Zj
/- GmNil: what stands where the machine begins. -/
set_option linter.unusedVariables false
set_option linter.unusedSimpArgs false
namespace Go.Proofs.YtojfdejpoideaaaGreat
open Go.AL
def prgO : AObj := .cells 60 0 5 [[.own 661 0 11 0 1, .own 662 0 5 0 2, .own 509 13 4 0 14, .int .i64 0, .int .i64 1]]
set_option maxRecDepth 100000 in
theorem l5_sub (o : AObj) : subF lfact5.l0 (trL ((1, o) :: lfact5.l0)) = true := by kernel_rfl
set_option maxRecDepth 100000 in
theorem l5_one (o : AObj) : (trL ((1, o) :: lfact5.l0)).get 1 = some o := by kernel_rfl
set_option maxRecDepth 100000 in
theorem l5_prg (o : AObj) : (trL ((1, o) :: lfact5.l0)).get 660 = some prgO := by kernel_rfl
set_option maxRecDepth 100000 in
theorem l5_post (o o' : AObj) : (trL (lfact5.ids.zip [o, o'] ++ lfact5.l1)).get 1 = some o ∧ (trL (lfact5.ids.zip [o, o'] ++ lfact5.l1)).get 676 = some o' ∧ (trL (lfact5.ids.zip [o, o'] ++ lfact5.l1)).get 660 = some prgO :=
 ⟨by kernel_rfl, by kernel_rfl, by kernel_rfl⟩
/-- What stands where the machine begins. -/
noncomputable def sgB (o : AObj) : Store := stF 675 (trL ((1, o) :: lfact5.l0))
theorem code17 {s : Store} {o o' : AObj} (hn : s.next = 677) (k : Kp (sgB o) s) (hb : s.get 676 = some o') :
 ACalls Tryz.prog 17 [.agg (globC ⟨#[102]⟩), .own 661 0 11 0 1, .own 662 0 5 0 2] s fun r s' => r = .tuple [.agg [.str ⟨#[]⟩, .int .i64 0, .bool false, .own 739 3 4 0 4], .int .i64 0] ∧ s'.next = 743 ∧ s'.get 1 = some o ∧ s'.get 676 = some o' ∧ s'.get 660 = some prgO := by
 have h := lfact5_ok [o, o'] rfl
 refine (ACalls.sub (σ := s) h (by rw [hn]; rfl) fun i x hi => ?_).mono fun r s' hr => ?_
 · have hi2 : i < 677 := Store.lt _ hi
   have hi' : (trL (lfact5.ids.zip [o, o'] ++ lfact5.l0)).get i = some x := by
    have := stF_get (n := 677) (hp := trL (lfact5.ids.zip [o, o'] ++ lfact5.l0)) hi2
    rw [← this]; exact hi
   have hm := trL_get hi'
   have e : lfact5.ids.zip [o, o'] ++ lfact5.l0 = (1, o) :: (676, o') :: lfact5.l0 := rfl
   rw [e] at hm
   have old : ∀ j y, j < 675 → (trL ((1, o) :: lfact5.l0)).get j = some y → s.get j = some y := fun j y hj hy => k.get (by unfold sgB; rw [stF_get hj]; exact hy)
   rcases List.mem_cons.1 hm with hm | hm
   · cases hm; exact old 1 _ (by omega) (l5_one _)
   · rcases List.mem_cons.1 hm with hm | hm
     · cases hm; exact hb
     · have h2 := subF_mem (l5_sub o) i x hm
       by_cases hlt : i < 675
       · exact old i x hlt h2
       · exfalso
         have hle : ∀ p, p ∈ lfact5.l0 → p.1 < 675 := by
          have : lfact5.l0.all (fun p => Nat.blt p.1 675) = true := by kernel_rfl
          intro p hp
          exact Nat.le_of_ble_eq_true (List.all_eq_true.1 this p hp)
         exact hlt (hle _ hm)
 · obtain ⟨rfl, rfl⟩ := hr
   obtain ⟨p1, p2, p3⟩ := l5_post o o'
   refine ⟨rfl, rfl, ?_, ?_, ?_⟩
   · exact (stF_get (n := 743) (by omega)).trans p1
   · exact (stF_get (n := 743) (by omega)).trans p2
   · exact (stF_get (n := 743) (by omega)).trans p3
end Go.Proofs.YtojfdejpoideaaaGreat
/- GmNil: a machine that begins. -/
set_option linter.unusedVariables false
set_option linter.unusedSimpArgs false
namespace Go.Proofs.YtojfdejpoideaaaGreat
open Go.AL
def machC (hid : Nat) (f h s v sel : Int) (w : AV) : List AV :=
 [.ptr 660 0 0 0, .str ⟨#[]⟩, .int .i64 0, .bool false, .own 739 3 4 0 4, .ptr hid 0 0 0, .int .i64 f, .int .i64 h, .int .i64 s, .int .i64 v, .int .i64 sel, w, .nils, .nils, .int .i64 (-1), .int .i64 0, .int .i64 0, .bool false, .int .i64 0, .int .i64 0, .nils, .bool false, .int .i64 0, .str ⟨#[]⟩, .int .i64 0, .nils, .int .i64 0]
theorem over20 {st : Store} {mid hid : Nat} {f h s v sel : Int} {w : AV} (c : Int) (hg : st.get mid = some (.cells 73 0 27 [machC hid f h s v sel w])) :
 ACalls Tryz.prog 20 [.ptr mid 0 0 0, .int .i64 c] st fun _ s' => s'.next = st.next ∧ ∀ j, j ≠ mid → s'.get j = st.get j := by
 refine in20 (by simp) ?_
 unfold c20
 have hlt := st.lt hg
 have hu : ∀ o : AObj, (st.upd mid o).get mid = some o := fun o => Store.get_upd_self _ _ hlt
 have hu2 : ∀ o o' : AObj, ((st.upd mid o).upd mid o').get mid = some o' := fun o o' => Store.get_upd_self _ _ (by rw [Store.upd_next]; exact hlt)
 unfold machC at hg
 refine raw ?_
 repeat (first | (with_reducible refine unr ?_; try simp only [YY, ↓reduceIte, Za, Zb, Zc, reduceCtorEq, Zd, Ze, Zf, Zg, Zh, Zi, Zj, hg, hu, hu2]) | (with_reducible refine WW (by decide) ?_))
 exact fun j hj => by rw [Store.get_upd_ne _ _ hj]
/-- Where so many codes have their nodes. -/
def CodesAt (o : AObj) (mid hid N : Nat) (f h s v sel : Int) (i : Nat) (st : Store) : Prop := i ≤ 14 ∧ st.get 1 = some o ∧ N ≤ st.next ∧ ∃ (w : AV) (gs : List (List AV)) (live : Nat), st.get mid = some (.cells 73 0 27 [machC hid f h s v sel w]) ∧ SliceAt st w 3 1 gs ∧ gs.length = i ∧ (∀ j, j ∈ slIds w → N ≤ j) ∧ live ≤ i ∧ HpAt st hid N live
theorem start5 (f h s v sel : Int) (o : AObj) (ho : No117 o) : ACalls Tryz.prog 5 [.ptr 660 0 0 0, .agg (globC ⟨#[102]⟩), .int .i64 sel, .agg [.int .i64 f, .int .i64 h, .int .i64 s, .int .i64 v]] (sgB o) fun r s' =>
 ((∃ id, BudQ f h s v ∧ r = .tuple [.ptr id 0 0 0, .int .i64 0]) ∨ (¬ BudQ f h s v ∧ r = .tuple [.nilp, .int .i64 1])) ∧ s'.get 1 = some o := by
 refine in5 (by simp) ?_
 unfold c5 globC
 have q1 : (sgB o).get 1 = some o := (stF_get (n := 675) (by omega)).trans (l5_one o)
 have q2 : (sgB o).get 660 = some prgO := (stF_get (n := 675) (by omega)).trans (l5_prg o)
 have q3 : (sgB o).next = 675 := rfl
 try simp only [YY, ↓reduceIte, Za, Zb, Zc, reduceCtorEq, Zd, Ze, Zf, Zg, Zh, Zi, Zj]
 iterate 2 ((with_reducible refine WW (by decide) ?_); refine unr ?_; try simp only [YY, ↓reduceIte, Za, Zb, Zc, reduceCtorEq, Zd, Ze, Zf, Zg, Zh, Zi, Zj])
 generalize hs : Store.push _ _ = s1
 have k1 : Kp (sgB o) s1 := by rw [← hs]; exact (Kp.pushed _ _).push _
 have n1 : s1.next = 677 := by rw [← hs]; rfl
 have g1 : s1.get 675 = some (.cells 28 0 9 [globC ⟨#[102]⟩]) := by rw [← hs]; simp [Store.push_get, Store.push_next, q3, globC]
 have g2 : s1.get 676 = some (.cells 30 0 4 [[.int .i64 f, .int .i64 h, .int .i64 s, .int .i64 v]]) := by rw [← hs]; simp [Store.push_get, Store.push_next, q3]
 rw [q3]
 clear hs
 have gp := k1.get q2
 have gp' := gp
 unfold prgO at gp
 have g1' := g1
 unfold globC at g1'
 have hnq : aNilEq .slice false (.own 509 13 4 0 14) .nils = some (.bool false) := by first | rfl | simp [aNilEq]
 refine raw ?_
 repeat (first | (with_reducible refine unr ?_; try simp only [YY, ↓reduceIte, Za, Zb, Zc, reduceCtorEq, Zd, Ze, Zf, Zg, Zh, Zi, Zj, gp, g2, hnq]) | (with_reducible refine WW (by decide) ?_))
 refine (right16 f h s v _).mono ?_
 rintro _ _ ⟨⟨b, rfl, hb⟩, rfl⟩
 rename_i s1
 cases b with
 | false =>
  refine raw ?_
  repeat (first | (with_reducible refine unr ?_; try simp only [YY, ↓reduceIte, Za, Zb, Zc, reduceCtorEq, Zd, Ze, Zf, Zg, Zh, Zi, Zj]) | (with_reducible refine WW (by decide) ?_))
  exact ⟨.inr fun hq => (by have := hb.2 hq; cases this), k1.get q1⟩
 | true =>
 have hbud := hb.1 rfl
 refine raw ?_
 repeat (first | (with_reducible refine unr ?_; try simp only [YY, ↓reduceIte, Za, Zb, Zc, reduceCtorEq, Zd, Ze, Zf, Zg, Zh, Zi, Zj, gp, g1']) | (with_reducible refine WW (by decide) ?_))
 have hc17 := code17 n1 k1 g2
 unfold globC at hc17
 refine hc17.mono ?_
 rintro _ s2 ⟨rfl, n2, e1, e2, e3⟩
 try simp only [YY, ↓reduceIte, Za, Zb, Zc, reduceCtorEq, Zd, Ze, Zf, Zg, Zh, Zi, Zj]
 iterate 0 ((with_reducible refine WW (by decide) ?_); refine unr ?_; try simp only [YY, ↓reduceIte, Za, Zb, Zc, reduceCtorEq, Zd, Ze, Zf, Zg, Zh, Zi, Zj])
 generalize hs : Store.push s2 _ = s3
 have k3 : Kp s2 s3 := by rw [← hs]; exact .pushed _ _
 have g3 : s3.get s2.next = some (.cells 63 0 4 [[.str ⟨#[]⟩, .int .i64 0, .bool false, .own 739 3 4 0 4]]) := by rw [← hs]; simp [Store.push_get]
 have n3 : s3.next = s2.next + 1 := by rw [← hs]; rfl
 clear hs
 have e1 := k3.get e1
 have e2 := k3.get e2
 have e3 := k3.get e3
 have e3' := e3
 unfold prgO at e3
 refine raw ?_
 repeat (first | (with_reducible refine unr ?_; try simp only [YY, ↓reduceIte, Za, Zb, Zc, reduceCtorEq, Zd, Ze, Zf, Zg, Zh, Zi, Zj, e2, g3]) | (with_reducible refine WW (by decide) ?_))
 obtain ⟨hb1, hb2, hb3, hb4, hb5, hb6, hb7⟩ := id hbud
 refine (new18 h hb3 hb4 _).mono ?_
 rintro _ _ ⟨rfl, rfl⟩
 generalize hs : Store.push s3 _ = s4
 have k4 : Kp s3 s4 := by rw [← hs]; exact .pushed _ _
 have g4 : s4.get s3.next = some (.cells 113 0 5 [[.int .i64 h, .nils, .nils, .int .i64 0, .int .i64 0]]) := by rw [← hs]; simp [Store.push_get]
 have n4 : s4.next = s3.next + 1 := by rw [← hs]; rfl
 clear hs
 have e1 := k4.get e1
 have e2 := k4.get e2
 have e3 := k4.get e3
 have g3' := k4.get g3
 try simp only [YY, ↓reduceIte, Za, Zb, Zc, reduceCtorEq, Zd, Ze, Zf, Zg, Zh, Zi, Zj, e2, g3']
 iterate 2 ((with_reducible refine WW (by decide) ?_); refine unr ?_; try simp only [YY, ↓reduceIte, Za, Zb, Zc, reduceCtorEq, Zd, Ze, Zf, Zg, Zh, Zi, Zj, e2, g3'])
 generalize hs : Store.push s4 _ = s5
 have k5 : Kp s4 s5 := by rw [← hs]; exact .pushed _ _
 have g5 : s5.get s4.next = some (.cells 73 0 27 [machC s3.next f h s v sel .nils]) := by rw [← hs]; simp [Store.push_get, machC]
 have n5 : s5.next = s4.next + 1 := by rw [← hs]; rfl
 clear hs
 have e1 := k5.get e1
 have e3 := k5.get e3
 have g4 := k5.get g4
 refine raw ?_
 repeat (first | (with_reducible refine unr ?_; try simp only [YY, ↓reduceIte, Za, Zb, Zc, reduceCtorEq, Zd, Ze, Zf, Zg, Zh, Zi, Zj, e3]) | (with_reducible refine WW (by decide) ?_))
 generalize hmid : s4.next = mid
 generalize hhid : s3.next = hid
 generalize hN : s5.next = N
 rw [hmid, hhid] at g5
 rw [hhid] at g4
 have hm1 : hid < mid := by omega
 have hm2 : mid < N := by omega
 have hm3 : 1 < hid := by omega
 refine AWP_while [12, 14, 63, 64] (fun i : Nat => 14 - i) (fun i => [.ptr hid 0 0 0, .ptr mid 0 0 0, .int .i64 14, .int .i64 (i : Int)]) (CodesAt o mid hid N f h s v sel) 0 ⟨by omega, e1, by omega, .nils, [], 0, g5, .nil _ _ _, rfl, fun j hj => by simp [slIds] at hj, by omega, h, .nils, [], 0, hb3, g4, .nil _ _ _, rfl, fun j hj => by simp [slIds] at hj⟩ ?_ ?_
 · refine raw ?_
   repeat (first | (with_reducible refine unr ?_; try simp only [YY, ↓reduceIte, Za, Zb, Zc, reduceCtorEq, Zd, Ze, Zf, Zg, Zh, Zi, Zj, hmid, hhid]) | (with_reducible refine WW (by decide) ?_))
   rfl
 clear g4 e1 e2 e3 g5 n5 k5
 rintro i st ⟨hi, e1, hNs, w, gs, live, g5, hw, hgs, hwN, hlive, hh⟩
 by_cases hc : (i : Int) < 14
 · refine raw ?_
   repeat (first | (with_reducible refine unr ?_; try simp only [YY, ↓reduceIte, Za, Zb, Zc, reduceCtorEq, Zd, Ze, Zf, Zg, Zh, Zi, Zj, hc]) | (with_reducible refine WW (by decide) ?_))
   refine (alloc19 (i : Int) hh (by omega) (by omega) hNs).mono ?_
   rintro _ st2 ⟨⟨a, e, live2, rfl, hl2, hh2⟩, kk⟩
   have e1 := kk.keep 1 o e1 ho (by omega)
   have g5 := kk.keep mid _ g5 (fun _ _ _ e => by cases e) (by omega)
   have hw2 : SliceAt st2 w 3 1 gs := hw.keep fun j hj => by
    obtain ⟨ver, es', hg⟩ := hw.ids hj
    rw [hg]
    have := hwN j hj
    exact kk.keep j _ hg (fun _ _ _ e => by cases e) (by omega)
   have hNs2 := kk.next
   by_cases he : e = 0
   · subst he
     unfold machC at g5
     have g5' := g5
     refine raw ?_
     repeat (first | (with_reducible refine unr ?_; try simp only [YY, ↓reduceIte, Za, Zb, Zc, reduceCtorEq, Zd, Ze, Zf, Zg, Zh, Zi, Zj, g5]) | (with_reducible refine WW (by decide) ?_))
     refine ok_app hw2 (es2 := [[.int .i64 a]]) (by simp) (by simp; omega) (by simp [maxLen]; omega) ?_
     intro w' st3 hw3 hfr
     have hmn : mid < st2.next := by omega
     have j5 : st3.get mid = _ := (hfr.keep mid hmn (fun hm => by have := hwN _ hm; omega)).trans g5
     have hu : ∀ o : AObj, (st3.upd mid o).get mid = some o := fun o => Store.get_upd_self _ _ (st3.lt j5)
     have hwr : IntKind.i64.wrap ((i : Int) + 1) = ((i + 1 : Nat) : Int) := wrap_succ (by omega)
     have hwN' : ∀ j, j ∈ slIds w' → N ≤ j := fun j hj => (hfr.fresh j hj).elim (hwN j) (fun h => by omega)
     refine raw ?_
     repeat (first | (with_reducible refine unr ?_; try simp only [YY, ↓reduceIte, Za, Zb, Zc, reduceCtorEq, Zd, Ze, Zf, Zg, Zh, Zi, Zj, j5, hw3.co, hu, hwr]) | (with_reducible refine WW (by decide) ?_))
     obtain ⟨cap, hv, es, al, p1, p2, p3, p4, p5⟩ := hh2
     refine ⟨i + 1, rfl, ⟨by omega, by rw [Store.get_upd_ne _ _ (by omega), hfr.keep 1 (by omega) (fun hm => by have := hwN _ hm; omega)]; exact e1, by rw [Store.upd_next]; have := hfr.next; omega, w', _, live2, hu _, hw3.keep fun j hj => Store.get_upd_ne _ _ (by have := hwN' j hj; omega), by simp [hgs], hwN', by omega, cap, hv, es, al, p1, by rw [Store.get_upd_ne _ _ (by omega), hfr.keep hid (by omega) (fun hm => by have := hwN _ hm; omega)]; exact p2, p3.keep fun j hj => ?_, p4, p5⟩, by omega⟩
     obtain ⟨ver, es', hg⟩ := p3.ids hj
     have := p5 j hj
     rw [Store.get_upd_ne _ _ (by omega), hfr.keep j (p3.lt hj) fun hm => ?_]
     obtain ⟨ver2, es2, hg2⟩ := hw2.ids hm
     rw [hg] at hg2
     cases hg2
   · refine raw ?_
     repeat (first | (with_reducible refine unr ?_; try simp only [YY, ↓reduceIte, Za, Zb, Zc, reduceCtorEq, Zd, Ze, Zf, Zg, Zh, Zi, Zj, he]) | (with_reducible refine WW (by decide) ?_))
     refine (over20 6 g5).mono ?_
     rintro _ st3 ⟨hn3, hk3⟩
     refine raw ?_
     repeat (first | (with_reducible refine unr ?_; try simp only [YY, ↓reduceIte, Za, Zb, Zc, reduceCtorEq, Zd, Ze, Zf, Zg, Zh, Zi, Zj]) | (with_reducible refine WW (by decide) ?_))
     exact ⟨.inl ⟨_, hbud, rfl⟩, by rw [hk3 1 (by omega)]; exact e1⟩
 · refine raw ?_
   repeat (first | (with_reducible refine unr ?_; try simp only [YY, ↓reduceIte, Za, Zb, Zc, reduceCtorEq, Zd, Ze, Zf, Zg, Zh, Zi, Zj, hc]) | (with_reducible refine WW (by decide) ?_))
   exact ⟨.inl ⟨_, hbud, rfl⟩, e1⟩
end Go.Proofs.YtojfdejpoideaaaGreat
/- GmNil: what is loaded. -/
set_option linter.unusedVariables false
set_option linter.unusedSimpArgs false
namespace Go.Proofs.YtojfdejpoideaaaGreat
open Go.AL
set_option maxRecDepth 100000 in
theorem l4_post (o0 o1 o2 : AObj) : (trL (lfact4.ids.zip [o0, o1, o2] ++ lfact4.l1)).get 1 = some o1 ∧ subF lfact5.l0 (trL (lfact4.ids.zip [o0, o1, o2] ++ lfact4.l1)) = true :=
 ⟨by kernel_rfl, by kernel_rfl⟩
set_option maxRecDepth 100000 in
theorem l5_low : lfact5.l0.all (fun p => Nat.blt p.1 674) = true := by kernel_rfl
/-- What is loaded from the text "f = 1". -/
theorem loaded12 {s : Store} {o0 o1 o2 : AObj} (hn : s.next = 3) (h0 : s.get 0 = some o0) (h1 : s.get 1 = some o1) (h2 : s.get 2 = some o2) :
 ACalls Tryz.prog 12 [.str ⟨#[102, 32, 61, 32, 49]⟩] s fun r s' => r = .tuple [.agg [.nils, .nils, .own 146 0 4 0 1], .own 469 1 11 0 1, .own 669 1 5 0 2, .ptr 660 0 0 0] ∧ s'.next = 674 ∧ s'.get 1 = some o1 ∧ ∀ i x, (i, x) ∈ lfact5.l0 → s'.get i = some x := by
 have h := lfact4_ok [o0, o1, o2] rfl
 refine (ACalls.sub (σ := s) h (by rw [hn]; rfl) fun i x hi => ?_).mono fun r s' hr => ?_
 · have hi2 : i < 3 := Store.lt _ hi
   have hi' : (trL (lfact4.ids.zip [o0, o1, o2] ++ lfact4.l0)).get i = some x := by
    have := stF_get (n := 3) (hp := trL (lfact4.ids.zip [o0, o1, o2] ++ lfact4.l0)) hi2
    rw [← this]; exact hi
   have hm := trL_get hi'
   have e : lfact4.ids.zip [o0, o1, o2] ++ lfact4.l0 = [(0, o0), (1, o1), (2, o2)] := rfl
   rw [e] at hm
   simp only [List.mem_cons, List.not_mem_nil, or_false] at hm
   rcases hm with hm | hm | hm <;> cases hm <;> assumption
 · obtain ⟨rfl, rfl⟩ := hr
   obtain ⟨p1, p2⟩ := l4_post o0 o1 o2
   refine ⟨rfl, rfl, (stF_get (n := 674) (by omega)).trans p1, fun i x hm => ?_⟩
   have hlt : i < 674 := Nat.le_of_ble_eq_true (List.all_eq_true.1 l5_low _ hm)
   exact (stF_get (n := 674) hlt).trans (subF_mem p2 i x hm)
/-- A machine that begins where that is loaded. -/
theorem start5' {st : Store} (f h s v sel : Int) (o : AObj) (ho : No117 o) (hn : st.next = 675) (h1 : st.get 1 = some o) (hl : ∀ i x, (i, x) ∈ lfact5.l0 → st.get i = some x) :
 ACalls Tryz.prog 5 [.ptr 660 0 0 0, .agg (globC ⟨#[102]⟩), .int .i64 sel, .agg [.int .i64 f, .int .i64 h, .int .i64 s, .int .i64 v]] st fun r s' =>
 ((∃ id, BudQ f h s v ∧ r = .tuple [.ptr id 0 0 0, .int .i64 0]) ∨ (¬ BudQ f h s v ∧ r = .tuple [.nilp, .int .i64 1])) ∧ s'.get 1 = some o := by
 refine ACalls.sub (start5 f h s v sel o ho) (by rw [hn]; rfl) fun i x hi => ?_
 have hi2 : i < 675 := Store.lt _ hi
 have hi' : (trL ((1, o) :: lfact5.l0)).get i = some x := by
  have := stF_get (n := 675) (hp := trL ((1, o) :: lfact5.l0)) hi2
  rw [← this]; exact hi
 rcases List.mem_cons.1 (trL_get hi') with hm | hm
 · cases hm; exact h1
 · exact hl i x hm
end Go.Proofs.YtojfdejpoideaaaGreat
/- GmNil: the law. -/
set_option linter.unusedVariables false
set_option linter.unusedSimpArgs false
namespace Go.Proofs.YtojfdejpoideaaaGreat
open Go.AL
theorem law3 (e : List AV) (he : e.length = 9) (sel f h s v : Int) : ACalls Tryz.prog 3 [.agg e, .int .i64 sel, .agg [.int .i64 f, .int .i64 h, .int .i64 s, .int .i64 v]] Store.empty fun r _ => r = .bool true := by
 refine in3 (by simp) ?_
 unfold c3
 try simp only [YY, ↓reduceIte, Za, Zb, Zc, reduceCtorEq, Zd, Ze, Zf, Zg, Zh, Zi, Zj]
 iterate 2 ((with_reducible refine WW (by decide) ?_); refine unr ?_; try simp only [YY, ↓reduceIte, Za, Zb, Zc, reduceCtorEq, Zd, Ze, Zf, Zg, Zh, Zi, Zj])
 generalize hs : Store.push _ _ = s1
 have n1 : s1.next = 2 := by rw [← hs]; rfl
 have g0 : s1.get 0 = some (.cells 28 0 9 [e]) := by rw [← hs]; simp [Store.push_get, Store.push_next, Store.empty, he]
 have g1 : s1.get 1 = some (.cells 30 0 4 [[.int .i64 f, .int .i64 h, .int .i64 s, .int .i64 v]]) := by rw [← hs]; simp [Store.push_get, Store.push_next, Store.empty]
 have hz : Store.empty.next = 0 := rfl
 rw [hz]
 clear hs
 have hte : List.take 9 e = e := List.take_of_length_le (by omega)
 refine raw ?_
 repeat (first | (with_reducible refine unr ?_; try simp only [YY, ↓reduceIte, Za, Zb, Zc, reduceCtorEq, Zd, Ze, Zf, Zg, Zh, Zi, Zj, g0, g1, hte, he]) | (with_reducible refine WW (by decide) ?_))
 refine (run0 e [.int .i64 f, .int .i64 h, .int .i64 s, .int .i64 v] he rfl sel _).mono ?_
 rintro _ _ ⟨rfl, rfl⟩
 rename_i s1
 unfold outZ
 try simp only [YY, ↓reduceIte, Za, Zb, Zc, reduceCtorEq, Zd, Ze, Zf, Zg, Zh, Zi, Zj]
 iterate 0 ((with_reducible refine WW (by decide) ?_); refine unr ?_; try simp only [YY, ↓reduceIte, Za, Zb, Zc, reduceCtorEq, Zd, Ze, Zf, Zg, Zh, Zi, Zj])
 generalize hs : Store.push s1 _ = s2
 have k2 : Kp s1 s2 := by rw [← hs]; exact .pushed _ _
 have n2 : s2.next = 3 := by rw [← hs, Store.push_next, n1]
 have g2 : s2.get 2 = some (.cells 37 0 5 [[.int .i64 0, .str ⟨#[]⟩, .int .i64 0, .nils, .int .i64 0]]) := by rw [← hs, ← n1]; simp [Store.push_get]
 have g0 := k2.get g0
 have g1 := k2.get g1
 rw [n1]
 clear hs
 refine raw ?_
 repeat (first | (with_reducible refine unr ?_; try simp only [YY, ↓reduceIte, Za, Zb, Zc, reduceCtorEq, Zd, Ze, Zf, Zg, Zh, Zi, Zj, g0, g1, hte, he]) | (with_reducible refine WW (by decide) ?_))
 refine (start0 e [.int .i64 f, .int .i64 h, .int .i64 s, .int .i64 v] he rfl sel _).mono ?_
 rintro _ _ ⟨rfl, rfl⟩
 rename_i s2
 refine raw ?_
 repeat (first | (with_reducible refine unr ?_; try simp only [YY, ↓reduceIte, Za, Zb, Zc, reduceCtorEq, Zd, Ze, Zf, Zg, Zh, Zi, Zj, g2]) | (with_reducible refine WW (by decide) ?_))
 refine (step0 _).mono ?_
 rintro _ _ ⟨rfl, rfl⟩
 rename_i s2
 refine raw ?_
 repeat (first | (with_reducible refine unr ?_; try simp only [YY, ↓reduceIte, Za, Zb, Zc, reduceCtorEq, Zd, Ze, Zf, Zg, Zh, Zi, Zj]) | (with_reducible refine WW (by decide) ?_))
 refine (out0 _).mono ?_
 rintro _ _ ⟨rfl, rfl⟩
 rename_i s2
 unfold outZ
 refine raw ?_
 repeat (first | (with_reducible refine unr ?_; try simp only [YY, ↓reduceIte, Za, Zb, Zc, reduceCtorEq, Zd, Ze, Zf, Zg, Zh, Zi, Zj]) | (with_reducible refine WW (by decide) ?_))
 refine (n8 _).mono ?_
 rintro _ _ ⟨rfl, rfl⟩
 rename_i s2
 refine raw ?_
 repeat (first | (with_reducible refine unr ?_; try simp only [YY, ↓reduceIte, Za, Zb, Zc, reduceCtorEq, Zd, Ze, Zf, Zg, Zh, Zi, Zj]) | (with_reducible refine WW (by decide) ?_))
 refine (n9 _).mono ?_
 rintro _ _ ⟨rfl, rfl⟩
 rename_i s2
 refine raw ?_
 repeat (first | (with_reducible refine unr ?_; try simp only [YY, ↓reduceIte, Za, Zb, Zc, reduceCtorEq, Zd, Ze, Zf, Zg, Zh, Zi, Zj]) | (with_reducible refine WW (by decide) ?_))
 refine (n10 _).mono ?_
 rintro _ _ ⟨rfl, rfl⟩
 rename_i s2
 refine raw ?_
 repeat (first | (with_reducible refine unr ?_; try simp only [YY, ↓reduceIte, Za, Zb, Zc, reduceCtorEq, Zd, Ze, Zf, Zg, Zh, Zi, Zj]) | (with_reducible refine WW (by decide) ?_))
 refine (n11 _).mono ?_
 rintro _ _ ⟨rfl, rfl⟩
 rename_i s2
 have hz3 : IntKind.i64.wrap (IntKind.i64.wrap (IntKind.i64.wrap 0 + 0) + 0) = 0 := by decide
 refine raw ?_
 repeat (first | (with_reducible refine unr ?_; try simp only [YY, ↓reduceIte, Za, Zb, Zc, reduceCtorEq, Zd, Ze, Zf, Zg, Zh, Zi, Zj, hz3]) | (with_reducible refine WW (by decide) ?_))
 refine (loaded12 n2 g0 g1 g2).mono ?_
 rintro _ s3 ⟨rfl, n3, e1, hl⟩
 clear g0 g1 g2 k2
 try simp only [YY, ↓reduceIte, Za, Zb, Zc, reduceCtorEq, Zd, Ze, Zf, Zg, Zh, Zi, Zj]
 iterate 0 ((with_reducible refine WW (by decide) ?_); refine unr ?_; try simp only [YY, ↓reduceIte, Za, Zb, Zc, reduceCtorEq, Zd, Ze, Zf, Zg, Zh, Zi, Zj])
 generalize hs : Store.push s3 _ = s4
 have k4 : Kp s3 s4 := by rw [← hs]; exact .pushed _ _
 have n4 : s4.next = 675 := by rw [← hs, Store.push_next, n3]
 have e1 := k4.get e1
 have hl4 : ∀ i x, (i, x) ∈ lfact5.l0 → s4.get i = some x := fun i x hm => k4.get (hl i x hm)
 clear hs
 refine raw ?_
 repeat (first | (with_reducible refine unr ?_; try simp only [YY, ↓reduceIte, Za, Zb, Zc, reduceCtorEq, Zd, Ze, Zf, Zg, Zh, Zi, Zj, e1]) | (with_reducible refine WW (by decide) ?_))
 refine (glob13 ⟨#[102]⟩ _).mono ?_
 rintro _ _ ⟨rfl, rfl⟩
 rename_i s4
 have hs5 := start5' f h s v sel _ (fun _ _ _ e => by cases e) n4 e1 hl4
 unfold globC at hs5 ⊢
 refine raw ?_
 repeat (first | (with_reducible refine unr ?_; try simp only [YY, ↓reduceIte, Za, Zb, Zc, reduceCtorEq, Zd, Ze, Zf, Zg, Zh, Zi, Zj, e1]) | (with_reducible refine WW (by decide) ?_))
 refine hs5.mono ?_
 rintro r s5 ⟨hr, e5⟩
 clear hs5 hl4 e1 k4
 rcases hr with ⟨id, hq, rfl⟩ | ⟨hq, rfl⟩
 · refine raw ?_
   repeat (first | (with_reducible refine unr ?_; try simp only [YY, ↓reduceIte, Za, Zb, Zc, reduceCtorEq, Zd, Ze, Zf, Zg, Zh, Zi, Zj, e5]) | (with_reducible refine WW (by decide) ?_))
   refine (right14 f h s v _).mono ?_
   rintro _ _ ⟨⟨b, rfl, hb⟩, rfl⟩
   rename_i s5
   obtain rfl : b = true := hb.2 hq
   refine raw ?_
   repeat (first | (with_reducible refine unr ?_; try simp only [YY, ↓reduceIte, Za, Zb, Zc, reduceCtorEq, Zd, Ze, Zf, Zg, Zh, Zi, Zj, e5]) | (with_reducible refine WW (by decide) ?_))
   refine (right14 f h s v _).mono ?_
   rintro _ _ ⟨⟨b, rfl, hb⟩, rfl⟩
   rename_i s5
   obtain rfl : b = true := hb.2 hq
   refine raw ?_
   repeat (first | (with_reducible refine unr ?_; try simp only [YY, ↓reduceIte, Za, Zb, Zc, reduceCtorEq, Zd, Ze, Zf, Zg, Zh, Zi, Zj]) | (with_reducible refine WW (by decide) ?_))
   refine (known_ok _).mono ?_
   rintro _ _ ⟨rfl, rfl⟩
   refine raw ?_
   repeat (first | (with_reducible refine unr ?_; try simp only [YY, ↓reduceIte, Za, Zb, Zc, reduceCtorEq, Zd, Ze, Zf, Zg, Zh, Zi, Zj]) | (with_reducible refine WW (by decide) ?_))
 · refine raw ?_
   repeat (first | (with_reducible refine unr ?_; try simp only [YY, ↓reduceIte, Za, Zb, Zc, reduceCtorEq, Zd, Ze, Zf, Zg, Zh, Zi, Zj, e5]) | (with_reducible refine WW (by decide) ?_))
   refine (right14 f h s v _).mono ?_
   rintro _ _ ⟨⟨b, rfl, hb⟩, rfl⟩
   rename_i s5
   obtain rfl : b = false := by cases b with | false => rfl | true => exact absurd (hb.1 rfl) hq
   refine raw ?_
   repeat (first | (with_reducible refine unr ?_; try simp only [YY, ↓reduceIte, Za, Zb, Zc, reduceCtorEq, Zd, Ze, Zf, Zg, Zh, Zi, Zj, e5]) | (with_reducible refine WW (by decide) ?_))
   refine (right14 f h s v _).mono ?_
   rintro _ _ ⟨⟨b, rfl, hb⟩, rfl⟩
   rename_i s5
   obtain rfl : b = false := by cases b with | false => rfl | true => exact absurd (hb.1 rfl) hq
   refine raw ?_
   repeat (first | (with_reducible refine unr ?_; try simp only [YY, ↓reduceIte, Za, Zb, Zc, reduceCtorEq, Zd, Ze, Zf, Zg, Zh, Zi, Zj]) | (with_reducible refine WW (by decide) ?_))
   refine (known_ok _).mono ?_
   rintro _ _ ⟨rfl, rfl⟩
   refine raw ?_
   repeat (first | (with_reducible refine unr ?_; try simp only [YY, ↓reduceIte, Za, Zb, Zc, reduceCtorEq, Zd, Ze, Zf, Zg, Zh, Zi, Zj]) | (with_reducible refine WW (by decide) ?_))
end Go.Proofs.YtojfdejpoideaaaGreat
