/- A part of the proof of the claim (no condition of its own). -/
import Derived.Test.YtgjcnkcepdoedaaGreatK1
import Derived.LoopN
import Derived.Scope
import Derived.IntWalk
open Nat renaming reduceEqDiff → Za, reduceAdd → Zb, reduceLeDiff → Zc
open Int renaming reduceEq → Zd, reduceLT → Ze, reduceLE → Zf, reduceNeg → Zg, reduceAdd → Zh, reduceSub → Zi, reduceToNat → Zj
set_option linter.unusedVariables false
set_option linter.unusedSimpArgs false
namespace Go.AL
open Go.RowKit

section
variable {P : Program} {B : Nat} {w0 : World} {σ : Store} {g : Ghost} {w : World}

theorem op_min2 (h : SR B w0 σ g w) {ts : Array TypeId} {ty : TypeId} {k k' : IntKind} {x y : Int} {vx vy : Value} (hx : RelV g (.int k x) vx) (hy : RelV g (.int k' y) vy) :
 OpOK P B w0 g w (do Pure.pure (.value (← Builtin.min_ ts ty #[vx, vy]))) (.int k (if y < x then y else x)) σ := by
 cases hx; cases hy
 exact OpOK.value h (v := .int k (if y < x then y else x)) (by simp [Builtin.min_, Builtin.min2]) (.int _ _)

theorem op_max2 (h : SR B w0 σ g w) {ts : Array TypeId} {ty : TypeId} {k k' : IntKind} {x y : Int} {vx vy : Value} (hx : RelV g (.int k x) vx) (hy : RelV g (.int k' y) vy) :
 OpOK P B w0 g w (do Pure.pure (.value (← Builtin.max_ ts ty #[vx, vy]))) (.int k (if x < y then y else x)) σ := by
 cases hx; cases hy
 exact OpOK.value h (v := .int k (if x < y then y else x)) (by simp [Builtin.max_, Builtin.max2]) (.int _ _)
theorem eff_sound {own : List Nat} {dst : Option Nat} {op : Op} {ao : AOp} (hop : resolveOp P own dst op = some ao) {o : Oper} (ho : o.op = op) {n : Nat} {tm : Nat → AV} {a : Act} (hT : RelT g n tm a) (h : SR B w0 σ g w)
 {r : AV} {σ' : Store} (he : ao.eff tm σ = some (r, σ')) : OpOK P B w0 g w (execOp a.eval o) r σ' := by
 obtain ⟨od, oo, oty, opos, oafter, oguard⟩ := o
 simp only at ho
 subst ho
 unfold resolveOp at hop
 split at hop
 · -- move
   rename_i x
   split at hop
   · rename_i x' hx; cases hop; cases he; exact OpOK.pure h (absX_rel hT hx)
   · cases hop
 · -- assign
   rename_i x
   split at hop
   · rename_i x' hx; cases hop; cases he; exact OpOK.pure h (absX_rel hT hx)
   · cases hop
 · -- pick
   rename_i c x y
   split at hop
   · rename_i c' x' y' hc hx hy
     cases hop
     simp only [AOp.eff] at he
     split at he
     · rename_i t ht
       cases he
       have h1 := absX_rel hT hc
       rw [ht] at h1
       show OpOK P B w0 g w (do Pure.pure (.value (if ← asBool (a.eval c) then a.eval x else a.eval y))) _ _
       generalize a.eval c = v at h1
       cases h1
       refine ⟨.value (if t then a.eval x else a.eval y), w, g, by simp [asBool], .refl g, h, .inl ⟨_, rfl, ?_⟩⟩
       cases t
       · exact absX_rel hT hy
       · exact absX_rel hT hx
     · cases he
   · cases hop
 · -- alloc
   split at hop
   · rename_i i z za hz
     cases hop
     obtain ⟨h1, h2, h3⟩ := zeroOf_some hz
     simp only [AOp.eff] at he
     split at he
     · rename_i cs hcs
       cases he
       exact op_alloc h (absConst_rel h3) hcs _ h1 h2
     · cases he
   · cases hop
 · -- box
   split at hop
   · rename_i x' hx
     cases hop
     simp only [AOp.eff] at he
     split at he
     · rename_i cs hcs
       cases he
       exact op_new h (absX_rel hT hx) hcs _
     · cases he
   · cases hop
 · -- build
   rename_i t parts
   split at hop
   · rename_i i z za fs hz hu
     split at hop
     · rename_i zc pl hzc hpl
       split at hop
       · rename_i l hl
         cases hop
         obtain ⟨h1, h2, h3⟩ := zeroOf_some hz
         obtain ⟨l1, l2⟩ := absParts_some hT hl
         simp only [AOp.eff] at he
         split at he
         · rename_i rr hr
           cases he
           refine op_build (P := P) h hu h1 h2 (places := pl.toArray) (fun w => ?_) (absConst_rel h3) hzc (parts := parts.map fun (i, x) => (i, a.eval x)) (aparts := l.map fun p => (p.1, p.2.1, p.2.2.ev tm)) (by simpa using l1) (fun k q o hq ho' => ?_) hr
           · have := places_some hpl w
             rw [Array.mapM_eq_mapM_toList]
             simp [this]
           · rw [Array.getElem?_map] at hq
             rw [List.getElem?_map] at ho'
             cases hp : parts[k]? with
             | none => simp [hp] at hq
             | some p =>
              cases hq2 : l[k]? with
              | none => simp [hq2] at ho'
              | some o2 =>
               simp [hp] at hq
               simp [hq2] at ho'
               subst hq
               subst ho'
               obtain ⟨c1, c2⟩ := l2 k p o2 (by simpa using hp) hq2
               exact ⟨by simpa using c1, c2⟩
         · cases he
       · cases hop
     · cases hop
   · rename_i i z za m e hz hu
     split at hop
     · rename_i zc ie hzc hie
       split at hop
       · rename_i l hl
         cases hop
         obtain ⟨h1, h2, h3⟩ := zeroOf_some hz
         obtain ⟨l1, l2⟩ := absParts_some hT hl
         simp only [AOp.eff] at he
         split at he
         · rename_i rr hr
           cases he
           refine op_buildA (P := P) h hu h1 h2 hie (absConst_rel h3) hzc (parts := parts.map fun (i, x) => (i, a.eval x)) (aparts := l.map fun p => (p.1, p.2.1, p.2.2.ev tm)) (by simpa using l1) (fun k q o hq ho' => ?_) hr
           rw [Array.getElem?_map] at hq
           rw [List.getElem?_map] at ho'
           cases hp : parts[k]? with
           | none => simp [hp] at hq
           | some p =>
            cases hq2 : l[k]? with
            | none => simp [hq2] at ho'
            | some o2 =>
             simp [hp] at hq
             simp [hq2] at ho'
             subst hq
             subst ho'
             obtain ⟨c1, c2⟩ := l2 k p o2 (by simpa using hp) hq2
             obtain ⟨x, hx1, hx2⟩ : ∃ x, (List.range m)[p.1]? = some x ∧ (x * ie.size, ie.size) = (o2.1, o2.2.1) := by
              rw [List.getElem?_map] at c1
              cases hx : (List.range m)[p.1]? with
              | none => rw [hx] at c1; cases c1
              | some x => rw [hx] at c1; exact ⟨x, rfl, Option.some.inj c1⟩
             have hxe : x = p.1 := by
              obtain ⟨q1, q2⟩ := List.getElem?_eq_some_iff.1 hx1
              rw [← q2]; simp
             subst hxe
             simp only [Prod.mk.injEq] at hx2
             exact ⟨⟨hx2.1.symm, hx2.2.symm⟩, c2⟩
         · cases he
       · cases hop
     · cases hop
   · cases hop
 · -- buildSlice
   rename_i t len parts
   split at hop
   · rename_i e i z hs
     split at hop
     · rename_i hc
       obtain ⟨rfl, c2, c3, c4⟩ := hc
       split at hop
       · rename_i xs hxs
         cases hop
         simp only [AOp.eff] at he
         split at he
         · rename_i es hes
           obtain ⟨s1, s2⟩ := sound_lit h hT hs c2 c3 c4 hxs hes
           generalize ownB own dst = bb at he
           cases bb
           · cases he; exact s1
           · cases he; exact s2
         · cases he
       · cases hop
     · cases hop
   · cases hop
 · -- load
   split at hop
   · rename_i agg d i a' hag hx
     cases hop
     obtain ⟨h1, h2, h3⟩ := aggOf_some hag
     have hr := absX_rel hT hx
     simp only [AOp.eff] at he
     split at he
     · rename_i id ver k off hp
       rw [hp] at hr
       split at he
       · rename_i ty v sz es hob
         split at he
         · rename_i hv
           subst hv
           split at he
           · rename_i e hek
             split at he
             · rename_i rr hrr
               cases he
               exact op_load_own h h1 h2 h3 hr hob hek hrr
             · cases he
           · cases he
         · cases he
       · cases he
     · rename_i cs off hp
       rw [hp] at hr
       split at he
       · rename_i rr hrr
         cases he
         exact op_load_frozen h h1 h2 h3 hr hrr
       · cases he
     · cases he
   · cases hop
 · -- store
   split at hop
   · rename_i i a' x' hi hx hy
     cases hop
     have hr := absX_rel hT hx
     have hry := absX_rel hT hy
     simp only [AOp.eff] at he
     split at he
     · rename_i id ver k off hp
       rw [hp] at hr
       split at he
       · rename_i cs hcs
         split at he
         · rename_i ty v s es hob
           split at he
           · rename_i hc
             obtain ⟨rfl, hl⟩ := hc
             split at he
             · rename_i e hek
               split at he
               · rename_i hle
                 cases he
                 exact op_store h hi hr hry hcs hl hob hek hle
               · cases he
             · cases he
           · cases he
         · cases he
       · cases he
     · cases he
   · cases hop
 · -- nilCheck
   rename_i x
   split at hop
   · rename_i x' hx
     cases hop
     have hr := absX_rel hT hx
     simp only [AOp.eff] at he
     split at he
     · rename_i id ver k off hp
       rw [hp] at hr
       cases he
       obtain ⟨ad, hv⟩ := hr.ptr_form
       refine ⟨.value (a.eval x), w, g, ?_, .refl g, h, .inl ⟨_, rfl, hr⟩⟩
       simp only [execOp]
       rw [hv]
       rfl
     · rename_i cs off hp
       rw [hp] at hr
       cases he
       refine ⟨.value (a.eval x), w, g, ?_, .refl g, h, .inl ⟨_, rfl, hr⟩⟩
       simp only [execOp]
       generalize a.eval x = v at hr
       cases hr
       rfl
     · rename_i f fs cs hp
       rw [hp] at hr
       cases he
       refine ⟨.value (a.eval x), w, g, ?_, .refl g, h, .inl ⟨_, rfl, hr⟩⟩
       simp only [execOp]
       generalize a.eval x = v at hr
       cases hr
       rfl
     · cases he
   · cases hop
 · -- binOp
   rename_i op t x y yt
   split at hop
   · rename_i d x' y' hu hx hy
     have hrx := absX_rel hT hx
     have hry := absX_rel hT hy
     split at hop
     · rename_i k hk
       cases hop
       simp only [AOp.eff] at he
       split at he
       · rename_i rr hrr
         cases he
         exact op_bin h hu (KK.of_fits hk) hrx hry hrr
       · cases he
     · split at hop
       · rename_i k hk
         simp only [Option.some.injEq] at hop
         split at hop
         · rename_i hpt
           cases hop
           obtain ⟨te, j, rfl, hj⟩ := ptrT_some hpt
           simp only [AOp.eff] at he
           split at he
           · rename_i id ver kk off id' ver' k' off' e1 e2
             split at he
             · rename_i ty v sz es ho
               split at he
               · rename_i hc
                 obtain ⟨rfl, rfl, rfl, rfl, rfl⟩ := hc
                 cases he
                 rw [e1] at hrx
                 rw [e2] at hry
                 exact op_ptrsame h (neg := false) rfl hu hj ho hrx hry
               · cases he
             · cases he
           · split at he
             · rename_i rr hrr
               cases he
               exact op_nileq h (neg := false) rfl hu (k := .ptr) rfl hrx hry hrr
             · cases he
         · cases hop
           simp only [AOp.eff] at he
           split at he
           · rename_i rr hrr
             cases he
             exact op_nileq h (neg := false) rfl hu (NK.of_fits hk) hrx hry hrr
           · cases he
       · rename_i k hk
         simp only [Option.some.injEq] at hop
         split at hop
         · rename_i hpt
           cases hop
           obtain ⟨te, j, rfl, hj⟩ := ptrT_some hpt
           simp only [AOp.eff] at he
           split at he
           · rename_i id ver kk off id' ver' k' off' e1 e2
             split at he
             · rename_i ty v sz es ho
               split at he
               · rename_i hc
                 obtain ⟨rfl, rfl, rfl, rfl, rfl⟩ := hc
                 cases he
                 rw [e1] at hrx
                 rw [e2] at hry
                 exact op_ptrsame h (neg := true) rfl hu hj ho hrx hry
               · cases he
             · cases he
           · split at he
             · rename_i rr hrr
               cases he
               exact op_nileq h (neg := true) rfl hu (k := .ptr) rfl hrx hry hrr
             · cases he
         · cases hop
           simp only [AOp.eff] at he
           split at he
           · rename_i rr hrr
             cases he
             exact op_nileq h (neg := true) rfl hu (NK.of_fits hk) hrx hry hrr
           · cases he
       · split at hop
         · rename_i ks hks
           cases hop
           simp only [AOp.eff] at he
           split at he
           · rename_i rr hrr
             cases he
             exact op_bin_rec h (rowKK_some hks) hrx hry hrr
           · cases he
         · cases hop
       · split at hop
         · rename_i ks hks
           cases hop
           simp only [AOp.eff] at he
           split at he
           · rename_i rr hrr
             cases he
             exact op_bin_rec h (rowKK_some hks) hrx hry hrr
           · cases he
         · cases hop
       · cases hop
   · cases hop
 · -- unOp
   split at hop
   · rename_i x' hx
     cases hop
     have hr := absX_rel hT hx
     simp only [AOp.eff] at he
     split at he
     · rename_i b hb
       rw [hb] at hr
       cases he
       rename_i t x _ _ _
       refine OpOK.value h (v := .bool (!b)) ?_ (.bool _)
       generalize a.eval _ = v at hr
       cases hr
       simp [Op.unary]
     · cases he
   · rename_i x' hx
     cases hop
     have hr := absX_rel hT hx
     simp only [AOp.eff] at he
     split at he
     · rename_i k m hb
       rw [hb] at hr
       cases he
       refine OpOK.value h (v := .int k (k.wrap (0 - m))) ?_ (.int _ _)
       generalize a.eval _ = v at hr
       cases hr
       simp [Op.unary, Op.intArith]
     · cases he
   · cases hop
 · -- convert
   split at hop
   · rename_i k0 k x' hs hd hx
     cases hop
     have hr := absX_rel hT hx
     simp only [AOp.eff] at he
     split at he
     · rename_i k1 m hb
       rw [hb] at hr
       cases he
       refine OpOK.value h (v := .int k (k.wrap m)) ?_ (.int _ _)
       generalize a.eval _ = v at hr
       cases hr
       simp [convert, run_underlying hs, run_underlying hd, Conv.intToInt]
     · cases he
   · rename_i x' hs hd hx
     cases hop
     have hr := absX_rel hT hx
     simp only [AOp.eff] at he
     split at he
     · rename_i s hb
       rw [hb] at hr
       cases he
       refine OpOK.value h (v := .string s) ?_ ?_
       · generalize a.eval _ = v at hr
         cases hr
         simp [convert, run_underlying hs, run_underlying hd]
       · generalize a.eval _ = v at hr
         cases hr
         exact .str _ (by assumption)
     · cases he
   · rename_i e x' hs hd hx
     split at hop
     · rename_i hu8
       cases hop
       have hr := absX_rel hT hx
       simp only [AOp.eff] at he
       split at he
       · rename_i es hes
         split at he
         · rename_i h1
           split at he
           · rename_i ns hns
             cases he
             exact op_bytes h hs hu8 hd hr hes h1 hns
           · cases he
         · cases he
       · cases he
     · cases hop
   · rename_i t x' hs hd hx
     split at hop
     · rename_i j hj
       split at hop
       · rename_i hj0
         cases hop
         have hr := absX_rel hT hx
         simp only [AOp.eff] at he
         split at he
         · rename_i id ver k off hv
           split at he
           · rename_i ty v sz es ho
             split at he
             · rename_i hc
               obtain ⟨rfl, h1, h2⟩ := hc
               cases he
               rw [hv] at hr
               exact op_uptr h hs hd hj hj0 ho h1 h2 hr
             · cases he
           · cases he
         · cases he
       · cases hop
     · cases hop
   · rename_i u x' hs hd hx
     split at hop
     · rename_i j fs hj hu
       cases hop
       have hr := absX_rel hT hx
       simp only [AOp.eff] at he
       split at he
       · rename_i id ver k off hv
         split at he
         · rename_i ty v sz es ho
           split at he
           · rename_i hc
             obtain ⟨rfl, rfl, rfl, h1, h2⟩ := hc
             cases he
             rw [hv] at hr
             obtain ⟨h3, h4, h5⟩ := liesTys_mem h2
             exact op_ufrom h hs hd hj (by rw [hu]; intro m e' hh; cases hh) ho (by intro hh; subst hh; simp at h1) h3 h4 h5 hr
           · cases he
         · cases he
       · cases he
     · cases hop
   · cases hop
 · -- makeFunc
   rename_i fn first captured
   split at hop
   · rename_i xs ys hxs hys
     cases hop
     cases he
     obtain ⟨l1, l2⟩ := absXs_rel hT hxs
     obtain ⟨m1, m2⟩ := absXs_rel hT hys
     refine OpOK.value h (v := .func fn (first.map a.eval) (captured.map a.eval)) (by simp [Instr.makeFunc]) (.fn (by simpa using l1) (by simpa using m1) (fun j c hj => ?_) (fun j c hj => ?_))
     · rw [List.getElem?_map] at hj
       cases hx : xs[j]? with
       | none => simp [hx] at hj
       | some x => simp [hx] at hj; subst hj; have := l2 j x hx; simpa [List.getD_eq_getElem?_getD] using this
     · rw [List.getElem?_map] at hj
       cases hx : ys[j]? with
       | none => simp [hx] at hj
       | some x => simp [hx] at hj; subst hj; have := m2 j x hx; simpa [List.getD_eq_getElem?_getD] using this
   · cases hop
 · -- makeMap
   cases hop
   cases he
   exact op_makeMap h
 · -- makeSlice
   rename_i t l c
   split at hop
   · rename_i e i z l' c' hs hl hc
     split at hop
     · rename_i za hza
       split at hop
       · rename_i zc hzc
         cases hop
         obtain ⟨hu, hi, hz, hzs, hsz⟩ := sliceInfo_some hs
         have hrl := absX_rel hT hl
         have hrc := absX_rel hT hc
         simp only [AOp.eff] at he
         split at he
         · rename_i k1 li k2 ci h1 h2
           rw [h1] at hrl
           rw [h2] at hrc
           split at he
           · rename_i hcond
             cases he
             show OpOK P B w0 g w (do Pure.pure (.value (← Instr.makeSlice t (a.eval l) (a.eval c)))) _ _
             generalize a.eval l = vl at hrl
             generalize a.eval c = vc at hrc
             cases hrl; cases hrc
             exact op_makeSlice h hu hi hz hzs hsz (absConst_rel hza) hzc hcond.1 hcond.2.1 hcond.2.2.1 hcond.2.2.2
           · cases he
         · cases he
       · cases hop
     · cases hop
   · cases hop
 · -- slice
   rename_i t x lo hi
   split at hop
   · rename_i x' lo' hi' hx hlo hhi
     split at hop
     · rename_i hu
       cases hop
       exact sound_cut h hT hx hlo hhi (.inl ⟨rfl, hu⟩) he
     · split at hop
       · rename_i e i z hs
         cases hop
         exact sound_cut h hT hx hlo hhi (.inr ⟨rfl, e, i, z, hs, rfl⟩) he
       · cases hop
   · cases hop
 · -- fieldAddr
   split at hop
   · rename_i f x' hf hx
     split at hop
     · rename_i i hi
       split at hop
       · rename_i hz
         cases hop
         obtain ⟨fs, hu, hfn⟩ := fieldOf_some hf
         have hr := absX_rel hT hx
         simp only [AOp.eff] at he
         split at he
         · rename_i id ver k o hp
           rw [hp] at hr
           split at he
           · rename_i ty v sz es hob
             split at he
             · rename_i hv
               subst hv
               cases he
               exact op_faddr_own h hu hfn hi hz hr hob (h.ver hob)
             · cases he
           · cases he
         · rename_i cs o hp
           rw [hp] at hr
           cases he
           exact op_faddr_frozen h hu hfn hi hz hr
         · cases he
       · cases hop
     · cases hop
   · cases hop
 · -- field
   split at hop
   · rename_i f x' hf hx
     split at hop
     · rename_i agg d i hag
       cases hop
       obtain ⟨fs, hu, hfn⟩ := fieldOf_some hf
       obtain ⟨h1, h2, h3⟩ := aggOf_some hag
       have hr := absX_rel hT hx
       simp only [AOp.eff] at he
       split at he
       · rename_i cs hcs
         rw [hcs] at hr
         split at he
         · rename_i rr hrr
           cases he
           exact op_field h hu hfn h1 h2 h3 hr hrr
         · cases he
       · cases he
     · cases hop
   · cases hop
 · -- indexAddr
   rename_i t x ix
   split at hop
   · rename_i e i z x' ix' hs hx hix
     cases hop
     obtain ⟨hu, hi, hz, hzs, hsz⟩ := sliceInfo_some hs
     have hrx := absX_rel hT hx
     have hri := absX_rel hT hix
     simp only [AOp.eff] at he
     show OpOK P B w0 g w (do Pure.pure (.value (← Instr.indexAt t (a.eval x) (a.eval ix)))) _ _
     split at he
     · rename_i k m hm
       rw [hm] at hri
       generalize a.eval ix = vi at hri
       cases hri
       split at he
       · rename_i es hes
         rw [hes] at hrx
         split at he
         · rename_i h0
           split at he
           · rename_i c hc
             split at he
             · rename_i hcl
               cases he
               exact op_iaddr_list h hu hi hrx h0 hc hcl
             · cases he
           · cases he
         · cases he
       · rename_i id ver s off ln hes
         rw [hes] at hrx
         split at he
         · rename_i ty v sz' es hob
           split at he
           · rename_i hc
             obtain ⟨rfl, rfl, c1, c2⟩ := hc
             cases he
             exact op_iaddr_own h hu hi hrx hob (h.ver hob) c1 c2
           · cases he
         · cases he
       · cases he
     · cases he
   · cases hop
 · -- index
   rename_i t x ix
   split at hop
   · rename_i x' ix' hu hx hix
     cases hop
     have hrx := absX_rel hT hx
     have hri := absX_rel hT hix
     simp only [AOp.eff] at he
     show OpOK P B w0 g w (do Pure.pure (.value (← Instr.index t (a.eval x) (a.eval ix)))) _ _
     split at he
     · rename_i s k m h1 h2
       rw [h1] at hrx
       rw [h2] at hri
       generalize a.eval ix = vi at hri
       cases hri
       split at he
       · rename_i h0
         split at he
         · rename_i b hb
           cases he
           exact op_index_str h hu hrx h0 hb
         · cases he
       · cases he
     · cases he
   · cases hop
 · -- lookup
   split at hop
   · rename_i kt et kd m' k' hmi hm hk
     split at hop
     · rename_i i z za hz
       cases hop
       obtain ⟨hu, hkd⟩ := mapInfo_some hmi
       obtain ⟨h1, h2, h3⟩ := zeroOf_some hz
       have hrm := absX_rel hT hm
       have hrk := absX_rel hT hk
       simp only [AOp.eff] at he
       split at he
       · rename_i id hid
         rw [hid] at hrm
         split at he
         · rename_i es hob
           split at he
           · rename_i rr hrr
             cases he
             exact op_lookup h hu hkd h1 h2 (absConst_rel h3) hrm hob hrk hrr _
           · cases he
         · cases he
       · cases he
     · cases hop
   · cases hop
 · -- mapUpdate
   split at hop
   · rename_i kt et kd m' k' x' hmi hm hk hx
     cases hop
     obtain ⟨hu, hkd⟩ := mapInfo_some hmi
     have hrm := absX_rel hT hm
     simp only [AOp.eff] at he
     split at he
     · rename_i id hid
       rw [hid] at hrm
       split at he
       · rename_i es hob
         split at he
         · rename_i rr hrr
           cases he
           exact op_mapset h hu hkd hrm hob (absX_rel hT hk) (absX_rel hT hx) hrr
         · cases he
       · cases he
     · cases he
   · cases hop
 · -- insert
   split at hop
   · rename_i kt et kd m' k' x' hmi hm hk hx
     cases hop
     obtain ⟨hu, hkd⟩ := mapInfo_some hmi
     have hrm := absX_rel hT hm
     simp only [AOp.eff] at he
     split at he
     · rename_i id hid
       rw [hid] at hrm
       split at he
       · rename_i es hob
         split at he
         · rename_i rr hrr
           cases he
           exact op_mapset h hu hkd hrm hob (absX_rel hT hk) (absX_rel hT hx) hrr
         · cases he
       · cases he
     · cases he
   · cases hop
 · -- extract
   split at hop
   · rename_i x' hx
     cases hop
     have hr := absX_rel hT hx
     simp only [AOp.eff] at he
     split at he
     · rename_i vs hvs
       rw [hvs] at hr
       split at he
       · rename_i rr hrr
         cases he
         exact op_extract h hr hrr
       · cases he
     · cases he
   · cases hop
 · -- len
   rename_i args argTypes
   split at hop
   · rename_i x t hargs htys
     obtain rfl : args = #[x] := by simpa using congrArg List.toArray hargs
     obtain rfl : argTypes = #[t] := by simpa using congrArg List.toArray htys
     have hgo : execOp a.eval ⟨od, .call { callee := .builtin .len, args := #[x], argTypes := #[t] }, oty, opos, oafter, oguard⟩ = (do Pure.pure (.value (← Builtin.len_ #[t] oty #[a.eval x]))) := by simp [execOp, resolve, invoke, builtin]
     rw [hgo]
     split at hop <;> first | (cases hop; done) | skip
     · rename_i x' hx hu
       cases hop
       have hr := absX_rel hT hx
       simp only [AOp.eff] at he
       split at he <;> first | (cases he; done) | skip
       · rename_i s hs; rw [hs] at hr; cases he; exact op_len_str h hu hr
       all_goals (rename_i hk _; cases hk)
     · rename_i x' e hx hu
       cases hop
       have hr := absX_rel hT hx
       simp only [AOp.eff] at he
       split at he <;> first | (cases he; done) | skip
       · rename_i hk _; cases hk
       · rename_i es hs; rw [hs] at hr; cases he; exact op_len_list h hu hr
       · rename_i hs; rw [hs] at hr; cases he; exact op_len_nils h hu hr
       · rename_i id ver sz off ln hs; rw [hs] at hr; cases he; exact op_len_own h hu hr
       · rename_i hk _; cases hk
     · rename_i x' kt et hx hu
       cases hop
       have hr := absX_rel hT hx
       simp only [AOp.eff] at he
       split at he <;> first | (cases he; done) | skip
       · rename_i hk _; cases hk
       · rename_i hk _; cases hk
       · rename_i hk _; cases hk
       · rename_i hk _; cases hk
       · rename_i id hs
         rw [hs] at hr
         split at he
         · rename_i es hob; cases he; exact op_len_map h hu hr hob
         · cases he
   · cases hop
 · -- append
   rename_i args argTypes
   split at hop
   · rename_i s x t t' hargs htys
     split at hop
     · rename_i htt
       subst htt
       split at hop
       · rename_i e i z s' x' hs h1 h2
         cases hop
         obtain rfl : args = #[s, x] := by simpa using congrArg List.toArray hargs
         obtain rfl : argTypes = #[t, t] := by simpa using congrArg List.toArray htys
         have hgo : execOp a.eval ⟨od, .call { callee := .builtin .append, args := #[s, x], argTypes := #[t, t] }, oty, opos, oafter, oguard⟩ = (do Pure.pure (.value (← Builtin.append_ #[t, t] oty #[a.eval s, a.eval x]))) := by simp [execOp, resolve, invoke, builtin]
         rw [hgo]
         exact sound_append h hs (absX_rel hT h1) (absX_rel hT h2) he
       · cases hop
     · split at hop
       · rename_i e s' x' hbs hu h1 h2
         cases hop
         obtain ⟨i, q1, q2, q3, q4, q5⟩ := byteSlice_some hbs
         obtain rfl : args = #[s, x] := by simpa using congrArg List.toArray hargs
         obtain rfl : argTypes = #[t, t'] := by simpa using congrArg List.toArray htys
         have hgo : execOp a.eval ⟨od, .call { callee := .builtin .append, args := #[s, x], argTypes := #[t, t'] }, oty, opos, oafter, oguard⟩ = (do Pure.pure (.value (← Builtin.append_ #[t, t'] oty #[a.eval s, a.eval x]))) := by simp [execOp, resolve, invoke, builtin]
         rw [hgo]
         have hr1 := absX_rel hT h1
         have hr2 := absX_rel hT h2
         simp only [AOp.eff] at he
         split at he
         · rename_i b hb
           rw [hb] at hr2
           generalize a.eval x = vx at hr2
           cases hr2 with
           | str _ hbl =>
            split at he
            · rename_i hn
              split at he
              · rename_i hc
                cases he
                rw [hn] at hr1
                generalize a.eval s = vs at hr1
                cases hr1
                exact op_appends_nil h q1 hu q2 q5 q3 q4 hbl hc
              · cases he
            · rename_i id ver sz off ln hso
              split at he
              · rename_i t2 v z es0 ho
                split at he
                · rename_i hc
                  obtain ⟨⟨rfl, rfl, rfl, rfl, rfl, hle⟩, h3, h4⟩ := hc
                  cases he
                  rw [hso] at hr1
                  exact op_appends_own h q1 hu q2 q5 q3 q4 hr1 ho hle h3 h4
                · cases he
              · cases he
            · cases he
         · cases he
       · cases hop
   · cases hop
 · -- unsafeSliceData
   rename_i args argTypes
   split at hop
   · rename_i x t hargs htys
     split at hop
     · rename_i e i z x' hs hx
       cases hop
       obtain rfl : args = #[x] := by simpa using congrArg List.toArray hargs
       obtain rfl : argTypes = #[t] := by simpa using congrArg List.toArray htys
       have hr := absX_rel hT hx
       have hgo : execOp a.eval ⟨od, .call { callee := .builtin .unsafeSliceData, args := #[x], argTypes := #[t] }, oty, opos, oafter, oguard⟩ = (do Pure.pure (.value (← Builtin.unsafeSliceData_ #[t] oty #[a.eval x]))) := by simp [execOp, resolve, invoke, builtin]
       rw [hgo]
       simp only [AOp.eff] at he
       split at he
       · rename_i hn
         cases he
         rw [hn] at hr
         exact op_sdata_nil h hr
       · rename_i id ver s off ln hso
         rw [hso] at hr
         split at he
         · rename_i t2 v z2 es ho
           split at he
           · rename_i hc
             obtain ⟨rfl, rfl, rfl, h1⟩ := hc
             cases he
             obtain ⟨p, hp, h2, h3, -⟩ := h.objs id _ ho
             cases hr with
             | own hid hl hv hpp =>
              obtain ⟨q1, -⟩ := (hpp p hp).2 h2
              rw [h3] at q1
              subst q1
              exact op_sdata h ho h1 (.own hid hl hv hpp)
           · cases he
         · cases he
       · cases he
     · cases hop
   · cases hop
 · -- unsafeString
   rename_i args argTypes
   split at hop
   · rename_i p n pt it hargs htys
     split at hop
     · rename_i e p' n' hu hp hn
       split at hop
       · rename_i hce
         cases hop
         obtain rfl : args = #[p, n] := by simpa using congrArg List.toArray hargs
         obtain rfl : argTypes = #[pt, it] := by simpa using congrArg List.toArray htys
         have hr1 := absX_rel hT hp
         have hr2 := absX_rel hT hn
         have hgo : execOp a.eval ⟨od, .call { callee := .builtin .unsafeString, args := #[p, n], argTypes := #[pt, it] }, oty, opos, oafter, oguard⟩ = (do Pure.pure (.value (← Builtin.unsafeString_ #[pt, it] oty #[a.eval p, a.eval n]))) := by simp [execOp, resolve, invoke, builtin]
         rw [hgo]
         simp only [AOp.eff] at he
         split at he
         · rename_i m h1 h2
           rw [h1] at hr1
           rw [h2] at hr2
           split at he
           · rename_i hm
             subst hm
             cases he
             generalize a.eval n = vn at hr2
             cases hr2
             exact op_ustr_nil h hr1
           · cases he
         · rename_i id ver k off m h1 h2
           rw [h1] at hr1
           rw [h2] at hr2
           split at he
           · rename_i t2 v s2 es ho
             split at he
             · rename_i hc
               obtain ⟨⟨rfl, rfl, rfl, rfl, rfl⟩, h3, h4, h5⟩ := hc
               split at he
               · rename_i l hl
                 cases he
                 obtain ⟨m, rfl⟩ := Int.eq_ofNat_of_zero_le (Int.le_of_lt h3)
                 generalize a.eval n = vn at hr2
                 cases hr2
                 simp only [Int.toNat_natCast] at h4 h5 hl
                 exact op_ustr h hu hce ho h4 hl (by omega) h5 hr1
               · cases he
             · cases he
           · cases he
         · cases he
       · cases hop
     · cases hop
   · cases hop
 · -- min
   rename_i args argTypes
   split at hop
   · rename_i x y hargs
     split at hop
     · rename_i x' y' h1 h2
       cases hop
       obtain rfl : args = #[x, y] := by simpa using congrArg List.toArray hargs
       have hr1 := absX_rel hT h1
       have hr2 := absX_rel hT h2
       simp only [AOp.eff] at he
       split at he
       · rename_i k m k' m' e1 e2
         rw [e1] at hr1
         rw [e2] at hr2
         cases he
         have hgo : execOp a.eval ⟨od, .call { callee := .builtin .min, args := #[x, y], argTypes := argTypes }, oty, opos, oafter, oguard⟩ = (do Pure.pure (.value (← Builtin.min_ argTypes oty #[a.eval x, a.eval y]))) := by simp [execOp, resolve, invoke, builtin]
         rw [hgo]
         exact op_min2 h hr1 hr2
       · cases he
     · cases hop
   · cases hop
 · -- max
   rename_i args argTypes
   split at hop
   · rename_i x y hargs
     split at hop
     · rename_i x' y' h1 h2
       cases hop
       obtain rfl : args = #[x, y] := by simpa using congrArg List.toArray hargs
       have hr1 := absX_rel hT h1
       have hr2 := absX_rel hT h2
       simp only [AOp.eff] at he
       split at he
       · rename_i k m k' m' e1 e2
         rw [e1] at hr1
         rw [e2] at hr2
         cases he
         have hgo : execOp a.eval ⟨od, .call { callee := .builtin .max, args := #[x, y], argTypes := argTypes }, oty, opos, oafter, oguard⟩ = (do Pure.pure (.value (← Builtin.max_ argTypes oty #[a.eval x, a.eval y]))) := by simp [execOp, resolve, invoke, builtin]
         rw [hgo]
         exact op_max2 h hr1 hr2
       · cases he
     · cases hop
   · cases hop
 · -- delete
   rename_i args argTypes
   split at hop
   · rename_i m k t t' hargs htys
     split at hop
     · rename_i kt et kd m' k' hmi hm hk
       cases hop
       obtain rfl : args = #[m, k] := by simpa using congrArg List.toArray hargs
       obtain rfl : argTypes = #[t, t'] := by simpa using congrArg List.toArray htys
       obtain ⟨hu, hkd⟩ := mapInfo_some hmi
       have hrm := absX_rel hT hm
       simp only [AOp.eff] at he
       split at he
       · rename_i id hid
         rw [hid] at hrm
         split at he
         · rename_i es hob
           split at he
           · rename_i rr hrr
             cases he
             have hgo : execOp a.eval ⟨od, .call { callee := .builtin .delete, args := #[m, k], argTypes := #[t, t'] }, oty, opos, oafter, oguard⟩ = (do Pure.pure (.value (← Builtin.delete_ #[t, t'] oty #[a.eval m, a.eval k]))) := by simp [execOp, resolve, invoke, builtin]
             rw [hgo]
             exact op_mapdel h hu hkd hrm hob (absX_rel hT hk) hrr
           · cases he
         · cases he
       · cases he
     · cases hop
   · cases hop
 · -- call
   split at hop
   · cases hop; cases he
   · cases hop
 · split at hop
   · cases hop; cases he
   · cases hop
 · cases hop
end
end Go.AL
set_option linter.unusedVariables false
set_option linter.unusedSimpArgs false
namespace Go.AL
open Go.RowKit

def CallRuns (P : Program) (f : FuncId) (vs : Array Value) (w : World) (R : Value → World → Prop) : Prop :=
 (∃ w', (callFunc f vs).run P w = .ok (.enter f vs) w' ∧ Calls P f vs w' fun e w'' => ∃ v, e = .returned v ∧ R v w'') ∨
 (∃ v w', (callFunc f vs).run P w = .ok (.value v) w' ∧ R v w')

def ACalls (P : Program) (f : FuncId) (args : List AV) (σ : Store) (K : AV → Store → Prop) : Prop :=
 ∀ (B : Nat) (w0 : World) (g : Ghost) (w : World) (vs : Array Value), SR B w0 σ g w → vs.size = args.length → (∀ j c, args[j]? = some c → RelV g c (vs.getD j undef)) →
  CallRuns P f vs w fun v w' => ∃ r σ' g', K r σ' ∧ Ext g g' ∧ SR B w0 σ' g' w' ∧ RelV g' r v

theorem CallRuns.mono {P : Program} {f : FuncId} {vs : Array Value} {w : World} {R R' : Value → World → Prop} (h : CallRuns P f vs w R) (hr : ∀ v w', R v w' → R' v w') : CallRuns P f vs w R' := by
 rcases h with ⟨w', h1, h2⟩ | ⟨v, w', h1, h2⟩
 · exact .inl ⟨w', h1, h2.mono fun e w'' ⟨v, he, hv⟩ => ⟨v, he, hr _ _ hv⟩⟩
 · exact .inr ⟨v, w', h1, hr _ _ h2⟩
theorem ACalls.mono {P : Program} {f : FuncId} {args : List AV} {σ : Store} {K K' : AV → Store → Prop} (h : ACalls P f args σ K) (hk : ∀ r σ', K r σ' → K' r σ') : ACalls P f args σ K' :=
 fun B w0 g w vs hS hl hr => (h B w0 g w vs hS hl hr).mono fun v w' ⟨r, σ', g', a, b, c, d⟩ => ⟨r, σ', g', hk _ _ a, b, c, d⟩

structure AOper where
 dst : Option Nat
 op : AOp
 guard : Option (Nat × Bool)

def put (tm : Nat → AV) : Option Nat → AV → Nat → AV
 | some d, v => fun i => if i = d then v else tm i
 | none, _ => tm

def AOp.wp (P : Program) (op : AOp) (tm : Nat → AV) (σ : Store) (K : AV → Store → Prop) : Prop :=
 match op with
 | .call f args => ACalls P f (args.map (·.ev tm)) σ K
 | .callv f args => match f.ev tm with | .fn (.func f) first captured => ACalls P f (first ++ args.map (·.ev tm) ++ captured) σ K | _ => False
 | op => match op.eff tm σ with | some (r, σ') => K r σ' | none => False

def AOper.wp (P : Program) (o : AOper) (tm : Nat → AV) (σ : Store) (K : (Nat → AV) → Store → Prop) : Prop :=
 match o.guard with
 | none => o.op.wp P tm σ fun r σ' => K (put tm o.dst r) σ'
 | some (s, want) =>
  match tm s with
  | .bool b => if b = want then o.op.wp P tm σ fun r σ' => K (put tm o.dst r) σ' else K (put tm o.dst (.tuple [])) σ
  | .tuple [] => K (put tm o.dst (.tuple [])) σ
  | _ => False

def opsWp (P : Program) : List AOper → (Nat → AV) → Store → ((Nat → AV) → Store → Prop) → Prop
 | [], tm, σ, K => K tm σ
 | o :: rest, tm, σ, K => o.wp P tm σ fun tm' σ' => opsWp P rest tm' σ' K

def dstOK (n : Nat) : Option Nat → Bool
 | some d => decide (d < n)
 | none => true

def resolveOper (P : Program) (own : List Nat) (ops : Array Oper) (n : Nat) (o : Oper) : Option AOper :=
 match resolveOp P own o.dst o.op with
 | some ao =>
  if dstOK n o.dst = true then
   match o.guard with
   | none => some ⟨o.dst, ao, none⟩
   | some (j, want) => match (ops[j]?).bind (·.dst) with | some s => if s < n then some ⟨o.dst, ao, some (s, want)⟩ else none | none => none
  else none
 | none => none
def resolveOps (P : Program) (own : List Nat) (ops : Array Oper) (n : Nat) : List Oper → Option (List AOper)
 | [] => some []
 | o :: r => match resolveOper P own ops n o, resolveOps P own ops n r with | some a, some l => some (a :: l) | _, _ => none

section
variable {P : Program} {B : Nat} {w0 : World} {σ : Store} {g : Ghost} {w : World} {n : Nat} {tm : Nat → AV} {a : Act} {ops : Array Oper} {Q : Exit → Act → World → Prop}

theorem RelT.put (hT : RelT g n tm a) {dst : Option Nat} (hd : dstOK n dst = true) {r : AV} {v : Value} (hr : RelV g r v) : RelT g n (put tm dst r) (a.put dst v) := by
 cases dst with
 | none => exact hT
 | some d =>
  simp only [dstOK, decide_eq_true_eq] at hd
  refine ⟨by simp [Act.put, hT.1], hT.2.1, fun i => ?_⟩
  simp only [AL.put, Act.put]
  by_cases hi : i = d
  · subst hi
    have : i < a.tmps.size := by rw [hT.1]; exact hd
    simp [this, hr]
  · have := hT.2.2 i
    simp only [hi, if_false]
    simpa [Array.getElem?_setIfInBounds_ne (Ne.symm hi)] using this

theorem run_call_value {fx : Operand} {args : Array Operand} {ats : Array TypeId} {ty : TypeId} {pos : String} {after : Array Edge} {gd : Option (Nat × Bool)} {dst : Option Tmp} {f : FuncId} {first captured : Array Value} (hf : a.eval fx = .func (.func f) first captured) :
 execOp a.eval ⟨dst, .call { callee := .value fx, args := args, argTypes := ats }, ty, pos, after, gd⟩ = callFunc f (first ++ args.map a.eval ++ captured) := by
 simp [execOp, resolve, hf, Deferred.ofValue, invoke]

theorem call_sound {o : Oper} {K : AV → Store → Prop} {next : Act → World → Prop} {f : FuncId} {vs : Array Value} (hrun : execOp a.eval o = callFunc f vs)
 (hK : CallRuns P f vs w fun v w' => ∃ r σ' g', K r σ' ∧ Ext g g' ∧ SR B w0 σ' g' w' ∧ RelV g' r v)
 (hn : ∀ r σ' g' v w', K r σ' → Ext g g' → SR B w0 σ' g' w' → RelV g' r v → next (a.put o.dst v) w') : o.wp P a w next Q := by
 unfold Oper.wp
 rw [hrun]
 rcases hK with ⟨w', h1, h2⟩ | ⟨v, w', h1, r, σ', g', k1, k2, k3, k4⟩
 · rw [h1]
   simp only [Oper.upon]
   refine h2.mono ?_
   rintro e w'' ⟨v, rfl, r, σ', g', k1, k2, k3, k4⟩
   exact hn r σ' g' v w'' k1 k2 k3 k4
 · rw [h1]
   exact hn r σ' g' v w' k1 k2 k3 k4

theorem op_sound {own : List Nat} {o : Oper} {ao : AOp} (hop : resolveOp P own o.dst o.op = some ao) (hT : RelT g n tm a) (h : SR B w0 σ g w) {K : AV → Store → Prop} (hw : ao.wp P tm σ K) {next : Act → World → Prop}
 (hn : ∀ r σ' g' v w', K r σ' → Ext g g' → SR B w0 σ' g' w' → RelV g' r v → next (a.put o.dst v) w') : o.wp P a w next Q := by
 have det : ∀ r σ', ao.eff tm σ = some (r, σ') → K r σ' → o.wp P a w next Q := by
  intro r σ' he hk
  obtain ⟨nx, w', g', h1, h2, h3, h4⟩ := eff_sound hop rfl hT h he
  unfold Oper.wp
  rw [h1]
  rcases h4 with ⟨v, rfl, hr⟩ | ⟨rfl, rfl⟩
  · exact hn r σ' g' v w' hk h2 h3 hr
  · exact hn _ σ' g' undef w' hk h2 h3 (.junk _)
 have hcalls : (∃ f args, ao = .call f args) ∨ (∃ f args, ao = .callv f args) ∨ (match ao.eff tm σ with | some (r, σ') => K r σ' | none => False) := by
  unfold AOp.wp at hw
  split at hw
  · exact .inl ⟨_, _, rfl⟩
  · exact .inr (.inl ⟨_, _, rfl⟩)
  · exact .inr (.inr hw)
 rcases hcalls with ⟨f, args, rfl⟩ | ⟨f, args, rfl⟩ | hw'
 · -- a call of a function
   obtain ⟨od, oo, oty, opos, oafter, oguard⟩ := o
   have : ∃ ax ats, oo = .call { callee := .value (.func f), args := ax, argTypes := ats } ∧ absXs ax.toList = some args := by
    unfold resolveOp at hop
    simp only at hop
    split at hop <;> (repeat' split at hop) <;> simp only [Option.some.injEq, reduceCtorEq, AOp.call.injEq] at hop
    rename_i f' ax ats xs hxs
    obtain ⟨rfl, rfl⟩ := hop
    exact ⟨_, _, rfl, hxs⟩
   obtain ⟨ax, ats, rfl, hxs⟩ := this
   obtain ⟨l1, l2⟩ := absXs_rel hT hxs
   refine call_sound (K := K) (run_call_value (f := f) (first := #[]) (captured := #[]) rfl) (hw B w0 g w _ h (by simpa using l1) (fun j c hj => ?_)) hn
   rw [List.getElem?_map] at hj
   cases hx : args[j]? with
   | none => simp [hx] at hj
   | some x => simp [hx] at hj; subst hj; have := l2 j x hx; simpa [List.getD_eq_getElem?_getD] using this
 · -- a call of a value
   obtain ⟨od, oo, oty, opos, oafter, oguard⟩ := o
   have : ∃ fx ax ats, oo = .call { callee := .value fx, args := ax, argTypes := ats } ∧ absX fx = some f ∧ absXs ax.toList = some args := by
    unfold resolveOp at hop
    simp only at hop
    split at hop <;> (repeat' split at hop) <;> simp only [Option.some.injEq, reduceCtorEq, AOp.callv.injEq] at hop
    obtain ⟨rfl, rfl⟩ := hop
    exact ⟨_, _, _, rfl, by assumption, by assumption⟩
   obtain ⟨fx, ax, ats, rfl, hfx, hxs⟩ := this
   obtain ⟨l1, l2⟩ := absXs_rel hT hxs
   have hrf := absX_rel hT hfx
   simp only [AOp.wp] at hw
   split at hw
   · rename_i f' first captured hv
     rw [hv] at hrf
     generalize hev : a.eval fx = vf at hrf
     cases hrf with
     | fn hf hc hfr hcr =>
      rename_i fa ca
      refine call_sound (K := K) (run_call_value hev) (hw B w0 g w _ h (by simp only [Array.size_append, Array.size_map, List.length_append, List.length_map, hf, hc]; simp at l1; omega) (fun j c hj => ?_)) hn
      simp only [List.append_assoc] at hj
      by_cases h1 : j < first.length
      · rw [List.getElem?_append_left h1] at hj
        have := hfr j c hj
        simp only [Array.getD_eq_getD_getElem?] at this ⊢
        rw [Array.append_assoc, Array.getElem?_append_left (by omega)]
        exact this
      · rw [List.getElem?_append_right (by omega)] at hj
        by_cases h2 : j - first.length < args.length
        · rw [List.getElem?_append_left (by simpa using h2), List.getElem?_map] at hj
          cases hx : args[j - first.length]? with
          | none => simp [hx] at hj
          | some x =>
           simp [hx] at hj
           subst hj
           have := l2 _ x hx
           simp only [Array.getD_eq_getD_getElem?]
           simp at l1
           rw [Array.append_assoc, Array.getElem?_append_right (by omega), hf, Array.getElem?_append_left (by simp; omega)]
           simpa [List.getD_eq_getElem?_getD] using this
        · rw [List.getElem?_append_right (by simpa using h2)] at hj
          simp only [List.length_map] at hj
          have := hcr _ c hj
          simp only [Array.getD_eq_getD_getElem?] at this ⊢
          simp at l1
          rw [Array.append_assoc, Array.getElem?_append_right (by omega), hf, Array.getElem?_append_right (by simp; omega)]
          simpa [l1] using this
   · exact hw.elim
 · split at hw'
   · rename_i r σ' he; exact det r σ' he hw'
   · exact hw'.elim

theorem oper_sound {own : List Nat} {i : Nat} {o : Oper} {ao : AOper} (hi : ops[i]? = some o) (hres : resolveOper P own ops n o = some ao) (hT : RelT g n tm a) (h : SR B w0 σ g w) {K : (Nat → AV) → Store → Prop} (hw : ao.wp P tm σ K)
 {K' : Act → World → Prop} (hK : ∀ tm' σ' g' a' w', K tm' σ' → Ext g g' → SR B w0 σ' g' w' → RelT g' n tm' a' → K' a' w') : wpOp P ops Q i K' a w := by
 unfold resolveOper at hres
 split at hres
 · rename_i aop hop
   split at hres
   · rename_i hd
     unfold wpOp
     simp only [hi]
     have fin : ∀ (K2 : AV → Store → Prop), (∀ r σ', K2 r σ' → K (put tm o.dst r) σ') → aop.wp P tm σ K2 → o.wp P a w K' Q := fun K2 hk2 hwp =>
      op_sound hop hT h hwp fun r σ' g' v w' k1 k2 k3 k4 => hK _ σ' g' _ w' (hk2 r σ' k1) k2 k3 ((hT.ext k2).put hd k4)
     split at hres
     · rename_i hg
       cases hres
       have hwant : Region.wanted o (yielded ops a.tmps) = true := by simp [Region.wanted, hg]
       simp only [hwant, if_true]
       exact .inl (fin _ (fun r σ' hk => hk) hw)
     · rename_i j want hg
       split at hres
       · rename_i s hs
         split at hres
         · rename_i hsn
           cases hres
           simp only [AOper.wp] at hw
           split at hw
           · rename_i b hb
             have hrs := hT.2.2 s
             rw [hb] at hrs
             have hy : yielded ops a.tmps j = some b := by
              simp only [yielded, hs, Option.bind_some]
              have hlt : s < a.tmps.size := by rw [hT.1]; exact hsn
              rw [Array.getElem?_eq_getElem hlt]
              have hgd : a.tmps.getD s undef = a.tmps[s] := by simp [hlt]
              rw [hgd] at hrs
              generalize a.tmps[s] = v at hrs
              cases hrs
              rfl
             have hwant : Region.wanted o (yielded ops a.tmps) = (b == want) := by
              simp only [Region.wanted, hg, hy]
              cases b <;> cases want <;> rfl
             rw [hwant]
             by_cases hbw : b = want
             · rw [if_pos hbw] at hw
               simp only [hbw, beq_self_eq_true, if_true]
               exact .inl (fin _ (fun r σ' hk => hk) hw)
             · rw [if_neg hbw] at hw
               have : (b == want) = false := by simpa using hbw
               simp only [this, Bool.false_eq_true, if_false]
               exact hK _ σ g _ w hw (.refl g) h (hT.put hd (RelV.tuple (cs := []) (arr := #[]) rfl (by simp)))
           · rename_i hb
             have hrs := hT.2.2 s
             rw [hb] at hrs
             have hy : yielded ops a.tmps j = none := by
              simp only [yielded, hs, Option.bind_some]
              have hlt : s < a.tmps.size := by rw [hT.1]; exact hsn
              rw [Array.getElem?_eq_getElem hlt]
              have hgd : a.tmps.getD s undef = a.tmps[s] := by simp [hlt]
              rw [hgd] at hrs
              generalize a.tmps[s] = v at hrs
              cases hrs
              rfl
             have hwant : Region.wanted o (yielded ops a.tmps) = false := by simp [Region.wanted, hg, hy]
             simp only [hwant, Bool.false_eq_true, if_false]
             exact hK _ σ g _ w hw (.refl g) h (hT.put hd (RelV.tuple (cs := []) (arr := #[]) rfl (by simp)))
           · exact hw.elim
         · cases hres
       · cases hres
   · cases hres
 · cases hres

theorem ops_sound {own : List Nat} : ∀ (l : List Oper) (k : Nat) (al : List AOper) (σ : Store) (g : Ghost) (w : World) (tm : Nat → AV) (a : Act), ops.toList.drop k = l → resolveOps P own ops n l = some al →
 RelT g n tm a → SR B w0 σ g w → ∀ K : (Nat → AV) → Store → Prop, opsWp P al tm σ K →
 (∀ tm' σ' g' a' w', K tm' σ' → Ext g g' → SR B w0 σ' g' w' → RelT g' n tm' a' → Q .normal a' w') → wpOps P ops Q (List.range' k l.length) a w := by
 intro l
 induction l with
 | nil =>
  intro k al σ g w tm a hd hr hT h K hw hK
  simp [resolveOps] at hr
  subst hr
  exact hK tm σ g a w hw (.refl g) h hT
 | cons o rest ih =>
  intro k al σ g w tm a hd hr hT h K hw hK
  simp only [resolveOps] at hr
  split at hr
  · rename_i ao al' h1 h2
    cases hr
    have hk : ops[k]? = some o := by
     have := congrArg (·[0]?) hd
     simpa using this
    have hd' : ops.toList.drop (k + 1) = rest := by
     rw [← List.drop_drop]
     rw [hd]
     rfl
    rw [List.length_cons, List.range'_succ, wpOps_cons]
    simp only [opsWp] at hw
    refine oper_sound hk h1 hT h hw fun tm' σ' g' a' w' k1 k2 k3 k4 => ?_
    exact ih (k + 1) al' σ' g' w' tm' a' hd' h2 k4 k3 K k1 fun tm2 σ2 g2 a2 w2 j1 j2 j3 j4 => hK tm2 σ2 g2 a2 w2 j1 (k2.trans j2) j3 j4
  · cases hr
end
end Go.AL
set_option linter.unusedVariables false
set_option linter.unusedSimpArgs false
namespace Go.AL
open Go.RowKit

inductive Cln (n : Nat) : AV → Prop
 | junk : Cln n .junk
 | bool (b : Bool) : Cln n (.bool b)
 | int (k : IntKind) (i : Int) : Cln n (.int k i)
 | str (s : ByteArray) : Cln n (.str s)
 | nilp : Cln n .nilp
 | ptr {id ver i off : Nat} (h : id < n) : Cln n (.ptr id ver i off)
 | rptr {cs : List AV} {off : Nat} (h : ∀ (j : Nat) (c : AV), cs[j]? = some c → Cln n c) : Cln n (.rptr cs off)
 | nils : Cln n .nils
 | list {es : List (List AV)} (h : ∀ (i j : Nat) (e : List AV) (c : AV), es[i]? = some e → e[j]? = some c → Cln n c) : Cln n (.list es)
 | own {id ver sz off len : Nat} (h : id < n) : Cln n (.own id ver sz off len)
 | nilm : Cln n .nilm
 | map {id : Nat} (h : id < n) : Cln n (.map id)
 | nilf : Cln n .nilf
 | fn {f : Fn} {a b : List AV} (ha : ∀ (j : Nat) (c : AV), a[j]? = some c → Cln n c) (hb : ∀ (j : Nat) (c : AV), b[j]? = some c → Cln n c) : Cln n (.fn f a b)
 | agg {cs : List AV} (h : ∀ (j : Nat) (c : AV), cs[j]? = some c → Cln n c) : Cln n (.agg cs)
 | tuple {cs : List AV} (h : ∀ (j : Nat) (c : AV), cs[j]? = some c → Cln n c) : Cln n (.tuple cs)

theorem RelV.cln {g : Ghost} {a : AV} {v : Value} (h : RelV g a v) : Cln g.next a := by
 induction h with
 | junk v => exact .junk
 | bool b => exact .bool b
 | int k n => exact .int k n
 | str s h => exact .str s
 | nilp => exact .nilp
 | ptr hid h h1 => exact .ptr hid
 | rptr hΦ hb hc h1 ih => exact .rptr ih
 | nils => exact .nils
 | listNil a c => exact .list (by simp)
 | list hΦ hs hb hc h1 hn hcap ih => exact .list ih
 | own hid hlen hv h => exact .own hid
 | nilm => exact .nilm
 | map hid h h1 => exact .map hid
 | nilf => exact .nilf
 | fn hf hc h h' ih ih' => exact .fn ih ih'
 | agg hs hc h1 ih => exact .agg ih
 | tuple hs hc ih => exact .tuple ih

theorem Cln.list' {n : Nat} {es : List (List AV)} (h : ∀ e, e ∈ es → ∀ c, c ∈ e → Cln n c) : Cln n (.list es) :=
 .list fun i j e c hi hj => h e (List.mem_of_getElem? hi) c (List.mem_of_getElem? hj)
theorem Cln.agg' {n : Nat} {cs : List AV} (h : ∀ c, c ∈ cs → Cln n c) : Cln n (.agg cs) := .agg fun j c hj => h c (List.mem_of_getElem? hj)

def AObj.Okay (n : Nat) : AObj → Prop
 | .cells _ _ _ es => ∀ (i j : Nat) (e : List AV) (c : AV), es[i]? = some e → e[j]? = some c → Cln n c
 | .map es => ∀ (i : Nat) (k v : AV), es[i]? = some (k, v) → Cln n k ∧ Cln n v

theorem SR.cln {B : Nat} {w0 : World} {σ : Store} {g : Ghost} {w : World} (h : SR B w0 σ g w) {id : Nat} {o : AObj} (ho : σ.get id = some o) : o.Okay σ.next := by
 obtain ⟨p, hp, hr⟩ := h.objs id o ho
 rw [← h.next]
 cases o with
 | cells ty ver sz es =>
  obtain ⟨h1, h2, h3, h4, cells, h5, h6, h7, h8⟩ := hr
  exact fun i j e c a b => (h8 i j e c a b).1.cln
 | map es =>
  obtain ⟨h1, entries, clock, h2, h3, h4⟩ := hr
  intro i k v a
  obtain ⟨e, x, y, z⟩ := h4 i k v a
  exact ⟨y.cln, z.cln⟩

def Ghost.cut (g : Ghost) (n : Nat) : Ghost := { g with pl := fun id => if id < n then g.pl id else none, next := n }

theorem RelV.cut {g : Ghost} {n : Nat} {a : AV} {v : Value} (h : RelV g a v) (hc : Cln n a) : RelV (g.cut n) a v := by
 induction h with
 | junk v => exact .junk v
 | bool b => exact .bool b
 | int k n => exact .int k n
 | str s h => exact .str s h
 | nilp => exact .nilp
 | ptr hid h h1 =>
  cases hc with
  | ptr hn => exact .ptr hn (fun p hp => h p (by simpa [Ghost.cut, hn] using hp)) h1
 | rptr hΦ hb hcc h1 ih =>
  cases hc with
  | rptr hr => exact .rptr (g := g.cut n) hΦ hb (fun j c hj => ih j c hj (hr j c hj)) h1
 | nils => exact .nils
 | listNil a c => exact .listNil a c
 | list hΦ hs hb hcc h1 hn hcap ih =>
  cases hc with
  | list hr => exact .list (g := g.cut n) hΦ hs hb (fun i j e c hi hj => ih i j e c hi hj (hr i j e c hi hj)) h1 hn hcap
 | own hid hlen hv h =>
  cases hc with
  | own hn => exact .own hn hlen hv (fun p hp => h p (by simpa [Ghost.cut, hn] using hp))
 | nilm => exact .nilm
 | map hid h h1 =>
  cases hc with
  | map hn => exact .map hn (fun p hp => h p (by simpa [Ghost.cut, hn] using hp)) h1
 | nilf => exact .nilf
 | fn hf hcs h h' ih ih' =>
  cases hc with
  | fn ha hb => exact .fn hf hcs (fun j c hj => ih j c hj (ha j c hj)) (fun j c hj => ih' j c hj (hb j c hj))
 | agg hs hcc h1 ih =>
  cases hc with
  | agg hr => exact .agg hs (fun j c hj => ih j c hj (hr j c hj)) h1
 | tuple hs hcc ih =>
  cases hc with
  | tuple hr => exact .tuple hs (fun j c hj => ih j c hj (hr j c hj))

theorem ObjRel.cut {g : Ghost} {n : Nat} {w : World} {p : Place} {o : AObj} (h : ObjRel g w p o) (hc : o.Okay n) : ObjRel (g.cut n) w p o := by
 cases o with
 | cells ty ver sz es =>
  obtain ⟨h1, h2, h3, h4, cells, h5, h6, h7, h8⟩ := h
  exact ⟨h1, h2, h3, h4, cells, h5, h6, h7, fun i j e c a b => ⟨(h8 i j e c a b).1.cut (hc i j e c a b), (h8 i j e c a b).2⟩⟩
 | map es =>
  obtain ⟨h1, entries, clock, h2, h3, h4⟩ := h
  refine ⟨h1, entries, clock, h2, h3, fun i k v a => ?_⟩
  obtain ⟨e, x, y, z⟩ := h4 i k v a
  exact ⟨e, x, y.cut (hc i k v a).1, z.cut (hc i k v a).2⟩

theorem SR.trim {B : Nat} {w0 : World} {σ τ : Store} {g : Ghost} {w : World} (h : SR B w0 σ g w) (hn : τ.next ≤ σ.next) (hτ : ∀ id o, τ.get id = some o → σ.get id = some o ∧ o.Okay τ.next) : SR B w0 τ (g.cut τ.next) w := by
 refine ⟨h.below, h.size, h.phi, rfl, fun id o e => ?_, fun i j p q hp hq hb => ?_, fun i p hp => ?_, fun i p hp => ?_⟩
 · obtain ⟨h1, h2⟩ := hτ id o e
   obtain ⟨p, hp, hr⟩ := h.objs id o h1
   exact ⟨p, by simp [Ghost.cut, τ.lt e, hp], hr.cut h2⟩
 · simp only [Ghost.cut] at hp hq
   split at hp
   · split at hq
     · exact h.inj i j p q hp hq hb
     · cases hq
   · cases hp
 · simp only [Ghost.cut] at hp
   split at hp
   · exact h.apart i p hp
   · cases hp
 · simp only [Ghost.cut] at hp
   split at hp
   · rename_i hi
     obtain ⟨a, b, c⟩ := h.fresh i p hp
     exact ⟨a, b, hi⟩
   · cases hp

theorem Ext.cut {g g' : Ghost} {n : Nat} (h : Ext g g') (hn : g.next ≤ n) : Ext g (g'.cut n) :=
 ⟨h.phi, h.see, hn, fun id p' hid hp' => by
  simp only [Ghost.cut] at hp'
  split at hp'
  · exact h.pl id p' hid hp'
  · cases hp'⟩
structure ExtV (g g' : Ghost) : Prop where
 phi : ∀ b c, g.Φ b = some c → g.vis b = none → g'.Φ b = some c ∧ g'.vis b = none
 next : g.next ≤ g'.next
 pl : ∀ id p', id < g.next → g'.pl id = some p' → ∃ p, g.pl id = some p ∧ (p' = p ∨ p.ver < p'.ver)
theorem RelV.extV {g g' : Ghost} (he : ExtV g g') {a : AV} {v : Value} (h : RelV g a v) : RelV g' a v := by
 induction h with
 | junk v => exact .junk v
 | bool b => exact .bool b
 | int k n => exact .int k n
 | str s h => exact .str s h
 | nilp => exact .nilp
 | ptr hid h h1 =>
  refine .ptr (Nat.lt_of_lt_of_le hid he.next) (fun p' hp' => ?_) h1
  obtain ⟨p, hp, e⟩ := he.pl _ p' hid hp'
  have := h p hp
  rcases e with rfl | e
  · exact this
  · exact ⟨by omega, fun e' => by omega⟩
 | rptr hΦ hb hc h1 ih => exact .rptr (he.phi _ _ hΦ.1 hΦ.2) hb ih h1
 | nils => exact .nils
 | listNil a c => exact .listNil a c
 | list hΦ hs hb hc h1 hn hcap ih => exact .list (he.phi _ _ hΦ.1 hΦ.2) hs hb ih h1 hn hcap
 | own hid hlen hv h =>
  refine .own (Nat.lt_of_lt_of_le hid he.next) hlen hv (fun p' hp' => ?_)
  obtain ⟨p, hp, e⟩ := he.pl _ p' hid hp'
  have := h p hp
  rcases e with rfl | e
  · exact this
  · exact ⟨by omega, fun e' => by omega⟩
 | nilm => exact .nilm
 | map hid h h1 =>
  refine .map (Nat.lt_of_lt_of_le hid he.next) (fun p' hp' e0 => ?_) h1
  obtain ⟨p, hp, e⟩ := he.pl _ p' hid hp'
  rcases e with rfl | e
  · exact h _ hp e0
  · omega
 | nilf => exact .nilf
 | fn hf hc h h' ih ih' => exact .fn hf hc ih ih'
 | agg hs hc h1 ih => exact .agg hs ih h1
 | tuple hs hc ih => exact .tuple hs ih
theorem ObjRel.extV {g g' : Ghost} (he : ExtV g g') {w : World} {p : Place} {o : AObj} (h : ObjRel g w p o) : ObjRel g' w p o := by
 cases o with
 | cells ty ver sz es =>
  obtain ⟨h1, h2, h3, h4, cells, h5, h6, h7, h8⟩ := h
  exact ⟨h1, h2, h3, h4, cells, h5, h6, h7, fun i j e c a b => ⟨(h8 i j e c a b).1.extV he, (h8 i j e c a b).2⟩⟩
 | map es =>
  obtain ⟨h1, entries, clock, h2, h3, h4⟩ := h
  refine ⟨h1, entries, clock, h2, h3, fun i k v a => ?_⟩
  obtain ⟨e, x, y, z⟩ := h4 i k v a
  exact ⟨e, x, y.extV he, z.extV he⟩

def Ghost.prot (g : Ghost) (b : Nat) (cells : Array Value) (ty : TypeId) : Ghost := { g with Φ := fun x => if x = b then some cells else g.Φ x, vis := fun x => if x = b then some ty else g.vis x }
theorem Ext.prot {g : Ghost} {b : Nat} (cells : Array Value) (ty : TypeId) (h : g.Φ b = none) : Ext g (g.prot b cells ty) :=
 ⟨fun x c e => by
  have : x ≠ b := fun hx => by rw [hx, h] at e; cases e
  simp only [Ghost.prot, this, if_false]; exact e, fun x c e => by
  have : x ≠ b := fun hx => by rw [hx, h] at e; cases e
  simp only [Ghost.prot, this, if_false], Nat.le_refl _, fun id p' _ hp' => ⟨p', hp', .inl rfl⟩⟩
theorem SR.prot {B : Nat} {w0 : World} {σ : Store} {g : Ghost} {w : World} (h : SR B w0 σ g w) {b : Nat} {cells : Array Value} {ty : TypeId} (hb : w.heap[b]? = some (.cells cells ty (0, 0))) (hΦ : g.Φ b = none)
 (hn : ∀ id p, g.pl id = some p → p.blk ≠ b) : SR B w0 σ (g.prot b cells ty) w := by
 refine ⟨h.below, h.size, fun x c e => ?_, h.next, fun id o e => ?_, h.inj, fun id p e => ?_, h.fresh⟩
 · by_cases hx : x = b
   · subst hx
     simp only [Ghost.prot, if_true, Option.some.injEq] at e
     subst e
     exact ⟨ty, (0, 0), hb, fun t ht => by simp [Ghost.prot] at ht; exact ⟨ht, rfl⟩⟩
   · simp only [Ghost.prot, hx, if_false] at e ⊢
     exact h.phi x c e
 · obtain ⟨p, hp, ho⟩ := h.objs id o e
   exact ⟨p, hp, ho.ext (.prot cells ty hΦ)⟩
 · have := hn id p e
   simp only [Ghost.prot, this, if_false]
   exact h.apart id p e
def Ghost.adopt (g : Ghost) (b sz cap : Nat) : Ghost := { Φ := fun x => if x = b then none else g.Φ x, vis := fun x => if x = b then none else g.vis x, pl := fun x => if x = g.next then some ⟨0, b, sz, cap⟩ else g.pl x, next := g.next + 1 }
theorem ExtV.adopt {g : Ghost} {b : Nat} (sz cap : Nat) {ty : TypeId} (hv : g.vis b = some ty) : ExtV g (g.adopt b sz cap) :=
 ⟨fun x c e e' => by
  have : x ≠ b := fun hx => by rw [hx, hv] at e'; cases e'
  simp only [Ghost.adopt, this, if_false]; exact ⟨e, e'⟩, Nat.le_succ _, fun id p' hid hp' => by
  have : id ≠ g.next := by omega
  simp only [Ghost.adopt, this, if_false] at hp'
  exact ⟨p', hp', .inl rfl⟩⟩
theorem Ext.adopt {g0 g : Ghost} (h : Ext g0 g) {b : Nat} (sz cap : Nat) (h0 : g0.Φ b = none) : Ext g0 (g.adopt b sz cap) :=
 ⟨fun x c e => by
  have : x ≠ b := fun hx => by rw [hx, h0] at e; cases e
  simp only [Ghost.adopt, this, if_false]; exact h.phi x c e, fun x c e => by
  have : x ≠ b := fun hx => by rw [hx, h0] at e; cases e
  simp only [Ghost.adopt, this, if_false]; exact h.see x c e, by have := h.next; simp only [Ghost.adopt]; omega, fun id p' hid hp' => by
  have := h.next
  have : id ≠ g.next := by omega
  simp only [Ghost.adopt, this, if_false] at hp'
  exact h.pl id p' hid hp'⟩
theorem SR.adopt {B : Nat} {w0 : World} {σ : Store} {g : Ghost} {w : World} (h : SR B w0 σ g w) {b : Nat} {cells : Array Value} {ty : TypeId} {cs : List AV} {cap : Nat} (hΦ : g.Φ b = some cells) (hv : g.vis b = some ty) (hB : B ≤ b) (hs : cells.size = cap * cs.length) (h1 : 1 ≤ cap) (h2 : cap ≤ maxLen)
 (hc : ∀ j c, cs[j]? = some c → (∀ g, RelV g c (cells.getD j undef)) ∧ (cells.getD j undef).oneCell' = true) :
 SR B w0 (σ.push (.cells ty 0 cs.length [cs])) (g.adopt b cs.length cap) w ∧ RelV (g.adopt b cs.length cap) (.ptr σ.next 0 0 0) (.pointer (some ⟨b, 0, none⟩)) := by
 have he : ExtV g (g.adopt b cs.length cap) := .adopt _ _ hv
 obtain ⟨t, fr, hh, ht⟩ := h.phi b cells hΦ
 obtain ⟨rfl, rfl⟩ := ht ty hv
 have hlt : b < w.heap.size := (Array.getElem?_eq_some_iff.1 hh).1
 have hne : ∀ id p, g.pl id = some p → p.blk ≠ b := fun id p hp e => by have := h.apart id p hp; rw [e, hΦ] at this; cases this
 refine ⟨⟨h.below, h.size, fun x c e => ?_, by show g.next + 1 = σ.next + 1; rw [h.next], fun id y e => ?_, fun id id' q q' e e' hb => ?_, fun id q e => ?_, fun id q e => ?_⟩, ?_⟩
 · simp only [Ghost.adopt] at e ⊢
   split at e
   · cases e
   · rename_i hx; rw [if_neg hx]; exact h.phi x c e
 · rw [Store.get_push] at e
   by_cases hi : id = σ.next
   · subst hi
     simp only [if_true, Option.some.injEq] at e
     subst e
     refine ⟨⟨0, b, cs.length, cap⟩, by simp [Ghost.adopt, h.next], rfl, rfl, by simpa using h1, h2, cells, hh, hs, by simp, fun i j e c hi hj => ?_⟩
     match i, hi with
     | 0, hi =>
      simp at hi
      subst hi
      have := hc j c hj
      simp only [Nat.zero_mul, Nat.zero_add]
      exact ⟨this.1 _, this.2⟩
     | i + 1, hi => simp at hi
   · simp only [hi, if_false] at e
     obtain ⟨q, hq, hr⟩ := h.objs id y e
     have : id ≠ g.next := by rw [h.next]; exact hi
     exact ⟨q, by simp only [Ghost.adopt, this, if_false]; exact hq, hr.extV he⟩
 · simp only [Ghost.adopt] at e e'
   split at e
   · rename_i h1
     split at e'
     · rename_i h2; rw [h1, h2]
     · cases e; exact absurd hb.symm (hne id' q' e')
   · split at e'
     · cases e'; exact absurd hb (hne id q e)
     · exact h.inj id id' q q' e e' hb
 · simp only [Ghost.adopt] at e ⊢
   split at e
   · cases e; simp
   · rw [if_neg (hne id q e)]; exact h.apart id q e
 · simp only [Ghost.adopt] at e ⊢
   split at e
   · rename_i h1; cases e; exact ⟨hB, hlt, by omega⟩
   · obtain ⟨a, b, c⟩ := h.fresh id q e; exact ⟨a, b, by omega⟩
 · refine .ptr (by simp [Ghost.adopt, h.next]) (fun p hp => ?_) ⟨_, rfl⟩
   simp [Ghost.adopt, h.next] at hp
   subst hp
   simp

theorem SR.hide {B : Nat} {w0 : World} {σ : Store} {g g' : Ghost} {w w' : World} (h : SR B w0 σ g w) (hE : Ext g g') {ty : TypeId} {cs : List AV} (h' : SR B w0 (σ.push (.cells ty 0 cs.length [cs])) g' w') {v : Value} (hv : RelV g' (.ptr σ.next 0 0 0) v)
 (hc : ∀ c, c ∈ cs → ∀ (g : Ghost) v, RelV g c v → ∀ g2, RelV g2 c v) :
 ∃ (b : Nat) (cells : Array Value) (cap : Nat) (g2 : Ghost), v = .pointer (some ⟨b, 0, none⟩) ∧ SR B w0 σ g2 w' ∧ Ext g g2 ∧ g2.Φ b = some cells ∧ g2.vis b = some ty ∧ B ≤ b ∧ g.Φ b = none ∧ cells.size = cap * cs.length ∧ 1 ≤ cap ∧ cap ≤ maxLen ∧
  ∀ j c, cs[j]? = some c → (∀ g, RelV g c (cells.getD j undef)) ∧ (cells.getD j undef).oneCell' = true := by
 obtain ⟨p, hp, h1, h2, h3, h4, cells, h5, h6, h7, h8⟩ := h'.objs σ.next _ (Store.get_push_self _ _)
 have hT := h'.trim (τ := σ) (by simp [Store.push]) (fun id o e => ⟨by rw [Store.get_push_lt _ _ (σ.lt e)]; exact e, h.cln e⟩)
 have hno : g'.Φ p.blk = none := h'.apart _ p hp
 have hP := hT.prot (b := p.blk) (cells := cells) (ty := ty) h5 hno (fun id q hq e => by
  simp only [Ghost.cut] at hq
  split at hq
  · rename_i hi
    have := h'.inj id σ.next q p hq hp e
    omega
  · cases hq)
 have hx : Ext g (g'.cut σ.next) := hE.cut (by rw [h.next]; exact Nat.le_refl _)
 have hgn : g.Φ p.blk = none := by
  cases e : g.Φ p.blk with
  | none => rfl
  | some c => have := hE.phi _ _ e; rw [hno] at this; cases this
 have hvv : v = .pointer (some ⟨p.blk, 0, none⟩) := by
  cases hv with
  | ptr hid hvv hv1 =>
   have := (hvv p hp).2 h1
   simpa using this
 refine ⟨p.blk, cells, p.cap, _, hvv, hP, hx.trans (.prot cells ty hno), by simp [Ghost.prot], by simp [Ghost.prot], (h'.fresh _ p hp).1, hgn, by rw [h6, ← h2], by simpa using h3, h4, fun j c hj => ?_⟩
 have := h8 0 j cs c rfl hj
 simp only [Nat.zero_mul, Nat.zero_add] at this
 exact ⟨fun g2 => hc c (List.mem_of_getElem? hj) _ _ this.1 g2, this.2⟩
def AV.flat : AV → Bool
 | .bool _ | .int .. | .str _ | .nilp | .nils | .nilm | .nilf => true
 | _ => false
theorem RelV.flat {c : AV} (hc : c.flat = true) {g : Ghost} {v : Value} (h : RelV g c v) (g2 : Ghost) : RelV g2 c v := by
 cases h <;> simp [AV.flat] at hc <;> first | (constructor; done) | (constructor; assumption)
end Go.AL
set_option linter.unusedVariables false
set_option linter.unusedSimpArgs false
namespace Go.AL
open Go.RowKit

def AX.slot : AX → List Nat
 | .t i => [i]
 | .c _ => []
theorem AX.ev_congr {x : AX} {tm tm' : Nat → AV} (h : ∀ i, i ∈ x.slot → tm i = tm' i) : x.ev tm = x.ev tm' := by
 cases x with
 | t i => exact h i (by simp [AX.slot])
 | c v => rfl

def AOp.xs : AOp → List AX
 | .move x | .new _ x | .load _ x | .nilck x | .not x | .neg x | .conv _ x | .same x | .faddr _ x | .field _ _ x | .extract x _ | .len _ x | .bstr x | .uptr x | .ufrom _ x | .sdata _ x => [x]
 | .pick a b c => [a, b, c]
 | .build _ ps => ps.map (·.2.2)
 | .lit _ _ _ xs => xs
 | .store _ a x | .bin _ _ a x | .nileq _ _ a x | .mkslice _ _ _ _ a x | .iaddr _ a x | .index a x | .lookup _ _ _ a x | .append _ _ _ a x | .min2 a x | .max2 a x | .mapdel _ a x | .ptreq _ a x | .ustr _ a x | .appends _ a x => [a, x]
 | .mkfn _ a b => a ++ b
 | .mkmap => []
 | .cut _ _ x lo hi => [x] ++ lo.toList ++ hi.toList
 | .mapset _ m k x => [m, k, x]
 | .call _ args => args
 | .callv f args => f :: args

theorem map_ev_congr {xs : List AX} {tm tm' : Nat → AV} (h : ∀ x, x ∈ xs → x.ev tm = x.ev tm') : xs.map (·.ev tm) = xs.map (·.ev tm') := List.map_congr_left h

theorem AOp.eff_congr {op : AOp} {tm tm' : Nat → AV} (h : ∀ x, x ∈ op.xs → x.ev tm = x.ev tm') (σ : Store) : op.eff tm σ = op.eff tm' σ := by
 cases op <;> simp only [AOp.xs] at h <;> simp only [AOp.eff]
 case build z ps =>
  have : (ps.map fun p => (p.1, p.2.1, p.2.2.ev tm)) = (ps.map fun p => (p.1, p.2.1, p.2.2.ev tm')) := List.map_congr_left fun p hp => by
   rw [h p.2.2 (List.mem_map_of_mem hp)]
  rw [this]
 case lit own ty sz xs => rw [map_ev_congr h]
 case mkfn f a b => rw [map_ev_congr fun x hx => h x (by simp [hx]), map_ev_congr fun x hx => h x (by simp [hx])]
 case cut k sz x lo hi =>
  have h1 := h x (by simp)
  have h2 : lo.map (·.ev tm) = lo.map (·.ev tm') := by cases lo with | none => rfl | some y => simp [h y (by simp)]
  have h3 : hi.map (·.ev tm) = hi.map (·.ev tm') := by cases hi with | none => rfl | some y => simp [h y (by simp)]
  rw [h1, h2, h3]
 all_goals first | rfl | (simp only [List.mem_cons, List.mem_nil_iff, or_false, forall_eq_or_imp, forall_eq] at h; simp only [h])

def AOp.pure : AOp → Bool
 | .move _ | .pick .. | .build .. | .nilck _ | .bin .. | .nileq .. | .not _ | .neg _ | .conv .. | .same _ | .mkfn .. | .field .. | .index .. | .extract .. | .min2 .. | .max2 .. => true
 | .lit own _ _ _ => !own
 | .len k _ => k != .map
 | _ => false
def AOp.quiet : AOp → Bool
 | .load .. | .cut .. | .faddr .. | .iaddr .. | .lookup .. | .len .. | .bstr .. | .uptr .. | .ufrom .. | .ptreq .. | .sdata .. => true
 | op => op.pure

theorem AOp.eff_pure {op : AOp} (hp : op.pure = true) {tm : Nat → AV} {σ σ' : Store} {r : AV} (h : op.eff tm σ = some (r, σ')) : σ' = σ ∧ ∀ τ, op.eff tm τ = some (r, τ) := by
 cases op <;> simp only [AOp.pure, Bool.false_eq_true, Bool.not_eq_true'] at hp <;> simp only [AOp.eff] at h ⊢
 case lit own ty sz xs =>
  subst hp
  simp only [Bool.false_eq_true, if_false] at h ⊢
  split at h
  · rename_i es hes; cases h; exact ⟨rfl, fun τ => by simp [hes]⟩
  · cases h
 case len k x =>
  split at h <;> (try simp only [Option.some.injEq, Prod.mk.injEq, reduceCtorEq] at h) <;> first | (obtain ⟨rfl, rfl⟩ := h; rename_i hx; exact ⟨rfl, fun τ => by simp [hx]⟩) | skip
  all_goals simp at hp
 all_goals
  (repeat' split at h) <;> simp only [Option.some.injEq, Prod.mk.injEq, reduceCtorEq] at h <;> (first | (obtain ⟨rfl, rfl⟩ := h; exact ⟨rfl, fun τ => by simp [*]⟩))

theorem AOp.eff_quiet {op : AOp} (hp : op.quiet = true) {tm : Nat → AV} {σ σ' : Store} {r : AV} (h : op.eff tm σ = some (r, σ')) : σ' = σ := by
 by_cases hpp : op.pure = true
 · exact (AOp.eff_pure hpp h).1
 · cases op <;> simp only [AOp.quiet, AOp.pure, Bool.false_eq_true] at hp hpp <;> simp only [AOp.eff] at h
   all_goals first | (exact absurd rfl hpp) | skip
   all_goals (try (exact absurd hp hpp))
   all_goals ((repeat' split at h) <;> simp only [Option.some.injEq, Prod.mk.injEq, reduceCtorEq] at h <;> (first | (exact h.2.symm)))

theorem put_comm (tm : Nat → AV) {x y : Option Nat} (u v : AV) (h : ∀ d, x = some d → y ≠ some d) : put (put tm x u) y v = put (put tm y v) x u := by
 cases x with
 | none => rfl
 | some d =>
  cases y with
  | none => rfl
  | some e =>
   have hne : e ≠ d := fun he => h d rfl (by rw [he])
   funext i
   simp only [put]
   by_cases h1 : i = e
   · subst h1; simp [hne]
   · simp [h1]


def AOper.uses (o : AOper) : List Nat := o.op.xs.flatMap AX.slot ++ (match o.guard with | some (s, _) => [s] | none => [])
theorem put_swap (tm : Nat → AV) {d : Nat} {y : Option Nat} (u v : AV) (h : y ≠ some d) : put (put tm (some d) u) y v = put (put tm y v) (some d) u := put_comm tm u v fun e he => by cases he; exact h

section
variable {P : Program}
theorem AOp.wp_mono {op : AOp} {tm : Nat → AV} {σ : Store} {K K' : AV → Store → Prop} (hk : ∀ r τ, K r τ → K' r τ) (h : op.wp P tm σ K) : op.wp P tm σ K' := by
 cases op
 case call f args => exact ACalls.mono h hk
 case callv f args =>
  simp only [AOp.wp] at h ⊢
  split at h
  · exact ACalls.mono h hk
  · exact h.elim
 all_goals
  simp only [AOp.wp] at h ⊢
  split at h
  · exact hk _ _ h
  · exact h.elim
theorem AOp.wp_congr {op : AOp} {tm tm' : Nat → AV} (h : ∀ i, i ∈ op.xs.flatMap AX.slot → tm i = tm' i) {σ : Store} {K : AV → Store → Prop} (hw : op.wp P tm σ K) : op.wp P tm' σ K := by
 have hx : ∀ x, x ∈ op.xs → x.ev tm = x.ev tm' := fun x hx => AX.ev_congr fun i hi => h i (List.mem_flatMap.2 ⟨x, hx, hi⟩)
 cases op
 case call f args =>
  have e : args.map (·.ev tm) = args.map (·.ev tm') := map_ev_congr hx
  simp only [AOp.wp] at hw ⊢
  rw [← e]; exact hw
 case callv f args =>
  have e1 : f.ev tm = f.ev tm' := hx f (by simp [AOp.xs])
  have e2 : args.map (·.ev tm) = args.map (·.ev tm') := map_ev_congr fun x hm => hx x (by simp [AOp.xs, hm])
  simp only [AOp.wp] at hw ⊢
  rw [← e1, ← e2]; exact hw
 all_goals (simp only [AOp.wp] at hw ⊢; rw [← AOp.eff_congr hx]; exact hw)

def AOper.out (P : Program) (o : AOper) (tm : Nat → AV) (σ : Store) (K : AV → Store → Prop) : Prop :=
 match o.guard with
 | none => o.op.wp P tm σ K
 | some (s, want) =>
  match tm s with
  | .bool b => if b = want then o.op.wp P tm σ K else K (.tuple []) σ
  | .tuple [] => K (.tuple []) σ
  | _ => False
theorem AOper.out_mono {o : AOper} {tm : Nat → AV} {σ : Store} {K K' : AV → Store → Prop} (hk : ∀ r τ, K r τ → K' r τ) (h : o.out P tm σ K) : o.out P tm σ K' := by
 unfold AOper.out at h ⊢
 split
 · rename_i hg; rw [hg] at h; exact AOp.wp_mono hk h
 · rename_i s want hg
   rw [hg] at h
   simp only at h
   split at h
   · rename_i b hb
     split at h
     · rename_i hbw; simp only [hb, hbw, if_true]; exact AOp.wp_mono hk h
     · rename_i hbw; simp only [hb, hbw, if_false]; exact hk _ _ h
   · rename_i hb
     first | exact hk _ _ h | (simp only [hb]; exact hk _ _ h)
   · exact h.elim
theorem AOper.out_congr {o : AOper} {tm tm' : Nat → AV} (hu : ∀ i, i ∈ o.uses → tm i = tm' i) {σ : Store} {K : AV → Store → Prop} (h : o.out P tm σ K) : o.out P tm' σ K := by
 obtain ⟨dst, op, guard⟩ := o
 cases guard with
 | none => exact AOp.wp_congr (op := op) (fun i hi => hu i (by simp [AOper.uses, hi])) h
 | some sw =>
  obtain ⟨s, want⟩ := sw
  simp only [AOper.out] at h ⊢
  have hs : tm s = tm' s := hu s (by simp [AOper.uses])
  rw [← hs]
  split at h
  · rename_i b hb
    try simp only [hb]
    split at h
    · rename_i hbw; rw [if_pos hbw]; exact AOp.wp_congr (fun i hi => hu i (by simp [AOper.uses, hi])) h
    · rename_i hbw; rw [if_neg hbw]; exact h
  · rename_i hb; try simp only [hb]
    exact h
  · exact h.elim
theorem AOper.wp_mono {o : AOper} {tm : Nat → AV} {σ : Store} {K K' : (Nat → AV) → Store → Prop} (hk : ∀ t τ, K t τ → K' t τ) (h : o.wp P tm σ K) : o.wp P tm σ K' := AOper.out_mono (fun r τ h => hk _ _ h) h
theorem opsWp_mono : ∀ {l : List AOper} {tm : Nat → AV} {σ : Store} {K K' : (Nat → AV) → Store → Prop}, (∀ t τ, K t τ → K' t τ) → opsWp P l tm σ K → opsWp P l tm σ K'
 | [], _, _, _, _, hk, h => hk _ _ h
 | o :: l, tm, σ, K, K', hk, h => AOper.wp_mono (fun t τ h => opsWp_mono hk h) h
theorem opsWp_app : ∀ {l m : List AOper} {tm : Nat → AV} {σ : Store} {K : (Nat → AV) → Store → Prop}, opsWp P (l ++ m) tm σ K = opsWp P l tm σ fun t s => opsWp P m t s K
 | [], _, _, _, _ => rfl
 | o :: l, m, tm, σ, K => by
  show o.wp P tm σ _ = o.wp P tm σ _
  congr 1; funext t s; exact opsWp_app

theorem AOp.wp_quiet {op : AOp} (hq : op.quiet = true) {tm : Nat → AV} {σ : Store} {K : AV → Store → Prop} : op.wp P tm σ K ↔ ∃ r, op.eff tm σ = some (r, σ) ∧ K r σ := by
 have key : (∀ K, op.wp P tm σ K = match op.eff tm σ with | some (r, σ') => K r σ' | none => False) → (op.wp P tm σ K ↔ ∃ r, op.eff tm σ = some (r, σ) ∧ K r σ) := by
  intro e
  rw [e]
  cases he : op.eff tm σ with
  | none => simp
  | some p =>
   obtain ⟨r, σ'⟩ := p
   have := AOp.eff_quiet hq he
   subst this
   simp
 cases op <;> first | exact key (fun _ => rfl) | (simp [AOp.quiet, AOp.pure] at hq)

theorem AOper.out_quiet {o : AOper} (hq : o.op.quiet = true) {tm : Nat → AV} {σ : Store} {K : AV → Store → Prop} (h : o.out P tm σ K) : ∃ r, K r σ ∧ ∀ K' : AV → Store → Prop, K' r σ → o.out P tm σ K' := by
 unfold AOper.out at h ⊢
 split at h
 · rename_i hg
   obtain ⟨r, h1, h2⟩ := (AOp.wp_quiet hq).1 h
   exact ⟨r, h2, fun K' hk => (AOp.wp_quiet hq).2 ⟨r, h1, hk⟩⟩
 · rename_i s want hg
   split at h
   · rename_i b hb
     try simp only [hb]
     split at h
     · rename_i hbw
       obtain ⟨r, h1, h2⟩ := (AOp.wp_quiet hq).1 h
       exact ⟨r, h2, fun K' hk => by rw [if_pos hbw]; exact (AOp.wp_quiet hq).2 ⟨r, h1, hk⟩⟩
     · rename_i hbw
       exact ⟨.tuple [], h, fun K' hk => by rw [if_neg hbw]; exact hk⟩
   · rename_i hb
     exact ⟨.tuple [], h, fun K' hk => by first | exact hk | (simp only [hb]; exact hk)⟩
   · exact h.elim
theorem AOp.quiet_of_pure {op : AOp} (hp : op.pure = true) : op.quiet = true := by cases op <;> simp_all [AOp.pure, AOp.quiet]
theorem AOper.out_pure {o : AOper} (hq : o.op.pure = true) {tm : Nat → AV} {σ : Store} {K : AV → Store → Prop} (h : o.out P tm σ K) : ∃ r, K r σ ∧ ∀ τ, ∀ K' : AV → Store → Prop, K' r τ → o.out P tm τ K' := by
 have hqq := AOp.quiet_of_pure hq
 unfold AOper.out at h ⊢
 split at h
 · rename_i hg
   obtain ⟨r, h1, h2⟩ := (AOp.wp_quiet hqq).1 h
   exact ⟨r, h2, fun τ K' hk => (AOp.wp_quiet hqq).2 ⟨r, (AOp.eff_pure hq h1).2 τ, hk⟩⟩
 · rename_i s want hg
   split at h
   · rename_i b hb
     try simp only [hb]
     split at h
     · rename_i hbw
       obtain ⟨r, h1, h2⟩ := (AOp.wp_quiet hqq).1 h
       exact ⟨r, h2, fun τ K' hk => by rw [if_pos hbw]; exact (AOp.wp_quiet hqq).2 ⟨r, (AOp.eff_pure hq h1).2 τ, hk⟩⟩
     · rename_i hbw
       exact ⟨.tuple [], h, fun τ K' hk => by rw [if_neg hbw]; exact hk⟩
   · rename_i hb
     exact ⟨.tuple [], h, fun τ K' hk => by first | exact hk | (simp only [hb]; exact hk)⟩
   · exact h.elim

def Grown (σ σ' : Store) : Prop := ∀ id, id < σ.next → σ'.get id = σ.get id
theorem Grown.some {σ σ' : Store} (h : Grown σ σ') {id : Nat} {o : AObj} (e : σ.get id = some o) : σ'.get id = some o := by rw [h id (σ.lt e)]; exact e
theorem elemsOf_grown {σ σ' : Store} (hg : Grown σ σ') {sz : Nat} {v : AV} {es : List (List AV)} (h : elemsOf σ sz v = some es) : elemsOf σ' sz v = some es := by
 unfold elemsOf at h ⊢
 split at h
 · exact h
 · exact h
 · split at h
   · rename_i ho
     rw [hg.some ho]
     exact h
   · cases h
 · cases h
theorem AOp.eff_grown {op : AOp} (hq : op.quiet = true) {tm : Nat → AV} {σ σ' : Store} (hg : Grown σ σ') {r : AV} (h : op.eff tm σ = some (r, σ)) : op.eff tm σ' = some (r, σ') := by
 by_cases hp : op.pure = true
 · exact (AOp.eff_pure hp h).2 σ'
 · cases op <;> simp only [AOp.quiet, AOp.pure, Bool.false_eq_true] at hq hp <;> simp only [AOp.eff] at h ⊢
   all_goals first | (exact absurd rfl hp) | skip
   all_goals (try (exact absurd hq hp))
   case bstr x =>
    split at h
    · rename_i es hes
      rw [elemsOf_grown hg hes]
      simp only
      split at h
      · rename_i h1
        rw [if_pos h1]
        split at h
        · rename_i ns hns
          simp only [hns, Option.some.injEq, Prod.mk.injEq, and_true] at h ⊢
          exact h
        · cases h
      · cases h
    · cases h
   case ptreq ng x y =>
    split at h
    · rename_i id ver k off id' ver' k' off' e1 e2
      try simp only [e1, e2]
      split at h
      · rename_i ty v sz es ho
        rw [hg.some ho]
        simp only
        split at h
        · rename_i hc
          rw [if_pos hc]
          simp only [Option.some.injEq, Prod.mk.injEq, and_true] at h ⊢
          exact h
        · cases h
      · cases h
    · rename_i u v hn
      split at h
      · rename_i r' hr
        simp only [hr, Option.some.injEq, Prod.mk.injEq, and_true] at h ⊢
        exact h
      · cases h
   all_goals (
    (repeat' split at h) <;> simp only [Option.some.injEq, Prod.mk.injEq, reduceCtorEq, and_true] at h <;> (try subst h) <;>
    (first
     | (have e := hg.some (by assumption); simp only [*, if_true, and_self]; done)
     | (have e := hg.some (by assumption); simp [*]; done)
     | (simp [*]; done)
     | (rename_i hc; simp [*]; exact hc.2.2.2)))
end
end Go.AL
set_option linter.unusedVariables false
set_option linter.unusedSimpArgs false
namespace Go.AL
open Go.RowKit

/-! ### Which operations are ahead of others -/
inductive Ahead (ops : Array Oper) : Nat → Nat → Prop
 | step {i j : Nat} {o : Oper} {e : Edge} : ops[j]? = some o → e ∈ o.after → Region.binds .any e = true → e.on = i → Ahead ops i j
 | trans {i k j : Nat} {o : Oper} {e : Edge} : ops[j]? = some o → e ∈ o.after → Region.binds .any e = true → e.on = k → Ahead ops i k → Ahead ops i j

def aheads : List Oper → Array Nat → Array Nat
 | [], acc => acc
 | o :: rest, acc => aheads rest (acc.push (o.after.toList.foldl (fun s e => if Region.binds .any e then s ||| 2 ^ e.on ||| acc.getD e.on 0 else s) 0))

theorem aheads_fold {ops : Array Oper} {acc : Array Nat} {j : Nat} {o : Oper} (ho : ops[j]? = some o) (hacc : ∀ k i, (acc.getD k 0).testBit i = true → Ahead ops i k) :
 ∀ (l : List Edge) (s : Nat), (∀ e, e ∈ l → e ∈ o.after) → (∀ i, s.testBit i = true → Ahead ops i j) →
  ∀ i, (l.foldl (fun s e => if Region.binds .any e then s ||| 2 ^ e.on ||| acc.getD e.on 0 else s) s).testBit i = true → Ahead ops i j := by
 intro l
 induction l with
 | nil => intro s _ hs i hi; exact hs i hi
 | cons e l ih =>
  intro s hm hs i hi
  simp only [List.foldl_cons] at hi
  refine ih _ (fun e he => hm e (by simp [he])) (fun i' hi' => ?_) i hi
  split at hi'
  · rename_i hb
    rw [Nat.testBit_or, Nat.testBit_or, Bool.or_eq_true, Bool.or_eq_true] at hi'
    rcases hi' with (h1 | h1) | h1
    · exact hs i' h1
    · rw [Nat.testBit_two_pow] at h1
      exact .step ho (hm e (by simp)) hb (by simpa using h1)
    · exact .trans ho (hm e (by simp)) hb rfl (hacc _ _ h1)
  · exact hs i' hi'

theorem aheads_spec {ops : Array Oper} : ∀ (l : List Oper) (acc : Array Nat), ops.toList.drop acc.size = l → (∀ k i, (acc.getD k 0).testBit i = true → Ahead ops i k) →
 ∀ k i, ((aheads l acc).getD k 0).testBit i = true → Ahead ops i k := by
 intro l
 induction l with
 | nil => intro acc _ hacc; exact hacc
 | cons o rest ih =>
  intro acc hd hacc
  have ho : ops[acc.size]? = some o := by
   have := congrArg (·[0]?) hd
   simpa using this
  simp only [aheads]
  refine ih _ (by rw [Array.size_push, ← List.drop_drop, hd]; rfl) (fun k i hk => ?_)
  by_cases h1 : k < acc.size
  · have e : (acc.push (o.after.toList.foldl (fun s e => if Region.binds .any e then s ||| 2 ^ e.on ||| acc.getD e.on 0 else s) 0)).getD k 0 = acc.getD k 0 := by
     simp [Array.getD_eq_getD_getElem?, Array.getElem?_push, Nat.ne_of_lt h1]
    rw [e] at hk
    exact hacc k i hk
  · by_cases h2 : k = acc.size
    · subst h2
      simp only [Array.getD_eq_getD_getElem?, Array.getElem?_push_size, Option.getD_some] at hk
      exact aheads_fold ho hacc o.after.toList 0 (fun e he => by simpa using he) (by simp) i (by simpa only [Array.getD_eq_getD_getElem?] using hk)
    · have e : (acc.push (o.after.toList.foldl (fun s e => if Region.binds .any e then s ||| 2 ^ e.on ||| acc.getD e.on 0 else s) 0)).getD k 0 = 0 := by
       simp [Array.getD_eq_getD_getElem?, Array.getElem?_push, h2]
       rw [Array.getElem?_eq_none (by omega)]
       rfl
      rw [e] at hk
      simp at hk

theorem Ahead.listed {ops : Array Oper} {listed : Array Bool} (hdown : ∀ (m : Nat) (o : Oper) (e : Edge), listed.getD m false = true → ops[m]? = some o → e ∈ o.after → Region.binds .any e = true → listed.getD e.on false = true)
 {i j : Nat} (h : Ahead ops i j) (hj : ∀ (o : Oper) (e : Edge), ops[j]? = some o → e ∈ o.after → Region.binds .any e = true → listed.getD e.on false = true) : listed.getD i false = true := by
 induction h with
 | step ho he hb hon => subst hon; exact hj _ _ ho he hb
 | trans ho he hb hon _ ih => subst hon; exact ih fun o e h1 h2 h3 => hdown _ o e (hj _ _ ho he hb) h1 h2 h3


section
variable {P : Program} {B : Nat} {w0 : World} {σ : Store} {g : Ghost} {w : World} {n : Nat} {tm : Nat → AV} {a : Act} {ops : Array Oper} {Q : Exit → Act → World → Prop}
theorem oper_sound2 {own : List Nat} {i : Nat} {o : Oper} {ao : AOper} (hi : ops[i]? = some o) (hres : resolveOper P own ops n o = some ao) (hT : RelT g n tm a) (h : SR B w0 σ g w) {K : (Nat → AV) → Store → Prop} (hw : ao.wp P tm σ K)
 {K' : Act → World → Prop} (hK : ∀ tm' σ' g' a' w', K tm' σ' → Ext g g' → SR B w0 σ' g' w' → RelT g' n tm' a' → (∃ v, a' = a.put ao.dst v) → K' a' w') : wpOp P ops Q i K' a w := by
 have hdst : ao.dst = o.dst := by
  unfold resolveOper at hres
  (repeat' split at hres) <;> simp at hres <;> subst hres <;> rfl
 unfold resolveOper at hres
 split at hres
 · rename_i aop hop
   split at hres
   · rename_i hd
     unfold wpOp
     simp only [hi]
     have fin : ∀ (K2 : AV → Store → Prop), (∀ r σ', K2 r σ' → K (put tm o.dst r) σ') → aop.wp P tm σ K2 → o.wp P a w K' Q := fun K2 hk2 hwp =>
      op_sound hop hT h hwp fun r σ' g' v w' k1 k2 k3 k4 => hK _ σ' g' _ w' (hk2 r σ' k1) k2 k3 ((hT.ext k2).put hd k4) ⟨v, by rw [hdst]⟩
     split at hres
     · rename_i hg
       cases hres
       have hwant : Region.wanted o (yielded ops a.tmps) = true := by simp [Region.wanted, hg]
       simp only [hwant, if_true]
       exact .inl (fin _ (fun r σ' hk => hk) hw)
     · rename_i j want hg
       split at hres
       · rename_i s hs
         split at hres
         · rename_i hsn
           cases hres
           simp only [AOper.wp] at hw
           split at hw
           · rename_i b hb
             have hrs := hT.2.2 s
             rw [hb] at hrs
             have hy : yielded ops a.tmps j = some b := by
              simp only [yielded, hs, Option.bind_some]
              have hlt : s < a.tmps.size := by rw [hT.1]; exact hsn
              rw [Array.getElem?_eq_getElem hlt]
              have hgd : a.tmps.getD s undef = a.tmps[s] := by simp [hlt]
              rw [hgd] at hrs
              generalize a.tmps[s] = v at hrs
              cases hrs
              rfl
             have hwant : Region.wanted o (yielded ops a.tmps) = (b == want) := by
              simp only [Region.wanted, hg, hy]
              cases b <;> cases want <;> rfl
             rw [hwant]
             by_cases hbw : b = want
             · rw [if_pos hbw] at hw
               simp only [hbw, beq_self_eq_true, if_true]
               exact .inl (fin _ (fun r σ' hk => hk) hw)
             · rw [if_neg hbw] at hw
               have : (b == want) = false := by simpa using hbw
               simp only [this, Bool.false_eq_true, if_false]
               exact hK _ σ g _ w hw (.refl g) h (hT.put hd (RelV.tuple (cs := []) (arr := #[]) rfl (by simp))) ⟨_, rfl⟩
           · rename_i hb
             have hrs := hT.2.2 s
             rw [hb] at hrs
             have hy : yielded ops a.tmps j = none := by
              simp only [yielded, hs, Option.bind_some]
              have hlt : s < a.tmps.size := by rw [hT.1]; exact hsn
              rw [Array.getElem?_eq_getElem hlt]
              have hgd : a.tmps.getD s undef = a.tmps[s] := by simp [hlt]
              rw [hgd] at hrs
              generalize a.tmps[s] = v at hrs
              cases hrs
              rfl
             have hwant : Region.wanted o (yielded ops a.tmps) = false := by simp [Region.wanted, hg, hy]
             simp only [hwant, Bool.false_eq_true, if_false]
             exact hK _ σ g _ w hw (.refl g) h (hT.put hd (RelV.tuple (cs := []) (arr := #[]) rfl (by simp))) ⟨_, rfl⟩
           · exact hw.elim
         · cases hres
       · cases hres
   · cases hres
 · cases hres

end

/-! ### A plan: operations in an order that stands for all -/
def dsts (l : List AOper) : List Nat := l.filterMap (·.dst)
def usesL (l : List AOper) : List Nat := l.flatMap AOper.uses
def quietI : List AOper → Bool
 | [o] => o.op.quiet && o.dst.isSome
 | _ => false
def growI : List AOper → Bool
 | [⟨some t, .new _ _, none⟩, ⟨none, .store _ (.t t') _, none⟩] => t == t'
 | _ => false
def pairOK (it : Nat → List AOper) (R : Nat → List Nat) (a b : Nat) : Bool :=
 match it a with
 | [oa] =>
  match oa.dst with
  | some da => oa.op.quiet && !(oa.uses.contains da) && !(usesL (it b)).contains da && !(dsts (it b)).contains da && !((dsts (it b)).any fun d => oa.uses.contains d) && (R a).isEmpty && (oa.op.pure || quietI (it b) || growI (it b) || (R b).contains a)
  | none => false
 | _ => false
def safe (it : Nat → List AOper) (k a : Nat) : Bool :=
 match it k with
 | [ok] => match ok.dst with | some dk => !((dsts (it a)).any fun d => ok.uses.contains d || d == dk) | none => false
 | _ => false
section
variable {P : Program}
def Still (P : Program) (o : AOper) (tm : Nat → AV) (σ : Store) : Prop := ∃ d, o.dst = some d ∧ o.out P tm σ fun r σ' => r = tm d ∧ σ' = σ
def DR (P : Program) (it : Nat → List AOper) (R : Nat → List Nat) (K : (Nat → AV) → Store → Prop) : List Nat → List Nat → (Nat → AV) → Store → Prop
 | _, [], tm, σ => K tm σ
 | acc, i :: rest, tm, σ => opsWp P (it i) tm σ fun tm' σ' => (∀ k, k ∈ acc → k ∈ R i → ∀ o, it k = [o] → Still P o tm' σ') ∧ DR P it R K (i :: acc) rest tm' σ'
variable {it : Nat → List AOper} {R : Nat → List Nat} {K : (Nat → AV) → Store → Prop}
theorem DR_acc : ∀ {L acc acc' : List Nat} {tm : Nat → AV} {σ : Store}, (∀ k, k ∈ acc' → k ∈ acc) → DR P it R K acc L tm σ → DR P it R K acc' L tm σ
 | [], _, _, _, _, _, h => h
 | i :: L, acc, acc', tm, σ, hs, h => opsWp_mono (fun t s ⟨h1, h2⟩ => ⟨fun k hk => h1 k (hs k hk), DR_acc (fun k hk => by
  rcases List.mem_cons.1 hk with rfl | hk
  · simp
  · simp [hs k hk]) h2⟩) h

theorem item_put {da : Nat} {ra : AV} : ∀ {l : List AOper} {tm : Nat → AV} {σ : Store} {K : (Nat → AV) → Store → Prop}, (∀ o, o ∈ l → da ∉ o.uses) → (∀ o, o ∈ l → o.dst ≠ some da) →
 opsWp P l (put tm (some da) ra) σ K → opsWp P l tm σ fun t s => K (put t (some da) ra) s
 | [], _, _, _, _, _, h => h
 | o :: l, tm, σ, K, h1, h2, h => by
  have hu : ∀ i, i ∈ o.uses → put tm (some da) ra i = tm i := fun i hi => by
   have : i ≠ da := fun e => h1 o (by simp) (e ▸ hi)
   simp [put, this]
  have h' : o.out P (put tm (some da) ra) σ fun r s => opsWp P l (put (put tm (some da) ra) o.dst r) s K := h
  have h'' := AOper.out_congr hu h'
  refine AOper.out_mono (fun r s hk => ?_) h''
  rw [put_swap tm ra r (h2 o (by simp))] at hk
  exact item_put (fun o ho => h1 o (by simp [ho])) (fun o ho => h2 o (by simp [ho])) hk
theorem item_keeps : ∀ {l : List AOper} {tm : Nat → AV} {σ : Store} {K : (Nat → AV) → Store → Prop}, opsWp P l tm σ K → opsWp P l tm σ fun t s => K t s ∧ ∀ i, i ∉ dsts l → t i = tm i
 | [], _, _, _, h => ⟨h, fun _ _ => rfl⟩
 | o :: l, tm, σ, K, h => by
  have h' : o.out P tm σ fun r s => opsWp P l (put tm o.dst r) s K := h
  refine AOper.out_mono (fun r s hk => ?_) h'
  refine opsWp_mono (fun t s ⟨k1, k2⟩ => ⟨k1, fun i hi => ?_⟩) (item_keeps hk)
  rw [k2 i (fun hd => hi (by simp only [dsts, List.mem_filterMap] at hd ⊢; obtain ⟨x, hx, hx2⟩ := hd; exact ⟨x, by simp [hx], hx2⟩))]
  cases hd : o.dst with
  | none => rfl
  | some d =>
   have : i ≠ d := fun e => hi (by simp [dsts, hd, e])
   simp [put, this]
theorem item_quiet {l : List AOper} (hq : quietI l = true) {tm : Nat → AV} {σ : Store} {K : (Nat → AV) → Store → Prop} (h : opsWp P l tm σ K) : opsWp P l tm σ fun t s => K t s ∧ s = σ := by
 unfold quietI at hq
 split at hq
 · rename_i o
   simp only [Bool.and_eq_true] at hq
   have h' : o.out P tm σ fun r s => K (put tm o.dst r) s := h
   obtain ⟨r, h1, h2⟩ := AOper.out_quiet hq.1 h'
   exact h2 _ ⟨h1, rfl⟩
 · cases hq
theorem item_grow {l : List AOper} (hq : growI l = true) {tm : Nat → AV} {σ : Store} {K : (Nat → AV) → Store → Prop} (h : opsWp P l tm σ K) : opsWp P l tm σ fun t s => K t s ∧ Grown σ s := by
 unfold growI at hq
 split at hq
 · rename_i t ty z sz t' x
   have ht : t = t' := by simpa using hq
   subst ht
   have h1 : (AOp.new ty z).wp P tm σ fun r s => (AOp.store sz (.t t) x).wp P (put tm (some t) r) s fun r' s' => K (put (put tm (some t) r) none r') s' := h
   show (AOp.new ty z).wp P tm σ fun r s => (AOp.store sz (.t t) x).wp P (put tm (some t) r) s fun r' s' => K (put (put tm (some t) r) none r') s' ∧ Grown σ s'
   simp only [AOp.wp] at h1 ⊢
   cases he : (AOp.new ty z).eff tm σ with
   | none => rw [he] at h1; exact h1.elim
   | some p =>
    obtain ⟨r, s⟩ := p
    rw [he] at h1
    simp only at h1 ⊢
    simp only [AOp.eff] at he
    split at he
    · rename_i cs hcs
      simp only [Option.some.injEq, Prod.mk.injEq] at he
      obtain ⟨rfl, rfl⟩ := he
      cases he2 : (AOp.store sz (.t t) x).eff (put tm (some t) (.ptr σ.next 0 0 0)) (σ.push (.cells ty 0 cs.length [cs])) with
      | none => rw [he2] at h1; exact h1.elim
      | some p =>
       obtain ⟨r', s'⟩ := p
       rw [he2] at h1
       simp only at h1 ⊢
       refine ⟨h1, ?_⟩
       have hs' : ∃ o, s' = (σ.push (.cells ty 0 cs.length [cs])).upd σ.next o := by
        have e : (AX.t t).ev (put tm (some t) (.ptr σ.next 0 0 0)) = .ptr σ.next 0 0 0 := by simp [AX.ev, put]
        simp only [AOp.eff, e, Store.get_push_self] at he2
        (repeat' split at he2) <;> simp only [Option.some.injEq, Prod.mk.injEq, reduceCtorEq] at he2
        exact ⟨_, he2.2.symm⟩
       obtain ⟨o, rfl⟩ := hs'
       intro id hid
       rw [Store.get_upd_ne _ _ (by omega), Store.get_push_lt _ _ hid]
    · cases he
 · cases hq

theorem DR_front {b : Nat} {L2 : List Nat} : ∀ (L1 acc : List Nat) (tm : Nat → AV) (σ : Store), (∀ a, a ∈ L1 → pairOK it R a b = true) → (acc.reverse ++ L1).Pairwise (fun k a => k ∈ R b → safe it k a = true) →
 DR P it R K acc (L1 ++ b :: L2) tm σ → opsWp P (it b) tm σ fun tm' σ' => (∀ k, k ∈ acc → k ∈ R b → ∀ o, it k = [o] → Still P o tm' σ') ∧ DR P it R K acc (L1 ++ L2) tm' σ' := by
 intro L1
 induction L1 with
 | nil => intro acc tm σ _ _ h; exact opsWp_mono (fun t s ⟨h1, h2⟩ => ⟨h1, DR_acc (fun k hk => by simp [hk]) h2⟩) h
 | cons a L1 ih =>
  intro acc tm σ hp hs h
  have hpa := hp a (by simp)
  unfold pairOK at hpa
  split at hpa
  · rename_i oa hia
    split at hpa
    · rename_i da hda
      simp only [Bool.and_eq_true, Bool.not_eq_true', List.isEmpty_iff] at hpa
      obtain ⟨⟨⟨⟨⟨⟨q1, q0⟩, q2⟩, q3⟩, q4⟩, q5⟩, q6⟩ := hpa
      have h' : oa.out P tm σ fun r s => (∀ k, k ∈ acc → k ∈ R a → ∀ o, it k = [o] → Still P o (put tm oa.dst r) s) ∧ DR P it R K (a :: acc) (L1 ++ b :: L2) (put tm oa.dst r) s := by
       have : opsWp P (it a) tm σ fun tm' σ' => (∀ k, k ∈ acc → k ∈ R a → ∀ o, it k = [o] → Still P o tm' σ') ∧ DR P it R K (a :: acc) (L1 ++ b :: L2) tm' σ' := h
       rw [hia] at this
       exact this
      obtain ⟨ra, ⟨_, h1⟩, h2⟩ := AOper.out_quiet q1 h'
      rw [hda] at h1
      have i1 := ih (a :: acc) _ _ (fun x hx => hp x (by simp [hx])) (by simpa using hs) h1
      have n1 : ∀ o, o ∈ it b → da ∉ o.uses := fun o ho hd => by
       have : (usesL (it b)).contains da = true := by simp only [usesL, List.contains_iff_mem, List.mem_flatMap]; exact ⟨o, ho, hd⟩
       rw [this] at q2; cases q2
      have n2 : ∀ o, o ∈ it b → o.dst ≠ some da := fun o ho hd => by
       have : (dsts (it b)).contains da = true := by simp only [dsts, List.contains_iff_mem, List.mem_filterMap]; exact ⟨o, ho, hd⟩
       rw [this] at q3; cases q3
      have n3 : ∀ i, i ∈ oa.uses → i ∉ dsts (it b) := fun i hi hd => by
       have : ((dsts (it b)).any fun d => oa.uses.contains d) = true := List.any_eq_true.2 ⟨i, hd, by simpa using hi⟩
       rw [this] at q4; cases q4
      have i2 := item_keeps (item_put n1 n2 i1)
      -- the goal, from what holds behind b
      have fin : ∀ t s, (((∀ k, k ∈ a :: acc → k ∈ R b → ∀ o, it k = [o] → Still P o (put t (some da) ra) s) ∧ DR P it R K (a :: acc) (L1 ++ L2) (put t (some da) ra) s) ∧ ∀ i, i ∉ dsts (it b) → t i = tm i) →
       (∀ K' : AV → Store → Prop, K' ra s → oa.out P t s K') →
       (∀ k, k ∈ acc → k ∈ R b → ∀ o, it k = [o] → Still P o t s) ∧ DR P it R K acc (a :: L1 ++ L2) t s := by
       intro t s ⟨⟨k1, k2⟩, k3⟩ ha
       refine ⟨fun k hk hkb o ho => ?_, ?_⟩
       · obtain ⟨d, hd, hst⟩ := k1 k (by simp [hk]) hkb o ho
         have hsf : safe it k a = true := by
          have := (List.pairwise_append.1 hs).2.2 k (by simpa using hk) a (by simp)
          exact this hkb
         unfold safe at hsf
         rw [ho] at hsf
         simp only [hd, hia, dsts, List.filterMap_cons, hda, List.filterMap_nil, List.any_cons, List.any_nil, Bool.or_false, Bool.not_eq_true', Bool.or_eq_false_iff, beq_eq_false_iff_ne, ne_eq] at hsf
         obtain ⟨s1, s2⟩ := hsf
         have s1' : da ∉ o.uses := fun hm => by
          have : o.uses.contains da = true := by simpa using hm
          rw [this] at s1; cases s1
         refine ⟨d, hd, ?_⟩
         have hst' := AOper.out_congr (tm' := t) (fun i hi => by
          have : i ≠ da := fun e => s1' (e ▸ hi)
          simp [put, this]) hst
         refine AOper.out_mono (fun r τ ⟨e1, e2⟩ => ⟨?_, e2⟩) hst'
         have : d ≠ da := fun e => s2 e.symm
         rw [e1]; simp [put, this]
       · show opsWp P (it a) t s _
         rw [hia]
         refine ha _ ⟨fun k _ hk => by rw [q5] at hk; simp at hk, ?_⟩
         rw [hda]; exact k2
      have huse : ∀ t : Nat → AV, (∀ i, i ∉ dsts (it b) → t i = tm i) → ∀ i, i ∈ oa.uses → tm i = t i := fun t ht i hi => (ht i (n3 i hi)).symm
      simp only [Bool.or_eq_true] at q6
      rcases q6 with ((q6 | q6) | q6) | q6
      · obtain ⟨ra', h3, h4⟩ := AOper.out_pure q6 (h2 (fun r s => r = ra ∧ s = σ) ⟨rfl, rfl⟩)
        obtain ⟨rfl, _⟩ := h3
        exact opsWp_mono (fun t s hk => fin t s hk fun K' hk' => AOper.out_congr (huse t hk.2) (h4 s K' hk')) i2
      · exact opsWp_mono (fun t s hk => fin t s hk.1 fun K' hk' => AOper.out_congr (huse t hk.1.2) (by have := hk.2; subst this; exact h2 K' hk')) (item_quiet q6 i2)
      · refine opsWp_mono (fun t s hk => fin t s hk.1 fun K' hk' => AOper.out_congr (huse t hk.1.2) ?_) (item_grow q6 i2)
        have hgr := hk.2
        have := h2 (fun r s => r = ra ∧ s = σ) ⟨rfl, rfl⟩
        unfold AOper.out at this ⊢
        split at this
        · obtain ⟨r, e1, e2⟩ := (AOp.wp_quiet q1).1 this
          obtain ⟨rfl, _⟩ := e2
          exact (AOp.wp_quiet q1).2 ⟨_, AOp.eff_grown q1 hgr e1, hk'⟩
        · split at this
          · rename_i bb hbb
            try simp only [hbb]
            split at this
            · rename_i hw
              rw [if_pos hw]
              obtain ⟨r, e1, e2⟩ := (AOp.wp_quiet q1).1 this
              obtain ⟨rfl, _⟩ := e2
              exact (AOp.wp_quiet q1).2 ⟨_, AOp.eff_grown q1 hgr e1, hk'⟩
            · rename_i hw
              rw [if_neg hw]
              obtain ⟨e, _⟩ := this
              rw [e]; exact hk'
          · obtain ⟨e, _⟩ := this
            rw [e]; exact hk'
          · exact this.elim
      · refine opsWp_mono (fun t s hk => fin t s hk fun K' hk' => ?_) i2
        obtain ⟨d, hd, hst⟩ := hk.1.1 a (by simp) (by simpa using q6) oa hia
        rw [hda] at hd; cases hd
        have hdu : da ∉ oa.uses := fun hm => by
         have : oa.uses.contains da = true := by simpa using hm
         rw [this] at q0; cases q0
        have hst' := AOper.out_congr (tm' := t) (fun i hi => by
         have : i ≠ da := fun e => hdu (e ▸ hi)
         simp [put, this]) hst
        obtain ⟨r, ⟨e1, e2⟩, h5⟩ := AOper.out_quiet q1 hst'
        simp only [put, if_true] at e1
        subst e1
        exact h5 K' hk'
    · cases hpa
  · cases hpa
end
end Go.AL
set_option linter.unusedVariables false
set_option linter.unusedSimpArgs false
namespace Go.AL
open Go.RowKit

structure Plan where
 fu : List (Nat × Nat × Nat)
 ord : List Nat
 rs : List (List Nat)

def pw (f : Nat → Nat → Bool) : List Nat → Bool
 | [] => true
 | a :: l => l.all (f a) && pw f l
theorem pw_spec {f : Nat → Nat → Bool} : ∀ {l : List Nat}, pw f l = true → l.Pairwise (fun a b => f a b = true)
 | [], _ => .nil
 | a :: l, h => by
  simp only [pw, Bool.and_eq_true] at h
  exact .cons (fun b hb => List.all_eq_true.1 h.1 b hb) (pw_spec h.2)

def itemsOf (al : List AOper) (fu : List (Nat × Nat × Nat)) (i : Nat) : List AOper :=
 match fu.find? (fun f => f.2.1 == i) with
 | some f => (al[f.1]?).toList ++ (al[i]?).toList
 | none => (al[i]?).toList
def fuOK (b : Array Nat) (al : List AOper) (f : Nat × Nat × Nat) : Bool :=
  (match al[f.1]? with
   | some ⟨some t, .new _ (.c z), none⟩ => t == f.2.2 && (match z.cellsOf with | some zc => zc.all AV.flat | none => false)
   | _ => false) &&
  (match al[f.2.1]? with | some ⟨none, .store _ (.t t) _, none⟩ => t == f.2.2 | _ => false) &&
  (b.getD f.2.1 0).testBit f.1 &&
  (al.zipIdx.all fun p => p.2 == f.1 || p.1.dst != some f.2.2)
def planOK (ops : Array Oper) (al : List AOper) (p : Plan) : Bool :=
 let b := aheads ops.toList #[]
 let it := itemsOf al p.fu
 let R := fun i => p.rs.getD i []
 (ops.toList.zipIdx.all fun x => x.1.after.all fun e => !Region.binds .any e || decide (e.on < x.2)) &&
 ((List.range ops.size).all fun i => p.ord.contains i || p.fu.any (·.1 == i)) &&
 (p.ord.all fun i => !(p.fu.any (·.1 == i)) && decide (i < ops.size)) &&
 p.fu.all (fuOK b al) &&
 p.fu.all (fun f => p.fu.all fun f' => (f.2.1 == f'.2.1) == (f.1 == f'.1)) &&
 pw (fun x y => x != y && ((b.getD y 0).testBit x || pairOK it R x y) && (!(p.rs.any fun l => l.contains x) || safe it x y)) p.ord &&
 (p.rs.all fun l => l.all fun k => quietI (it k))

def opsN (P : Program) : List (List AOper × List AOper) → (Nat → AV) → Store → ((Nat → AV) → Store → Prop) → Prop
 | [], tm, σ, K => K tm σ
 | (os, cs) :: rest, tm, σ, K => opsWp P os tm σ fun tm' σ' => (∀ c, c ∈ cs → Still P c tm' σ') ∧ opsN P rest tm' σ' K
def Plan.code (p : Plan) (al : List AOper) : List (List AOper × List AOper) :=
 p.ord.map fun i => (itemsOf al p.fu i, (p.rs.getD i []).flatMap (itemsOf al p.fu))
def junks (js : List Nat) (tm : Nat → AV) : Nat → AV := js.foldl (fun t j => put t (some j) .junk) tm
theorem junks_cases : ∀ (js : List Nat) (tm : Nat → AV) (i : Nat), junks js tm i = .junk ∨ junks js tm i = tm i
 | [], tm, i => .inr rfl
 | j :: js, tm, i => by
  show junks js (put tm (some j) .junk) i = .junk ∨ junks js (put tm (some j) .junk) i = tm i
  rcases junks_cases js (put tm (some j) .junk) i with h | h
  · exact .inl h
  · rw [h]
    by_cases e : i = j
    · left; simp [put, e]
    · right; simp [put, e]
theorem junks_mem : ∀ (js : List Nat) (tm : Nat → AV) (i : Nat), (i ∈ js ∨ tm i = .junk) → junks js tm i = .junk
 | [], tm, i, h => by simpa [junks] using h
 | j :: js, tm, i, h => by
  refine junks_mem js (put tm (some j) .junk) i ?_
  by_cases e : i = j
  · right; simp [put, e]
  · rcases h with h | h
    · simp [e] at h; exact .inl h
    · right; simp [put, e, h]

section
variable {P : Program}
theorem DR_of_opsN {it : Nat → List AOper} {R : Nat → List Nat} {K : (Nat → AV) → Store → Prop} : ∀ (L acc : List Nat) (tm : Nat → AV) (σ : Store),
 opsN P (L.map fun i => (it i, (R i).flatMap it)) tm σ K → DR P it R K acc L tm σ
 | [], _, _, _, h => h
 | i :: L, acc, tm, σ, h => opsWp_mono (fun t s ⟨h1, h2⟩ => ⟨fun k _ hk o ho => h1 o (List.mem_flatMap.2 ⟨k, hk, by simp [ho]⟩), DR_of_opsN L _ t s h2⟩) h

variable {B : Nat} {w0 : World} {n : Nat} {ops : Array Oper} {Q : Exit → Act → World → Prop}
def Pend (al : List AOper) (g0 g : Ghost) (B : Nat) (a : Act) (f : Nat × Nat × Nat) (b : Nat) : Prop :=
 ∃ ty z zc cells cap, al[f.1]? = some ⟨some f.2.2, .new ty (.c z), none⟩ ∧ z.cellsOf = some zc ∧ g.Φ b = some cells ∧ g.vis b = some ty ∧ B ≤ b ∧ g0.Φ b = none ∧ cells.size = cap * zc.length ∧ 1 ≤ cap ∧ cap ≤ maxLen ∧
  (∀ (j : Nat) c, zc[j]? = some c → (∀ g, RelV g c (cells.getD j undef)) ∧ (cells.getD j undef).oneCell' = true) ∧ a.tmps.getD f.2.2 undef = .pointer (some ⟨b, 0, none⟩)
theorem Pend.ext {al : List AOper} {g0 g g' : Ghost} {a a' : Act} {f : Nat × Nat × Nat} {b : Nat} (h : Pend al g0 g B a f b) (hΦ : g'.Φ b = g.Φ b) (hv : g'.vis b = g.vis b) (ha : a'.tmps.getD f.2.2 undef = a.tmps.getD f.2.2 undef) : Pend al g0 g' B a' f b := by
 obtain ⟨ty, z, zc, cells, cap, h1, h2, h3, h4, h5, h6, h7, h8, h9, h10, h11⟩ := h
 exact ⟨ty, z, zc, cells, cap, h1, h2, hΦ.trans h3, hv.trans h4, h5, h6, h7, h8, h9, h10, ha.trans h11⟩
theorem Pend.extE {al : List AOper} {g0 g g' : Ghost} {a a' : Act} {f : Nat × Nat × Nat} {b : Nat} (h : Pend al g0 g B a f b) (hE : Ext g g') (ha : a'.tmps.getD f.2.2 undef = a.tmps.getD f.2.2 undef) : Pend al g0 g' B a' f b := by
 have h' := h
 obtain ⟨ty, z, zc, cells, cap, h1, h2, h3, h4, h5⟩ := h
 exact h'.ext (by rw [hE.phi _ _ h3, h3]) (hE.see _ _ h3) ha

theorem put_getD {a : Act} {d : Option Nat} {v : Value} {t : Nat} (h : d ≠ some t) : (a.put d v).tmps.getD t undef = a.tmps.getD t undef := by
 cases d with
 | none => rfl
 | some d =>
  have : d ≠ t := fun e => h (by rw [e])
  simp [Act.put, Array.getElem?_setIfInBounds_ne this]

theorem plan_sound {own : List Nat} {al : List AOper} (hres : ∀ (i : Nat) (o : Oper), ops[i]? = some o → ∃ ao, al[i]? = some ao ∧ resolveOper P own ops n o = some ao) (hlen : al.length = ops.size) {p : Plan} (hok : planOK ops al p = true)
 {K : (Nat → AV) → Store → Prop} {g0 : Ghost} (hK : ∀ tm' σ' g' a' w', K tm' σ' → Ext g0 g' → SR B w0 σ' g' w' → RelT g' n tm' a' → Q .normal a' w') :
 ∀ (fuel : Nat) (listed : Array Bool) (L : List Nat) (tm : Nat → AV) (σ : Store) (g : Ghost) (a : Act) (w : World), listed.size = ops.size → L = p.ord.filter (fun i => !listed.getD i true) →
  ((List.range ops.size).filter (fun i => !listed.getD i true)).length ≤ fuel →
  (∀ (m : Nat) (o : Oper) (e : Edge), listed.getD m false = true → ops[m]? = some o → e ∈ o.after → Region.binds .any e = true → listed.getD e.on false = true) →
  DR P (itemsOf al p.fu) (fun i => p.rs.getD i []) K [] L tm σ →
  (∀ f, f ∈ p.fu → listed.getD f.2.1 true = false → tm f.2.2 = .junk) →
  (∃ pb : Nat → Nat, (∀ f, f ∈ p.fu → listed.getD f.1 false = true → listed.getD f.2.1 true = false → Pend al g0 g B a f (pb f.1)) ∧
   (∀ f f', f ∈ p.fu → f' ∈ p.fu → listed.getD f.1 false = true → listed.getD f.2.1 true = false → listed.getD f'.1 false = true → listed.getD f'.2.1 true = false → f.1 ≠ f'.1 → pb f.1 ≠ pb f'.1)) →
  Ext g0 g → SR B w0 σ g w → RelT g n tm a → wpAny P .any ops Q fuel listed a w := by
 simp only [planOK, Bool.and_eq_true] at hok
 obtain ⟨⟨⟨⟨⟨⟨c0, c1⟩, c2⟩, c3⟩, c3'⟩, c4⟩, c5⟩ := hok
 have c4' := pw_spec c4
 -- what is ahead is listed
 have hahead : ∀ {i j : Nat} {listed : Array Bool}, ((aheads ops.toList #[]).getD j 0).testBit i = true → Ahead ops i j := fun h => aheads_spec ops.toList #[] (by simp) (by simp) _ _ h
 have hedge : ∀ {j : Nat} {o : Oper} {e : Edge}, ops[j]? = some o → e ∈ o.after → Region.binds .any e = true → e.on < j := by
  intro j o e ho he hb
  have h1 := List.all_eq_true.1 c0 (o, j) (by rw [List.mem_zipIdx_iff_getElem?]; simpa using ho)
  have h2 := Array.all_eq_true_iff_forall_mem.1 h1 e he
  simp only [hb, Bool.not_true, Bool.false_or, decide_eq_true_eq] at h2
  exact h2
 -- the variables that are made first
 have hfu : ∀ f, f ∈ p.fu → ∃ ty z zc sz x, al[f.1]? = some ⟨some f.2.2, .new ty (.c z), none⟩ ∧ z.cellsOf = some zc ∧ (∀ c, c ∈ zc → c.flat = true) ∧ al[f.2.1]? = some ⟨none, .store sz (.t f.2.2) x, none⟩ ∧ Ahead ops f.1 f.2.1 ∧ ∀ i o, al[i]? = some o → i ≠ f.1 → o.dst ≠ some f.2.2 := by
  intro f hf
  have h := List.all_eq_true.1 c3 f hf
  simp only [fuOK, Bool.and_eq_true] at h
  obtain ⟨⟨⟨h1, h2⟩, h3⟩, h4⟩ := h
  split at h1
  · rename_i t ty z e1
    simp only [Bool.and_eq_true, beq_iff_eq] at h1
    obtain ⟨rfl, h1⟩ := h1
    split at h1
    · rename_i zc hzc
      split at h2
      · rename_i sz t' x e2
        simp only [beq_iff_eq] at h2
        subst h2
        refine ⟨ty, z, zc, sz, x, e1, hzc, fun c hc => List.all_eq_true.1 h1 c hc, e2, hahead (listed := #[]) h3, fun i o hi hne hd => ?_⟩
        have := List.all_eq_true.1 h4 (o, i) (by rw [List.mem_zipIdx_iff_getElem?]; exact hi)
        simp [hne, hd] at this
      · cases h2
    · cases h1
  · cases h1
 have hfu1 : ∀ f f', f ∈ p.fu → f' ∈ p.fu → f.1 ≠ f'.1 → f.2.2 ≠ f'.2.2 := by
  intro f f' hf hf' hne e
  obtain ⟨ty, z, zc, sz, x, e1, -⟩ := hfu f hf
  obtain ⟨ty', z', zc', sz', x', -, -, -, -, -, h⟩ := hfu f' hf'
  exact h f.1 _ e1 hne (by rw [← e])
 have hlt : ∀ i, i ∈ p.ord → i < ops.size ∧ ∀ f, f ∈ p.fu → f.1 ≠ i := by
  intro i hi
  have := List.all_eq_true.1 c2 i hi
  simp only [Bool.and_eq_true, Bool.not_eq_true', decide_eq_true_eq] at this
  refine ⟨this.2, fun f hf e => ?_⟩
  have h := List.any_eq_false.1 this.1 f hf
  simp [e] at h
 have hone : ∀ i, i ∈ p.ord → (∀ f, f ∈ p.fu → f.2.1 ≠ i) → ∀ ao, al[i]? = some ao → itemsOf al p.fu i = [ao] := by
  intro i hi hf ao hao
  have : p.fu.find? (fun f => f.2.1 == i) = none := by
   rw [List.find?_eq_none]
   intro f hfm
   simp [hf f hfm]
  simp [itemsOf, this, hao]
 have htwo : ∀ f, f ∈ p.fu → itemsOf al p.fu f.2.1 = (al[f.1]?).toList ++ (al[f.2.1]?).toList := by
  intro f hf
  unfold itemsOf
  split
  · rename_i f' hf'
    have h1 := List.mem_of_find?_eq_some hf'
    have h2 := List.find?_some hf'
    simp only [beq_iff_eq] at h2
    have := List.all_eq_true.1 (List.all_eq_true.1 c3' f hf) f' h1
    simp only [h2, beq_self_eq_true, beq_iff_eq, eq_comm (a := true)] at this
    rw [this]
  · rename_i h
    rw [List.find?_eq_none] at h
    exact absurd (h f hf) (by simp)
 have hfirst : ∀ (listed : Array Bool), listed.size = ops.size → Region.ready .any ops listed = [] → ∀ i, i < ops.size → listed.getD i true = true := by
  intro listed hsz hr i hi
  induction i using Nat.strongRecOn with
  | _ i ih =>
   cases hl : listed.getD i true with
   | true => rfl
   | false =>
    exfalso
    have : i ∈ Region.ready .any ops listed := by
     rw [mem_ready]
     refine ⟨hl, ops[i], Array.getElem?_eq_getElem hi, fun e he hb => ?_⟩
     have hlt2 := hedge (Array.getElem?_eq_getElem hi) he hb
     have := ih e.on hlt2 (by omega)
     have hlt3 : e.on < listed.size := by omega
     simpa [hlt3] using this
    rw [hr] at this
    simp at this
 have hend : ∀ (listed : Array Bool) (L : List Nat) (tm : Nat → AV) (σ : Store) (g : Ghost) (a : Act) (w : World), listed.size = ops.size → L = p.ord.filter (fun i => !listed.getD i true) → Region.ready .any ops listed = [] →
  DR P (itemsOf al p.fu) (fun i => p.rs.getD i []) K [] L tm σ → Ext g0 g → SR B w0 σ g w → RelT g n tm a → Q .normal a w := by
  intro listed L tm σ g a w hsz hL hr hrun hE hS hT
  have : L = [] := by
   rw [hL, List.filter_eq_nil_iff]
   intro i hi
   rw [hfirst listed hsz hr i (hlt i hi).1]
   simp
  subst this
  exact hK tm σ g a w hrun hE hS hT
 intro fuel
 induction fuel with
 | zero =>
  intro listed L tm σ g a w hsz hL hc hdown hrun hj hpb hE hS hT
  have hnr : Region.ready .any ops listed = [] := by
   cases hr : Region.ready .any ops listed with
   | nil => rfl
   | cons x xs =>
    exfalso
    have hx : x ∈ Region.ready .any ops listed := by rw [hr]; simp
    rw [mem_ready] at hx
    obtain ⟨h1, o, ho, _⟩ := hx
    have hlt : x < ops.size := (Array.getElem?_eq_some_iff.1 ho).1
    have : x ∈ (List.range ops.size).filter (fun i => !listed.getD i true) := by rw [List.mem_filter, List.mem_range]; exact ⟨hlt, by rw [h1]; rfl⟩
    rw [List.eq_nil_of_length_eq_zero (Nat.le_zero.mp hc)] at this
    simp at this
  exact ⟨hnr, hend listed L tm σ g a w hsz hL hnr hrun hE hS hT⟩
 | succ fuel ih =>
  intro listed L tm σ g a w hsz hL hc hdown hrun hj hpb hE hS hT
  refine ⟨fun hr => hend listed L tm σ g a w hsz hL hr hrun hE hS hT, fun i hi => ?_⟩
  rw [mem_ready] at hi
  obtain ⟨hun, o, ho, hall⟩ := hi
  have hltN : i < ops.size := (Array.getElem?_eq_some_iff.1 ho).1
  have hltl : i < listed.size := by omega
  obtain ⟨ao, hao, hra⟩ := hres i o ho
  obtain ⟨pb, hpb1, hpb2⟩ := hpb
  have hunf : listed.getD i false = false := by simpa [hltl] using hun
  have hah : ∀ x, Ahead ops x i → listed.getD x false = true := fun x hx => hx.listed hdown fun o' e h2 h3 h4 => by rw [ho] at h2; cases h2; exact hall e h3 h4
  -- what changes in what is listed
  have gT : ∀ x, x ≠ i → (listed.setIfInBounds i true).getD x true = listed.getD x true := fun x hx => getD_set_ne true (Ne.symm hx)
  have gF : ∀ x, x ≠ i → (listed.setIfInBounds i true).getD x false = listed.getD x false := fun x hx => getD_set_ne false (Ne.symm hx)
  have gI : (listed.setIfInBounds i true).getD i true = true := by simp [hltl]
  have gIF : (listed.setIfInBounds i true).getD i false = true := by simp [hltl]
  have hcount : ((List.range ops.size).filter (fun x => !(listed.setIfInBounds i true).getD x true)).length ≤ fuel := by
   have e : (List.range ops.size).filter (fun x => !(listed.setIfInBounds i true).getD x true) = ((List.range ops.size).filter (fun x => !listed.getD x true)).filter (fun x => x != i) := by
    rw [List.filter_filter]
    congr 1
    funext x
    by_cases hx : x = i
    · subst hx; rw [gI]; simp
    · rw [gT x hx]; simp [hx]
   rw [e]
   have hm : i ∈ (List.range ops.size).filter (fun x => !listed.getD x true) := by rw [List.mem_filter, List.mem_range]; exact ⟨hltN, by rw [hun]; rfl⟩
   have := (List.length_filter_lt_length_iff_exists (p := fun x => x != i) (l := (List.range ops.size).filter (fun x => !listed.getD x true))).2 ⟨i, hm, by simp⟩
   omega
  have hdown' : ∀ (m : Nat) (o : Oper) (e : Edge), (listed.setIfInBounds i true).getD m false = true → ops[m]? = some o → e ∈ o.after → Region.binds .any e = true → (listed.setIfInBounds i true).getD e.on false = true := by
   intro m o' e hm ho' he hb
   by_cases hmi : m = i
   · subst hmi
     rw [ho] at ho'
     cases ho'
     exact getD_set_true (hall e he hb)
   · rw [gF m hmi] at hm
     exact getD_set_true (hdown m o' e hm ho' he hb)
  by_cases hk1 : ∃ f, f ∈ p.fu ∧ f.1 = i
  · -- a variable is made
    obtain ⟨f, hf, rfl⟩ := hk1
    obtain ⟨ty, z, zc, sz, x, e1, e2, e3, e4, e5, e6⟩ := hfu f hf
    rw [hao] at e1
    cases e1
    have hk2 : listed.getD f.2.1 true = false := by
     cases h : listed.getD f.2.1 true with
     | false => rfl
     | true =>
      exfalso
      have hlt2 : f.2.1 < listed.size := by rw [hsz, ← hlen]; exact (List.getElem?_eq_some_iff.1 e4).1
      have h' : listed.getD f.2.1 false = true := by simpa [hlt2] using h
      have := e5.listed hdown fun o' e h2 h3 h4 => hdown _ o' e h' h2 h3 h4
      rw [hunf] at this; cases this
    have hwp : AOper.wp P ⟨some f.2.2, .new ty (.c z), none⟩ tm σ fun tm' σ' => tm' = put tm (some f.2.2) (.ptr σ.next 0 0 0) ∧ σ' = σ.push (.cells ty 0 zc.length [zc]) := by
     simp [AOper.wp, AOp.wp, AOp.eff, AX.ev, e2]
    refine oper_sound2 ho hra hT hS hwp fun tm' σ' g' a' w' k1 k2 k3 k4 k5 => ?_
    obtain ⟨rfl, rfl⟩ := k1
    obtain ⟨v, rfl⟩ := k5
    have hv := k4.2.2 f.2.2
    simp only [put, if_true] at hv
    obtain ⟨b, cells, cap, g2, hvp, hS2, hE2, hΦ2, hv2, hB2, hg2, hs2, h12, hc2, hz2⟩ := hS.hide k2 k3 hv (fun c hc g v h g2 => h.flat (e3 c hc) g2)
    have hgb : g0.Φ b = none := by
     cases e : g0.Φ b with
     | none => rfl
     | some c => have := hE.phi _ _ e; rw [hg2] at this; cases this
    have hmem : ∀ x, x ∈ p.ord → x ≠ f.1 := fun x hx e => (hlt x hx).2 f hf e.symm
    refine ih (listed.setIfInBounds f.1 true) L tm σ g2 _ w' (by simpa using hsz) ?_ hcount hdown' hrun ?_ ?_ (hE.trans hE2) hS2 ?_
    · rw [hL]
      refine List.filter_congr fun x hx => ?_
      rw [gT x (hmem x hx)]
    · intro f' hf' hl
      refine hj f' hf' ?_
      by_cases h : f'.2.1 = f.1
      · rw [h, gI] at hl; cases hl
      · rwa [gT _ h] at hl
    · refine ⟨fun x => if x = f.1 then b else pb x, fun f' hf' h1 h2 => ?_, fun f' f'' hf' hf'' h1 h2 h3 h4 hne => ?_⟩
      · by_cases hff : f'.1 = f.1
        · simp only [hff, if_true]
          have ht : f'.2.2 = f.2.2 := by
           obtain ⟨ty', z', zc', sz', x', e1', -⟩ := hfu f' hf'
           rw [hff, hao] at e1'; simp only [Option.some.injEq, AOper.mk.injEq] at e1'; exact e1'.1.symm
          exact ⟨ty, z, zc, cells, cap, by rw [hff, hao, ht], e2, hΦ2, hv2, hB2, hgb, hs2, h12, hc2, hz2, by rw [ht]; exact hvp⟩
        · simp only [hff, if_false]
          rw [gF _ hff] at h1
          have h2' : listed.getD f'.2.1 true = false := by
           by_cases h : f'.2.1 = f.1
           · rw [h, gI] at h2; cases h2
           · rwa [gT _ h] at h2
          exact (hpb1 f' hf' h1 h2').extE hE2 (put_getD fun e => hfu1 f' f hf' hf hff (Option.some.inj e).symm)
      · have old : ∀ f', f' ∈ p.fu → f'.1 ≠ f.1 → (listed.setIfInBounds f.1 true).getD f'.1 false = true → (listed.setIfInBounds f.1 true).getD f'.2.1 true = false → listed.getD f'.1 false = true ∧ listed.getD f'.2.1 true = false := by
         intro f' hf' hff h1 h2
         rw [gF _ hff] at h1
         refine ⟨h1, ?_⟩
         by_cases h : f'.2.1 = f.1
         · rw [h, gI] at h2; cases h2
         · rwa [gT _ h] at h2
        have hnb : ∀ f', f' ∈ p.fu → f'.1 ≠ f.1 → (listed.setIfInBounds f.1 true).getD f'.1 false = true → (listed.setIfInBounds f.1 true).getD f'.2.1 true = false → pb f'.1 ≠ b := by
         intro f' hf' hff h1 h2 e
         obtain ⟨o1, o2⟩ := old f' hf' hff h1 h2
         obtain ⟨_, _, _, _, _, _, _, h3, _⟩ := hpb1 f' hf' o1 o2
         rw [e, hg2] at h3; cases h3
        by_cases hff : f'.1 = f.1
        · have hff2 : f''.1 ≠ f.1 := fun e => hne (hff.trans e.symm)
          simp only [hff, hff2, if_true, if_false]
          exact (hnb f'' hf'' hff2 h3 h4).symm
        · by_cases hff2 : f''.1 = f.1
          · simp only [hff, hff2, if_true, if_false]
            exact hnb f' hf' hff h1 h2
          · simp only [hff, hff2, if_false]
            obtain ⟨o1, o2⟩ := old f' hf' hff h1 h2
            obtain ⟨o3, o4⟩ := old f'' hf'' hff2 h3 h4
            exact hpb2 f' f'' hf' hf'' o1 o2 o3 o4 hne
    · refine ⟨k4.1, k4.2.1, fun x => ?_⟩
      by_cases hx : x = f.2.2
      · rw [hx, hj f hf hk2]; exact .junk _
      · rw [put_getD (fun e => hx (Option.some.inj e).symm)]
        exact (hT.2.2 x).ext hE2
  · -- an operation of the order
    have hio : i ∈ p.ord := by
     have := List.all_eq_true.1 c1 i (List.mem_range.2 hltN)
     simp only [Bool.or_eq_true, List.contains_iff_mem, List.any_eq_true, beq_iff_eq] at this
     rcases this with h | ⟨f, hf, h⟩
     · exact h
     · exact absurd ⟨f, hf, h⟩ hk1
    have hmem : i ∈ L := by rw [hL, List.mem_filter]; exact ⟨hio, by rw [hun]; rfl⟩
    obtain ⟨L1, L2, hsplit⟩ := List.append_of_mem hmem
    have hsub : (L1 ++ i :: L2).Sublist p.ord := by rw [← hsplit, hL]; exact List.filter_sublist
    have hpw := c4'.sublist hsub
    have hpw1 := (List.pairwise_append.1 hpw)
    have hL1 : ∀ x, x ∈ L1 → x ≠ i ∧ pairOK (itemsOf al p.fu) (fun i => p.rs.getD i []) x i = true := by
     intro x hx
     have h := hpw1.2.2 x hx i (by simp)
     simp only [Bool.and_eq_true, bne_iff_ne, ne_eq, Bool.or_eq_true] at h
     refine ⟨h.1.1, ?_⟩
     rcases h.1.2 with h2 | h2
     · exfalso
       have h3 := hah x (hahead (listed := #[]) h2)
       have : x ∈ L := by rw [hsplit]; simp [hx]
       rw [hL, List.mem_filter] at this
       have hxl : x < listed.size := by rw [hsz]; exact (hlt x this.1).1
       have h4 := this.2
       simp [hxl] at h3 h4
       rw [h3] at h4; cases h4
     · exact h2
    have hL2 : ∀ x, x ∈ L2 → x ≠ i := fun x hx e => by
     have h := (List.pairwise_cons.1 hpw1.2.1).1 x hx
     simp only [Bool.and_eq_true, bne_iff_ne, ne_eq] at h
     exact h.1.1 e.symm
    have hsafe : ([].reverse ++ L1).Pairwise (fun k a => k ∈ (fun i => p.rs.getD i []) i → safe (itemsOf al p.fu) k a = true) := by
     simp only [List.reverse_nil, List.nil_append]
     refine hpw1.1.imp fun {k a} h hk => ?_
     simp only [Bool.and_eq_true, Bool.or_eq_true, Bool.not_eq_true'] at h
     rcases h.2 with h2 | h2
     · exfalso
       have hmm : p.rs.getD i [] ∈ p.rs := by
        rw [List.getD_eq_getElem?_getD] at hk ⊢
        cases e : p.rs[i]? with
        | none => simp [e] at hk
        | some l => simp [List.mem_of_getElem? e]
       have := List.any_eq_false.1 h2 _ hmm
       simp at this
       exact this hk
     · exact h2
    rw [hsplit] at hrun
    have hfront := DR_front (L2 := L2) L1 [] tm σ (fun x hx => (hL1 x hx).2) hsafe hrun
    have hfront' := item_keeps (opsWp_mono (fun t s ⟨_, h⟩ => h) hfront)
    have hLnew : L1 ++ L2 = p.ord.filter (fun x => !(listed.setIfInBounds i true).getD x true) := by
     have e : p.ord.filter (fun x => !(listed.setIfInBounds i true).getD x true) = (p.ord.filter (fun x => !listed.getD x true)).filter (fun x => x != i) := by
      rw [List.filter_filter]
      congr 1
      funext x
      by_cases hx : x = i
      · subst hx; rw [gI]; simp
      · rw [gT x hx]; simp [hx]
     rw [e, ← hL, hsplit, List.filter_append, List.filter_cons]
     simp only [bne_self_eq_false, Bool.false_eq_true, if_false]
     rw [List.filter_eq_self.2 (fun x hx => by simpa using (hL1 x hx).1), List.filter_eq_self.2 (fun x hx => by simpa using hL2 x hx)]
    have hne1 : ∀ f, f ∈ p.fu → f.1 ≠ i := fun f hf e => hk1 ⟨f, hf, e⟩
    have old : ∀ f', f' ∈ p.fu → (listed.setIfInBounds i true).getD f'.2.1 true = false → f'.2.1 ≠ i ∧ listed.getD f'.2.1 true = false := by
     intro f' hf' h2
     by_cases h : f'.2.1 = i
     · rw [h, gI] at h2; cases h2
     · rw [gT _ h] at h2; exact ⟨h, h2⟩
    by_cases hk2 : ∃ f, f ∈ p.fu ∧ f.2.1 = i
    · -- a variable is written
      obtain ⟨f, hf, rfl⟩ := hk2
      obtain ⟨ty, z, zc, sz, x, e1, e2, e3, e4, e5, e6⟩ := hfu f hf
      rw [hao] at e4
      cases e4
      rw [htwo f hf, e1, hao] at hfront'
      have hl1 := hah _ e5
      obtain ⟨ty', z', zc', cells, cap, q1, q2, q3, q4, q5, q6, q7, q8, q9, q10, q11⟩ := hpb1 f hf hl1 hun
      rw [e1] at q1
      cases q1
      rw [e2] at q2
      cases q2
      have hinj : ∀ f', f' ∈ p.fu → f'.2.1 ≠ f.2.1 → f'.1 ≠ f.1 := fun f' hf' h e => by
       have := List.all_eq_true.1 (List.all_eq_true.1 c3' f' hf') f hf
       simp only [e, beq_self_eq_true, beq_iff_eq] at this
       exact h (by simpa using this)
      obtain ⟨hS', hv'⟩ := hS.adopt q3 q4 q5 q7 q8 q9 q10
      have heV : ExtV g (g.adopt (pb f.1) zc.length cap) := .adopt _ _ q4
      have hwp : AOper.wp P ⟨none, .store sz (.t f.2.2) x, none⟩ (put tm (some f.2.2) (.ptr σ.next 0 0 0)) (σ.push (.cells ty 0 zc.length [zc])) (fun t s => DR P (itemsOf al p.fu) (fun i => p.rs.getD i []) K [] (L1 ++ L2) t s ∧ ∀ j, j ∉ dsts ((some (⟨some f.2.2, .new ty (.c z), none⟩ : AOper)).toList ++ (some (⟨none, .store sz (.t f.2.2) x, none⟩ : AOper)).toList) → t j = tm j) := by
       have : (AOp.new ty (.c z)).wp P tm σ fun r s => AOper.wp P ⟨none, .store sz (.t f.2.2) x, none⟩ (put tm (some f.2.2) r) s _ := hfront'
       simp only [AOp.wp, AOp.eff, AX.ev, e2] at this
       exact this
      have hTA : RelT (g.adopt (pb f.1) zc.length cap) n (put tm (some f.2.2) (.ptr σ.next 0 0 0)) a := by
       refine ⟨hT.1, hT.2.1, fun j => ?_⟩
       simp only [put]
       split
       · rename_i hjf; rw [hjf, q11]; exact hv'
       · exact (hT.2.2 j).extV heV
      refine oper_sound2 ho hra hTA hS' hwp fun tm' σ' g' a' w' k1 k2 k3 k4 k5 => ?_
      obtain ⟨v, hav⟩ := k5
      have hav' : a' = a := hav
      subst hav'
      refine ih (listed.setIfInBounds f.2.1 true) (L1 ++ L2) tm' σ' g' a' w' (by simpa using hsz) hLnew hcount hdown' k1.1 ?_ ?_ ((hE.adopt _ _ q6).trans k2) k3 k4
      · intro f' hf' hl
        obtain ⟨o1, o2⟩ := old f' hf' hl
        have hff : f'.1 ≠ f.1 := hinj f' hf' o1
        rw [k1.2 f'.2.2 (by simp [dsts]; exact fun e => hfu1 f' f hf' hf hff e)]
        exact hj f' hf' o2
      · refine ⟨pb, fun f' hf' h1 h2 => ?_, fun f' f'' hf' hf'' h1 h2 h3 h4 hne => ?_⟩
        · obtain ⟨o1, o2⟩ := old f' hf' h2
          rw [gF _ (hne1 f' hf')] at h1
          have hff : f'.1 ≠ f.1 := hinj f' hf' o1
          have hb := hpb2 f' f hf' hf h1 o2 hl1 hun hff
          have hp' := hpb1 f' hf' h1 o2
          exact (hp'.ext (g' := g.adopt (pb f.1) zc.length cap) (a' := a') (by simp [Ghost.adopt, hb]) (by simp [Ghost.adopt, hb]) rfl).extE k2 rfl
        · obtain ⟨o1, o2⟩ := old f' hf' h2
          obtain ⟨o3, o4⟩ := old f'' hf'' h4
          rw [gF _ (hne1 f' hf')] at h1
          rw [gF _ (hne1 f'' hf'')] at h3
          exact hpb2 f' f'' hf' hf'' h1 o2 h3 o4 hne
    · -- any other one
      have hit := hone i hio (fun f hf e => hk2 ⟨f, hf, e⟩) ao hao
      rw [hit] at hfront'
      have hwp : ao.wp P tm σ fun t s => DR P (itemsOf al p.fu) (fun i => p.rs.getD i []) K [] (L1 ++ L2) t s ∧ ∀ j, j ∉ dsts [ao] → t j = tm j := hfront'
      have hnd : ∀ f, f ∈ p.fu → ao.dst ≠ some f.2.2 := fun f hf => by
       obtain ⟨ty, z, zc, sz, x, e1, e2, e3, e4, e5, e6⟩ := hfu f hf
       exact e6 i ao hao (hne1 f hf).symm
      refine oper_sound2 ho hra hT hS hwp fun tm' σ' g' a' w' k1 k2 k3 k4 k5 => ?_
      obtain ⟨v, rfl⟩ := k5
      refine ih (listed.setIfInBounds i true) (L1 ++ L2) tm' σ' g' _ w' (by simpa using hsz) hLnew hcount hdown' k1.1 ?_ ?_ (hE.trans k2) k3 k4
      · intro f' hf' hl
        obtain ⟨o1, o2⟩ := old f' hf' hl
        rw [k1.2 f'.2.2 (by
         intro hm
         simp only [dsts, List.mem_filterMap, List.mem_singleton] at hm
         obtain ⟨x, rfl, hx⟩ := hm
         exact hnd f' hf' hx)]
        exact hj f' hf' o2
      · refine ⟨pb, fun f' hf' h1 h2 => ?_, fun f' f'' hf' hf'' h1 h2 h3 h4 hne => ?_⟩
        · obtain ⟨o1, o2⟩ := old f' hf' h2
          rw [gF _ (hne1 f' hf')] at h1
          exact (hpb1 f' hf' h1 o2).extE k2 (put_getD (hnd f' hf'))
        · obtain ⟨o1, o2⟩ := old f' hf' h2
          obtain ⟨o3, o4⟩ := old f'' hf'' h4
          rw [gF _ (hne1 f' hf')] at h1
          rw [gF _ (hne1 f'' hf'')] at h3
          exact hpb2 f' f'' hf' hf'' h1 o2 h3 o4 hne
end
end Go.AL
set_option linter.unusedVariables false
set_option linter.unusedSimpArgs false
namespace Go.AL
open Go.RowKit
structure Perm where
 ord : List Nat
 rs : List (List Nat)
 ws : List Nat
 cs : List Nat
def itP (al : List AOper) (i : Nat) : List AOper := (al[i]?).toList
def pairP (b : Array Nat) (al : List AOper) (rs : List (List Nat)) (x y : Nat) : Bool :=
 ((b.getD y 0).testBit x || pairOK (itP al) (fun i => rs.getD i []) x y) && (!(rs.any fun l => l.contains x) || safe (itP al) x y)
def permOK (ops : Array Oper) (al : List AOper) (p : Perm) : Bool :=
 let b := aheads ops.toList #[]
 (ops.toList.zipIdx.all fun x => x.1.after.all fun e => !Region.binds .any e || decide (e.on < x.2)) &&
 ((List.range ops.size).all fun i => p.ord.contains i || p.ws.contains i || p.cs.contains i) &&
 ((p.ord ++ p.ws ++ p.cs).all fun i => decide (i < ops.size)) &&
 pw (fun x y => x != y) (p.ord ++ p.ws ++ p.cs) &&
 pw (pairP b al p.rs) p.ord &&
 (p.ws.all fun i => pw (pairP b al p.rs) (p.ord ++ [i])) &&
 pw (fun x y => (b.getD y 0).testBit x) p.cs &&
 (p.cs.all fun c => (p.ord ++ p.ws).all fun x => (b.getD c 0).testBit x) &&
 (p.rs.all fun l => l.all fun k => quietI (itP al k))
section
variable {P : Program} {it : Nat → List AOper} {R : Nat → List Nat}
theorem DR_mono {K K' : (Nat → AV) → Store → Prop} (hk : ∀ t s, K t s → K' t s) : ∀ {L acc : List Nat} {tm : Nat → AV} {σ : Store}, DR P it R K acc L tm σ → DR P it R K' acc L tm σ
 | [], _, _, _, h => hk _ _ h
 | i :: L, acc, tm, σ, h => opsWp_mono (fun t s ⟨h1, h2⟩ => ⟨h1, DR_mono hk h2⟩) h
def StillAll (P : Program) (it : Nat → List AOper) (R : Nat → List Nat) (i : Nat) (t : Nat → AV) (s : Store) : Prop := ∀ k, k ∈ R i → ∀ o, it k = [o] → Still P o t s
theorem DR_snoc {K : (Nat → AV) → Store → Prop} {i : Nat} : ∀ {L acc : List Nat} {tm : Nat → AV} {σ : Store}, DR P it R (fun t s => opsWp P (it i) t s fun t' s' => StillAll P it R i t' s' ∧ K t' s') acc L tm σ → DR P it R K acc (L ++ [i]) tm σ
 | [], acc, tm, σ, h => opsWp_mono (fun t s ⟨h1, h2⟩ => ⟨fun k _ hk => h1 k hk, h2⟩) h
 | j :: L, acc, tm, σ, h => opsWp_mono (fun t s ⟨h1, h2⟩ => ⟨h1, DR_snoc h2⟩) h
def PermR (P : Program) (it : Nat → List AOper) (R : Nat → List Nat) (K : (Nat → AV) → Store → Prop) (C : List Nat) : Nat → List Nat → (Nat → AV) → Store → Prop
 | _, [], tm, σ => DR P it R K [] C tm σ
 | 0, _ :: _, _, _ => False
 | k + 1, x :: W, tm, σ => ∀ i, i ∈ x :: W → opsWp P (it i) tm σ fun t s => StillAll P it R i t s ∧ PermR P it R K C k ((x :: W).filter (· != i)) t s
theorem PermR_nil {K : (Nat → AV) → Store → Prop} {C : List Nat} {k : Nat} {tm : Nat → AV} {σ : Store} : PermR P it R K C k [] tm σ = DR P it R K [] C tm σ := by cases k <;> rfl
theorem PermR_mem {K : (Nat → AV) → Store → Prop} {C W : List Nat} {k i : Nat} {tm : Nat → AV} {σ : Store} (hi : i ∈ W) (h : PermR P it R K C k W tm σ) : ∃ k', opsWp P (it i) tm σ fun t s => StillAll P it R i t s ∧ PermR P it R K C k' (W.filter (· != i)) t s := by
 cases W with
 | nil => simp at hi
 | cons x W =>
  cases k with
  | zero => exact h.elim
  | succ k => exact ⟨k, h i hi⟩
end
section
variable {P : Program} {B : Nat} {w0 : World} {n : Nat} {ops : Array Oper} {Q : Exit → Act → World → Prop}
theorem perm_sound {own : List Nat} {al : List AOper} (hres : ∀ (i : Nat) (o : Oper), ops[i]? = some o → ∃ ao, al[i]? = some ao ∧ resolveOper P own ops n o = some ao) {p : Perm} (hok : permOK ops al p = true)
 {K : (Nat → AV) → Store → Prop} {g0 : Ghost} (hK : ∀ tm' σ' g' a' w', K tm' σ' → Ext g0 g' → SR B w0 σ' g' w' → RelT g' n tm' a' → Q .normal a' w') :
 ∀ (fuel : Nat) (listed : Array Bool) (k : Nat) (tm : Nat → AV) (σ : Store) (g : Ghost) (a : Act) (w : World), listed.size = ops.size →
  ((List.range ops.size).filter (fun i => !listed.getD i true)).length ≤ fuel →
  (∀ (m : Nat) (o : Oper) (e : Edge), listed.getD m false = true → ops[m]? = some o → e ∈ o.after → Region.binds .any e = true → listed.getD e.on false = true) →
  DR P (itP al) (fun i => p.rs.getD i []) (PermR P (itP al) (fun i => p.rs.getD i []) K (p.cs.filter fun i => !listed.getD i true) k (p.ws.filter fun i => !listed.getD i true)) [] (p.ord.filter fun i => !listed.getD i true) tm σ →
  Ext g0 g → SR B w0 σ g w → RelT g n tm a → wpAny P .any ops Q fuel listed a w := by
 simp only [permOK, Bool.and_eq_true] at hok
 obtain ⟨⟨⟨⟨⟨⟨⟨⟨c0, c1⟩, c2⟩, c3⟩, c4⟩, c5⟩, c6⟩, c7⟩, c8⟩ := hok
 have c3' := pw_spec c3
 have c4' := pw_spec c4
 have c6' := pw_spec c6
 have hahead : ∀ {i j : Nat}, ((aheads ops.toList #[]).getD j 0).testBit i = true → Ahead ops i j := fun h => aheads_spec ops.toList #[] (by simp) (by simp) _ _ h
 have hedge : ∀ {j : Nat} {o : Oper} {e : Edge}, ops[j]? = some o → e ∈ o.after → Region.binds .any e = true → e.on < j := by
  intro j o e ho he hb
  have h1 := List.all_eq_true.1 c0 (o, j) (by rw [List.mem_zipIdx_iff_getElem?]; simpa using ho)
  have h2 := Array.all_eq_true_iff_forall_mem.1 h1 e he
  simp only [hb, Bool.not_true, Bool.false_or, decide_eq_true_eq] at h2
  exact h2
 have hlt : ∀ i, i ∈ p.ord ++ p.ws ++ p.cs → i < ops.size := fun i hi => of_decide_eq_true (List.all_eq_true.1 c2 i hi)
 have hone : ∀ i ao, al[i]? = some ao → itP al i = [ao] := fun i ao h => by simp [itP, h]
 have hnd : ∀ x y, x ∈ p.ord ++ p.ws → y ∈ p.cs → x ≠ y := fun x y hx hy => by
  have := (List.pairwise_append.1 c3').2.2 x hx y hy
  simpa using this
 have hnd2 : ∀ x y, x ∈ p.ord → y ∈ p.ws → x ≠ y := fun x y hx hy => by
  have := (List.pairwise_append.1 (List.pairwise_append.1 c3').1).2.2 x hx y hy
  simpa using this
 have hfirst : ∀ (listed : Array Bool), listed.size = ops.size → Region.ready .any ops listed = [] → ∀ i, i < ops.size → listed.getD i true = true := by
  intro listed hsz hr i hi
  induction i using Nat.strongRecOn with
  | _ i ih =>
   cases hl : listed.getD i true with
   | true => rfl
   | false =>
    exfalso
    have : i ∈ Region.ready .any ops listed := by
     rw [mem_ready]
     refine ⟨hl, ops[i], Array.getElem?_eq_getElem hi, fun e he hb => ?_⟩
     have hlt2 := hedge (Array.getElem?_eq_getElem hi) he hb
     have := ih e.on hlt2 (by omega)
     have hlt3 : e.on < listed.size := by omega
     simpa [hlt3] using this
    rw [hr] at this
    simp at this
 have hend : ∀ (listed : Array Bool) (k : Nat) (tm : Nat → AV) (σ : Store) (g : Ghost) (a : Act) (w : World), listed.size = ops.size → Region.ready .any ops listed = [] →
  DR P (itP al) (fun i => p.rs.getD i []) (PermR P (itP al) (fun i => p.rs.getD i []) K (p.cs.filter fun i => !listed.getD i true) k (p.ws.filter fun i => !listed.getD i true)) [] (p.ord.filter fun i => !listed.getD i true) tm σ → Ext g0 g → SR B w0 σ g w → RelT g n tm a → Q .normal a w := by
  intro listed k tm σ g a w hsz hr hrun hE hS hT
  have hnil : ∀ l : List Nat, (∀ i, i ∈ l → i ∈ p.ord ++ p.ws ++ p.cs) → l.filter (fun i => !listed.getD i true) = [] := fun l hl => by
   rw [List.filter_eq_nil_iff]
   intro i hi
   rw [hfirst listed hsz hr i (hlt i (hl i hi))]
   simp
  rw [hnil p.ord (fun i hi => by simp [hi]), hnil p.ws (fun i hi => by simp [hi]), hnil p.cs (fun i hi => by simp [hi])] at hrun
  have hrun' : PermR P (itP al) (fun i => p.rs.getD i []) K [] k [] tm σ := hrun
  rw [PermR_nil] at hrun'
  exact hK tm σ g a w hrun' hE hS hT
 intro fuel
 induction fuel with
 | zero =>
  intro listed k tm σ g a w hsz hc hdown hrun hE hS hT
  have hnr : Region.ready .any ops listed = [] := by
   cases hr : Region.ready .any ops listed with
   | nil => rfl
   | cons x xs =>
    exfalso
    have hx : x ∈ Region.ready .any ops listed := by rw [hr]; simp
    rw [mem_ready] at hx
    obtain ⟨h1, o, ho, _⟩ := hx
    have hlt : x < ops.size := (Array.getElem?_eq_some_iff.1 ho).1
    have : x ∈ (List.range ops.size).filter (fun i => !listed.getD i true) := by rw [List.mem_filter, List.mem_range]; exact ⟨hlt, by rw [h1]; rfl⟩
    rw [List.eq_nil_of_length_eq_zero (Nat.le_zero.mp hc)] at this
    simp at this
  exact ⟨hnr, hend listed k tm σ g a w hsz hnr hrun hE hS hT⟩
 | succ fuel ih =>
  intro listed k tm σ g a w hsz hc hdown hrun hE hS hT
  refine ⟨fun hr => hend listed k tm σ g a w hsz hr hrun hE hS hT, fun i hi => ?_⟩
  rw [mem_ready] at hi
  obtain ⟨hun, o, ho, hall⟩ := hi
  have hltN : i < ops.size := (Array.getElem?_eq_some_iff.1 ho).1
  have hltl : i < listed.size := by omega
  obtain ⟨ao, hao, hra⟩ := hres i o ho
  have hah : ∀ x, Ahead ops x i → listed.getD x false = true := fun x hx => hx.listed hdown fun o' e h2 h3 h4 => by rw [ho] at h2; cases h2; exact hall e h3 h4
  have gT : ∀ x, x ≠ i → (listed.setIfInBounds i true).getD x true = listed.getD x true := fun x hx => getD_set_ne true (Ne.symm hx)
  have gF : ∀ x, x ≠ i → (listed.setIfInBounds i true).getD x false = listed.getD x false := fun x hx => getD_set_ne false (Ne.symm hx)
  have gI : (listed.setIfInBounds i true).getD i true = true := by simp [hltl]
  have hcount : ((List.range ops.size).filter (fun x => !(listed.setIfInBounds i true).getD x true)).length ≤ fuel := by
   have e : (List.range ops.size).filter (fun x => !(listed.setIfInBounds i true).getD x true) = ((List.range ops.size).filter (fun x => !listed.getD x true)).filter (fun x => x != i) := by
    rw [List.filter_filter]
    congr 1
    funext x
    by_cases hx : x = i
    · subst hx; rw [gI]; simp
    · rw [gT x hx]; simp [hx]
   rw [e]
   have hm : i ∈ (List.range ops.size).filter (fun x => !listed.getD x true) := by rw [List.mem_filter, List.mem_range]; exact ⟨hltN, by rw [hun]; rfl⟩
   have := (List.length_filter_lt_length_iff_exists (p := fun x => x != i) (l := (List.range ops.size).filter (fun x => !listed.getD x true))).2 ⟨i, hm, by simp⟩
   omega
  have hdown' : ∀ (m : Nat) (o : Oper) (e : Edge), (listed.setIfInBounds i true).getD m false = true → ops[m]? = some o → e ∈ o.after → Region.binds .any e = true → (listed.setIfInBounds i true).getD e.on false = true := by
   intro m o' e hm ho' he hb
   by_cases hmi : m = i
   · subst hmi
     rw [ho] at ho'
     cases ho'
     exact getD_set_true (hall e he hb)
   · rw [gF m hmi] at hm
     exact getD_set_true (hdown m o' e hm ho' he hb)
  -- the lists that are left
  have hsame : ∀ l : List Nat, (∀ x, x ∈ l → x ≠ i) → l.filter (fun x => !(listed.setIfInBounds i true).getD x true) = l.filter (fun x => !listed.getD x true) := fun l hl => List.filter_congr fun x hx => by rw [gT x (hl x hx)]
  have hless : ∀ l : List Nat, l.filter (fun x => !(listed.setIfInBounds i true).getD x true) = (l.filter (fun x => !listed.getD x true)).filter (fun x => x != i) := fun l => by
   rw [List.filter_filter]
   congr 1
   funext x
   by_cases hx : x = i
   · subst hx; rw [gI]; simp
   · rw [gT x hx]; simp [hx]
  have hun2 : ∀ x, Ahead ops x i → x < ops.size → ¬ (!listed.getD x true) = true := fun x hx hs h => by
   have h1 := hah x hx
   have hxl : x < listed.size := by omega
   simp [hxl] at h1 h
   rw [h1] at h; cases h
  -- the step itself
  suffices hstep : ∃ (k' : Nat) (tmK : (Nat → AV) → Store → Prop), ao.wp P tm σ tmK ∧ ∀ t s, tmK t s → DR P (itP al) (fun i => p.rs.getD i []) (PermR P (itP al) (fun i => p.rs.getD i []) K (p.cs.filter fun x => !(listed.setIfInBounds i true).getD x true) k' (p.ws.filter fun x => !(listed.setIfInBounds i true).getD x true)) [] (p.ord.filter fun x => !(listed.setIfInBounds i true).getD x true) t s by
   obtain ⟨k', tmK, hwp, hnext⟩ := hstep
   refine oper_sound2 ho hra hT hS hwp fun tm' σ' g' a' w' k1 k2 k3 k4 k5 => ?_
   obtain ⟨v, rfl⟩ := k5
   exact ih (listed.setIfInBounds i true) k' tm' σ' g' _ w' (by simpa using hsz) hcount hdown' (hnext _ _ k1) (hE.trans k2) k3 k4
  have front : ∀ (L1 L2 : List Nat) (KK : (Nat → AV) → Store → Prop), (∀ x, x ∈ L1 → x ∈ p.ord ∧ (!listed.getD x true) = true) → (L1 ++ [i]).Pairwise (fun x y => pairP (aheads ops.toList #[]) al p.rs x y = true) →
   DR P (itP al) (fun i => p.rs.getD i []) KK [] (L1 ++ i :: L2) tm σ → ao.wp P tm σ fun t s => DR P (itP al) (fun i => p.rs.getD i []) KK [] (L1 ++ L2) t s := by
   intro L1 L2 KK hL hpw h
   have hpw1 := List.pairwise_append.1 hpw
   have hL1 : ∀ x, x ∈ L1 → pairOK (itP al) (fun i => p.rs.getD i []) x i = true := fun x hx => by
    have h := hpw1.2.2 x hx i (by simp)
    simp only [pairP, Bool.and_eq_true, Bool.or_eq_true] at h
    rcases h.1 with h2 | h2
    · exact absurd (hL x hx).2 (hun2 x (hahead h2) (hlt x (by simp [(hL x hx).1])))
    · exact h2
   have hsafe : ([].reverse ++ L1).Pairwise (fun k a => k ∈ (fun i => p.rs.getD i []) i → safe (itP al) k a = true) := by
    simp only [List.reverse_nil, List.nil_append]
    refine hpw1.1.imp fun {k a} h hk => ?_
    simp only [pairP, Bool.and_eq_true, Bool.or_eq_true, Bool.not_eq_true'] at h
    rcases h.2 with h2 | h2
    · exfalso
      have hmm : p.rs.getD i [] ∈ p.rs := by
       rw [List.getD_eq_getElem?_getD] at hk ⊢
       cases e : p.rs[i]? with
       | none => simp [e] at hk
       | some l => simp [List.mem_of_getElem? e]
      have := List.any_eq_false.1 h2 _ hmm
      simp at this
      exact this hk
    · exact h2
   have := DR_front (L2 := L2) L1 [] tm σ hL1 hsafe h
   rw [hone i ao hao] at this
   have h3 : ao.wp P tm σ fun t s => (∀ k, k ∈ ([] : List Nat) → k ∈ (fun i => p.rs.getD i []) i → ∀ o, itP al k = [o] → Still P o t s) ∧ DR P (itP al) (fun i => p.rs.getD i []) KK [] (L1 ++ L2) t s := this
   exact AOper.wp_mono (fun t s h => h.2) h3
  have hcase : i ∈ p.ord ∨ i ∈ p.ws ∨ i ∈ p.cs := by
   have := List.all_eq_true.1 c1 i (List.mem_range.2 hltN)
   simp only [Bool.or_eq_true, List.contains_iff_mem] at this
   rcases this with (h | h) | h
   · exact .inl h
   · exact .inr (.inl h)
   · exact .inr (.inr h)
  have hmem : ∀ l : List Nat, i ∈ l → i ∈ l.filter fun x => !listed.getD x true := fun l h => by rw [List.mem_filter]; exact ⟨h, by rw [hun]; rfl⟩
  rcases hcase with hi | hi | hi
  · -- of the plan
    obtain ⟨L1, L2, hsplit⟩ := List.append_of_mem (hmem _ hi)
    have hsub : (L1 ++ i :: L2).Sublist p.ord := by rw [← hsplit]; exact List.filter_sublist
    have hpw := c4'.sublist hsub
    have hL1 : ∀ x, x ∈ L1 → x ∈ p.ord ∧ (!listed.getD x true) = true := fun x hx => by
     have : x ∈ p.ord.filter fun x => !listed.getD x true := by rw [hsplit]; simp [hx]
     exact List.mem_filter.1 this
    rw [hsplit] at hrun
    have hw := front L1 L2 _ hL1 (hpw.sublist (by simp)) hrun
    refine ⟨k, _, hw, fun t s h => ?_⟩
    have hne : (p.ord.filter fun x => !listed.getD x true).Pairwise (fun x y => (x != y) = true) := (List.pairwise_append.1 (List.pairwise_append.1 c3').1).1.sublist List.filter_sublist
    rw [hsplit] at hne
    have hne1 := List.pairwise_append.1 hne
    have hnew : L1 ++ L2 = p.ord.filter fun x => !(listed.setIfInBounds i true).getD x true := by
     rw [hless, hsplit, List.filter_append, List.filter_cons]
     simp only [bne_self_eq_false, Bool.false_eq_true, if_false]
     rw [List.filter_eq_self.2 (fun x hx => hne1.2.2 x hx i (by simp)), List.filter_eq_self.2 (fun x hx => by
      have := (List.pairwise_cons.1 hne1.2.1).1 x hx
      simp only [bne_iff_ne, ne_eq] at this ⊢
      exact fun e => this e.symm)]
    rw [← hnew, hsame p.ws (fun x hx e => hnd2 i x hi hx e.symm), hsame p.cs (fun x hx e => hnd i x (by simp [hi]) hx e.symm)]
    exact h
  · -- of those in any order
    obtain ⟨k', hk'⟩ : ∃ k', DR P (itP al) (fun i => p.rs.getD i []) (fun t s => opsWp P (itP al i) t s fun t' s' => StillAll P (itP al) (fun i => p.rs.getD i []) i t' s' ∧ PermR P (itP al) (fun i => p.rs.getD i []) K (p.cs.filter fun i => !listed.getD i true) k' ((p.ws.filter fun i => !listed.getD i true).filter (· != i)) t' s') [] (p.ord.filter fun i => !listed.getD i true) tm σ := by
     have hm := hmem _ hi
     cases k with
     | zero =>
      refine ⟨0, DR_mono (fun t s h => ?_) hrun⟩
      obtain ⟨_, h1⟩ := PermR_mem hm h
      cases hw : p.ws.filter fun i => !listed.getD i true with
      | nil => rw [hw] at hm; simp at hm
      | cons x l => rw [hw] at h; exact h.elim
     | succ k =>
      refine ⟨k, DR_mono (fun t s h => ?_) hrun⟩
      cases hw : p.ws.filter fun i => !listed.getD i true with
      | nil => rw [hw] at hm; simp at hm
      | cons x l => rw [hw] at h hm; exact h i hm
    have hs := DR_snoc hk'
    have hL1 : ∀ x, x ∈ (p.ord.filter fun i => !listed.getD i true) → x ∈ p.ord ∧ (!listed.getD x true) = true := fun x hx => List.mem_filter.1 hx
    have hpw : ((p.ord.filter fun i => !listed.getD i true) ++ [i]).Pairwise (fun x y => pairP (aheads ops.toList #[]) al p.rs x y = true) :=
     (pw_spec (List.all_eq_true.1 c5 i hi)).sublist (List.filter_sublist.append (List.Sublist.refl _))
    have hw := front _ [] _ hL1 hpw hs
    rw [List.append_nil] at hw
    refine ⟨k', _, hw, fun t s h => ?_⟩
    rw [hsame p.ord (fun x hx e => hnd2 x i hx hi e), hsame p.cs (fun x hx e => hnd i x (by simp [hi]) hx e.symm), hless p.ws]
    exact h
  · -- of the others
    have hA : ∀ l : List Nat, (∀ x, x ∈ l → x ∈ p.ord ++ p.ws) → l.filter (fun i => !listed.getD i true) = [] := fun l hl => by
     rw [List.filter_eq_nil_iff]
     intro x hx
     have h1 := List.all_eq_true.1 (List.all_eq_true.1 c7 i hi) x (hl x hx)
     exact hun2 x (hahead h1) (hlt x (by have := hl x hx; simp only [List.mem_append] at this ⊢; exact .inl this))
    rw [hA p.ord (fun x hx => by simp [hx]), hA p.ws (fun x hx => by simp [hx])] at hrun
    have hrun' : PermR P (itP al) (fun i => p.rs.getD i []) K (p.cs.filter fun i => !listed.getD i true) k [] tm σ := hrun
    rw [PermR_nil] at hrun'
    obtain ⟨L1, L2, hsplit⟩ := List.append_of_mem (hmem _ hi)
    have hsub : (L1 ++ i :: L2).Sublist p.cs := by rw [← hsplit]; exact List.filter_sublist
    have hL1 : L1 = [] := by
     cases L1 with
     | nil => rfl
     | cons x l =>
      exfalso
      have hx : x ∈ p.cs.filter fun i => !listed.getD i true := by rw [hsplit]; simp
      have h1 := (List.pairwise_append.1 (c6'.sublist hsub)).2.2 x (by simp) i (by simp)
      exact hun2 x (hahead h1) (hlt x (by have := (List.mem_filter.1 hx).1; simp [this])) (List.mem_filter.1 hx).2
    subst hL1
    simp only [List.nil_append] at hsplit hsub
    rw [hsplit] at hrun'
    have h3 : opsWp P (itP al i) tm σ fun t s => (∀ k, k ∈ ([] : List Nat) → k ∈ (fun i => p.rs.getD i []) i → ∀ o, itP al k = [o] → Still P o t s) ∧ DR P (itP al) (fun i => p.rs.getD i []) K [i] L2 t s := hrun'
    rw [hone i ao hao] at h3
    have h4 : ao.wp P tm σ fun t s => (∀ k, k ∈ ([] : List Nat) → k ∈ (fun i => p.rs.getD i []) i → ∀ o, itP al k = [o] → Still P o t s) ∧ DR P (itP al) (fun i => p.rs.getD i []) K [i] L2 t s := h3
    refine ⟨k, _, h4, fun t s h => ?_⟩
    have hne : (p.cs.filter fun x => !listed.getD x true).Pairwise (fun x y => (x != y) = true) := (List.pairwise_append.1 c3').2.1.sublist List.filter_sublist
    rw [hsplit] at hne
    have hnew : p.cs.filter (fun x => !(listed.setIfInBounds i true).getD x true) = L2 := by
     rw [hless, hsplit, List.filter_cons]
     simp only [bne_self_eq_false, Bool.false_eq_true, if_false]
     rw [List.filter_eq_self.2 (fun x hx => by
      have := (List.pairwise_cons.1 hne).1 x hx
      simp only [bne_iff_ne, ne_eq] at this ⊢
      exact fun e => this e.symm)]
    rw [hnew, hsame p.ord (fun x hx e => hnd x i (by simp [hx]) hi e), hsame p.ws (fun x hx e => hnd x i (by simp [hx]) hi e), hA p.ord (fun x hx => by simp [hx]), hA p.ws (fun x hx => by simp [hx])]
    show PermR P (itP al) (fun i => p.rs.getD i []) K L2 k [] t s
    rw [PermR_nil]
    exact DR_acc (fun k hk => by simp at hk) h.2
end
end Go.AL
set_option linter.unusedVariables false
set_option linter.unusedSimpArgs false
namespace Go.AL
open Go.RowKit

inductive ACode where
 | skip
 | reg (ops : List AOper)
 | draw (js : List Nat) (ops : List (List AOper × List AOper))
 | seq (a b : ACode)
 | cond (c : AX) (a b : ACode)
 | block (id : Nat) (c : ACode)
 | loop (c : ACode)
 | exit (id : Nat)
 | ret
 | scope (c : ACode)
 | perm (a : List (List AOper × List AOper)) (w : List (Nat × List AOper × List AOper)) (c : List (List AOper × List AOper))
 | dead

inductive AEx where
 | normal
 | exit (id : Nat)
 | ret
def AEx.to : AEx → Exit
 | .normal => .normal
 | .exit id => .exit id
 | .ret => .ret

/-! ### Plans -/
def fusOf (b : Array Nat) (al : List AOper) : List (Nat × Nat × Nat) :=
 al.zipIdx.filterMap fun p =>
  match p.1 with
  | ⟨some t, .new _ (.c _), none⟩ =>
   match al.zipIdx.find? (fun q => match q.1 with | ⟨none, .store _ (.t t') _, none⟩ => t == t' && (b.getD q.2 0).testBit p.2 | _ => false) with
   | some q => some (p.2, q.2, t)
   | none => none
  | _ => none
def orderOf : Nat → List (Nat × Nat × Bool) → Nat → List Nat
 | 0, _, _ => []
 | fuel + 1, l, mask =>
  match l.find? (fun x => x.2.2 && (x.2.1 &&& mask == 0)) with
  | some x => x.1 :: orderOf fuel (l.filter fun y => y.1 != x.1) (mask ^^^ 2 ^ x.1)
  | none =>
   match l.find? (fun x => x.2.1 &&& mask == 0) with
   | some x => x.1 :: orderOf fuel (l.filter fun y => y.1 != x.1) (mask ^^^ 2 ^ x.1)
   | none => []
def restOf (b : Array Nat) (it : Nat → List AOper) (i : Nat) : List Nat → List Nat
 | [] => []
 | k :: l => if (b.getD i 0).testBit k || (match it k with | [o] => o.op.pure | _ => true) then restOf b it i l else k :: restOf b it i l
def rsOf (b : Array Nat) (it : Nat → List AOper) : List Nat → List Nat → List (Nat × List Nat)
 | _, [] => []
 | acc, i :: l => (i, if quietI (it i) || growI (it i) then [] else restOf b it i (acc.filter fun k => quietI (it k))) :: rsOf b it (acc ++ [i]) l
def mkPlan (ops : Array Oper) (al : List AOper) (fuse : Bool) : Plan :=
 let b := aheads ops.toList #[]
 let fu := if fuse then fusOf b al else []
 let it := itemsOf al fu
 let l := (List.range al.length).filterMap fun i => if fu.any (·.1 == i) then none else some (i, b.getD i 0, quietI (it i))
 let mask := l.foldl (fun m x => m ||| 2 ^ x.1) 0
 let ord := orderOf l.length l mask
 let rs := rsOf b it [] ord
 ⟨fu, ord, (List.range al.length).map fun i => match rs.find? (·.1 == i) with | some r => r.2 | none => []⟩
def planOf (ops : Array Oper) (al : List AOper) : Option Plan :=
 let p := mkPlan ops al false
 if planOK ops al p = true then some p
 else
  let p := mkPlan ops al true
  if planOK ops al p = true then some p else none
theorem planOf_ok {ops : Array Oper} {al : List AOper} {p : Plan} (h : planOf ops al = some p) : planOK ops al p = true := by
 unfold planOf at h
 simp only at h
 split at h
 · cases h; assumption
 · split at h
   · cases h; assumption
   · cases h
def Plan.plain (p : Plan) : Bool := p.fu.isEmpty && p.rs.all List.isEmpty
def Plan.to (p : Plan) (al : List AOper) : ACode :=
 if p.plain = true then .reg (p.ord.flatMap (itemsOf al p.fu)) else .draw (p.fu.map (·.2.2)) (p.code al)

def mkPerm (ops : Array Oper) (al : List AOper) : Perm :=
 let b := aheads ops.toList #[]
 let it := itP al
 let l := List.range al.length
 let ch := l.filter fun i => !quietI (it i)
 let ws := ch.filter fun i => ch.any fun j => j != i && !(b.getD i 0).testBit j && !(b.getD j 0).testBit i
 let cs := l.filter fun i => !ws.contains i && ws.any fun j => (b.getD i 0).testBit j
 let la := (l.filter fun i => !ws.contains i && !cs.contains i).map fun i => (i, b.getD i 0, quietI (it i))
 let ord := orderOf la.length la (la.foldl (fun m x => m ||| 2 ^ x.1) 0)
 let rs := rsOf b it [] ord ++ ws.map fun i => (i, if growI (it i) then [] else restOf b it i (ord.filter fun k => quietI (it k)))
 ⟨ord, l.map fun i => match rs.find? (·.1 == i) with | some r => r.2 | none => [], ws, cs⟩
def permOf (ops : Array Oper) (al : List AOper) : Option Perm :=
 let p := mkPerm ops al
 if permOK ops al p = true then some p else none
theorem permOf_ok {ops : Array Oper} {al : List AOper} {p : Perm} (h : permOf ops al = some p) : permOK ops al p = true := by
 unfold permOf at h
 simp only at h
 split at h
 · cases h; assumption
 · cases h
def Perm.item (p : Perm) (al : List AOper) (i : Nat) : List AOper × List AOper := (itP al i, (p.rs.getD i []).flatMap (itP al))

def resolveCode (P : Program) (own : List Nat) (n : Nat) : Code → Option ACode
 | .skip => some .skip
 | .label _ => some .skip
 | .region _ ops draw =>
  match resolveOps P own ops n ops.toList with
  | some al => if draw = true then (if P.follows .mixedOrders = true then (match planOf ops al with | some p => some (p.to al) | none => (match permOf ops al with | some p => some (.perm (p.ord.map (p.item al)) (p.ws.map fun i => (i, p.item al i)) (p.cs.map (p.item al))) | none => none)) else none) else some (.reg al)
  | none => some .dead
 | .seq a b => match resolveCode P own n a, resolveCode P own n b with | some a, some b => some (.seq a b) | _, _ => none
 | .cond c a b => match absX c, resolveCode P own n a, resolveCode P own n b with | some c, some a, some b => some (.cond c a b) | _, _, _ => none
 | .block id c => match resolveCode P own n c with | some c => some (.block id c) | none => none
 | .loop c => match resolveCode P own n c with | some c => some (.loop c) | none => none
 | .exit id => some (.exit id)
 | .ret => some .ret
 | .scope c => match resolveCode P own n c with | some c => some (.scope c) | none => none
 | _ => some .dead

def postOf (B : Nat) (w0 : World) (n : Nat) (g : Ghost) (Q : AEx → (Nat → AV) → Store → Prop) : Exit → Act → World → Prop := fun e a' w' =>
 ∃ (ae : AEx) (tm' : Nat → AV) (σ' : Store) (g' : Ghost), e = ae.to ∧ Q ae tm' σ' ∧ Ext g g' ∧ SR B w0 σ' g' w' ∧ RelT g' n tm' a'

def AWP (P : Program) (n : Nat) (c : ACode) (Q : AEx → (Nat → AV) → Store → Prop) (tm : Nat → AV) (σ : Store) : Prop :=
 ∀ (own : List Nat) (code : Code), resolveCode P own n code = some c → ∀ (B : Nat) (w0 : World) (g : Ghost) (w : World) (a : Act), SR B w0 σ g w → RelT g n tm a → code.wp P (postOf B w0 n g Q) a w
def ALoop (P : Program) (n : Nat) (c : ACode) (Q : AEx → (Nat → AV) → Store → Prop) (tm : Nat → AV) (σ : Store) : Prop :=
 ∀ (own : List Nat) (code : Code), resolveCode P own n code = some c → ∀ (B : Nat) (w0 : World) (g : Ghost) (w : World) (a : Act), SR B w0 σ g w → RelT g n tm a → ∃ k, Code.rounds P code (postOf B w0 n g Q) k a w

section
variable {P : Program} {n : Nat} {Q : AEx → (Nat → AV) → Store → Prop} {tm : Nat → AV} {σ : Store}

theorem postOf.mono {B : Nat} {w0 : World} {g g1 : Ghost} (he : Ext g g1) {Q Q' : AEx → (Nat → AV) → Store → Prop} (hq : ∀ e t s, Q e t s → Q' e t s) {e : Exit} {a : Act} {w : World} (h : postOf B w0 n g1 Q e a w) : postOf B w0 n g Q' e a w := by
 obtain ⟨ae, tm', σ', g', h1, h2, h3, h4, h5⟩ := h
 exact ⟨ae, tm', σ', g', h1, hq _ _ _ h2, he.trans h3, h4, h5⟩
theorem AWP.mono {c : ACode} {Q' : AEx → (Nat → AV) → Store → Prop} (h : AWP P n c Q tm σ) (hq : ∀ e t s, Q e t s → Q' e t s) : AWP P n c Q' tm σ :=
 fun own code hc B w0 g w a hS hT => wp_mono (h own code hc B w0 g w a hS hT) fun e a' w' hp => hp.mono (.refl g) hq

theorem AWP_skip (h : Q .normal tm σ) : AWP P n .skip Q tm σ := by
 intro own code hc B w0 g w a hS hT
 have hq : postOf B w0 n g Q .normal a w := ⟨.normal, tm, σ, g, rfl, h, .refl g, hS, hT⟩
 cases code <;> simp only [resolveCode, reduceCtorEq] at hc <;> first | exact wp_skip hq | exact wp_label hq | skip
 all_goals ((repeat' split at hc) <;> (first | (simp at hc; done) | (simp only [Option.some.injEq, Plan.to] at hc; split at hc <;> cases hc)))
theorem AWP_exit {id : Nat} (h : Q (.exit id) tm σ) : AWP P n (.exit id) Q tm σ := by
 intro own code hc B w0 g w a hS hT
 cases code <;> simp only [resolveCode, reduceCtorEq, Option.some.injEq] at hc
 case exit id' => cases hc; exact wp_exit ⟨.exit id, tm, σ, g, rfl, h, .refl g, hS, hT⟩
 all_goals ((repeat' split at hc) <;> (first | (simp at hc; done) | (simp only [Option.some.injEq, Plan.to] at hc; split at hc <;> cases hc)))
theorem AWP_ret (h : Q .ret tm σ) : AWP P n .ret Q tm σ := by
 intro own code hc B w0 g w a hS hT
 cases code <;> simp only [resolveCode, reduceCtorEq, Option.some.injEq] at hc
 case ret => exact wp_ret ⟨.ret, tm, σ, g, rfl, h, .refl g, hS, hT⟩
 all_goals ((repeat' split at hc) <;> (first | (simp at hc; done) | (simp only [Option.some.injEq, Plan.to] at hc; split at hc <;> cases hc)))

def andThen (K : (Nat → AV) → Store → Prop) (Q : AEx → (Nat → AV) → Store → Prop) : AEx → (Nat → AV) → Store → Prop
 | .normal, t, s => K t s
 | e, t, s => Q e t s
theorem AWP_seq {x y : ACode} (h : AWP P n x (andThen (AWP P n y Q) Q) tm σ) : AWP P n (.seq x y) Q tm σ := by
 intro own code hc B w0 g w a hS hT
 cases code <;> simp only [resolveCode, reduceCtorEq, Option.some.injEq] at hc
 case seq c1 c2 =>
  split at hc
  · rename_i a1 b1 h1 h2
    cases hc
    refine wp_seq (wp_mono (h own c1 h1 B w0 g w a hS hT) fun e a' w' hp => ?_)
    obtain ⟨ae, tm', σ', g', rfl, k2, k3, k4, k5⟩ := hp
    cases ae with
    | normal => exact wp_mono (k2 own c2 h2 B w0 g' w' a' k4 k5) fun e a2 w2 hp2 => hp2.mono k3 fun _ _ _ h => h
    | exit id => exact ⟨.exit id, tm', σ', g', rfl, k2, k3, k4, k5⟩
    | ret => exact ⟨.ret, tm', σ', g', rfl, k2, k3, k4, k5⟩
  · cases hc
 all_goals ((repeat' split at hc) <;> (first | (simp at hc; done) | (simp only [Option.some.injEq, Plan.to] at hc; split at hc <;> cases hc)))

theorem AWP_cond {c : AX} {x y : ACode} {b : Bool} (hb : c.ev tm = .bool b) (h : AWP P n (if b then x else y) Q tm σ) : AWP P n (.cond c x y) Q tm σ := by
 intro own code hc B w0 g w a hS hT
 cases code <;> simp only [resolveCode, reduceCtorEq, Option.some.injEq] at hc
 case cond c0 c1 c2 =>
  split at hc
  · rename_i c' a1 b1 h0 h1 h2
    cases hc
    have hr := absX_rel hT h0
    rw [hb] at hr
    have hev : a.eval c0 = .bool b := by generalize a.eval c0 = v at hr; cases hr; rfl
    refine Go.wp_cond hev ?_
    cases b
    · exact h own c2 h2 B w0 g w a hS hT
    · exact h own c1 h1 B w0 g w a hS hT
  · cases hc
 all_goals ((repeat' split at hc) <;> (first | (simp at hc; done) | (simp only [Option.some.injEq, Plan.to] at hc; split at hc <;> cases hc)))
theorem AWP_cond_true {c : AX} {x y : ACode} (hb : c.ev tm = .bool true) (h : AWP P n x Q tm σ) : AWP P n (.cond c x y) Q tm σ := AWP_cond hb h
theorem AWP_cond_false {c : AX} {x y : ACode} (hb : c.ev tm = .bool false) (h : AWP P n y Q tm σ) : AWP P n (.cond c x y) Q tm σ := AWP_cond hb h

def inBlock (id : Nat) (Q : AEx → (Nat → AV) → Store → Prop) : AEx → (Nat → AV) → Store → Prop
 | .exit id', t, s => if id' = id then Q .normal t s else Q (.exit id') t s
 | e, t, s => Q e t s
theorem AWP_block {id : Nat} {c : ACode} (h : AWP P n c (inBlock id Q) tm σ) : AWP P n (.block id c) Q tm σ := by
 intro own code hc B w0 g w a hS hT
 cases code <;> simp only [resolveCode, reduceCtorEq, Option.some.injEq] at hc
 case block id' c1 =>
  split at hc
  · rename_i a1 h1
    cases hc
    refine Go.wp_block (wp_mono (h own c1 h1 B w0 g w a hS hT) fun e a' w' hp => ?_)
    obtain ⟨ae, tm', σ', g', rfl, k2, k3, k4, k5⟩ := hp
    cases ae with
    | normal => exact ⟨.normal, tm', σ', g', rfl, k2, k3, k4, k5⟩
    | exit id2 =>
     simp only [AEx.to, Exit.inBlock]
     simp only [inBlock] at k2
     split at k2
     · rename_i hid; rw [if_pos hid]; exact ⟨.normal, tm', σ', g', rfl, k2, k3, k4, k5⟩
     · rename_i hid; rw [if_neg hid]; exact ⟨.exit id2, tm', σ', g', rfl, k2, k3, k4, k5⟩
    | ret => exact ⟨.ret, tm', σ', g', rfl, k2, k3, k4, k5⟩
  · cases hc
 all_goals ((repeat' split at hc) <;> (first | (simp at hc; done) | (simp only [Option.some.injEq, Plan.to] at hc; split at hc <;> cases hc)))

theorem AWP_scope {c : ACode} (h : AWP P n c Q tm σ) : AWP P n (.scope c) Q tm σ := by
 intro own code hc B w0 g w a hS hT
 cases code <;> simp only [resolveCode, reduceCtorEq, Option.some.injEq] at hc
 case scope c1 =>
  split at hc
  · rename_i a1 h1
    cases hc
    refine wp_scope_straight (wp_mono (h own c1 h1 B w0 g w a hS hT) fun e a' w' hp => ?_)
    obtain ⟨ae, tm', σ', g', rfl, k2, k3, k4, k5⟩ := hp
    cases ae <;> exact ⟨_, tm', σ', g', rfl, k2, k3, k4, k5⟩
  · cases hc
 all_goals ((repeat' split at hc) <;> (first | (simp at hc; done) | (simp only [Option.some.injEq, Plan.to] at hc; split at hc <;> cases hc)))

theorem AWP_loop {c : ACode} (h : ALoop P n c Q tm σ) : AWP P n (.loop c) Q tm σ := by
 intro own code hc B w0 g w a hS hT
 cases code <;> simp only [resolveCode, reduceCtorEq, Option.some.injEq] at hc
 case loop c1 =>
  split at hc
  · rename_i a1 h1
    cases hc
    obtain ⟨k, hk⟩ := h own c1 h1 B w0 g w a hS hT
    exact wp_loop_rounds k hk
  · cases hc
 all_goals ((repeat' split at hc) <;> (first | (simp at hc; done) | (simp only [Option.some.injEq, Plan.to] at hc; split at hc <;> cases hc)))

theorem rounds_mono {code : Code} {R R' : Exit → Act → World → Prop} (hr : ∀ e a w, R e a w → R' e a w) : ∀ (k : Nat) (a : Act) (w : World), Code.rounds P code R k a w → Code.rounds P code R' k a w := by
 intro k
 induction k with
 | zero => intro a w h; exact h
 | succ k ih =>
  intro a w h
  refine wp_mono h fun e a' w' hp => ?_
  cases e <;> first | exact ih _ _ hp | exact hr _ _ _ hp
theorem rounds_le {code : Code} {R : Exit → Act → World → Prop} : ∀ (k m : Nat) (a : Act) (w : World), k ≤ m → Code.rounds P code R k a w → Code.rounds P code R m a w := by
 intro k
 induction k with
 | zero => intro m a w _ h; exact h.elim
 | succ k ih =>
  intro m a w hm h
  obtain ⟨m, rfl⟩ : ∃ q, m = q + 1 := ⟨m - 1, by omega⟩
  refine wp_mono h fun e a' w' hp => ?_
  cases e <;> first | exact ih m _ _ (by omega) hp | exact hp

theorem ALoop_measure {c : ACode} (I : Nat → (Nat → AV) → Store → Prop) (hround : ∀ m tm σ, I m tm σ → AWP P n c (andThen (fun t s => ∃ m', m' < m ∧ I m' t s) Q) tm σ) {m : Nat} (h : I m tm σ) : ALoop P n c Q tm σ := by
 have key : ∀ (m : Nat) (tm : Nat → AV) (σ : Store), I m tm σ → ∀ (own : List Nat) (code : Code), resolveCode P own n code = some c → ∀ (B : Nat) (w0 : World) (g : Ghost) (w : World) (a : Act), SR B w0 σ g w → RelT g n tm a →
  Code.rounds P code (postOf B w0 n g Q) (m + 1) a w := by
  intro m
  induction m using Nat.strongRecOn with
  | _ m ih =>
   intro tm σ hI own code hc B w0 g w a hS hT
   refine wp_mono (hround m tm σ hI own code hc B w0 g w a hS hT) fun e a' w' hp => ?_
   obtain ⟨ae, tm', σ', g', rfl, k2, k3, k4, k5⟩ := hp
   cases ae with
   | normal =>
    obtain ⟨m', hlt, hI'⟩ := k2
    refine rounds_le (m' + 1) m a' w' (by omega) (rounds_mono (fun e a w hp => hp.mono k3 fun _ _ _ h => h) _ _ _ (ih m' hlt tm' σ' hI' own code hc B w0 g' w' a' k4 k5))
   | exit id => exact ⟨.exit id, tm', σ', g', rfl, k2, k3, k4, k5⟩
   | ret => exact ⟨.ret, tm', σ', g', rfl, k2, k3, k4, k5⟩
 exact fun own code hc B w0 g w a hS hT => ⟨m + 1, key m tm σ h own code hc B w0 g w a hS hT⟩

theorem resolveOps_get {own : List Nat} {ops : Array Oper} : ∀ {l : List Oper} {al : List AOper}, resolveOps P own ops n l = some al → al.length = l.length ∧ ∀ (i : Nat) (o : Oper), l[i]? = some o → ∃ ao, al[i]? = some ao ∧ resolveOper P own ops n o = some ao := by
 intro l
 induction l with
 | nil => intro al h; simp [resolveOps] at h; subst h; simp
 | cons o r ih =>
  intro al h
  simp only [resolveOps] at h
  split at h
  · rename_i a1 l1 h1 h2
    cases h
    obtain ⟨i1, i2⟩ := ih h2
    refine ⟨by simp [i1], fun i o' hi => ?_⟩
    match i, hi with
    | 0, hi => simp at hi; subst hi; exact ⟨a1, rfl, h1⟩
    | i + 1, hi => exact i2 i o' (by simpa using hi)
  · cases h

theorem RelT.weaken {g : Ghost} {tm tm' : Nat → AV} {a : Act} (h : RelT g n tm a) (hw : ∀ i, tm' i = .junk ∨ tm' i = tm i) : RelT g n tm' a :=
 ⟨h.1, h.2.1, fun i => by rcases hw i with e | e <;> rw [e] <;> first | exact .junk _ | exact h.2.2 i⟩

theorem opsN_flat {it : Nat → List AOper} {R : Nat → List Nat} (hR : ∀ i, R i = []) : ∀ {l : List Nat} {tm : Nat → AV} {σ : Store} {K : (Nat → AV) → Store → Prop}, opsWp P (l.flatMap it) tm σ K → opsN P (l.map fun i => (it i, (R i).flatMap it)) tm σ K
 | [], _, _, _, h => h
 | i :: l, tm, σ, K, h => by
  rw [List.flatMap_cons, opsWp_app] at h
  exact opsWp_mono (fun t s h => ⟨by simp [hR], opsN_flat hR h⟩) h
theorem region_sound {own : List Nat} {id : Nat} {ops : Array Oper} {al : List AOper} (hal : resolveOps P own ops n ops.toList = some al) (hm : P.follows .mixedOrders = true) {p : Plan} (hp : planOf ops al = some p)
 (h : opsN P (p.code al) (junks (p.fu.map (·.2.2)) tm) σ (fun t s => Q .normal t s)) {B : Nat} {w0 : World} {g : Ghost} {w : World} {a : Act} (hS : SR B w0 σ g w) (hT : RelT g n tm a) : (Code.region id ops true).wp P (postOf B w0 n g Q) a w := by
 obtain ⟨l1, l2⟩ := resolveOps_get hal
 refine wp_region_any hm ?_
 have hun : ∀ i, (Array.replicate ops.size false).getD i false = false := fun i => by
  rcases Nat.lt_or_ge i ops.size with h' | h' <;> simp [h']
 have hok := planOf_ok hp
 have hall : p.ord.filter (fun i => !(Array.replicate ops.size false).getD i true) = p.ord := by
  rw [List.filter_eq_self]
  intro i hi
  simp only [planOK, Bool.and_eq_true] at hok
  have := List.all_eq_true.1 hok.1.1.1.1.2 i hi
  simp only [Bool.and_eq_true, decide_eq_true_eq] at this
  simp [this.2]
 have h1 := DR_of_opsN (it := itemsOf al p.fu) (R := fun i => p.rs.getD i []) p.ord [] (junks (p.fu.map (·.2.2)) tm) σ h
 refine plan_sound (P := P) (n := n) (own := own) (al := al) (K := fun t s => Q .normal t s) (g0 := g) (fun i o ho => l2 i o (by simpa using ho)) (by simpa using l1) hok (fun tm' σ' g' a' w' hq e s t => ⟨.normal, tm', σ', g', rfl, hq, e, s, t⟩)
  ops.size _ p.ord (junks (p.fu.map (·.2.2)) tm) σ g a _ (by simp) hall.symm ?_ (fun m o e hm _ _ _ => by rw [hun] at hm; cases hm) h1 (fun f hf _ => junks_mem _ _ _ (.inl (List.mem_map.2 ⟨f, hf, rfl⟩)))
  ⟨fun _ => 0, fun f hf h _ => (by rw [hun] at h; cases h), fun f f' _ _ h _ _ _ _ => (by rw [hun] at h; cases h)⟩ (.refl g) (SR.drew hS) (hT.weaken (junks_cases _ _))
 exact Nat.le_trans (List.length_filter_le _ _) (by simp)
def permN (P : Program) (C : List (List AOper × List AOper)) (K : (Nat → AV) → Store → Prop) : Nat → List (Nat × List AOper × List AOper) → (Nat → AV) → Store → Prop
 | _, [], tm, σ => opsN P C tm σ K
 | 0, _ :: _, _, _ => False
 | k + 1, x :: W, tm, σ => ∀ i, i ∈ x :: W → opsWp P i.2.1 tm σ fun t s => (∀ c, c ∈ i.2.2 → Still P c t s) ∧ permN P C K k ((x :: W).filter (·.1 != i.1)) t s
theorem DR_of_item {al : List AOper} {p : Perm} {K : (Nat → AV) → Store → Prop} {L acc : List Nat} {tm : Nat → AV} {σ : Store} (h : opsN P (L.map (p.item al)) tm σ K) : DR P (itP al) (fun i => p.rs.getD i []) K acc L tm σ := DR_of_opsN L acc tm σ h
theorem PermR_of {al : List AOper} {p : Perm} {K : (Nat → AV) → Store → Prop} {C : List Nat} : ∀ (k : Nat) (W : List Nat) (tm : Nat → AV) (σ : Store), permN P (C.map (p.item al)) K k (W.map fun i => (i, p.item al i)) tm σ → PermR P (itP al) (fun i => p.rs.getD i []) K C k W tm σ
 | k, [], tm, σ, h => by
  rw [PermR_nil]
  refine DR_of_item ?_
  cases k <;> exact h
 | 0, x :: W, tm, σ, h => h.elim
 | k + 1, x :: W, tm, σ, h => fun i hi => by
  have h' := h (i, p.item al i) (show (i, p.item al i) ∈ (x :: W).map fun i => (i, p.item al i) from List.mem_map.2 ⟨i, hi, rfl⟩)
  refine opsWp_mono (fun t s hts => ⟨fun j hj o ho => hts.1 o (List.mem_flatMap.2 ⟨j, hj, by simp [ho]⟩), PermR_of k _ t s ?_⟩) h'
  have e : ((x :: W).map fun i => (i, p.item al i)).filter (fun y => y.1 != i) = ((x :: W).filter (· != i)).map fun i => (i, p.item al i) := by rw [List.filter_map]; rfl
  have := hts.2
  rw [show ((x, p.item al x) :: W.map fun i => (i, p.item al i)) = (x :: W).map fun i => (i, p.item al i) from rfl] at this
  rw [← e]; exact this
theorem opsN_mono {K K' : (Nat → AV) → Store → Prop} (hk : ∀ t s, K t s → K' t s) : ∀ {l : List (List AOper × List AOper)} {tm : Nat → AV} {σ : Store}, opsN P l tm σ K → opsN P l tm σ K'
 | [], _, _, h => hk _ _ h
 | (os, cs) :: l, tm, σ, h => opsWp_mono (fun t s hts => ⟨hts.1, opsN_mono hk hts.2⟩) h
theorem AWP_perm {A : List (List AOper × List AOper)} {W : List (Nat × List AOper × List AOper)} {C : List (List AOper × List AOper)} (h : opsN P A tm σ fun t s => permN P C (fun t s => Q .normal t s) W.length W t s) : AWP P n (.perm A W C) Q tm σ := by
 intro own code hc B w0 g w a hS hT
 cases code <;> simp only [resolveCode, reduceCtorEq, Option.some.injEq] at hc
 case region id ops draw =>
  split at hc
  · rename_i al hal
    split at hc
    · rename_i hd
      subst hd
      split at hc
      · rename_i hm
        split at hc
        · rename_i p hp
          simp only [Option.some.injEq, Plan.to] at hc
          split at hc <;> cases hc
        · split at hc
          · rename_i p hp
            simp only [Option.some.injEq, ACode.perm.injEq] at hc
            obtain ⟨rfl, rfl, rfl⟩ := hc
            have hok := permOf_ok hp
            obtain ⟨l1, l2⟩ := resolveOps_get hal
            refine wp_region_any hm ?_
            have hun : ∀ i, (Array.replicate ops.size false).getD i false = false := fun i => by
             rcases Nat.lt_or_ge i ops.size with h' | h' <;> simp [h']
            have hall : ∀ l : List Nat, (∀ i, i ∈ l → i ∈ p.ord ++ p.ws ++ p.cs) → l.filter (fun i => !(Array.replicate ops.size false).getD i true) = l := fun l hl => by
             rw [List.filter_eq_self]
             intro i hi
             simp only [permOK, Bool.and_eq_true] at hok
             have := of_decide_eq_true (List.all_eq_true.1 hok.1.1.1.1.1.1.2 i (hl i hi))
             simp [this]
            have h1 : DR P (itP al) (fun i => p.rs.getD i []) (PermR P (itP al) (fun i => p.rs.getD i []) (fun t s => Q .normal t s) p.cs p.ws.length p.ws) [] p.ord tm σ := by
             refine DR_of_item (opsN_mono (fun t s hts => ?_) h)
             rw [List.length_map] at hts
             exact PermR_of _ _ _ _ hts
            refine perm_sound (P := P) (n := n) (own := own) (al := al) (K := fun t s => Q .normal t s) (g0 := g) (fun i o ho => l2 i o (by simpa using ho)) hok (fun tm' σ' g' a' w' hq e s t => ⟨.normal, tm', σ', g', rfl, hq, e, s, t⟩)
             ops.size _ p.ws.length tm σ g a _ (by simp) ?_ (fun m o e hm _ _ _ => by rw [hun] at hm; cases hm) ?_ (.refl g) (SR.drew hS) hT
            · exact Nat.le_trans (List.length_filter_le _ _) (by simp)
            · rw [hall p.ord (fun i hi => by simp [hi]), hall p.ws (fun i hi => by simp [hi]), hall p.cs (fun i hi => by simp [hi])]
              exact h1
          · cases hc
      · cases hc
    · cases hc
  · cases hc
 all_goals ((repeat' split at hc) <;> simp [Plan.to] at hc)
theorem AWP_reg {al : List AOper} (h : opsWp P al tm σ (fun t s => Q .normal t s)) : AWP P n (.reg al) Q tm σ := by
 intro own code hc B w0 g w a hS hT
 cases code <;> simp only [resolveCode, reduceCtorEq, Option.some.injEq] at hc
 case region id ops draw =>
  split at hc
  · rename_i al' hal
    split at hc
    · rename_i hd
      subst hd
      split at hc
      · rename_i hm
        split at hc
        · rename_i p hp
          simp only [Option.some.injEq, Plan.to] at hc
          split at hc
          · rename_i hpl
            simp only [ACode.reg.injEq] at hc
            subst hc
            simp only [Plan.plain, Bool.and_eq_true, List.isEmpty_iff] at hpl
            refine region_sound hal hm hp ?_ hS hT
            have hj : junks (p.fu.map (·.2.2)) tm = tm := by rw [hpl.1]; rfl
            rw [hj]
            refine opsN_flat (it := itemsOf al' p.fu) (R := fun i => p.rs.getD i []) (fun i => ?_) h
            rw [List.getD_eq_getElem?_getD]
            cases e : p.rs[i]? with
            | none => rfl
            | some l => simpa using List.all_eq_true.1 hpl.2 l (List.mem_of_getElem? e)
          · cases hc
        · split at hc <;> simp at hc
      · cases hc
    · rename_i hd
      cases hc
      have hd : draw = false := by simpa using hd
      subst hd
      refine wp_region ?_
      have := ops_sound (P := P) (ops := ops) (Q := postOf B w0 n g Q) ops.toList 0 al σ g w tm a (by simp) hal hT hS _ h fun tm' σ' g' a' w' k1 k2 k3 k4 => ⟨.normal, tm', σ', g', rfl, k1, k2, k3, k4⟩
      rw [List.range_eq_range']
      simpa using this
  · cases hc
 all_goals ((repeat' split at hc) <;> simp [Plan.to] at hc)
theorem AWP_draw {js : List Nat} {al : List (List AOper × List AOper)} (h : opsN P al (junks js tm) σ (fun t s => Q .normal t s)) : AWP P n (.draw js al) Q tm σ := by
 intro own code hc B w0 g w a hS hT
 cases code <;> simp only [resolveCode, reduceCtorEq, Option.some.injEq] at hc
 case region id ops draw =>
  split at hc
  · rename_i al' hal
    split at hc
    · rename_i hd
      subst hd
      split at hc
      · rename_i hm
        split at hc
        · rename_i p hp
          simp only [Option.some.injEq, Plan.to] at hc
          split at hc
          · cases hc
          · simp only [ACode.draw.injEq] at hc
            obtain ⟨rfl, rfl⟩ := hc
            exact region_sound hal hm hp h hS hT
        · split at hc <;> simp at hc
      · cases hc
    · cases hc
  · cases hc
 all_goals ((repeat' split at hc) <;> (first | (simp at hc; done) | (simp only [Option.some.injEq, Plan.to] at hc; split at hc <;> cases hc)))

/-! ### The temporaries as a list -/
def env : List (Nat × AV) → Nat → AV
 | [], _ => .junk
 | (j, v) :: r, i => if i = j then v else env r i

theorem AWP_weaken {c : ACode} {tm' : Nat → AV} (hw : ∀ i, tm' i = .junk ∨ tm' i = tm i) (h : AWP P n c Q tm' σ) : AWP P n c Q tm σ :=
 fun own code hc B w0 g w a hS hT => h own code hc B w0 g w a hS (hT.weaken hw)

/-! ### Functions -/
def argList : Nat → List AV → List (Nat × AV)
 | _, [] => []
 | k, a :: r => (k, a) :: argList (k + 1) r
inductive RV where
 | slot (t : Nat)
 | cell (t : Nat) (agg : Option Nat)
def resSlots (P : Program) : List ResultVar → Option (List RV)
 | [] => some []
 | .tmp t :: r => match resSlots P r with | some l => some (.slot t :: l) | none => none
 | .cell a t :: r => match aggOf P t, resSlots P r with | some (agg, _, _), some l => some (.cell a agg :: l) | _, _ => none
def RV.val (tm : Nat → AV) (σ : Store) : RV → Option AV
 | .slot t => some (tm t)
 | .cell t agg => match (AOp.load agg (.t t)).eff tm σ with | some (r, _) => some r | none => none
def resVals (tm : Nat → AV) (σ : Store) : List RV → Option (List AV)
 | [] => some []
 | x :: r => match x.val tm σ, resVals tm σ r with | some a, some l => some (a :: l) | _, _ => none
def resOne : List AV → AV
 | [a] => a
 | l => .tuple l
def Res (rs : List RV) (K : AV → Store → Prop) (tm : Nat → AV) (σ : Store) : Prop :=
 match resVals tm σ rs with
 | some l => K (resOne l) σ
 | none => False

theorem env_argList : ∀ (args : List AV) (k i : Nat), env (argList k args) i = if k ≤ i then args.getD (i - k) .junk else .junk := by
 intro args
 induction args with
 | nil => intro k i; simp [argList, env]
 | cons a r ih =>
  intro k i
  simp only [argList, env]
  split
  · rename_i h; subst h; simp
  · rename_i h
    rw [ih]
    by_cases h1 : k + 1 ≤ i
    · rw [if_pos h1, if_pos (by omega)]
      rw [show i - k = (i - (k + 1)) + 1 from by omega]
      simp
    · rw [if_neg h1, if_neg (by omega)]

def resStep (tmps : Array Value) : ResultVar → Sem Value
 | .tmp t => pure (tmps.getD t undef)
 | .cell a t => do loadVar t (← asAddr (tmps.getD a undef))
theorem results_eq (fn : Func) (tmps : Array Value) : results fn tmps = (do let vs ← fn.results.mapM (resStep tmps); pure (if h : vs.size = 1 then vs[0] else .tuple vs)) := rfl
theorem results_run {B : Nat} {w0 : World} {g : Ghost} {fn : Func} {rs : List RV} (hr : resSlots P fn.results.toList = some rs) {a : Act} {w : World} (hS : SR B w0 σ g w) (hT : RelT g n tm a) {l : List AV} (hl : resVals tm σ rs = some l) :
 ∃ v, (results fn a.tmps).run P w = .ok v w ∧ RelV g (resOne l) v := by
 have key : ∀ (xs : List ResultVar) (rs : List RV) (l : List AV), resSlots P xs = some rs → resVals tm σ rs = some l →
  ∃ vs : List Value, (xs.mapM (resStep a.tmps)).run P w = .ok vs w ∧ vs.length = l.length ∧ ∀ j c, l[j]? = some c → RelV g c (vs.getD j undef) := by
  intro xs
  induction xs with
  | nil => intro rs l h h2; simp [resSlots] at h; subst h; simp [resVals] at h2; subst h2; exact ⟨[], rfl, rfl, by simp⟩
  | cons x r ih =>
   intro rs l h h2
   have fin : ∀ (rv : RV) (rs' : List RV) (v : Value) (c : AV) (l' : List AV), resSlots P r = some rs' → resVals tm σ rs' = some l' → (resStep a.tmps x).run P w = .ok v w → RelV g c v →
    ∃ vs : List Value, ((x :: r).mapM (resStep a.tmps)).run P w = .ok vs w ∧ vs.length = (c :: l').length ∧ ∀ j c', (c :: l')[j]? = some c' → RelV g c' (vs.getD j undef) := by
    intro rv rs' v c l' e1 e2 e3 e4
    obtain ⟨vs, i1, i2, i3⟩ := ih rs' l' e1 e2
    refine ⟨v :: vs, ?_, by simp [i2], fun j c' hj => ?_⟩
    · rw [List.mapM_cons, Sem.run_bind, e3, Result.andThen_ok, Sem.run_bind, i1]
      rfl
    · match j, hj with
      | 0, hj => simp at hj; subst hj; simpa using e4
      | j + 1, hj => have := i3 j c' (by simpa using hj); simpa using this
   cases x with
   | tmp t =>
    simp only [resSlots] at h
    split at h
    · rename_i rs' hrs
      cases h
      simp only [resVals, RV.val] at h2
      split at h2
      · rename_i c l' h3 h4
        cases h2
        cases h3
        exact fin (.slot t) rs' _ _ l' hrs h4 (by simp [resStep]) (hT.2.2 t)
      · cases h2
    · cases h
   | cell t ty =>
    simp only [resSlots] at h
    split at h
    · rename_i agg d i rs' hag hrs
      cases h
      obtain ⟨a1, a2, a3⟩ := aggOf_some hag
      simp only [resVals] at h2
      split at h2
      · rename_i c l' h3 h4
        cases h2
        simp only [RV.val] at h3
        split at h3
        · rename_i rr st hld
          cases h3
          have hst : st = σ := by
           have := AOp.eff_quiet (op := .load agg (.t t)) rfl hld
           exact this
          subst hst
          have hrel := hT.2.2 t
          have hld2 : ∃ v, (Instr.loadAt ty (a.tmps.getD t undef)).run P w = .ok v w ∧ RelV g c v := by
           have hok : OpOK P B w0 g w (do Pure.pure (.value (← Instr.loadAt ty (a.tmps.getD t undef)))) c st := by
            simp only [AOp.eff, AX.ev] at hld
            split at hld
            · rename_i id ver k off hp
              rw [hp] at hrel
              split at hld
              · rename_i ty' v sz es hob
                split at hld
                · rename_i hv
                  subst hv
                  split at hld
                  · rename_i e hek
                    split at hld
                    · rename_i rr hrr
                      cases hld
                      exact op_load_own hS a1 a2 a3 hrel hob hek hrr
                    · cases hld
                  · cases hld
                · cases hld
              · cases hld
            · rename_i cs off hp
              rw [hp] at hrel
              split at hld
              · rename_i rr hrr
                cases hld
                exact op_load_frozen hS a1 a2 a3 hrel hrr
              · cases hld
            · cases hld
           simp only [AOp.eff, AX.ev] at hld
           split at hld
           · rename_i id ver k off hp
             rw [hp] at hrel
             split at hld
             · rename_i ty' v sz es hob
               split at hld
               · rename_i hv
                 subst hv
                 split at hld
                 · rename_i e hek
                   split at hld
                   · rename_i rr hrr
                     cases hld
                     obtain ⟨p, hp2, b1, b2, b3, b4, cells, b5, b6, b7, b8⟩ := hS.objs id _ hob
                     cases hrel with
                     | ptr hid hvv hv1 =>
                      have hvv := (hvv p hp2).2 b1
                      rw [hvv]
                      have hk : k < es.length := by
                       rcases Nat.lt_or_ge k es.length with h' | h'
                       · exact h'
                       · simp [List.getElem?_eq_none h'] at hek
                      have hel : e.length = sz := b7 e (List.mem_of_getElem? hek)
                      subst b2
                      exact load_cells (g := g) (o := k * p.sz) a1 a2 a3 b5 (by rw [b6, hel, ← Nat.succ_mul]; exact Nat.mul_le_mul_right _ (by omega)) (fun j c hj => b8 k j e c hek hj) hrr
                   · cases hld
                 · cases hld
               · cases hld
             · cases hld
           · rename_i cs off hp
             rw [hp] at hrel
             split at hld
             · rename_i rr hrr
               cases hld
               generalize a.tmps.getD t undef = vv at hrel
               cases hrel with
               | rptr hΦ hb hc h1 =>
                obtain ⟨ty2, fr, hh, _⟩ := hS.phi _ _ hΦ.1
                exact load_cells (g := g) a1 a2 a3 hh hb (fun j c hj => ⟨hc j c hj, h1 j c hj⟩) hrr
             · cases hld
           · cases hld
          obtain ⟨v, v1, v2⟩ := hld2
          have hadr : ∃ ad, a.tmps.getD t undef = .pointer (some ad) := by
           generalize a.tmps.getD t undef = vv at v1
           cases vv <;> simp [Instr.loadAt, Instr.sureAddr] at v1
           rename_i o
           cases o with
           | none => simp at v1
           | some ad => exact ⟨ad, rfl⟩
          obtain ⟨ad, had⟩ := hadr
          refine fin (.cell t agg) rs' v c l' hrs h4 ?_ v2
          rw [had] at v1
          simp only [resStep, had, asAddr, Sem.run_bind, Sem.run_pure, Result.andThen_ok]
          simpa [Instr.loadAt, Instr.sureAddr] using v1
        · cases h3
      · cases h2
    · cases h
 obtain ⟨vs, h1, h2, h3⟩ := key fn.results.toList rs l hr hl
 refine ⟨if h : vs.length = 1 then vs[0] else .tuple vs.toArray, ?_, ?_⟩
 · rw [results_eq, Sem.run_bind, Array.mapM_eq_mapM_toList, Sem.run_map, h1]
   simp only [Result.andThen_ok, Sem.run_pure, List.size_toArray, List.getElem_toArray]
 · by_cases hone : l.length = 1
   · match l, hone, h2, h3 with
     | [c], _, h2, h3 =>
      match vs, h2, h3 with
      | [v], _, h3 => simpa [resOne] using h3 0 c rfl
   · have hne : ¬ vs.length = 1 := by omega
     rw [dif_neg hne]
     have hv : resOne l = .tuple l := by
      match l, hone with
      | [], _ => rfl
      | [t], h1 => simp at h1
      | a :: b :: r, _ => rfl
     rw [hv]
     exact .tuple (by simp [h2]) fun j c hj => by have := h3 j c hj; simpa [List.getD_eq_getElem?_getD] using this

theorem ACalls_intro {f : FuncId} {fn : Func} {code : Code} {c : ACode} {own : List Nat} {rs : List RV} {args : List AV} {K : AV → Store → Prop} (hf : P.funcs[f]? = some fn) (hname : (fn.name == "runtime.NumGoroutine") = false) (hb : fn.body = some code)
 (hc : resolveCode P own fn.ntmps code = some c) (hr : resSlots P fn.results.toList = some rs) (hargs : args.length ≤ fn.ntmps)
 (h : AWP P fn.ntmps c (fun e t s => match e with | .exit _ => False | _ => Res rs K t s) (env (argList 0 args)) σ) : ACalls P f args σ K := by
 intro B w0 g w vs hS hl hrel
 refine .inl ⟨w, ?_, ?_⟩
 · have hname' : ¬ fn.name = "runtime.NumGoroutine" := by simpa using hname
   simp [callFunc, hf, hname', hb]
 · refine calls_of_wp hf hb ?_
   have hT : RelT g fn.ntmps (env (argList 0 args)) { tmps := vs ++ Array.replicate (fn.ntmps - vs.size) undef, defers := [] } := by
    refine ⟨by simp; omega, rfl, fun i => ?_⟩
    rw [env_argList]
    simp only [Nat.zero_le, if_true, Nat.sub_zero]
    by_cases hi : i < args.length
    · have hg : args[i]? = some args[i] := List.getElem?_eq_getElem hi
      have := hrel i _ hg
      rw [List.getD_eq_getElem?_getD, hg, Option.getD_some]
      have e : (vs ++ Array.replicate (fn.ntmps - vs.size) undef).getD i undef = vs.getD i undef := by
       simp only [Array.getD_eq_getD_getElem?]
       rw [Array.getElem?_append_left (by omega)]
      rw [e]
      exact this
    · rw [List.getD_eq_getElem?_getD, List.getElem?_eq_none (by omega)]
      exact .junk _
   refine wp_mono (h own code hc B w0 g w _ hS hT) fun e a' w' hp => ?_
   obtain ⟨ae, tm', σ', g', rfl, k2, k3, k4, k5⟩ := hp
   have fin : Res rs K tm' σ' → a'.defers = [] ∧ ∃ v, (results fn a'.tmps).run P w' = .ok v w' ∧ (∃ v_1, Ending.returned v = Ending.returned v_1 ∧ ∃ r σ' g', K r σ' ∧ Ext g g' ∧ SR B w0 σ' g' w' ∧ RelV g' r v_1) := by
    intro hk
    unfold Res at hk
    split at hk
    · rename_i l hl
      obtain ⟨v, v1, v2⟩ := results_run hr k4 k5 hl
      exact ⟨k5.2.1, v, v1, v, rfl, _, σ', g', hk, k3, k4, v2⟩
    · exact hk.elim
   cases ae with
   | normal => exact fin k2
   | ret => exact fin k2
   | exit id => exact k2.elim

/-! ### Freezing, forgetting -/
end
end Go.AL
set_option linter.unusedVariables false
set_option linter.unusedSimpArgs false
namespace Go.AL
open Go.RowKit

section
variable {P : Program} {f : FuncId} {args : List AV} {σ : Store}

theorem ACalls_trim {K : AV → Store → Prop} (h : ACalls P f args σ fun r σ' => ∃ τ : Store, K r τ ∧ σ.next ≤ τ.next ∧ τ.next ≤ σ'.next ∧ Cln τ.next r ∧ ∀ id o, τ.get id = some o → σ'.get id = some o ∧ (σ.get id = some o ∨ o.Okay τ.next)) : ACalls P f args σ K := by
 intro B w0 g w vs hS hl hrel
 refine (h B w0 g w vs hS hl hrel).mono fun v w' ⟨r, σ', g', ⟨τ, k1, k2, k3, k4, k5⟩, hE, hS', hr⟩ => ?_
 refine ⟨r, τ, g'.cut τ.next, k1, hE.cut (by rw [hS.next]; exact k2), hS'.trim k3 fun id o e => ?_, hr.cut k4⟩
 obtain ⟨a, b⟩ := k5 id o e
 refine ⟨a, ?_⟩
 rcases b with b | b
 · have hc := hS.cln b
   have mono : ∀ {n m : Nat} {a : AV}, n ≤ m → Cln n a → Cln m a := by
    intro n m a hnm hc
    induction hc with
    | junk => exact .junk
    | bool b => exact .bool b
    | int k i => exact .int k i
    | str s => exact .str s
    | nilp => exact .nilp
    | ptr h => exact .ptr (Nat.lt_of_lt_of_le h hnm)
    | rptr h ih => exact .rptr ih
    | nils => exact .nils
    | list h ih => exact .list ih
    | own h => exact .own (Nat.lt_of_lt_of_le h hnm)
    | nilm => exact .nilm
    | map h => exact .map (Nat.lt_of_lt_of_le h hnm)
    | nilf => exact .nilf
    | fn ha hb i1 i2 => exact .fn i1 i2
    | agg h ih => exact .agg ih
    | tuple h ih => exact .tuple ih
   cases o with
   | cells ty ver sz es => exact fun i j e c x y => mono k2 (hc i j e c x y)
   | map es => exact fun i k v x => ⟨mono k2 (hc i k v x).1, mono k2 (hc i k v x).2⟩
 · exact b

theorem ACalls_pure {K : AV → Prop} (h : ACalls P f args σ fun r σ' => K r ∧ Cln σ.next r ∧ σ.next ≤ σ'.next ∧ ∀ id, id < σ.next → σ'.get id = σ.get id) : ACalls P f args σ fun r σ' => K r ∧ σ' = σ := by
 refine ACalls_trim (h.mono fun r σ' ⟨k1, k2, k3, k4⟩ => ⟨σ, ⟨k1, rfl⟩, Nat.le_refl _, k3, k2, fun id o e => ⟨by rw [k4 id (σ.lt e)]; exact e, .inl e⟩⟩)

theorem ACalls_len {K : AV → Store → Prop} {j : Nat} {es : List (List AV)} (hj : args[j]? = some (.list es)) (h : es.length ≤ maxLen → ACalls P f args σ K) : ACalls P f args σ K := by
 intro B w0 g w vs hS hl hrel
 have hr := hrel j _ hj
 refine h ?_ B w0 g w vs hS hl hrel
 generalize vs.getD j undef = v at hr
 cases hr with
 | listNil => simp
 | list hΦ hs hb hc h1 hn hcap => omega

theorem enter {fn : Func} {c : ACode} {own : List Nat} {rs : List RV} {K : AV → Store → Prop} (hf : P.funcs[f]? = some fn) (hname : (fn.name == "runtime.NumGoroutine") = false) (hc : fn.body.bind (resolveCode P own fn.ntmps) = some c)
 (hr : resSlots P fn.results.toList = some rs) (hargs : args.length ≤ fn.ntmps)
 (h : AWP P fn.ntmps c (fun e t s => match e with | .exit _ => False | _ => Res rs K t s) (env (argList 0 args)) σ) : ACalls P f args σ K := by
 cases hb : fn.body with
 | none => rw [hb] at hc; cases hc
 | some code => rw [hb] at hc; exact ACalls_intro hf hname hb hc hr hargs h

inductive Le : AV → AV → Prop
 | refl (a : AV) : Le a a
 | junk (a : AV) : Le a .junk
 | nil : Le .nils (.list [])
 | agg {a b : List AV} (hl : a.length = b.length) (h : ∀ (j : Nat) (x y : AV), a[j]? = some x → b[j]? = some y → Le x y) : Le (.agg a) (.agg b)
 | tuple {a b : List AV} (hl : a.length = b.length) (h : ∀ (j : Nat) (x y : AV), a[j]? = some x → b[j]? = some y → Le x y) : Le (.tuple a) (.tuple b)
theorem RelV.le {g : Ghost} {a b : AV} (h : Le a b) : ∀ {v : Value}, RelV g a v → RelV g b v := by
 induction h with
 | refl a => intro v hv; exact hv
 | junk a => intro v hv; exact .junk v
 | nil => intro v hv; cases hv; exact .listNil none 0
 | agg hl h ih =>
  intro v hv
  cases hv with
  | agg hs hc h1 =>
   rename_i a b arr
   have hx : ∀ (j : Nat) (y : AV), b[j]? = some y → ∃ x, a[j]? = some x := fun j y hj => by
    have : j < b.length := by
     rcases Nat.lt_or_ge j b.length with h' | h'
     · exact h'
     · simp [List.getElem?_eq_none h'] at hj
    exact ⟨a[j]'(by omega), List.getElem?_eq_getElem (by omega)⟩
   refine .agg (by omega) (fun j y hj => ?_) (fun j y hj => ?_)
   · obtain ⟨x, e⟩ := hx j y hj; exact ih j x y e hj (hc j x e)
   · obtain ⟨x, e⟩ := hx j y hj; exact h1 j x e
 | tuple hl h ih =>
  intro v hv
  cases hv with
  | tuple hs hc =>
   rename_i a b arr
   refine .tuple (by omega) (fun j y hj => ?_)
   have : j < b.length := by
    rcases Nat.lt_or_ge j b.length with h' | h'
    · exact h'
    · simp [List.getElem?_eq_none h'] at hj
   exact ih j (a[j]'(by omega)) y (List.getElem?_eq_getElem (by omega)) hj (hc j _ (List.getElem?_eq_getElem (by omega)))

theorem ACalls_le {K : AV → Store → Prop} (h : ACalls P f args σ fun r σ' => ∃ r', Le r r' ∧ K r' σ') : ACalls P f args σ K :=
 fun B w0 g w vs hS hl hrel => (h B w0 g w vs hS hl hrel).mono fun v w' ⟨r, σ', g', ⟨r', k1, k2⟩, hE, hS', hr⟩ => ⟨r', σ', g', k2, hE, hS', hr.le k1⟩
end
end Go.AL
set_option linter.unusedVariables false
set_option linter.unusedSimpArgs false
namespace Go.AL
open Go.RowKit

def Visit : Prop := True
theorem visit : Visit = True := (rfl)
def ok (x : Option (AV × Store)) (K : AV → Store → Prop) : Prop :=
 match x with
 | some (r, σ') => K r σ'
 | none => False
@[congr] theorem ok_congr {w : Prop} (hw : Visit = w) {x y : Option (AV × Store)} {K : AV → Store → Prop} (h : x = y) : ok x K = ok y K := by rw [h]
theorem ok_some (r : AV) (σ : Store) (K : AV → Store → Prop) : ok (some (r, σ)) K = K r σ := (rfl)
theorem ok_ite (c : Prop) [Decidable c] (x : Option (AV × Store)) (K : AV → Store → Prop) : ok (if c then x else none) K = (c ∧ ok x K) := by by_cases h : c <;> simp [h, ok]
def guardW (v : AV) (want : Bool) (A B : Prop) : Prop :=
 match v with
 | .bool b => if b = want then A else B
 | .tuple [] => B
 | _ => False
@[congr] theorem guardW_congr {w : Prop} (hw : Visit = w) {v v' : AV} {want : Bool} {A B : Prop} (h : v = v') : guardW v want A B = guardW v' want A B := by rw [h]
theorem guardW_un (want : Bool) (A B : Prop) : guardW (.tuple []) want A B = B := (rfl)
theorem guardW_tt (A B : Prop) : guardW (.bool true) true A B = A := (rfl)
theorem guardW_tf (A B : Prop) : guardW (.bool true) false A B = B := (rfl)
theorem guardW_ft (A B : Prop) : guardW (.bool false) true A B = B := (rfl)
theorem guardW_ff (A B : Prop) : guardW (.bool false) false A B = A := (rfl)

@[congr] theorem opsWp_congr {w : Prop} (hw : Visit = w) {P : Program} {l : List AOper} {tm tm' : Nat → AV} {σ σ' : Store} {K : (Nat → AV) → Store → Prop} (h : tm = tm') (h' : σ = σ') : opsWp P l tm σ K = opsWp P l tm' σ' K := by rw [h, h']
@[congr] theorem AWP_congr {w : Prop} (hw : Visit = w) {P : Program} {n : Nat} {c : ACode} {Q : AEx → (Nat → AV) → Store → Prop} {tm tm' : Nat → AV} {σ σ' : Store} (h : tm = tm') (h' : σ = σ') : AWP P n c Q tm σ = AWP P n c Q tm' σ' := by rw [h, h']
@[congr] theorem ACalls_congr {w : Prop} (hw : Visit = w) {P : Program} {f : FuncId} {args args' : List AV} {σ σ' : Store} {K : AV → Store → Prop} (h : args = args') (h' : σ = σ') : ACalls P f args σ K = ACalls P f args' σ' K := by rw [h, h']
@[congr] theorem wp_congr {w : Prop} (hw : Visit = w) (P : Program) (op : AOp) {tm tm' : Nat → AV} {σ σ' : Store} (K : AV → Store → Prop) (h : tm = tm') (h' : σ = σ') : op.wp P tm σ K = op.wp P tm' σ' K := by rw [h, h']

theorem env_nil (i : Nat) : env [] i = .junk := (rfl)
theorem env_cons (j : Nat) (v : AV) (r : List (Nat × AV)) (i : Nat) : env ((j, v) :: r) i = if i = j then v else env r i := (rfl)
theorem put_some (l : List (Nat × AV)) (d : Nat) (v : AV) : put (env l) (some d) v = env ((d, v) :: l) := (rfl)
theorem put_none (tm : Nat → AV) (v : AV) : put tm none v = tm := (rfl)
theorem ev_t (tm : Nat → AV) (i : Nat) : (AX.t i).ev tm = tm i := (rfl)
theorem ev_c (tm : Nat → AV) (v : AV) : (AX.c v).ev tm = v := (rfl)
section
variable (P : Program) (tm : Nat → AV) (σ : Store)
theorem opsWp_nil (K : (Nat → AV) → Store → Prop) : opsWp P [] tm σ K = K tm σ := (rfl)
theorem opsWp_cons (d : Option Nat) (op : AOp) (rest : List AOper) (K : (Nat → AV) → Store → Prop) :
 opsWp P (⟨d, op, none⟩ :: rest) tm σ K = op.wp P tm σ fun r σ' => opsWp P rest (put tm d r) σ' K := (rfl)
theorem opsWp_guard (d : Option Nat) (op : AOp) (s : Nat) (want : Bool) (rest : List AOper) (K : (Nat → AV) → Store → Prop) :
 opsWp P (⟨d, op, some (s, want)⟩ :: rest) tm σ K = guardW (tm s) want (op.wp P tm σ fun r σ' => opsWp P rest (put tm d r) σ' K) (opsWp P rest (put tm d (.tuple [])) σ K) := (rfl)

variable (K : AV → Store → Prop)
theorem wp_call (f : FuncId) (args : List AX) : (AOp.call f args).wp P tm σ K = ACalls P f (args.map (·.ev tm)) σ K := (rfl)
def callvW (P : Program) (f : AV) (args : List AV) (σ : Store) (K : AV → Store → Prop) : Prop :=
 match f with
 | .fn (.func f) first captured => ACalls P f (first ++ args ++ captured) σ K
 | _ => False
theorem wp_callv (f : AX) (args : List AX) : (AOp.callv f args).wp P tm σ K = callvW P (f.ev tm) (args.map (·.ev tm)) σ K := (rfl)
theorem callvW_fn (f : FuncId) (first captured args : List AV) : callvW P (.fn (.func f) first captured) args σ K = ACalls P f (first ++ args ++ captured) σ K := (rfl)

theorem wp_move (x : AX) : (AOp.move x).wp P tm σ K = K (x.ev tm) σ := (rfl)
def ePick (c a b : AV) (σ : Store) : Option (AV × Store) := match c with | .bool t => some (if t then a else b, σ) | _ => none
theorem wp_pick (c a b : AX) : (AOp.pick c a b).wp P tm σ K = ok (ePick (c.ev tm) (a.ev tm) (b.ev tm) σ) K := (rfl)
theorem ePick_true (a b : AV) : ePick (.bool true) a b σ = some (a, σ) := (rfl)
theorem ePick_false (a b : AV) : ePick (.bool false) a b σ = some (b, σ) := (rfl)
def eNew (ty : Nat) (cs : Option (List AV)) (σ : Store) : Option (AV × Store) := match cs with | some cs => some (.ptr σ.next 0 0 0, σ.push (.cells ty 0 cs.length [cs])) | none => none
theorem wp_new (ty : Nat) (x : AX) : (AOp.new ty x).wp P tm σ K = ok (eNew ty (x.ev tm).cellsOf σ) K := (rfl)
theorem eNew_some (ty : Nat) (cs : List AV) : eNew ty (some cs) σ = some (.ptr σ.next 0 0 0, σ.push (.cells ty 0 cs.length [cs])) := (rfl)
def eAgg (r : Option (List AV)) (σ : Store) : Option (AV × Store) := match r with | some r => some (.agg r, σ) | none => none
theorem wp_build' (z : List AV) (ps : List (Nat × Nat × AX)) : (AOp.build z ps).wp P tm σ K = ok (eAgg (aFill z (ps.map fun p => (p.1, p.2.1, p.2.2.ev tm))) σ) K := (rfl)
theorem eAgg_some (r : List AV) : eAgg (some r) σ = some (.agg r, σ) := (rfl)
def eLit (own : Bool) (ty sz : Nat) (es : Option (List (List AV))) (σ : Store) : Option (AV × Store) :=
 match es with
 | some es => if own then some (.own σ.next 0 sz 0 es.length, σ.push (.cells ty 0 sz es)) else some (.list es, σ)
 | none => none
theorem wp_lit (own : Bool) (ty sz : Nat) (xs : List AX) : (AOp.lit own ty sz xs).wp P tm σ K = ok (eLit own ty sz (litEs sz (xs.map (·.ev tm))) σ) K := (rfl)
theorem eLit_own (ty sz : Nat) (es : List (List AV)) : eLit true ty sz (some es) σ = some (.own σ.next 0 sz 0 es.length, σ.push (.cells ty 0 sz es)) := (rfl)
theorem eLit_list (ty sz : Nat) (es : List (List AV)) : eLit false ty sz (some es) σ = some (.list es, σ) := (rfl)
theorem litEs_nil (sz : Nat) : litEs sz [] = some [] := (rfl)
def litCons (sz : Nat) (c : Option (List AV)) (r : Option (List (List AV))) : Option (List (List AV)) :=
 match c with
 | some cs => if cs.length = sz then (match r with | some es => some (cs :: es) | none => none) else none
 | none => none
theorem litEs_cons (sz : Nat) (v : AV) (r : List AV) : litEs sz (v :: r) = litCons sz v.cellsOf (litEs sz r) := (rfl)
theorem litCons_some (sz : Nat) (cs : List AV) (es : List (List AV)) : litCons sz (some cs) (some es) = if cs.length = sz then some (cs :: es) else none := (rfl)

def eVal (r : Option AV) (σ : Store) : Option (AV × Store) := match r with | some r => some (r, σ) | none => none
theorem eVal_some (r : AV) : eVal (some r) σ = some (r, σ) := (rfl)
theorem eVal_ite (c : Prop) [Decidable c] (x y : Option AV) : eVal (if c then x else y) σ = if c then eVal x σ else eVal y σ := by by_cases h : c <;> simp [h]

def eLoad (agg : Option Nat) (v : AV) (σ : Store) : Option (AV × Store) :=
 match v with
 | .ptr id ver k off =>
  match σ.get id with
  | some (.cells _ v _ es) => if v = ver then (match es[k]? with | some e => (match aLoad agg e off with | some r => some (r, σ) | none => none) | none => none) else none
  | _ => none
 | .rptr cs off => match aLoad agg cs off with | some r => some (r, σ) | none => none
 | _ => none
def eLoad2 (agg : Option Nat) (ver k off : Nat) (o : Option AObj) (σ : Store) : Option (AV × Store) :=
 match o with
 | some (.cells _ v _ es) => if v = ver then (match es[k]? with | some e => (match aLoad agg e off with | some r => some (r, σ) | none => none) | none => none) else none
 | _ => none
def eLoad3 (agg : Option Nat) (off : Nat) (e : Option (List AV)) (σ : Store) : Option (AV × Store) :=
 match e with | some e => (match aLoad agg e off with | some r => some (r, σ) | none => none) | none => none
theorem wp_load (agg : Option Nat) (x : AX) : (AOp.load agg x).wp P tm σ K = ok (eLoad agg (x.ev tm) σ) K := (rfl)
theorem eLoad_ptr (agg : Option Nat) (id ver k off : Nat) : eLoad agg (.ptr id ver k off) σ = eLoad2 agg ver k off (σ.get id) σ := (rfl)
theorem eLoad_rptr (agg : Option Nat) (cs : List AV) (off : Nat) : eLoad agg (.rptr cs off) σ = eVal (aLoad agg cs off) σ := (rfl)
theorem eLoad2_some (agg : Option Nat) (ver k off ty v sz : Nat) (es : List (List AV)) : eLoad2 agg ver k off (some (.cells ty v sz es)) σ = if v = ver then eLoad3 agg off es[k]? σ else none := (rfl)
theorem eLoad3_some (agg : Option Nat) (off : Nat) (e : List AV) : eLoad3 agg off (some e) σ = eVal (aLoad agg e off) σ := (rfl)
theorem aLoad_none (cs : List AV) (off : Nat) : aLoad none cs off = cs[off]? := (rfl)
theorem aLoad_some (n : Nat) (cs : List AV) (off : Nat) : aLoad (some n) cs off = if off + n ≤ cs.length then some (.agg ((cs.drop off).take n)) else none := (rfl)

def eStore (sz : Nat) (a : AV) (cs : Option (List AV)) (σ : Store) : Option (AV × Store) :=
 match a with
 | .ptr id ver k off =>
  match cs with
  | some cs =>
   match σ.get id with
   | some (.cells ty v s es) => if v = ver ∧ cs.length = sz then (match es[k]? with | some e => if off + cs.length ≤ e.length then some (.junk, σ.upd id (.cells ty ver s (es.set k (aPut e off cs)))) else none | none => none) else none
   | _ => none
  | none => none
 | _ => none
def eStore2 (sz id ver k off : Nat) (cs : List AV) (o : Option AObj) (σ : Store) : Option (AV × Store) :=
 match o with
 | some (.cells ty v s es) => if v = ver ∧ cs.length = sz then (match es[k]? with | some e => if off + cs.length ≤ e.length then some (.junk, σ.upd id (.cells ty ver s (es.set k (aPut e off cs)))) else none | none => none) else none
 | _ => none
def eStore3 (id ver k off ty s : Nat) (cs : List AV) (es : List (List AV)) (e : Option (List AV)) (σ : Store) : Option (AV × Store) :=
 match e with | some e => if off + cs.length ≤ e.length then some (.junk, σ.upd id (.cells ty ver s (es.set k (aPut e off cs)))) else none | none => none
theorem wp_store (sz : Nat) (a x : AX) : (AOp.store sz a x).wp P tm σ K = ok (eStore sz (a.ev tm) (x.ev tm).cellsOf σ) K := (rfl)
theorem eStore_ptr (sz id ver k off : Nat) (cs : List AV) : eStore sz (.ptr id ver k off) (some cs) σ = eStore2 sz id ver k off cs (σ.get id) σ := (rfl)
theorem eStore2_some (sz id ver k off ty v s : Nat) (cs : List AV) (es : List (List AV)) : eStore2 sz id ver k off cs (some (.cells ty v s es)) σ = if v = ver ∧ cs.length = sz then eStore3 id ver k off ty s cs es es[k]? σ else none := (rfl)
theorem eStore3_some (id ver k off ty s : Nat) (cs : List AV) (es : List (List AV)) (e : List AV) : eStore3 id ver k off ty s cs es (some e) σ = if off + cs.length ≤ e.length then some (.junk, σ.upd id (.cells ty ver s (es.set k (aPut e off cs)))) else none := (rfl)

def eNck (v : AV) (σ : Store) : Option (AV × Store) := match v with | .ptr a b c d => some (.ptr a b c d, σ) | .rptr a b => some (.rptr a b, σ) | .fn (.func f) a b => some (.fn (.func f) a b, σ) | _ => none
theorem wp_nilck (x : AX) : (AOp.nilck x).wp P tm σ K = ok (eNck (x.ev tm) σ) K := (rfl)
theorem eNck_ptr (a b c d : Nat) : eNck (.ptr a b c d) σ = some (.ptr a b c d, σ) := (rfl)
theorem eNck_rptr (a : List AV) (b : Nat) : eNck (.rptr a b) σ = some (.rptr a b, σ) := (rfl)
theorem wp_bin (kd : KK) (op : BinOp) (x y : AX) : (AOp.bin kd op x y).wp P tm σ K = ok (eVal (aBin kd op (x.ev tm) (y.ev tm)) σ) K := (rfl)
theorem wp_nileq (k : NK) (ng : Bool) (x y : AX) : (AOp.nileq k ng x y).wp P tm σ K = ok (eVal (aNilEq k ng (x.ev tm) (y.ev tm)) σ) K := (rfl)
def eNot (v : AV) (σ : Store) : Option (AV × Store) := match v with | .bool b => some (.bool (!b), σ) | _ => none
theorem wp_not' (x : AX) : (AOp.not x).wp P tm σ K = ok (eNot (x.ev tm) σ) K := (rfl)
theorem eNot_bool (b : Bool) : eNot (.bool b) σ = some (.bool (!b), σ) := (rfl)
def eNeg (v : AV) (σ : Store) : Option (AV × Store) := match v with | .int k n => some (.int k (k.wrap (0 - n)), σ) | _ => none
theorem wp_neg (x : AX) : (AOp.neg x).wp P tm σ K = ok (eNeg (x.ev tm) σ) K := (rfl)
theorem eNeg_int (k : IntKind) (n : Int) : eNeg (.int k n) σ = some (.int k (k.wrap (0 - n)), σ) := (rfl)
def eConv (k : IntKind) (v : AV) (σ : Store) : Option (AV × Store) := match v with | .int _ n => some (.int k (k.wrap n), σ) | _ => none
theorem wp_conv (k : IntKind) (x : AX) : (AOp.conv k x).wp P tm σ K = ok (eConv k (x.ev tm) σ) K := (rfl)
theorem eConv_int (k j : IntKind) (n : Int) : eConv k (.int j n) σ = some (.int k (k.wrap n), σ) := (rfl)
def eSame (v : AV) (σ : Store) : Option (AV × Store) := match v with | .str s => some (.str s, σ) | _ => none
theorem wp_same (x : AX) : (AOp.same x).wp P tm σ K = ok (eSame (x.ev tm) σ) K := (rfl)
theorem eSame_str (s : ByteArray) : eSame (.str s) σ = some (.str s, σ) := (rfl)
theorem wp_mkfn (f : Fn) (a b : List AX) : (AOp.mkfn f a b).wp P tm σ K = K (.fn f (a.map (·.ev tm)) (b.map (·.ev tm))) σ := (rfl)
theorem wp_mkmap : AOp.mkmap.wp P tm σ K = K (.map σ.next) (σ.push (.map [])) := (rfl)
def eMks (ty sz bytes : Nat) (zc : List AV) (l c : AV) (σ : Store) : Option (AV × Store) :=
 match l, c with
 | .int _ l, .int _ c => if 0 ≤ l ∧ l ≤ c ∧ (bytes : Int) * c ≤ 281474976710656 ∧ c ≤ 9223372036854775807 then some (.own σ.next 0 sz 0 l.toNat, σ.push (.cells ty 0 sz (List.replicate l.toNat zc))) else none
 | _, _ => none
theorem wp_mkslice (ty sz bytes : Nat) (zc : List AV) (l c : AX) : (AOp.mkslice ty sz bytes zc l c).wp P tm σ K = ok (eMks ty sz bytes zc (l.ev tm) (c.ev tm) σ) K := (rfl)
theorem eMks_int (ty sz bytes : Nat) (zc : List AV) (k j : IntKind) (l c : Int) : eMks ty sz bytes zc (.int k l) (.int j c) σ = if 0 ≤ l ∧ l ≤ c ∧ (bytes : Int) * c ≤ 281474976710656 ∧ c ≤ 9223372036854775807 then some (.own σ.next 0 sz 0 l.toNat, σ.push (.cells ty 0 sz (List.replicate l.toNat zc))) else none := (rfl)

def eCut (k : LK) (sz : Nat) (v : AV) (lo hi : Option AV) (σ : Store) : Option (AV × Store) :=
 match k, v with
 | .str, .str s =>
  match bound 0 lo, bound s.size hi with
  | some l, some h => if 0 ≤ l ∧ l ≤ h ∧ h ≤ s.size then some (.str (s.extract l.toNat h.toNat), σ) else none
  | _, _ => none
 | .slice, .list es =>
  match bound 0 lo, bound es.length hi with
  | some l, some h => if 0 ≤ l ∧ l ≤ h ∧ h ≤ es.length ∧ (∀ q, q ∈ es → q.length = sz) then some (.list ((es.take h.toNat).drop l.toNat), σ) else none
  | _, _ => none
 | .slice, .nils =>
  match bound 0 lo, bound 0 hi with
  | some l, some h => if l = 0 ∧ h = 0 then some (.nils, σ) else none
  | _, _ => none
 | .slice, .own id ver s off ln =>
  match bound 0 lo, bound ln hi with
  | some l, some h =>
   match σ.get id with
   | some (.cells _ v _ _) => if v = ver ∧ s = sz ∧ 0 ≤ l ∧ l ≤ h ∧ h ≤ ln then some (.own id ver s (off + l.toNat) (h.toNat - l.toNat), σ) else none
   | _ => none
  | _, _ => none
 | _, _ => none
theorem wp_cut (k : LK) (sz : Nat) (x : AX) (lo hi : Option AX) : (AOp.cut k sz x lo hi).wp P tm σ K = ok (eCut k sz (x.ev tm) (lo.map (·.ev tm)) (hi.map (·.ev tm)) σ) K := (rfl)
def cutS (s : ByteArray) (l h : Option Int) (σ : Store) : Option (AV × Store) := match l, h with
 | some l, some h => if 0 ≤ l ∧ l ≤ h ∧ h ≤ s.size then some (.str (s.extract l.toNat h.toNat), σ) else none
 | _, _ => none
def cutL (sz : Nat) (es : List (List AV)) (l h : Option Int) (σ : Store) : Option (AV × Store) := match l, h with
 | some l, some h => if 0 ≤ l ∧ l ≤ h ∧ h ≤ es.length ∧ (∀ q, q ∈ es → q.length = sz) then some (.list ((es.take h.toNat).drop l.toNat), σ) else none
 | _, _ => none
def cutO (sz id ver s off ln : Nat) (l h : Option Int) (o : Option AObj) (σ : Store) : Option (AV × Store) := match l, h with
 | some l, some h =>
  match o with
  | some (.cells _ v _ _) => if v = ver ∧ s = sz ∧ 0 ≤ l ∧ l ≤ h ∧ h ≤ ln then some (.own id ver s (off + l.toNat) (h.toNat - l.toNat), σ) else none
  | _ => none
 | _, _ => none
theorem eCut_str (sz : Nat) (s : ByteArray) (lo hi : Option AV) : eCut .str sz (.str s) lo hi σ = cutS s (bound 0 lo) (bound s.size hi) σ := (rfl)
theorem cutS_some (s : ByteArray) (l h : Int) : cutS s (some l) (some h) σ = if 0 ≤ l ∧ l ≤ h ∧ h ≤ s.size then some (.str (s.extract l.toNat h.toNat), σ) else none := (rfl)
theorem eCut_list (sz : Nat) (es : List (List AV)) (lo hi : Option AV) : eCut .slice sz (.list es) lo hi σ = cutL sz es (bound 0 lo) (bound es.length hi) σ := (rfl)
theorem cutL_some (sz : Nat) (es : List (List AV)) (l h : Int) : cutL sz es (some l) (some h) σ = if 0 ≤ l ∧ l ≤ h ∧ h ≤ es.length ∧ (∀ q, q ∈ es → q.length = sz) then some (.list ((es.take h.toNat).drop l.toNat), σ) else none := (rfl)
theorem eCut_own (sz id ver s off ln : Nat) (lo hi : Option AV) : eCut .slice sz (.own id ver s off ln) lo hi σ = cutO sz id ver s off ln (bound 0 lo) (bound ln hi) (σ.get id) σ := by
 simp only [eCut, cutO]
theorem cutO_some (sz id ver s off ln ty v z : Nat) (l h : Int) (es : List (List AV)) : cutO sz id ver s off ln (some l) (some h) (some (.cells ty v z es)) σ = if v = ver ∧ s = sz ∧ 0 ≤ l ∧ l ≤ h ∧ h ≤ ln then some (.own id ver s (off + l.toNat) (h.toNat - l.toNat), σ) else none := (rfl)
theorem bound_none (d : Int) : bound d none = some d := (rfl)
theorem bound_int (d : Int) (k : IntKind) (n : Int) : bound d (some (.int k n)) = some n := (rfl)

def eFad (off : Nat) (v : AV) (σ : Store) : Option (AV × Store) :=
 match v with
 | .ptr id ver k o => match σ.get id with | some (.cells _ v _ _) => if v = ver then some (.ptr id ver k (o + off), σ) else none | _ => none
 | .rptr cs o => some (.rptr cs (o + off), σ)
 | _ => none
def eFad2 (off id ver k o : Nat) (x : Option AObj) (σ : Store) : Option (AV × Store) := match x with | some (.cells _ v _ _) => if v = ver then some (.ptr id ver k (o + off), σ) else none | _ => none
theorem wp_faddr (off : Nat) (x : AX) : (AOp.faddr off x).wp P tm σ K = ok (eFad off (x.ev tm) σ) K := (rfl)
theorem eFad_ptr (off id ver k o : Nat) : eFad off (.ptr id ver k o) σ = eFad2 off id ver k o (σ.get id) σ := (rfl)
theorem eFad2_some (off id ver k o ty v sz : Nat) (es : List (List AV)) : eFad2 off id ver k o (some (.cells ty v sz es)) σ = if v = ver then some (.ptr id ver k (o + off), σ) else none := (rfl)
theorem eFad_rptr (off o : Nat) (cs : List AV) : eFad off (.rptr cs o) σ = some (.rptr cs (o + off), σ) := (rfl)
def eFld (off : Nat) (agg : Option Nat) (v : AV) (σ : Store) : Option (AV × Store) := match v with | .agg cs => (match aLoad agg cs off with | some r => some (r, σ) | none => none) | _ => none
theorem wp_field (off : Nat) (agg : Option Nat) (x : AX) : (AOp.field off agg x).wp P tm σ K = ok (eFld off agg (x.ev tm) σ) K := (rfl)
theorem eFld_agg (off : Nat) (agg : Option Nat) (cs : List AV) : eFld off agg (.agg cs) σ = eVal (aLoad agg cs off) σ := (rfl)
def eIad (sz : Nat) (v i : AV) (σ : Store) : Option (AV × Store) :=
 match i with
 | .int _ n =>
  match v with
  | .list es => if 0 ≤ n then (match es[n.toNat]? with | some c => if c.length = sz then some (.rptr c 0, σ) else none | none => none) else none
  | .own id ver s off ln => match σ.get id with | some (.cells _ v _ _) => if v = ver ∧ s = sz ∧ 0 ≤ n ∧ n < ln then some (.ptr id ver (off + n.toNat) 0, σ) else none | _ => none
  | _ => none
 | _ => none
def eIad2 (sz : Nat) (c : Option (List AV)) (σ : Store) : Option (AV × Store) := match c with | some c => if c.length = sz then some (.rptr c 0, σ) else none | none => none
def eIad3 (sz id ver s off ln : Nat) (n : Int) (o : Option AObj) (σ : Store) : Option (AV × Store) := match o with | some (.cells _ v _ _) => if v = ver ∧ s = sz ∧ 0 ≤ n ∧ n < ln then some (.ptr id ver (off + n.toNat) 0, σ) else none | _ => none
theorem wp_iaddr (sz : Nat) (x i : AX) : (AOp.iaddr sz x i).wp P tm σ K = ok (eIad sz (x.ev tm) (i.ev tm) σ) K := (rfl)
theorem eIad_list (sz : Nat) (es : List (List AV)) (k : IntKind) (n : Int) : eIad sz (.list es) (.int k n) σ = if 0 ≤ n then eIad2 sz es[n.toNat]? σ else none := (rfl)
theorem eIad2_some (sz : Nat) (c : List AV) : eIad2 sz (some c) σ = if c.length = sz then some (.rptr c 0, σ) else none := (rfl)
theorem eIad_own (sz id ver s off ln : Nat) (k : IntKind) (n : Int) : eIad sz (.own id ver s off ln) (.int k n) σ = eIad3 sz id ver s off ln n (σ.get id) σ := (rfl)
theorem eIad3_some (sz id ver s off ln ty v z : Nat) (n : Int) (es : List (List AV)) : eIad3 sz id ver s off ln n (some (.cells ty v z es)) σ = if v = ver ∧ s = sz ∧ 0 ≤ n ∧ n < ln then some (.ptr id ver (off + n.toNat) 0, σ) else none := (rfl)
def eIdx (v i : AV) (σ : Store) : Option (AV × Store) :=
 match v, i with
 | .str s, .int _ n => if 0 ≤ n then (match s.data.toList[n.toNat]? with | some b => some (.int .u8 b.toNat, σ) | none => none) else none
 | _, _ => none
def eIdx2 (b : Option UInt8) (σ : Store) : Option (AV × Store) := match b with | some b => some (.int .u8 b.toNat, σ) | none => none
theorem wp_index (x i : AX) : (AOp.index x i).wp P tm σ K = ok (eIdx (x.ev tm) (i.ev tm) σ) K := (rfl)
theorem eIdx_str (s : ByteArray) (k : IntKind) (n : Int) : eIdx (.str s) (.int k n) σ = if 0 ≤ n then eIdx2 s.data.toList[n.toNat]? σ else none := (rfl)
theorem eIdx2_some (b : UInt8) : eIdx2 (some b) σ = some (.int .u8 b.toNat, σ) := (rfl)

def eLkp (kd : KK) (za : AV) (okk : Bool) (m k : AV) (σ : Store) : Option (AV × Store) :=
 match m with
 | .map id =>
  match σ.get id with
  | some (.map es) =>
   match aFind kd k es 0 with
   | some r => some (if okk then .tuple [findVal za r, .bool r.isSome] else findVal za r, σ)
   | none => none
  | _ => none
 | _ => none
def eLkp2 (kd : KK) (za : AV) (okk : Bool) (k : AV) (o : Option AObj) (σ : Store) : Option (AV × Store) :=
 match o with
 | some (.map es) =>
  match aFind kd k es 0 with
  | some r => some (if okk then .tuple [findVal za r, .bool r.isSome] else findVal za r, σ)
  | none => none
 | _ => none
def eLkp3 (za : AV) (okk : Bool) (r : Option (Option (Nat × AV))) (σ : Store) : Option (AV × Store) :=
 match r with
 | some r => some (if okk then .tuple [findVal za r, .bool r.isSome] else findVal za r, σ)
 | none => none
theorem wp_lookup (kd : KK) (za : AV) (okk : Bool) (m k : AX) : (AOp.lookup kd za okk m k).wp P tm σ K = ok (eLkp kd za okk (m.ev tm) (k.ev tm) σ) K := (rfl)
theorem eLkp_map (kd : KK) (za : AV) (okk : Bool) (id : Nat) (k : AV) : eLkp kd za okk (.map id) k σ = eLkp2 kd za okk k (σ.get id) σ := (rfl)
theorem eLkp2_some (kd : KK) (za : AV) (okk : Bool) (k : AV) (es : List (AV × AV)) : eLkp2 kd za okk k (some (.map es)) σ = eLkp3 za okk (aFind kd k es 0) σ := (rfl)
theorem eLkp3_some (za : AV) (r : Option (Nat × AV)) : eLkp3 za true (some r) σ = some (.tuple [findVal za r, .bool r.isSome], σ) := (rfl)
theorem eLkp3_one (za : AV) (r : Option (Nat × AV)) : eLkp3 za false (some r) σ = some (findVal za r, σ) := (rfl)
def eMps (kd : KK) (m k x : AV) (σ : Store) : Option (AV × Store) :=
 match m with
 | .map id =>
  match σ.get id with
  | some (.map es) =>
   match aFind kd k es 0 with
   | some r => some (.junk, σ.upd id (.map (mapPut es k x r)))
   | none => none
  | _ => none
 | _ => none
def eMps2 (kd : KK) (id : Nat) (k x : AV) (o : Option AObj) (σ : Store) : Option (AV × Store) :=
 match o with
 | some (.map es) =>
  match aFind kd k es 0 with
  | some r => some (.junk, σ.upd id (.map (mapPut es k x r)))
  | none => none
 | _ => none
def eMps3 (id : Nat) (k x : AV) (es : List (AV × AV)) (r : Option (Option (Nat × AV))) (σ : Store) : Option (AV × Store) :=
 match r with
 | some r => some (.junk, σ.upd id (.map (mapPut es k x r)))
 | none => none
theorem wp_mapset (kd : KK) (m k x : AX) : (AOp.mapset kd m k x).wp P tm σ K = ok (eMps kd (m.ev tm) (k.ev tm) (x.ev tm) σ) K := (rfl)
theorem eMps_map (kd : KK) (id : Nat) (k x : AV) : eMps kd (.map id) k x σ = eMps2 kd id k x (σ.get id) σ := (rfl)
theorem eMps2_some (kd : KK) (id : Nat) (k x : AV) (es : List (AV × AV)) : eMps2 kd id k x (some (.map es)) σ = eMps3 id k x es (aFind kd k es 0) σ := (rfl)
theorem eMps3_some (id : Nat) (k x : AV) (es : List (AV × AV)) (r : Option (Nat × AV)) : eMps3 id k x es (some r) σ = some (.junk, σ.upd id (.map (mapPut es k x r))) := (rfl)
def eExt (v : AV) (i : Nat) (σ : Store) : Option (AV × Store) := match v with | .tuple vs => (match vs[i]? with | some r => some (r, σ) | none => none) | _ => none
theorem wp_extract (x : AX) (i : Nat) : (AOp.extract x i).wp P tm σ K = ok (eExt (x.ev tm) i σ) K := (rfl)
theorem eExt_tuple (vs : List AV) (i : Nat) : eExt (.tuple vs) i σ = eVal vs[i]? σ := (rfl)
def eLen (k : LK) (v : AV) (σ : Store) : Option (AV × Store) :=
 match k, v with
 | .str, .str s => some (.int .i64 s.size, σ)
 | .slice, .list es => some (.int .i64 es.length, σ)
 | .slice, .nils => some (.int .i64 0, σ)
 | .slice, .own _ _ _ _ ln => some (.int .i64 ln, σ)
 | .map, .map id => match σ.get id with | some (.map es) => some (.int .i64 es.length, σ) | _ => none
 | _, _ => none
theorem wp_len (k : LK) (x : AX) : (AOp.len k x).wp P tm σ K = ok (eLen k (x.ev tm) σ) K := (rfl)
theorem eLen_str (s : ByteArray) : eLen .str (.str s) σ = some (.int .i64 s.size, σ) := (rfl)
theorem eLen_list (es : List (List AV)) : eLen .slice (.list es) σ = some (.int .i64 es.length, σ) := (rfl)
theorem eLen_nils : eLen .slice .nils σ = some (.int .i64 0, σ) := (rfl)
theorem eLen_own (a b c d ln : Nat) : eLen .slice (.own a b c d ln) σ = some (.int .i64 ln, σ) := (rfl)
def eApp (ty sz bytes : Nat) (s : AV) (es : Option (List (List AV))) (σ : Store) : Option (AV × Store) :=
 match es with
 | some es =>
  match s with
  | .nils => if (∀ q, q ∈ es → q.length = sz) ∧ es.length * bytes ≤ 140737488355328 then some (if es = [] then .nils else .own σ.next 0 sz 0 es.length, if es = [] then σ else σ.push (.cells ty 0 sz es)) else none
  | .own id ver s off ln =>
   match σ.get id with
   | some (.cells t v z es0) => if (v = ver ∧ s = sz ∧ off = 0 ∧ t = ty ∧ z = sz ∧ ln ≤ es0.length) ∧ (∀ q, q ∈ es → q.length = sz) ∧ (ln + es.length) * bytes ≤ 140737488355328 ∧ ln + es.length ≤ maxLen then
    some (.own id (ver + 1) sz 0 (ln + es.length), σ.upd id (.cells ty (ver + 1) sz (es0.take ln ++ es))) else none
   | _ => none
  | _ => none
 | none => none
def eApp2 (ty sz bytes id ver s off ln : Nat) (es : List (List AV)) (o : Option AObj) (σ : Store) : Option (AV × Store) :=
 match o with
 | some (.cells t v z es0) => if (v = ver ∧ s = sz ∧ off = 0 ∧ t = ty ∧ z = sz ∧ ln ≤ es0.length) ∧ (∀ q, q ∈ es → q.length = sz) ∧ (ln + es.length) * bytes ≤ 140737488355328 ∧ ln + es.length ≤ maxLen then
  some (.own id (ver + 1) sz 0 (ln + es.length), σ.upd id (.cells ty (ver + 1) sz (es0.take ln ++ es))) else none
 | _ => none
theorem wp_append (ty sz bytes : Nat) (s x : AX) : (AOp.append ty sz bytes s x).wp P tm σ K = ok (eApp ty sz bytes (s.ev tm) (elemsOf σ sz (x.ev tm)) σ) K := (rfl)
theorem eApp_nils (ty sz bytes : Nat) (es : List (List AV)) : eApp ty sz bytes .nils (some es) σ = if (∀ q, q ∈ es → q.length = sz) ∧ es.length * bytes ≤ 140737488355328 then some (if es = [] then .nils else .own σ.next 0 sz 0 es.length, if es = [] then σ else σ.push (.cells ty 0 sz es)) else none := (rfl)
theorem eApp_own (ty sz bytes id ver s off ln : Nat) (es : List (List AV)) : eApp ty sz bytes (.own id ver s off ln) (some es) σ = eApp2 ty sz bytes id ver s off ln es (σ.get id) σ := (rfl)
theorem eApp2_some (ty sz bytes id ver s off ln t v z : Nat) (es es0 : List (List AV)) : eApp2 ty sz bytes id ver s off ln es (some (.cells t v z es0)) σ = if (v = ver ∧ s = sz ∧ off = 0 ∧ t = ty ∧ z = sz ∧ ln ≤ es0.length) ∧ (∀ q, q ∈ es → q.length = sz) ∧ (ln + es.length) * bytes ≤ 140737488355328 ∧ ln + es.length ≤ maxLen then
 some (.own id (ver + 1) sz 0 (ln + es.length), σ.upd id (.cells ty (ver + 1) sz (es0.take ln ++ es))) else none := (rfl)
theorem elems_nils (sz : Nat) : elemsOf σ sz .nils = some [] := (rfl)
theorem elems_list (sz : Nat) (es : List (List AV)) : elemsOf σ sz (.list es) = some es := (rfl)
def elems2 (sz ver s off ln : Nat) (o : Option AObj) : Option (List (List AV)) :=
 match o with
 | some (.cells _ v _ es) => if v = ver ∧ s = sz ∧ off + ln ≤ es.length then some ((es.drop off).take ln) else none
 | _ => none
theorem elems_own (sz id ver s off ln : Nat) : elemsOf σ sz (.own id ver s off ln) = elems2 sz ver s off ln (σ.get id) := (rfl)
theorem elems2_some (sz ver s off ln ty v z : Nat) (es : List (List AV)) : elems2 sz ver s off ln (some (.cells ty v z es)) = if v = ver ∧ s = sz ∧ off + ln ≤ es.length then some ((es.drop off).take ln) else none := (rfl)
def eMin (x y : AV) (σ : Store) : Option (AV × Store) := match x, y with | .int k a, .int _ b => some (.int k (if b < a then b else a), σ) | _, _ => none
theorem wp_min2 (x y : AX) : (AOp.min2 x y).wp P tm σ K = ok (eMin (x.ev tm) (y.ev tm) σ) K := (rfl)
theorem eMin_int (k j : IntKind) (a b : Int) : eMin (.int k a) (.int j b) σ = some (.int k (if b < a then b else a), σ) := (rfl)
end

/-! ### Numbers, texts -/
section
variable (k : IntKind) (x y : Int) (s u : ByteArray) (a b : Bool)
theorem bin_add : aBin .int .add (.int k x) (.int k y) = some (.int k (k.wrap (x + y))) := by simp [aBin]
theorem bin_sub : aBin .int .sub (.int k x) (.int k y) = some (.int k (k.wrap (x - y))) := by simp [aBin]
theorem bin_mul : aBin .int .mul (.int k x) (.int k y) = some (.int k (k.wrap (x * y))) := by simp [aBin]
theorem bin_eql : aBin .int .eql (.int k x) (.int k y) = some (.bool (decide (x = y))) := by simp [aBin]
theorem bin_neq : aBin .int .neq (.int k x) (.int k y) = some (.bool (!decide (x = y))) := by simp [aBin]
theorem bin_lss : aBin .int .lss (.int k x) (.int k y) = some (.bool (decide (x < y))) := by simp [aBin]
theorem bin_leq : aBin .int .leq (.int k x) (.int k y) = some (.bool (decide (x ≤ y))) := by simp [aBin]
theorem bin_gtr : aBin .int .gtr (.int k x) (.int k y) = some (.bool (decide (y < x))) := by simp [aBin]
theorem bin_geq : aBin .int .geq (.int k x) (.int k y) = some (.bool (decide (y ≤ x))) := by simp [aBin]
theorem bin_sadd : aBin .str .add (.str s) (.str u) = if s.size + u.size ≤ maxLen then some (.str (s ++ u)) else none := (rfl)
theorem bin_seql : aBin .str .eql (.str s) (.str u) = some (.bool (decide (s = u))) := (rfl)
theorem bin_sneq : aBin .str .neq (.str s) (.str u) = some (.bool (!decide (s = u))) := (rfl)
theorem bin_beql : aBin .bool .eql (.bool a) (.bool b) = some (.bool (decide (a = b))) := (rfl)
theorem bin_bneq : aBin .bool .neq (.bool a) (.bool b) = some (.bool (!decide (a = b))) := (rfl)
theorem nileq_np (ng : Bool) (i v k o : Nat) : aNilEq .ptr ng (.ptr i v k o) .nilp = some (.bool (false != ng)) := (rfl)
theorem nileq_nn (ng : Bool) : aNilEq .ptr ng .nilp .nilp = some (.bool (true != ng)) := (rfl)
end

/-! ### Code -/
section
variable (K : (Nat → AV) → Store → Prop) (Q : AEx → (Nat → AV) → Store → Prop) (t : Nat → AV) (s : Store)
theorem andThen_normal : andThen K Q .normal t s = K t s := (rfl)
theorem andThen_ret : andThen K Q .ret t s = Q .ret t s := (rfl)
theorem andThen_exit (i : Nat) : andThen K Q (.exit i) t s = Q (.exit i) t s := (rfl)
theorem inBlock_normal (id : Nat) : inBlock id Q .normal t s = Q .normal t s := (rfl)
theorem inBlock_ret (id : Nat) : inBlock id Q .ret t s = Q .ret t s := (rfl)
theorem inBlock_exit (id i : Nat) : inBlock id Q (.exit i) t s = if i = id then Q .normal t s else Q (.exit i) t s := (rfl)
end
theorem res_slot (t : Nat) (K : AV → Store → Prop) (tm : Nat → AV) (σ : Store) : Res [.slot t] K tm σ = K (tm t) σ := (rfl)
theorem res_slot2 (t u : Nat) (K : AV → Store → Prop) (tm : Nat → AV) (σ : Store) : Res [.slot t, .slot u] K tm σ = K (.tuple [tm t, tm u]) σ := (rfl)
theorem res_slot3 (t u v : Nat) (K : AV → Store → Prop) (tm : Nat → AV) (σ : Store) : Res [.slot t, .slot u, .slot v] K tm σ = K (.tuple [tm t, tm u, tm v]) σ := (rfl)
theorem res_none (K : AV → Store → Prop) (tm : Nat → AV) (σ : Store) : Res [] K tm σ = K (.tuple []) σ := (rfl)
theorem res_cell (t : Nat) (agg : Option Nat) (K : AV → Store → Prop) (tm : Nat → AV) (σ : Store) : Res [.cell t agg] K tm σ = ok (eLoad agg (tm t) σ) fun r _ => K r σ := by
 have h : (AOp.load agg (.t t)).eff tm σ = eLoad agg (tm t) σ := (rfl)
 simp only [Res, resVals, RV.val, h, ok]
 cases eLoad agg (tm t) σ with
 | none => rfl
 | some p => rfl
theorem res_cell_slot (t u : Nat) (agg : Option Nat) (K : AV → Store → Prop) (tm : Nat → AV) (σ : Store) : Res [.cell t agg, .slot u] K tm σ = ok (eLoad agg (tm t) σ) fun r _ => K (.tuple [r, tm u]) σ := by
 have h : (AOp.load agg (.t t)).eff tm σ = eLoad agg (tm t) σ := (rfl)
 simp only [Res, resVals, RV.val, h, ok]
 cases eLoad agg (tm t) σ with
 | none => rfl
 | some p => rfl
theorem res_slot_cell (t u : Nat) (agg : Option Nat) (K : AV → Store → Prop) (tm : Nat → AV) (σ : Store) : Res [.slot u, .cell t agg] K tm σ = ok (eLoad agg (tm t) σ) fun r _ => K (.tuple [tm u, r]) σ := by
 have h : (AOp.load agg (.t t)).eff tm σ = eLoad agg (tm t) σ := (rfl)
 simp only [Res, resVals, RV.val, h, ok]
 cases eLoad agg (tm t) σ with
 | none => rfl
 | some p => rfl

theorem Store.get_upd (σ : Store) (o : AObj) {id : Nat} (h : id < σ.next) (j : Nat) : (σ.upd id o).get j = if j = id then some o else σ.get j := by simp [Store.upd, h]
theorem lt_ne {i n : Nat} (h : i < n) : (i = n) = False := by simp; omega
section
variable {P : Program} {n : Nat} {Q : AEx → (Nat → AV) → Store → Prop} {tm : Nat → AV} {σ : Store}
end
end Go.AL
set_option linter.unusedVariables false
set_option linter.unusedSimpArgs false
namespace Go.AL
open Go.RowKit

theorem env_zip (tm : Nat → AV) (ks : List Nat) (i : Nat) : env (ks.zip (ks.map tm)) i = .junk ∨ env (ks.zip (ks.map tm)) i = tm i := by
 induction ks with
 | nil => exact .inl rfl
 | cons k ks ih =>
  simp only [List.map_cons, List.zip_cons_cons, env]
  by_cases h : i = k
  · subst h; right; simp
  · simp only [h, if_false]; exact ih
section
variable {P : Program} {n : Nat} {Q : AEx → (Nat → AV) → Store → Prop} {tm : Nat → AV} {σ : Store}
theorem AWP_while {α : Type} {c : ACode} (ks : List Nat) (μ : α → Nat) (V : α → List AV) (I : α → Store → Prop) (x0 : α) (h0 : I x0 σ) (hV : ks.map tm = V x0)
 (hround : ∀ (x : α) (s : Store), I x s → AWP P n c (andThen (fun t s' => ∃ x', ks.map t = V x' ∧ I x' s' ∧ μ x' < μ x) Q) (env (ks.zip (V x))) s) : AWP P n (.loop c) Q tm σ := by
 refine AWP_loop (ALoop_measure (fun m t s => ∃ x, μ x = m ∧ I x s ∧ ks.map t = V x) ?_ (m := μ x0) ⟨x0, rfl, h0, hV⟩)
 intro m t s ⟨x, hm, hI, ht⟩
 refine AWP_weaken (tm' := env (ks.zip (V x))) (fun i => by rw [← ht]; exact env_zip t ks i) ((hround x s hI).mono fun e t' s' hq => ?_)
 cases e with
 | normal => obtain ⟨x', h1, h2, h3⟩ := hq; exact ⟨μ x', by omega, x', rfl, h2, h1⟩
 | exit id => exact hq
 | ret => exact hq
end
theorem wrap_of {x : Int} (h1 : -9223372036854775808 ≤ x) (h2 : x ≤ 9223372036854775807) : IntKind.i64.wrap x = x := by
 rw [IntKind.wrap_i64]; omega
theorem Store.push_next (σ : Store) (o : AObj) : (σ.push o).next = σ.next + 1 := (rfl)
theorem Store.push_get (σ : Store) (o : AObj) (i : Nat) : (σ.push o).get i = if i = σ.next then some o else σ.get i := (rfl)
theorem Store.upd_next (σ : Store) (o : AObj) (i : Nat) : (σ.upd i o).next = σ.next := (rfl)
theorem Store.drop_next (σ : Store) (i : Nat) : (σ.drop i).next = σ.next := (rfl)
theorem Store.drop_get (σ : Store) (i j : Nat) : (σ.drop i).get j = if j = i then none else σ.get j := (rfl)

def slIds : AV → List Nat
 | .own id _ _ _ _ => [id]
 | _ => []
def SliceAt (σ : Store) (v : AV) (ty sz : Nat) (es : List (List AV)) : Prop :=
 (v = .nils ∧ es = []) ∨ ∃ id ver es', v = .own id ver sz 0 es.length ∧ σ.get id = some (.cells ty ver sz (es ++ es'))

theorem SliceAt.nil (σ : Store) (ty sz : Nat) : SliceAt σ .nils ty sz [] := .inl ⟨rfl, rfl⟩
theorem SliceAt.keep {σ σ' : Store} {v : AV} {ty sz : Nat} {es : List (List AV)} (h : SliceAt σ v ty sz es) (hk : ∀ i, i ∈ slIds v → σ'.get i = σ.get i) : SliceAt σ' v ty sz es := by
 rcases h with h | ⟨id, ver, es', rfl, h⟩
 · exact .inl h
 · exact .inr ⟨id, ver, es', rfl, by rw [hk id (by simp [slIds])]; exact h⟩
theorem SliceAt.ids {σ : Store} {v : AV} {ty sz : Nat} {es : List (List AV)} (h : SliceAt σ v ty sz es) {i : Nat} (hi : i ∈ slIds v) : ∃ ver es', σ.get i = some (.cells ty ver sz es') := by
 rcases h with ⟨rfl, h⟩ | ⟨id, ver, es', rfl, h⟩
 · simp [slIds] at hi
 · simp [slIds] at hi; subst hi; exact ⟨ver, _, h⟩
theorem SliceAt.lt {σ : Store} {v : AV} {ty sz : Nat} {es : List (List AV)} (h : SliceAt σ v ty sz es) {i : Nat} (hi : i ∈ slIds v) : i < σ.next := by
 obtain ⟨a, b, c⟩ := h.ids hi
 exact Store.lt _ c

structure Fr (σ σ' : Store) (old new : List Nat) : Prop where
 next : σ.next ≤ σ'.next
 keep : ∀ i, i < σ.next → i ∉ old → σ'.get i = σ.get i
 fresh : ∀ i, i ∈ new → i ∈ old ∨ σ.next ≤ i

theorem Fr.refl (σ : Store) (old : List Nat) : Fr σ σ old old := ⟨Nat.le_refl _, fun _ _ _ => rfl, fun _ h => .inl h⟩

theorem SliceAt.app {σ : Store} {v : AV} {ty sz bytes : Nat} {es : List (List AV)} (h : SliceAt σ v ty sz es) (es2 : List (List AV)) (h2 : ∀ q, q ∈ es2 → q.length = sz) (hb : (es.length + es2.length) * bytes ≤ 140737488355328) (hm : es.length + es2.length ≤ maxLen) :
 ∃ v' σ', eApp ty sz bytes v (some es2) σ = some (v', σ') ∧ SliceAt σ' v' ty sz (es ++ es2) ∧ Fr σ σ' (slIds v) (slIds v') := by
 rcases h with ⟨rfl, rfl⟩ | ⟨id, ver, es', rfl, h⟩
 · refine ⟨_, _, (eApp_nils σ ty sz bytes es2).trans (if_pos ⟨h2, by simpa using hb⟩), ?_, ?_⟩
   · by_cases he : es2 = []
     · subst he; simp [SliceAt]
     · simp only [he, if_false]
       exact .inr ⟨σ.next, 0, [], rfl, by simp [Store.push]⟩
   · by_cases he : es2 = []
     · subst he; simp; exact Fr.refl _ _
     · simp only [he, if_false]
       exact ⟨by simp [Store.push], fun i hi _ => by simp [Store.push]; omega, fun i hi => by simp [slIds] at hi; omega⟩
 · refine ⟨_, _, (eApp_own σ ty sz bytes id ver sz 0 es.length es2).trans (by rw [h, eApp2_some, if_pos ⟨by simp, h2, hb, hm⟩]), ?_, ?_⟩
   · refine .inr ⟨id, ver + 1, [], by simp, ?_⟩
     simp [Store.get_upd σ _ (Store.lt _ h)]
   · have hlt := Store.lt _ h
     exact ⟨by simp [Store.upd], fun i hi hn => by simp [Store.get_upd σ _ hlt]; simp [slIds] at hn; simp [hn], fun i hi => by simp [slIds] at hi ⊢; exact .inl hi⟩
theorem ok_app {σ : Store} {v : AV} {ty sz bytes : Nat} {es es2 : List (List AV)} {K : AV → Store → Prop} (h : SliceAt σ v ty sz es) (h2 : ∀ q, q ∈ es2 → q.length = sz) (hb : (es.length + es2.length) * bytes ≤ 140737488355328) (hm : es.length + es2.length ≤ maxLen)
 (hk : ∀ v' σ', SliceAt σ' v' ty sz (es ++ es2) → Fr σ σ' (slIds v) (slIds v') → K v' σ') : ok (eApp ty sz bytes v (some es2) σ) K := by
 obtain ⟨v', σ', h1, h2, h3⟩ := h.app es2 h2 hb hm
 rw [h1]
 exact hk v' σ' h2 h3
section
variable {P : Program} {n : Nat} {Q : AEx → (Nat → AV) → Store → Prop} {tm : Nat → AV} {σ : Store}
end
end Go.AL
set_option linter.unusedVariables false
namespace Go.AL
@[congr] theorem opsN_congr {w : Prop} (hw : Visit = w) {P : Program} {l : List (List AOper × List AOper)} {tm tm' : Nat → AV} {σ σ' : Store} {K : (Nat → AV) → Store → Prop} (h : tm = tm') (h' : σ = σ') : opsN P l tm σ K = opsN P l tm' σ' K := by rw [h, h']
def andW (a b : Prop) : Prop := a ∧ b
@[congr] theorem andW_congr {w : Prop} (hw : Visit = w) {a a' b : Prop} (h : a = a') : andW a b = andW a' b := by rw [h]
theorem andW_true (b : Prop) : andW True b = b := by simp [andW]
def stW (r r' : AV) (s s' : Store) : Prop := r = r' ∧ s = s'
theorem stW_def (r r' : AV) (s s' : Store) : stW r r' s s' = (r = r' ∧ s = s') := (rfl)
def stillsW (P : Program) : List AOper → (Nat → AV) → Store → Prop → Prop
 | [], _, _, G => G
 | c :: cs, tm, σ, G => andW (Still P c tm σ) (stillsW P cs tm σ G)
@[congr] theorem stillsW_congr {w : Prop} (hw : Visit = w) {P : Program} {l : List AOper} {tm tm' : Nat → AV} {σ σ' : Store} {G : Prop} (h : tm = tm') (h' : σ = σ') : stillsW P l tm σ G = stillsW P l tm' σ' G := by rw [h, h']
@[congr] theorem Still_congr {w : Prop} (hw : Visit = w) {P : Program} {o : AOper} {tm tm' : Nat → AV} {σ σ' : Store} (h : tm = tm') (h' : σ = σ') : Still P o tm σ = Still P o tm' σ' := by rw [h, h']
theorem stillsW_nil (P : Program) (tm : Nat → AV) (σ : Store) (G : Prop) : stillsW P [] tm σ G = G := (rfl)
theorem stillsW_cons (P : Program) (c : AOper) (cs : List AOper) (tm : Nat → AV) (σ : Store) (G : Prop) : stillsW P (c :: cs) tm σ G = andW (Still P c tm σ) (stillsW P cs tm σ G) := (rfl)
theorem stillsW_eq (P : Program) (tm : Nat → AV) (σ : Store) (G : Prop) : ∀ cs : List AOper, stillsW P cs tm σ G = ((∀ c, c ∈ cs → Still P c tm σ) ∧ G)
 | [] => by simp [stillsW]
 | c :: cs => by
  rw [stillsW_cons, stillsW_eq P tm σ G cs]
  simp [andW, and_assoc]
theorem Still_none (P : Program) (d : Nat) (op : AOp) (tm : Nat → AV) (σ : Store) : Still P ⟨some d, op, none⟩ tm σ = op.wp P tm σ fun r σ' => stW r (tm d) σ' σ :=
 propext ⟨fun ⟨_, e, h⟩ => by cases e; exact h, fun h => ⟨d, rfl, h⟩⟩
theorem Still_guard (P : Program) (d : Nat) (op : AOp) (s : Nat) (want : Bool) (tm : Nat → AV) (σ : Store) : Still P ⟨some d, op, some (s, want)⟩ tm σ = guardW (tm s) want (op.wp P tm σ fun r σ' => stW r (tm d) σ' σ) (stW (.tuple []) (tm d) σ σ) :=
 propext ⟨fun ⟨_, e, h⟩ => by cases e; exact h, fun h => ⟨d, rfl, h⟩⟩
theorem opsN_nil (P : Program) (tm : Nat → AV) (σ : Store) (K : (Nat → AV) → Store → Prop) : opsN P [] tm σ K = K tm σ := (rfl)
theorem opsN_cons (P : Program) (os : List AOper) (rest : List (List AOper × List AOper)) (tm : Nat → AV) (σ : Store) (K : (Nat → AV) → Store → Prop) :
 opsN P ((os, []) :: rest) tm σ K = opsWp P os tm σ fun t s => opsN P rest t s K := by
 simp [opsN]
theorem opsN_still (P : Program) (os : List AOper) (c : AOper) (cs : List AOper) (rest : List (List AOper × List AOper)) (tm : Nat → AV) (σ : Store) (K : (Nat → AV) → Store → Prop) :
 opsN P ((os, c :: cs) :: rest) tm σ K = opsWp P os tm σ fun t s => stillsW P (c :: cs) t s (opsN P rest t s K) := by
 simp only [opsN, stillsW_eq]
theorem junks_nil (tm : Nat → AV) : junks [] tm = tm := (rfl)
theorem junks_cons (j : Nat) (js : List Nat) (tm : Nat → AV) : junks (j :: js) tm = junks js (put tm (some j) .junk) := (rfl)
theorem co_junk : AV.junk.cellsOf = none := (rfl)
theorem co_bool (b : Bool) : (AV.bool b).cellsOf = some [AV.bool b] := (rfl)
theorem co_int (k : IntKind) (n : Int) : (AV.int k n).cellsOf = some [AV.int k n] := (rfl)
theorem co_str (s : ByteArray) : (AV.str s).cellsOf = some [AV.str s] := (rfl)
theorem co_nilp  : (AV.nilp ).cellsOf = some [AV.nilp ] := (rfl)
theorem co_ptr (i v k o : Nat) : (AV.ptr i v k o).cellsOf = some [AV.ptr i v k o] := (rfl)
theorem co_rptr (cs : List AV) (o : Nat) : (AV.rptr cs o).cellsOf = some [AV.rptr cs o] := (rfl)
theorem co_nils  : (AV.nils ).cellsOf = some [AV.nils ] := (rfl)
theorem co_list (es : List (List AV)) : (AV.list es).cellsOf = some [AV.list es] := (rfl)
theorem co_own (a b c d e : Nat) : (AV.own a b c d e).cellsOf = some [AV.own a b c d e] := (rfl)
theorem co_nilm  : (AV.nilm ).cellsOf = some [AV.nilm ] := (rfl)
theorem co_map (i : Nat) : (AV.map i).cellsOf = some [AV.map i] := (rfl)
theorem co_nilf  : (AV.nilf ).cellsOf = some [AV.nilf ] := (rfl)
theorem co_fn (f : Fn) (a b : List AV) : (AV.fn f a b).cellsOf = some [AV.fn f a b] := (rfl)
theorem co_agg (cs : List AV) : (AV.agg cs).cellsOf = some cs := (rfl)
theorem SliceAt.co {σ : Store} {v : AV} {ty sz : Nat} {es : List (List AV)} (h : SliceAt σ v ty sz es) : v.cellsOf = some [v] := by
 rcases h with ⟨rfl, _⟩ | ⟨_, _, _, rfl, _⟩ <;> rfl
end Go.AL
