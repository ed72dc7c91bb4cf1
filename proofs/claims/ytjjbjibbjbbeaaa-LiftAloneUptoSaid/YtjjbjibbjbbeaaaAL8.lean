/- The abstract layer, part 8: every resolved operation is followed by memory. -/
import Derived.Test.YtjjbjibbjbbeaaaAL7
set_option linter.unusedVariables false
set_option linter.unusedSimpArgs false
namespace Go.AL
open Go.RowKit

section
variable {P : Program} {B : Nat} {w0 : World} {σ : Store} {g : Ghost} {w : World}

theorem op_min2 (h : SR B w0 σ g w) {ts : Array TypeId} {ty : TypeId} {k k' : IntKind} {x y : Int} {vx vy : Value} (hx : RelV g (.int k x) vx) (hy : RelV g (.int k' y) vy) :
    OpOK P B w0 g w (do Pure.pure (.value (← Builtin.min_ ts ty #[vx, vy]))) (.int k (if y < x then y else x)) σ := by
  cases hx; cases hy
  exact OpOK.value h (v := .int k (if y < x then y else x)) (by simp [Builtin.min_, Builtin.min2]) (.int _ _)

theorem op_max2 (h : SR B w0 σ g w) {ts : Array TypeId} {ty : TypeId} {k k' : IntKind} {x y : Int} {vx vy : Value} (hx : RelV g (.int k x) vx) (hy : RelV g (.int k' y) vy) :
    OpOK P B w0 g w (do Pure.pure (.value (← Builtin.max_ ts ty #[vx, vy]))) (.int k (if x < y then y else x)) σ := by
  cases hx; cases hy
  exact OpOK.value h (v := .int k (if x < y then y else x)) (by simp [Builtin.max_, Builtin.max2]) (.int _ _)
theorem eff_sound {own : List Nat} {dst : Option Nat} {op : Op} {ao : AOp} (hop : resolveOp P own dst op = some ao) {o : Oper} (ho : o.op = op) {n : Nat} {tm : Nat → AV} {a : Act} (hT : RelT g n tm a) (h : SR B w0 σ g w)
    {r : AV} {σ' : Store} (he : ao.eff tm σ = some (r, σ')) : OpOK P B w0 g w (execOp a.eval o) r σ' := by
  obtain ⟨od, oo, oty, opos, oafter, oguard⟩ := o
  simp only at ho
  subst ho
  unfold resolveOp at hop
  split at hop
  · -- move
    rename_i x
    split at hop
    · rename_i x' hx; cases hop; cases he; exact OpOK.pure h (absX_rel hT hx)
    · cases hop
  · -- assign
    rename_i x
    split at hop
    · rename_i x' hx; cases hop; cases he; exact OpOK.pure h (absX_rel hT hx)
    · cases hop
  · -- pick
    rename_i c x y
    split at hop
    · rename_i c' x' y' hc hx hy
      cases hop
      simp only [AOp.eff] at he
      split at he
      · rename_i t ht
        cases he
        have h1 := absX_rel hT hc
        rw [ht] at h1
        show OpOK P B w0 g w (do Pure.pure (.value (if ← asBool (a.eval c) then a.eval x else a.eval y))) _ _
        generalize a.eval c = v at h1
        cases h1
        refine ⟨.value (if t then a.eval x else a.eval y), w, g, by simp [asBool], .refl g, h, .inl ⟨_, rfl, ?_⟩⟩
        cases t
        · exact absX_rel hT hy
        · exact absX_rel hT hx
      · cases he
    · cases hop
  · -- alloc
    split at hop
    · rename_i i z za hz
      cases hop
      obtain ⟨h1, h2, h3⟩ := zeroOf_some hz
      simp only [AOp.eff] at he
      split at he
      · rename_i cs hcs
        cases he
        exact op_alloc h (absConst_rel h3) hcs _ h1 h2
      · cases he
    · cases hop
  · -- box
    split at hop
    · rename_i x' hx
      cases hop
      simp only [AOp.eff] at he
      split at he
      · rename_i cs hcs
        cases he
        exact op_new h (absX_rel hT hx) hcs _
      · cases he
    · cases hop
  · -- build
    rename_i t parts
    split at hop
    · rename_i i z za fs hz hu
      split at hop
      · rename_i zc pl hzc hpl
        split at hop
        · rename_i l hl
          cases hop
          obtain ⟨h1, h2, h3⟩ := zeroOf_some hz
          obtain ⟨l1, l2⟩ := absParts_some hT hl
          simp only [AOp.eff] at he
          split at he
          · rename_i rr hr
            cases he
            refine op_build (P := P) h hu h1 h2 (places := pl.toArray) (fun w => ?_) (absConst_rel h3) hzc (parts := parts.map fun (i, x) => (i, a.eval x)) (aparts := l.map fun p => (p.1, p.2.1, p.2.2.ev tm)) (by simpa using l1) (fun k q o hq ho' => ?_) hr
            · have := places_some hpl w
              rw [Array.mapM_eq_mapM_toList]
              simp [this]
            · rw [Array.getElem?_map] at hq
              rw [List.getElem?_map] at ho'
              cases hp : parts[k]? with
              | none => simp [hp] at hq
              | some p =>
                cases hq2 : l[k]? with
                | none => simp [hq2] at ho'
                | some o2 =>
                  simp [hp] at hq
                  simp [hq2] at ho'
                  subst hq
                  subst ho'
                  obtain ⟨c1, c2⟩ := l2 k p o2 (by simpa using hp) hq2
                  exact ⟨by simpa using c1, c2⟩
          · cases he
        · cases hop
      · cases hop
    · cases hop
  · -- buildSlice
    rename_i t len parts
    split at hop
    · rename_i e i z hs
      split at hop
      · rename_i hc
        obtain ⟨rfl, c2, c3, c4⟩ := hc
        split at hop
        · rename_i xs hxs
          cases hop
          simp only [AOp.eff] at he
          split at he
          · rename_i es hes
            obtain ⟨s1, s2⟩ := sound_lit h hT hs c2 c3 c4 hxs hes
            generalize ownB own dst = bb at he
            cases bb
            · cases he; exact s1
            · cases he; exact s2
          · cases he
        · cases hop
      · cases hop
    · cases hop
  · -- load
    split at hop
    · rename_i agg d i a' hag hx
      cases hop
      obtain ⟨h1, h2, h3⟩ := aggOf_some hag
      have hr := absX_rel hT hx
      simp only [AOp.eff] at he
      split at he
      · rename_i id ver k off hp
        rw [hp] at hr
        split at he
        · rename_i ty v sz es hob
          split at he
          · rename_i hv
            subst hv
            split at he
            · rename_i e hek
              split at he
              · rename_i rr hrr
                cases he
                exact op_load_own h h1 h2 h3 hr hob hek hrr
              · cases he
            · cases he
          · cases he
        · cases he
      · rename_i cs off hp
        rw [hp] at hr
        split at he
        · rename_i rr hrr
          cases he
          exact op_load_frozen h h1 h2 h3 hr hrr
        · cases he
      · cases he
    · cases hop
  · -- store
    split at hop
    · rename_i i a' x' hi hx hy
      cases hop
      have hr := absX_rel hT hx
      have hry := absX_rel hT hy
      simp only [AOp.eff] at he
      split at he
      · rename_i id ver k off hp
        rw [hp] at hr
        split at he
        · rename_i cs hcs
          split at he
          · rename_i ty v s es hob
            split at he
            · rename_i hc
              obtain ⟨rfl, hl⟩ := hc
              split at he
              · rename_i e hek
                split at he
                · rename_i hle
                  cases he
                  exact op_store h hi hr hry hcs hl hob hek hle
                · cases he
              · cases he
            · cases he
          · cases he
        · cases he
      · cases he
    · cases hop
  · -- nilCheck
    rename_i x
    split at hop
    · rename_i x' hx
      cases hop
      have hr := absX_rel hT hx
      simp only [AOp.eff] at he
      split at he
      · rename_i id ver k off hp
        rw [hp] at hr
        cases he
        obtain ⟨ad, hv⟩ := hr.ptr_form
        refine ⟨.value (a.eval x), w, g, ?_, .refl g, h, .inl ⟨_, rfl, hr⟩⟩
        simp only [execOp]
        rw [hv]
        rfl
      · rename_i cs off hp
        rw [hp] at hr
        cases he
        refine ⟨.value (a.eval x), w, g, ?_, .refl g, h, .inl ⟨_, rfl, hr⟩⟩
        simp only [execOp]
        generalize a.eval x = v at hr
        cases hr
        rfl
      · rename_i f fs cs hp
        rw [hp] at hr
        cases he
        refine ⟨.value (a.eval x), w, g, ?_, .refl g, h, .inl ⟨_, rfl, hr⟩⟩
        simp only [execOp]
        generalize a.eval x = v at hr
        cases hr
        rfl
      · cases he
    · cases hop
  · -- binOp
    rename_i op t x y yt
    split at hop
    · rename_i d x' y' hu hx hy
      have hrx := absX_rel hT hx
      have hry := absX_rel hT hy
      split at hop
      · rename_i k hk
        cases hop
        simp only [AOp.eff] at he
        split at he
        · rename_i rr hrr
          cases he
          exact op_bin h hu (KK.of_fits hk) hrx hry hrr
        · cases he
      · split at hop
        · rename_i k hk
          cases hop
          simp only [AOp.eff] at he
          split at he
          · rename_i rr hrr
            cases he
            exact op_nileq h (neg := false) rfl hu (NK.of_fits hk) hrx hry hrr
          · cases he
        · rename_i k hk
          cases hop
          simp only [AOp.eff] at he
          split at he
          · rename_i rr hrr
            cases he
            exact op_nileq h (neg := true) rfl hu (NK.of_fits hk) hrx hry hrr
          · cases he
        · split at hop
          · rename_i ks hks
            cases hop
            simp only [AOp.eff] at he
            split at he
            · rename_i rr hrr
              cases he
              exact op_bin_rec h (rowKK_some hks) hrx hry hrr
            · cases he
          · cases hop
        · split at hop
          · rename_i ks hks
            cases hop
            simp only [AOp.eff] at he
            split at he
            · rename_i rr hrr
              cases he
              exact op_bin_rec h (rowKK_some hks) hrx hry hrr
            · cases he
          · cases hop
        · cases hop
    · cases hop
  · -- unOp
    split at hop
    · rename_i x' hx
      cases hop
      have hr := absX_rel hT hx
      simp only [AOp.eff] at he
      split at he
      · rename_i b hb
        rw [hb] at hr
        cases he
        rename_i t x _ _ _
        refine OpOK.value h (v := .bool (!b)) ?_ (.bool _)
        generalize a.eval _ = v at hr
        cases hr
        simp [Op.unary]
      · cases he
    · rename_i x' hx
      cases hop
      have hr := absX_rel hT hx
      simp only [AOp.eff] at he
      split at he
      · rename_i k m hb
        rw [hb] at hr
        cases he
        refine OpOK.value h (v := .int k (k.wrap (0 - m))) ?_ (.int _ _)
        generalize a.eval _ = v at hr
        cases hr
        simp [Op.unary, Op.intArith]
      · cases he
    · cases hop
  · -- convert
    split at hop
    · rename_i k0 k x' hs hd hx
      cases hop
      have hr := absX_rel hT hx
      simp only [AOp.eff] at he
      split at he
      · rename_i k1 m hb
        rw [hb] at hr
        cases he
        refine OpOK.value h (v := .int k (k.wrap m)) ?_ (.int _ _)
        generalize a.eval _ = v at hr
        cases hr
        simp [convert, run_underlying hs, run_underlying hd, Conv.intToInt]
      · cases he
    · rename_i x' hs hd hx
      cases hop
      have hr := absX_rel hT hx
      simp only [AOp.eff] at he
      split at he
      · rename_i s hb
        rw [hb] at hr
        cases he
        refine OpOK.value h (v := .string s) ?_ ?_
        · generalize a.eval _ = v at hr
          cases hr
          simp [convert, run_underlying hs, run_underlying hd]
        · generalize a.eval _ = v at hr
          cases hr
          exact .str _ (by assumption)
      · cases he
    · rename_i e x' hs hd hx
      split at hop
      · rename_i hu8
        cases hop
        have hr := absX_rel hT hx
        simp only [AOp.eff] at he
        split at he
        · rename_i es hes
          split at he
          · rename_i h1
            split at he
            · rename_i ns hns
              cases he
              exact op_bytes h hs hu8 hd hr hes h1 hns
            · cases he
          · cases he
        · cases he
      · cases hop
    · cases hop
  · -- makeFunc
    rename_i fn first captured
    split at hop
    · rename_i xs ys hxs hys
      cases hop
      cases he
      obtain ⟨l1, l2⟩ := absXs_rel hT hxs
      obtain ⟨m1, m2⟩ := absXs_rel hT hys
      refine OpOK.value h (v := .func fn (first.map a.eval) (captured.map a.eval)) (by simp [Instr.makeFunc]) (.fn (by simpa using l1) (by simpa using m1) (fun j c hj => ?_) (fun j c hj => ?_))
      · rw [List.getElem?_map] at hj
        cases hx : xs[j]? with
        | none => simp [hx] at hj
        | some x => simp [hx] at hj; subst hj; have := l2 j x hx; simpa [List.getD_eq_getElem?_getD] using this
      · rw [List.getElem?_map] at hj
        cases hx : ys[j]? with
        | none => simp [hx] at hj
        | some x => simp [hx] at hj; subst hj; have := m2 j x hx; simpa [List.getD_eq_getElem?_getD] using this
    · cases hop
  · -- makeMap
    cases hop
    cases he
    exact op_makeMap h
  · -- makeSlice
    rename_i t l c
    split at hop
    · rename_i e i z l' c' hs hl hc
      split at hop
      · rename_i za hza
        split at hop
        · rename_i zc hzc
          cases hop
          obtain ⟨hu, hi, hz, hzs, hsz⟩ := sliceInfo_some hs
          have hrl := absX_rel hT hl
          have hrc := absX_rel hT hc
          simp only [AOp.eff] at he
          split at he
          · rename_i k1 li k2 ci h1 h2
            rw [h1] at hrl
            rw [h2] at hrc
            split at he
            · rename_i hcond
              cases he
              show OpOK P B w0 g w (do Pure.pure (.value (← Instr.makeSlice t (a.eval l) (a.eval c)))) _ _
              generalize a.eval l = vl at hrl
              generalize a.eval c = vc at hrc
              cases hrl; cases hrc
              exact op_makeSlice h hu hi hz hzs hsz (absConst_rel hza) hzc hcond.1 hcond.2.1 hcond.2.2.1 hcond.2.2.2
            · cases he
          · cases he
        · cases hop
      · cases hop
    · cases hop
  · -- slice
    rename_i t x lo hi
    split at hop
    · rename_i x' lo' hi' hx hlo hhi
      split at hop
      · rename_i hu
        cases hop
        exact sound_cut h hT hx hlo hhi (.inl ⟨rfl, hu⟩) he
      · split at hop
        · rename_i e i z hs
          cases hop
          exact sound_cut h hT hx hlo hhi (.inr ⟨rfl, e, i, z, hs, rfl⟩) he
        · cases hop
    · cases hop
  · -- fieldAddr
    split at hop
    · rename_i f x' hf hx
      split at hop
      · rename_i i hi
        split at hop
        · rename_i hz
          cases hop
          obtain ⟨fs, hu, hfn⟩ := fieldOf_some hf
          have hr := absX_rel hT hx
          simp only [AOp.eff] at he
          split at he
          · rename_i id ver k o hp
            rw [hp] at hr
            split at he
            · rename_i ty v sz es hob
              split at he
              · rename_i hv
                subst hv
                cases he
                exact op_faddr_own h hu hfn hi hz hr hob (h.ver hob)
              · cases he
            · cases he
          · rename_i cs o hp
            rw [hp] at hr
            cases he
            exact op_faddr_frozen h hu hfn hi hz hr
          · cases he
        · cases hop
      · cases hop
    · cases hop
  · -- field
    split at hop
    · rename_i f x' hf hx
      split at hop
      · rename_i agg d i hag
        cases hop
        obtain ⟨fs, hu, hfn⟩ := fieldOf_some hf
        obtain ⟨h1, h2, h3⟩ := aggOf_some hag
        have hr := absX_rel hT hx
        simp only [AOp.eff] at he
        split at he
        · rename_i cs hcs
          rw [hcs] at hr
          split at he
          · rename_i rr hrr
            cases he
            exact op_field h hu hfn h1 h2 h3 hr hrr
          · cases he
        · cases he
      · cases hop
    · cases hop
  · -- indexAddr
    rename_i t x ix
    split at hop
    · rename_i e i z x' ix' hs hx hix
      cases hop
      obtain ⟨hu, hi, hz, hzs, hsz⟩ := sliceInfo_some hs
      have hrx := absX_rel hT hx
      have hri := absX_rel hT hix
      simp only [AOp.eff] at he
      show OpOK P B w0 g w (do Pure.pure (.value (← Instr.indexAt t (a.eval x) (a.eval ix)))) _ _
      split at he
      · rename_i k m hm
        rw [hm] at hri
        generalize a.eval ix = vi at hri
        cases hri
        split at he
        · rename_i es hes
          rw [hes] at hrx
          split at he
          · rename_i h0
            split at he
            · rename_i c hc
              split at he
              · rename_i hcl
                cases he
                exact op_iaddr_list h hu hi hrx h0 hc hcl
              · cases he
            · cases he
          · cases he
        · rename_i id ver s off ln hes
          rw [hes] at hrx
          split at he
          · rename_i ty v sz' es hob
            split at he
            · rename_i hc
              obtain ⟨rfl, rfl, c1, c2⟩ := hc
              cases he
              exact op_iaddr_own h hu hi hrx hob (h.ver hob) c1 c2
            · cases he
          · cases he
        · cases he
      · cases he
    · cases hop
  · -- index
    rename_i t x ix
    split at hop
    · rename_i x' ix' hu hx hix
      cases hop
      have hrx := absX_rel hT hx
      have hri := absX_rel hT hix
      simp only [AOp.eff] at he
      show OpOK P B w0 g w (do Pure.pure (.value (← Instr.index t (a.eval x) (a.eval ix)))) _ _
      split at he
      · rename_i s k m h1 h2
        rw [h1] at hrx
        rw [h2] at hri
        generalize a.eval ix = vi at hri
        cases hri
        split at he
        · rename_i h0
          split at he
          · rename_i b hb
            cases he
            exact op_index_str h hu hrx h0 hb
          · cases he
        · cases he
      · cases he
    · cases hop
  · -- lookup
    split at hop
    · rename_i kt et kd m' k' hmi hm hk
      split at hop
      · rename_i i z za hz
        cases hop
        obtain ⟨hu, hkd⟩ := mapInfo_some hmi
        obtain ⟨h1, h2, h3⟩ := zeroOf_some hz
        have hrm := absX_rel hT hm
        have hrk := absX_rel hT hk
        simp only [AOp.eff] at he
        split at he
        · rename_i id hid
          rw [hid] at hrm
          split at he
          · rename_i es hob
            split at he
            · rename_i rr hrr
              cases he
              exact op_lookup h hu hkd h1 h2 (absConst_rel h3) hrm hob hrk hrr _
            · cases he
          · cases he
        · cases he
      · cases hop
    · cases hop
  · -- mapUpdate
    split at hop
    · rename_i kt et kd m' k' x' hmi hm hk hx
      cases hop
      obtain ⟨hu, hkd⟩ := mapInfo_some hmi
      have hrm := absX_rel hT hm
      simp only [AOp.eff] at he
      split at he
      · rename_i id hid
        rw [hid] at hrm
        split at he
        · rename_i es hob
          split at he
          · rename_i rr hrr
            cases he
            exact op_mapset h hu hkd hrm hob (absX_rel hT hk) (absX_rel hT hx) hrr
          · cases he
        · cases he
      · cases he
    · cases hop
  · -- insert
    split at hop
    · rename_i kt et kd m' k' x' hmi hm hk hx
      cases hop
      obtain ⟨hu, hkd⟩ := mapInfo_some hmi
      have hrm := absX_rel hT hm
      simp only [AOp.eff] at he
      split at he
      · rename_i id hid
        rw [hid] at hrm
        split at he
        · rename_i es hob
          split at he
          · rename_i rr hrr
            cases he
            exact op_mapset h hu hkd hrm hob (absX_rel hT hk) (absX_rel hT hx) hrr
          · cases he
        · cases he
      · cases he
    · cases hop
  · -- extract
    split at hop
    · rename_i x' hx
      cases hop
      have hr := absX_rel hT hx
      simp only [AOp.eff] at he
      split at he
      · rename_i vs hvs
        rw [hvs] at hr
        split at he
        · rename_i rr hrr
          cases he
          exact op_extract h hr hrr
        · cases he
      · cases he
    · cases hop
  · -- len
    rename_i args argTypes
    split at hop
    · rename_i x t hargs htys
      obtain rfl : args = #[x] := by simpa using congrArg List.toArray hargs
      obtain rfl : argTypes = #[t] := by simpa using congrArg List.toArray htys
      have hgo : execOp a.eval ⟨od, .call { callee := .builtin .len, args := #[x], argTypes := #[t] }, oty, opos, oafter, oguard⟩ = (do Pure.pure (.value (← Builtin.len_ #[t] oty #[a.eval x]))) := by simp [execOp, resolve, invoke, builtin]
      rw [hgo]
      split at hop <;> first | (cases hop; done) | skip
      · rename_i x' hx hu
        cases hop
        have hr := absX_rel hT hx
        simp only [AOp.eff] at he
        split at he <;> first | (cases he; done) | skip
        · rename_i s hs; rw [hs] at hr; cases he; exact op_len_str h hu hr
        all_goals (rename_i hk _; cases hk)
      · rename_i x' e hx hu
        cases hop
        have hr := absX_rel hT hx
        simp only [AOp.eff] at he
        split at he <;> first | (cases he; done) | skip
        · rename_i hk _; cases hk
        · rename_i es hs; rw [hs] at hr; cases he; exact op_len_list h hu hr
        · rename_i hs; rw [hs] at hr; cases he; exact op_len_nils h hu hr
        · rename_i id ver sz off ln hs; rw [hs] at hr; cases he; exact op_len_own h hu hr
        · rename_i hk _; cases hk
      · rename_i x' kt et hx hu
        cases hop
        have hr := absX_rel hT hx
        simp only [AOp.eff] at he
        split at he <;> first | (cases he; done) | skip
        · rename_i hk _; cases hk
        · rename_i hk _; cases hk
        · rename_i hk _; cases hk
        · rename_i hk _; cases hk
        · rename_i id hs
          rw [hs] at hr
          split at he
          · rename_i es hob; cases he; exact op_len_map h hu hr hob
          · cases he
    · cases hop
  · -- append
    rename_i args argTypes
    split at hop
    · rename_i s x t t' hargs htys
      split at hop
      · rename_i htt
        subst htt
        split at hop
        · rename_i e i z s' x' hs h1 h2
          cases hop
          obtain rfl : args = #[s, x] := by simpa using congrArg List.toArray hargs
          obtain rfl : argTypes = #[t, t] := by simpa using congrArg List.toArray htys
          have hgo : execOp a.eval ⟨od, .call { callee := .builtin .append, args := #[s, x], argTypes := #[t, t] }, oty, opos, oafter, oguard⟩ = (do Pure.pure (.value (← Builtin.append_ #[t, t] oty #[a.eval s, a.eval x]))) := by simp [execOp, resolve, invoke, builtin]
          rw [hgo]
          exact sound_append h hs (absX_rel hT h1) (absX_rel hT h2) he
        · cases hop
      · cases hop
    · cases hop
  · -- min
    rename_i args argTypes
    split at hop
    · rename_i x y hargs
      split at hop
      · rename_i x' y' h1 h2
        cases hop
        obtain rfl : args = #[x, y] := by simpa using congrArg List.toArray hargs
        have hr1 := absX_rel hT h1
        have hr2 := absX_rel hT h2
        simp only [AOp.eff] at he
        split at he
        · rename_i k m k' m' e1 e2
          rw [e1] at hr1
          rw [e2] at hr2
          cases he
          have hgo : execOp a.eval ⟨od, .call { callee := .builtin .min, args := #[x, y], argTypes := argTypes }, oty, opos, oafter, oguard⟩ = (do Pure.pure (.value (← Builtin.min_ argTypes oty #[a.eval x, a.eval y]))) := by simp [execOp, resolve, invoke, builtin]
          rw [hgo]
          exact op_min2 h hr1 hr2
        · cases he
      · cases hop
    · cases hop
  · -- max
    rename_i args argTypes
    split at hop
    · rename_i x y hargs
      split at hop
      · rename_i x' y' h1 h2
        cases hop
        obtain rfl : args = #[x, y] := by simpa using congrArg List.toArray hargs
        have hr1 := absX_rel hT h1
        have hr2 := absX_rel hT h2
        simp only [AOp.eff] at he
        split at he
        · rename_i k m k' m' e1 e2
          rw [e1] at hr1
          rw [e2] at hr2
          cases he
          have hgo : execOp a.eval ⟨od, .call { callee := .builtin .max, args := #[x, y], argTypes := argTypes }, oty, opos, oafter, oguard⟩ = (do Pure.pure (.value (← Builtin.max_ argTypes oty #[a.eval x, a.eval y]))) := by simp [execOp, resolve, invoke, builtin]
          rw [hgo]
          exact op_max2 h hr1 hr2
        · cases he
      · cases hop
    · cases hop
  · -- delete
    rename_i args argTypes
    split at hop
    · rename_i m k t t' hargs htys
      split at hop
      · rename_i kt et kd m' k' hmi hm hk
        cases hop
        obtain rfl : args = #[m, k] := by simpa using congrArg List.toArray hargs
        obtain rfl : argTypes = #[t, t'] := by simpa using congrArg List.toArray htys
        obtain ⟨hu, hkd⟩ := mapInfo_some hmi
        have hrm := absX_rel hT hm
        simp only [AOp.eff] at he
        split at he
        · rename_i id hid
          rw [hid] at hrm
          split at he
          · rename_i es hob
            split at he
            · rename_i rr hrr
              cases he
              have hgo : execOp a.eval ⟨od, .call { callee := .builtin .delete, args := #[m, k], argTypes := #[t, t'] }, oty, opos, oafter, oguard⟩ = (do Pure.pure (.value (← Builtin.delete_ #[t, t'] oty #[a.eval m, a.eval k]))) := by simp [execOp, resolve, invoke, builtin]
              rw [hgo]
              exact op_mapdel h hu hkd hrm hob (absX_rel hT hk) hrr
            · cases he
          · cases he
        · cases he
      · cases hop
    · cases hop
  · -- call
    split at hop
    · cases hop; cases he
    · cases hop
  · split at hop
    · cases hop; cases he
    · cases hop
  · cases hop
end
end Go.AL
