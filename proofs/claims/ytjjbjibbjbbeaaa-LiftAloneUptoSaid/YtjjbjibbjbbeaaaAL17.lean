/- The abstract layer, part 17: what a call's arguments are, read as values of the layer. -/
import Derived.Test.YtjjbjibbjbbeaaaAL16
import Derived.OpenShut
set_option linter.unusedVariables false
set_option linter.unusedSimpArgs false
namespace Go.AL
open Go.RowKit Go.ChangeShapes Go.WideShapes

/-- Types that are read: the others are left as something unknown. -/
def okType (P : Program) (t : TypeId) : Bool :=
  match P.underlying t with
  | some .bool => true
  | some (.int _) => true
  | some .string => true
  | some (.pointer e) => decide (0 < P.cellsOf e)
  | some (.slice e) => decide (0 < P.cellsOf e)
  | some (.struct _) => true
  | _ => false

/-- A reading's data, as a value of the layer (cell by cell). -/
inductive AVD {H : Type} (P : Program) : TypeId → List AV → DataW H → Prop
  | bool {t : TypeId} {b : Bool} : P.underlying t = some .bool → AVD P t [.bool b] (.lit (.bool b))
  | int {t : TypeId} {k : IntKind} {n : Int} : P.underlying t = some (.int k) → (Lit.int k n).wf = true → AVD P t [.int k n] (.lit (.int k n))
  | str {t : TypeId} {s : ByteArray} : P.underlying t = some .string → s.size ≤ maxLen → AVD P t [.str s] (.lit (.string s.data.toList))
  | nilp {t e : TypeId} : P.underlying t = some (.pointer e) → AVD P t [.nilp] .nil
  | ptr {t e : TypeId} {cs : List AV} {d : DataW H} : P.underlying t = some (.pointer e) → AVD P e cs d → AVD P t [.rptr cs 0] (.ptr d)
  | nils {t e : TypeId} : P.underlying t = some (.slice e) → AVD P t [.list []] .nil
  | list {t e : TypeId} {es : List (List AV)} {ds rest : List (DataW H)} : P.underlying t = some (.slice e) → es.length = ds.length → es.length ≤ maxLen → (∀ (i : Nat) (c : List AV) (d : DataW H), es[i]? = some c → ds[i]? = some d → AVD P e c d) → AVD P t [.list es] (.slice ds rest)
  | struct {t : TypeId} {fs : Array Field} {cs : List AV} {ds : List (DataW H)} : P.underlying t = some (.struct fs) → cs.length = P.cellsOf t → ds.length = fs.size →
      (∀ (i : Nat) (f : Field) (d : DataW H), fs[i]? = some f → ds[i]? = some d → AVD P f.type ((cs.drop f.offset).take (P.cellsOf f.type)) d) → AVD P t cs (.agg ds)
  | other {t : TypeId} {cs : List AV} {d : DataW H} : okType P t = false → AVD P t cs d

theorem g0_phi {W : World} {b : Nat} {c : Array Value} {t : TypeId} {fr : Nat × Nat} (h : W.heap[b]? = some (.cells c t fr)) : (g0 W).Φ b = some c ∧ (g0 W).vis b = none := by simp [g0, h]
theorem cell_heap {W : World} {b o : Nat} {v : Value} (h : W.cell? ⟨b, o, none⟩ = some v) : ∃ c t fr, W.heap[b]? = some (.cells c t fr) ∧ c[o]? = some v := by
  unfold World.cell? at h
  split at h
  · rename_i c t fr hc
    simp at h
    exact ⟨c, t, fr, hc, h⟩
  · cases h
/-- The cells of a list, as the layer's. -/
def Cells (W : World) (as : List AV) (cs : List Value) : Prop :=
  as.length = cs.length ∧ ∀ (j : Nat) (a : AV) (v : Value), as[j]? = some a → cs[j]? = some v → RelV (g0 W) a v ∧ v.oneCell' = true
theorem cells_one {W : World} {a : AV} {v : Value} (h : RelV (g0 W) a v) (h1 : v.oneCell' = true) : Cells W [a] [v] :=
  ⟨rfl, fun j a' v' ha hv => by
    cases j with
    | zero => simp at ha hv; subst ha; subst hv; exact ⟨h, h1⟩
    | succ j => simp at ha⟩

/-- A row of cells in memory. -/
theorem block_of {W : World} {b off n : Nat} {cs : List Value} (hn : 0 < n) (hl : cs.length = n) (hc : ∀ i, i < n → W.cell? ⟨b, off + i, none⟩ = cs[i]?) :
    ∃ c t fr, W.heap[b]? = some (.cells c t fr) ∧ off + n ≤ c.size ∧ ∀ i v, cs[i]? = some v → c.getD (off + i) undef = v := by
  have h0 := hc 0 hn
  rw [List.getElem?_eq_getElem (by omega)] at h0
  obtain ⟨c, t, fr, hb, hv⟩ := cell_heap h0
  have key : ∀ i v, cs[i]? = some v → c[off + i]? = some v := by
    intro i v hi
    have hin : i < n := by have := (List.getElem?_eq_some_iff.mp hi).1; omega
    have := hc i hin
    rw [hi] at this
    obtain ⟨c', t', fr', hb', hv'⟩ := cell_heap this
    rw [hb] at hb'
    cases hb'
    exact hv'
  refine ⟨c, t, fr, hb, ?_, fun i v hi => by rw [Array.getD_eq_getD_getElem?, key i v hi]; rfl⟩
  have hl1 : cs[n - 1]? = some cs[n - 1] := List.getElem?_eq_getElem (by omega)
  have := (Array.getElem?_eq_some_iff.mp (key _ _ hl1)).1
  omega

theorem list_choice {α : Type} {n : Nat} {p : Nat → α → Prop} (h : ∀ i, i < n → ∃ x, p i x) : ∃ l : List α, l.length = n ∧ ∀ i x, l[i]? = some x → p i x := by
  induction n with
  | zero => exact ⟨[], rfl, fun i x h => by simp at h⟩
  | succ n ih =>
    obtain ⟨l, h1, h2⟩ := ih fun i hi => h i (by omega)
    obtain ⟨x, hx⟩ := h n (by omega)
    refine ⟨l ++ [x], by simp [h1], fun i y hy => ?_⟩
    by_cases hi : i < n
    · rw [List.getElem?_append_left (by omega)] at hy; exact h2 i y hy
    · rw [List.getElem?_append_right (by omega)] at hy
      have : i - l.length = 0 := by
        rcases Nat.lt_or_ge (i - l.length) 1 with h | h
        · omega
        · rw [List.getElem?_eq_none (by simpa using h)] at hy; cases hy
      rw [this] at hy; simp at hy
      have : i = n := by omega
      subst this; subst hy; exact hx

section
variable {H : Type} {enc : TypeId × Value → H} {P : Program} {W : World}
theorem trod_av (hl : laidOutB P = true) : ∀ (fuel : Nat) (t : TypeId) (cs : List Value) (x : DataW H × List MemPlace), t < P.types.size → DataW.trod enc P W 0 (fun _ => true) true fuel t cs = some x →
    ∃ as, Cells W as cs ∧ AVD P t as x.1 := by
  intro fuel
  induction fuel with
  | zero => intro t cs x _ h; simp [DataW.trod] at h
  | succ fuel ih =>
    intro t cs x ht h
    have other : okType P t = false → (∃ v, cs = [v] ∧ v.oneCell' = true) → ∃ as, Cells W as cs ∧ AVD P t as x.1 := by
      rintro h1 ⟨v, rfl, h2⟩
      exact ⟨[.junk], cells_one (.junk _) h2, .other h1⟩
    cases hu : P.underlying t with
    | none => unfold DataW.trod at h; rw [hu] at h; simp at h
    | some d =>
      cases d
      case bool =>
        obtain ⟨b, rfl, rfl⟩ := DataW.trod_bool hu h
        exact ⟨[.bool b], cells_one (.bool b) rfl, .bool hu⟩
      case int k =>
        obtain ⟨n, rfl, rfl, hw⟩ := DataW.trod_int hu h
        exact ⟨[.int k n], cells_one (.int k n) rfl, .int hu hw⟩
      case string =>
        obtain ⟨s, rfl, rfl, hs⟩ := DataW.trod_string hu h
        exact ⟨[.str s], cells_one (.str s hs) rfl, .str hu hs⟩
      case pointer e =>
        rcases DataW.trod_pointer hu h with ⟨rfl, rfl⟩ | ⟨a, cs', y, n, hf, rfl, rfl, hcells, hd⟩
        · exact ⟨[.nilp], cells_one .nilp rfl, .nilp hu⟩
        · cases hf
          by_cases hpos : 0 < P.cellsOf e
          · obtain ⟨as, hA, hD⟩ := ih e cs' y (kid_pointer hl ht hu) hd
            obtain ⟨_, hlen, hcell⟩ := World.cells?_some hcells
            obtain ⟨b, off, spot⟩ := a
            have g0' := hcell 0 hpos
            rw [List.getElem?_eq_getElem (by omega)] at g0'
            have hspot : spot = none := by simpa [Addr.add] using World.cell?_spot g0'
            subst hspot
            obtain ⟨c, u, fr, hb, hsz, hget⟩ := block_of (b := b) (off := off) hpos hlen (fun i hi => by have h := hcell i hi; rwa [add_plain] at h)
            have hrel : ∀ j a, as[j]? = some a → RelV (g0 W) a (c.getD (off + j) undef) ∧ (c.getD (off + j) undef).oneCell' = true := fun j a ha => by
              have hj : j < cs'.length := by have := (List.getElem?_eq_some_iff.mp ha).1; have := hA.1; omega
              have hv : cs'[j]? = some cs'[j] := List.getElem?_eq_getElem hj
              rw [hget j _ hv]
              exact hA.2 j a _ ha hv
            have := RelV.rptr (g := g0 W) (cs := as) (off := 0) (o := off) (g0_phi hb) (by rw [hA.1, hlen]; exact hsz) (fun j a ha => (hrel j a ha).1) (fun j a ha => (hrel j a ha).2)
            exact ⟨[.rptr as 0], cells_one this rfl, .ptr hu hD⟩
          · exact other (by simp [okType, hu, hpos]) ⟨_, rfl, rfl⟩
      case slice e =>
        rcases DataW.trod_slice hu h with ⟨rfl, rfl⟩ | ⟨a, len, cap, elems, rest, n, hf, rfl, rfl, _, hlc, hcap, hel, hget, _, _⟩
        · exact ⟨[.list []], cells_one (.listNil _ _) rfl, .nils hu⟩
        · cases hf
          by_cases hpos : 0 < P.cellsOf e
          · rcases Nat.eq_zero_or_pos len with rfl | hlen
            · have : elems = [] := List.eq_nil_of_length_eq_zero hel
              subst this
              exact ⟨[.list []], cells_one (.listNil _ _) rfl, .list hu rfl (by simp) (fun i c d h => by simp at h)⟩
            · have each : ∀ i, i < len → ∃ as : List AV, ∃ cs' : List Value, ∃ y, elems[i]? = some y ∧ W.cells? 0 (a.add (i * P.cellsOf e)) (P.cellsOf e) = some cs' ∧ Cells W as cs' ∧ AVD P e as y.1 := by
                intro i hi
                have hg := hget i hi
                rw [List.getElem?_eq_getElem (by omega), Option.bind_eq_some_iff] at hg
                obtain ⟨cs', h1, h2⟩ := hg
                obtain ⟨as, hA, hD⟩ := ih e cs' _ (kid_slice hl ht hu) h2
                exact ⟨as, cs', _, List.getElem?_eq_getElem (by omega), h1, hA, hD⟩
              obtain ⟨es, he1, he2⟩ := list_choice each
              obtain ⟨b, off, spot⟩ := a
              have hspot : spot = none := by
                obtain ⟨as, cs', y, _, h1, _, _⟩ := each 0 hlen
                obtain ⟨_, hlen', hcell⟩ := World.cells?_some h1
                have g0' := hcell 0 hpos
                rw [List.getElem?_eq_getElem (by omega)] at g0'
                simpa [Addr.add] using World.cell?_spot g0'
              subst hspot
              have rows : ∀ i as, es[i]? = some as → ∃ cs' : List Value, ∃ y, elems[i]? = some y ∧ cs'.length = P.cellsOf e ∧ (∀ j, j < P.cellsOf e → W.cell? ⟨b, off + i * P.cellsOf e + j, none⟩ = cs'[j]?) ∧ Cells W as cs' ∧ AVD P e as y.1 := by
                intro i as hi
                obtain ⟨cs', y, h0, h1, h2, h3⟩ := he2 i as hi
                obtain ⟨_, hlen', hcell⟩ := World.cells?_some h1
                refine ⟨cs', y, h0, hlen', fun j hj => ?_, h2, h3⟩
                have := hcell j hj
                rwa [add_plain, add_plain] at this
              obtain ⟨c, u, fr, hb⟩ : ∃ c u fr, W.heap[b]? = some (.cells c u fr) := by
                have h0 : es[0]? = some es[0] := List.getElem?_eq_getElem (by omega)
                obtain ⟨cs', y, _, h2, h3, _, _⟩ := rows 0 _ h0
                obtain ⟨c, u, fr, hb, _⟩ := block_of hpos h2 h3
                exact ⟨c, u, fr, hb⟩
              have rows2 : ∀ i as, es[i]? = some as → as.length = P.cellsOf e ∧ off + i * P.cellsOf e + P.cellsOf e ≤ c.size ∧ ∀ j a, as[j]? = some a → RelV (g0 W) a (c.getD (off + i * P.cellsOf e + j) undef) ∧ (c.getD (off + i * P.cellsOf e + j) undef).oneCell' = true := by
                intro i as hi
                obtain ⟨cs', y, _, h2, h3, h4, _⟩ := rows i as hi
                obtain ⟨c', u', fr', hb', hs', hg'⟩ := block_of hpos h2 h3
                rw [hb] at hb'; cases hb'
                refine ⟨by rw [h4.1, h2], hs', fun j a ha => ?_⟩
                have hj : j < cs'.length := by have := (List.getElem?_eq_some_iff.mp ha).1; have := h4.1; omega
                have hv : cs'[j]? = some cs'[j] := List.getElem?_eq_getElem hj
                rw [hg' j _ hv]
                exact h4.2 j a _ ha hv
              have hsz : off + es.length * P.cellsOf e ≤ c.size := by
                have h0 : es[len - 1]? = some es[len - 1] := List.getElem?_eq_getElem (by omega)
                have := (rows2 _ _ h0).2.1
                rw [he1]
                have e1 : len * P.cellsOf e = (len - 1) * P.cellsOf e + P.cellsOf e := by
                  rw [← Nat.succ_mul]; congr 1; omega
                omega
              have hrel := RelV.list (g := g0 W) (es := es) (off := off) (s := P.cellsOf e) (cap := cap) (g0_phi hb) (fun as has => by
                  obtain ⟨i, hi⟩ := List.mem_iff_getElem?.mp has
                  exact (rows2 i as hi).1) hsz (fun i j as a h1 h2 => ((rows2 i as h1).2.2 j a h2).1) (fun i j as a h1 h2 => ((rows2 i as h1).2.2 j a h2).2) (by omega) hcap
              rw [he1] at hrel
              refine ⟨[.list es], cells_one hrel rfl, .list hu (by simp [he1, hel]) (by omega) fun i as d h1 h2 => ?_⟩
              obtain ⟨cs', y, h3, _, _, _, h4⟩ := rows i as h1
              simp only [List.getElem?_map, h3, Option.map_some, Option.some.injEq] at h2
              subst h2; exact h4
          · exact other (by simp [okType, hu, hpos]) ⟨_, rfl, rfl⟩
      case struct fs =>
        obtain ⟨xs, n, hf, rfl, hlen, hxs, hget⟩ := DataW.trod_struct hu h
        cases hf
        obtain ⟨k1, k2, k3⟩ := kid_struct hl ht hu
        have key : ∀ m, m ≤ fs.size → ∃ as, Cells W as (cs.take ((fs.toList.take m).map fun f => P.cellsOf f.type).sum) ∧
            ∀ (i : Nat) (f : Field) (d : DataW H), i < m → fs[i]? = some f → (xs.map (·.1))[i]? = some d → AVD P f.type ((as.drop f.offset).take (P.cellsOf f.type)) d := by
          intro m
          induction m with
          | zero => intro _; exact ⟨[], ⟨by simp, fun j a v h => by simp at h⟩, fun i f d hi => by omega⟩
          | succ m ihm =>
            intro hm
            obtain ⟨as, hA, hD⟩ := ihm (by omega)
            have hfm : fs.toList[m]? = some fs.toList[m] := List.getElem?_eq_getElem (by simp; omega)
            have hfm' : fs[m]? = some fs.toList[m] := by rw [← Array.getElem?_toList]; exact hfm
            generalize fs.toList[m] = f at hfm hfm'
            have hoff := k3 m f hfm
            have hx := hget m f hfm'
            rw [List.getElem?_eq_getElem (by omega)] at hx
            obtain ⟨bs, hB, hE⟩ := ih f.type _ _ (k1 f (List.mem_of_getElem? hfm)) hx
            have hsum : ((fs.toList.take (m + 1)).map fun f => P.cellsOf f.type).sum = f.offset + P.cellsOf f.type := by
              rw [List.take_add_one, hfm, List.map_append, List.sum_append, hoff]; simp
            have htot : f.offset + P.cellsOf f.type ≤ cs.length := by
              rw [hlen, k2, ← hsum]
              conv => rhs; rw [← List.take_append_drop (m + 1) fs.toList]
              rw [List.map_append, List.sum_append]; omega
            rw [← hoff] at hA
            have hal : as.length = f.offset := by rw [hA.1, List.length_take]; omega
            have hbl : bs.length = P.cellsOf f.type := by rw [hB.1]; simp; omega
            have hcat : cs.take (f.offset + P.cellsOf f.type) = cs.take f.offset ++ (cs.drop f.offset).take (P.cellsOf f.type) := List.take_add ..
            refine ⟨as ++ bs, ?_, fun i f' d hi hf' hd => ?_⟩
            · rw [hsum, hcat]
              refine ⟨by simp [hA.1, hB.1], fun j a v h1 h2 => ?_⟩
              by_cases hj : j < as.length
              · rw [List.getElem?_append_left hj] at h1
                rw [List.getElem?_append_left (by rw [← hA.1]; exact hj)] at h2
                exact hA.2 j a v h1 h2
              · rw [List.getElem?_append_right (by omega)] at h1
                rw [List.getElem?_append_right (by rw [← hA.1]; omega), ← hA.1] at h2
                exact hB.2 _ a v h1 h2
            · by_cases him : i < m
              · have hsmall : f'.offset + P.cellsOf f'.type ≤ as.length := by
                  have hfi : fs.toList[i]? = some f' := by rw [Array.getElem?_toList]; exact hf'
                  have ho := k3 i f' hfi
                  rw [hal, hoff]
                  have e1 : ((fs.toList.take (i + 1)).map fun f => P.cellsOf f.type).sum = f'.offset + P.cellsOf f'.type := by
                    rw [List.take_add_one, hfi, List.map_append, List.sum_append, ho]; simp
                  rw [← e1]
                  have e2 : fs.toList.take m = fs.toList.take (i + 1) ++ (fs.toList.take m).drop (i + 1) := by
                    conv => lhs; rw [← List.take_append_drop (i + 1) (fs.toList.take m)]
                    rw [List.take_take, Nat.min_eq_left (by omega)]
                  rw [e2, List.map_append, List.sum_append]; omega
                have := hD i f' d him hf' hd
                rw [List.drop_append_of_le_length (by omega), List.take_append_of_le_length (by simp; omega)]
                exact this
              · have : i = m := by omega
                subst this
                rw [hfm'] at hf'; cases hf'
                rw [List.getElem?_map, List.getElem?_eq_getElem (by omega)] at hd
                simp at hd; subst hd
                rw [← hal, List.drop_left, List.take_of_length_le (by omega)]
                exact hE
        obtain ⟨as, hA, hD⟩ := key fs.size (Nat.le_refl _)
        have hall : cs.take ((fs.toList.take fs.size).map fun f => P.cellsOf f.type).sum = cs := by
          apply List.take_of_length_le
          rw [show fs.size = fs.toList.length by simp, List.take_length, ← k2, hlen]; exact Nat.le_refl _
        rw [hall] at hA
        refine ⟨as, hA, .struct hu (by rw [hA.1, hlen]) (by simp [hxs]) fun i f d h1 h2 => hD i f d (by have := (Array.getElem?_eq_some_iff.mp h1).1; omega) h1 h2⟩
      case array n e =>
        obtain ⟨xs, m, hf, rfl, hlen, hxs, hget⟩ := DataW.trod_array hu h
        cases hf
        obtain ⟨k1, k2⟩ := kid_array hl ht hu
        refine ⟨List.replicate cs.length .junk, ⟨by simp, fun j a v h1 h2 => ?_⟩, .other (by simp [okType, hu])⟩
        have ha : a = .junk := List.eq_of_mem_replicate (List.mem_of_getElem? h1)
        subst ha
        refine ⟨.junk _, ?_⟩
        have hj := (List.getElem?_eq_some_iff.mp h2).1
        rw [hlen, k2] at hj
        have hc : 0 < P.cellsOf e := by
          rcases Nat.eq_zero_or_pos (P.cellsOf e) with h0 | h0
          · rw [h0] at hj; simp at hj
          · exact h0
        have hi : j / P.cellsOf e < n := Nat.div_lt_of_lt_mul (by rw [Nat.mul_comm]; exact hj)
        have hx := hget _ hi
        rw [List.getElem?_eq_getElem (by omega)] at hx
        obtain ⟨as, hA, _⟩ := ih e _ _ k1 hx
        have hmod := Nat.mod_lt j hc
        have hdm := Nat.div_add_mod j (P.cellsOf e)
        have hv : ((cs.drop (j / P.cellsOf e * P.cellsOf e)).take (P.cellsOf e))[j % P.cellsOf e]? = some v := by
          rw [List.getElem?_take, if_pos hmod, List.getElem?_drop, Nat.mul_comm, hdm]; exact h2
        have hjl := (List.getElem?_eq_some_iff.mp hv).1
        have hja : j % P.cellsOf e < as.length := by rw [hA.1]; exact hjl
        exact (hA.2 _ _ v (List.getElem?_eq_getElem hja) hv).2
      all_goals (
        unfold DataW.trod at h; rw [hu] at h
        first
          | (simp at h; done)
          | (refine other (by simp [okType, hu]) ?_
             split at h <;> first | (simp at h; done) | (exact ⟨_, rfl, rfl⟩) | (rename_i heq; cases heq)))

def isAgg (P : Program) (t : TypeId) : Bool := match P.underlying t with | some (.struct _) => true | some (.array _ _) => true | _ => false
/-- An argument. -/
theorem arg_av (hl : laidOutB P = true) {t : TypeId} (ht : t < P.types.size) {base : Nat} {v : Value} {d : DataW H} {ps : List MemPlace} (hval : Value.okWide P W .any base t v) (h : DataW.Trod enc P W 0 (fun _ => true) true t v d ps) :
    (isAgg P t = true → ∃ as, RelV (g0 W) (.agg as) v ∧ AVD P t as d) ∧ (isAgg P t = false → ∃ a, RelV (g0 W) a v ∧ AVD P t [a] d) := by
  obtain ⟨fuel, hf⟩ := h
  obtain ⟨as, hA, hD⟩ := trod_av (W := W) hl fuel t _ _ ht hf
  refine ⟨fun ha => ?_, fun ha => ?_⟩
  · obtain ⟨arr, rfl⟩ : ∃ arr, v = .agg arr := by
      unfold isAgg at ha
      unfold Value.okWide at hval
      split at hval
      · obtain ⟨c, hc, _⟩ := hval; exact ⟨c, hc⟩
      · obtain ⟨c, hc, _⟩ := hval; exact ⟨c, hc⟩
      · split at ha
        · rename_i h1 h2 _ _ h3; exact absurd h3 (h1 _)
        · rename_i h1 h2 _ _ _ h3; exact absurd h3 (h2 _ _)
        · cases ha
    refine ⟨as, .agg (by have := hA.1; simpa [Value.cells] using this.symm) (fun j c hc => ?_) (fun j c hc => ?_), hD⟩
    all_goals (
      have hj : j < arr.size := by have := (List.getElem?_eq_some_iff.mp hc).1; have h2 := hA.1; simp [Value.cells] at h2; omega
      have hv : (Value.agg arr).cells.toList[j]? = some arr[j] := by simp [Value.cells, hj]
      have := hA.2 j c _ hc hv
      rw [Array.getD_eq_getD_getElem?, Array.getElem?_eq_getElem hj, Option.getD_some])
    · exact this.1
    · exact this.2
  · have hv : v.cells.toList = [v] := by
      cases v <;> first | rfl | skip
      exfalso
      unfold isAgg at ha
      unfold Value.okWide at hval
      split at hval
      · rename_i h; rw [h] at ha; simp at ha
      · rename_i h; rw [h] at ha; simp at ha
      · unfold Cell.okWide at hval
        split at hval <;> first | contradiction | skip
        unfold Cell.ok at hval
        split at hval <;> first | contradiction | (exact hval.elim) | skip
    rw [hv] at hA
    match as, hA with
    | [a], hA => exact ⟨a, (hA.2 0 a v rfl rfl).1, hD⟩
    | [], hA => have := hA.1; simp at this
    | _ :: _ :: _, hA => have := hA.1; simp at this
end
end Go.AL
