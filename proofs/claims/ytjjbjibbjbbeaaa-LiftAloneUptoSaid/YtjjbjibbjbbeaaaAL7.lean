/- The abstract layer, part 7: memory follows the resolved operations. -/
import Derived.Test.YtjjbjibbjbbeaaaAL6
set_option linter.unusedVariables false
set_option linter.unusedSimpArgs false
namespace Go.AL
open Go.RowKit

section
variable {P : Program} {B : Nat} {w0 : World} {σ : Store} {g : Ghost} {w : World}

theorem OpOK.pure {r : AV} {v : Value} (h : SR B w0 σ g w) (hr : RelV g r v) : OpOK P B w0 g w (Pure.pure (.value v)) r σ :=
  ⟨.value v, w, g, rfl, .refl g, h, .inl ⟨v, rfl, hr⟩⟩

theorem SR.ver {σ : Store} {g : Ghost} {w : World} (h : SR B w0 σ g w) {id ver ty sz : Nat} {es : List (List AV)} (ho : σ.get id = some (.cells ty ver sz es)) : ∀ p, g.pl id = some p → p.ver = ver := by
  intro p hp
  obtain ⟨q, hq, h1, -⟩ := h.objs id _ ho
  rw [hp] at hq
  cases hq
  exact h1

theorem bound_some {n : Nat} {tm : Nat → AV} {a : Act} (hT : RelT g n tm a) {o : Option Operand} {x : Option AX} (hx : absOX o = some x) {d l : Int} (hb : bound d (x.map (·.ev tm)) = some l) :
    (o.map a.eval = none ∧ l = d) ∨ ∃ k, o.map a.eval = some (.int k l) := by
  cases o with
  | none => simp [absOX] at hx; subst hx; simp [bound] at hb; exact .inl ⟨rfl, hb.symm⟩
  | some o =>
    simp only [absOX] at hx
    split at hx
    · rename_i y hy
      cases hx
      have hr := absX_rel hT hy
      simp only [Option.map_some] at hb ⊢
      generalize a.eval o = v at hr
      cases hv : y.ev tm <;> rw [hv] at hb hr <;> simp [bound] at hb
      subst hb
      cases hr
      exact .inr ⟨_, rfl⟩
    · cases hx

theorem litEs_some {sz : Nat} : ∀ {avs : List AV} {es : List (List AV)}, litEs sz avs = some es → avs.length = es.length ∧ ∀ (j : Nat) (v : AV) (e : List AV), avs[j]? = some v → es[j]? = some e → v.cellsOf = some e ∧ e.length = sz := by
  intro avs
  induction avs with
  | nil => intro es h; simp [litEs] at h; subst h; simp
  | cons v r ih =>
    intro es h
    simp only [litEs] at h
    split at h
    · rename_i cs hcs
      split at h
      · rename_i hl
        split at h
        · rename_i es' hes
          cases h
          obtain ⟨i1, i2⟩ := ih hes
          refine ⟨by simp [i1], fun j u e hu he => ?_⟩
          match j, hu, he with
          | 0, hu, he => simp at hu he; subst hu; subst he; exact ⟨hcs, hl⟩
          | j + 1, hu, he => exact i2 j u e (by simpa using hu) (by simpa using he)
        · cases h
      · cases h
    · cases h

theorem sound_lit (h : SR B w0 σ g w) {n : Nat} {tm : Nat → AV} {a : Act} (hT : RelT g n tm a) {t e : TypeId} {i : TypeInfo} {z : Value} (hs : sliceInfo P t = some (e, i, z)) {parts : Array (Nat × Operand)} {xs : List AX}
    (hc : parts.size * i.size ≤ 16777216) (hc2 : parts.size ≤ 16777216) (hidx : parts.toList.map (·.1) = List.range parts.size) (hxs : absXs (parts.toList.map (·.2)) = some xs) {es : List (List AV)} (hes : litEs i.size (xs.map (·.ev tm)) = some es) :
    OpOK P B w0 g w (do Pure.pure (.value (← Instr.buildSlice t parts.size (parts.map fun (i, x) => (i, a.eval x))))) (.list es) σ ∧
    OpOK P B w0 g w (do Pure.pure (.value (← Instr.buildSlice t parts.size (parts.map fun (i, x) => (i, a.eval x))))) (.own σ.next 0 i.size 0 es.length) (σ.push (.cells e 0 i.size es)) := by
  obtain ⟨hu, hi, hz, hzs, hsz⟩ := sliceInfo_some hs
  obtain ⟨l1, l2⟩ := absXs_rel hT hxs
  obtain ⟨m1, m2⟩ := litEs_some hes
  have hlen : es.length = parts.size := by rw [← m1]; simp [← l1]
  have hp : ∀ (j : Nat) (q : Nat × Value) (x : List AV), (parts.map fun (i, x) => (i, a.eval x))[j]? = some q → es[j]? = some x → q.1 = j ∧ CellsRel g x q.2.cells.toList ∧ x.length = i.size := by
    intro j q x hq hx
    have hj : j < es.length := by
      rcases Nat.lt_or_ge j es.length with h' | h'
      · exact h'
      · simp [List.getElem?_eq_none h'] at hx
    have hjp : j < parts.size := by omega
    have hjx : j < xs.length := by rw [← l1]; simpa using hjp
    have hpj : parts[j]? = some parts[j] := Array.getElem?_eq_getElem hjp
    rw [Array.getElem?_map, hpj] at hq
    simp only [Option.map_some, Option.some.injEq] at hq
    subst hq
    have hjj : parts[j].1 = j := by
      have := congrArg (·[j]?) hidx
      simp [hjp] at this
      exact this
    have hxj : xs[j]? = some xs[j] := List.getElem?_eq_getElem hjx
    have hrel := l2 j xs[j] hxj
    have hget : ((parts.toList.map (·.2)).map a.eval).getD j undef = a.eval parts[j].2 := by
      simp [List.getD_eq_getElem?_getD, hjp]
    rw [hget] at hrel
    obtain ⟨q1, q2⟩ := m2 j (xs[j].ev tm) x (by simp [hxj]) hx
    exact ⟨hjj, hrel.cellsRel q1, q2⟩
  have hsz' : (parts.map fun (i, x) => (i, a.eval x)).size = es.length := by simp [hlen]
  have e1 := op_lit_frozen (P := P) h hu hi hz hp hsz' (by rw [hlen]; exact hc) (by omega)
  have e2 := op_lit_own (P := P) h hu hi hz hp hsz' (by rw [hlen]; exact hc) (by omega)
  rw [hlen] at e1 e2
  rw [hlen]
  exact ⟨e1, e2⟩

theorem sound_append (h : SR B w0 σ g w) {t ty e : TypeId} {i : TypeInfo} {z : Value} (hs : sliceInfo P t = some (e, i, z)) {s x : AX} {tm : Nat → AV} {vs vx : Value} (hvs : RelV g (s.ev tm) vs) (hvx : RelV g (x.ev tm) vx) {r : AV} {σ' : Store}
    (he : (AOp.append e i.size i.bytes s x).eff tm σ = some (r, σ')) : OpOK P B w0 g w (do Pure.pure (.value (← Builtin.append_ #[t, t] ty #[vs, vx]))) r σ' := by
  obtain ⟨hu, hi, hz, hzs, hsz⟩ := sliceInfo_some hs
  simp only [AOp.eff] at he
  split at he
  · rename_i es hes
    split at he
    · rename_i hsn
      rw [hsn] at hvs
      split at he
      · rename_i hc
        cases he
        cases hvs
        exact op_append_nil h hu hi hz hzs hsz hvx hes hc.1 hc.2
      · cases he
    · rename_i id ver sz off ln hso
      rw [hso] at hvs
      split at he
      · rename_i t' v z' es0 ho
        split at he
        · rename_i hc
          obtain ⟨⟨rfl, rfl, rfl, rfl, rfl, hle⟩, h2, h3, h4⟩ := hc
          cases he
          exact op_append_own h hu hi hz hzs hsz hvs ho hle hvx hes h2 h3 h4
        · cases he
      · cases he
    · cases he
  · cases he

theorem sound_cut (h : SR B w0 σ g w) {n : Nat} {tm : Nat → AV} {a : Act} (hT : RelT g n tm a) {t : TypeId} {ox : Operand} {lo hi : Option Operand} {x : AX} {lo' hi' : Option AX} (hx : absX ox = some x) (hlo : absOX lo = some lo') (hhi : absOX hi = some hi')
    {k : LK} {sz : Nat} (hk : (k = .str ∧ P.underlying t = some .string) ∨ (k = .slice ∧ ∃ e i z, sliceInfo P t = some (e, i, z) ∧ sz = i.size)) {r : AV} {σ' : Store} (he : (AOp.cut k sz x lo' hi').eff tm σ = some (r, σ')) :
    OpOK P B w0 g w (do Pure.pure (.value (← Instr.sliceAt t (a.eval ox) (lo.map a.eval) (hi.map a.eval) none))) r σ' := by
  have hrx := absX_rel hT hx
  simp only [AOp.eff] at he
  split at he
  · rename_i s hs
    rw [hs] at hrx
    have hu : P.underlying t = some .string := by
      rcases hk with ⟨_, hu⟩ | ⟨hk, _⟩
      · exact hu
      · cases hk
    split at he
    · rename_i l hh hl hhh
      split at he
      · rename_i hc
        cases he
        obtain ⟨c1, c2, c3⟩ := hc
        obtain ⟨l, rfl⟩ := Int.eq_ofNat_of_zero_le c1
        obtain ⟨hh, rfl⟩ := Int.eq_ofNat_of_zero_le (Int.le_trans c1 c2)
        refine op_cut_str h hu hrx ?_ ?_ (by omega) (by omega)
        · rcases bound_some hT hlo hl with ⟨a1, a2⟩ | ⟨k, a1⟩
          · exact .inl ⟨a1, by omega⟩
          · exact .inr ⟨k, by simpa using a1⟩
        · rcases bound_some hT hhi hhh with ⟨a1, a2⟩ | ⟨k, a1⟩
          · exact .inl ⟨a1, by omega⟩
          · exact .inr ⟨k, by simpa using a1⟩
      · cases he
    · cases he
  all_goals (first | (cases he; done) | skip)
  all_goals
    rename_i hs
    obtain ⟨e, i, z, hsi, rfl⟩ : ∃ e i z, sliceInfo P t = some (e, i, z) ∧ sz = i.size := by
      rcases hk with ⟨hk, _⟩ | ⟨_, hk⟩
      · cases hk
      · exact hk
    obtain ⟨hu, hi2, hz, hzs, hsz⟩ := sliceInfo_some hsi
    rw [hs] at hrx
    split at he
    rotate_left
    · cases he
  · rename_i l hh hl hhh
    split at he
    · rename_i hc
      cases he
      obtain ⟨c1, c2, c3, c4⟩ := hc
      obtain ⟨l, rfl⟩ := Int.eq_ofNat_of_zero_le c1
      obtain ⟨hh, rfl⟩ := Int.eq_ofNat_of_zero_le (Int.le_trans c1 c2)
      refine op_cut_list h hu hi2 hrx c4 ?_ ?_ (by omega) (by omega)
      · rcases bound_some hT hlo hl with ⟨a1, a2⟩ | ⟨k, a1⟩
        · exact .inl ⟨a1, by omega⟩
        · exact .inr ⟨k, by simpa using a1⟩
      · rcases bound_some hT hhi hhh with ⟨a1, a2⟩ | ⟨k, a1⟩
        · exact .inl ⟨a1, by omega⟩
        · exact .inr ⟨k, by simpa using a1⟩
    · cases he
  · rename_i l hh hl hhh
    split at he
    · rename_i hc
      cases he
      obtain ⟨rfl, rfl⟩ := hc
      refine op_cut_nils h hu hi2 hrx ?_ ?_
      · rcases bound_some hT hlo hl with ⟨a1, a2⟩ | ⟨k, a1⟩
        · exact .inl a1
        · exact .inr ⟨k, a1⟩
      · rcases bound_some hT hhi hhh with ⟨a1, a2⟩ | ⟨k, a1⟩
        · exact .inl a1
        · exact .inr ⟨k, a1⟩
    · cases he
  · rename_i l hh hl hhh
    split at he
    · rename_i ty v z' es0 ho
      split at he
      · rename_i hc
        obtain ⟨rfl, rfl, c1, c2, c3⟩ := hc
        cases he
        obtain ⟨l, rfl⟩ := Int.eq_ofNat_of_zero_le c1
        obtain ⟨hh, rfl⟩ := Int.eq_ofNat_of_zero_le (Int.le_trans c1 c2)
        refine op_cut_own h hu hi2 hrx ho (h.ver ho) ?_ ?_ (by omega) (by omega)
        · rcases bound_some hT hlo hl with ⟨a1, a2⟩ | ⟨k, a1⟩
          · exact .inl ⟨a1, by omega⟩
          · exact .inr ⟨k, by simpa using a1⟩
        · rcases bound_some hT hhi hhh with ⟨a1, a2⟩ | ⟨k, a1⟩
          · exact .inl ⟨a1, by omega⟩
          · exact .inr ⟨k, by simpa using a1⟩
      · cases he
    · cases he
end
end Go.AL
