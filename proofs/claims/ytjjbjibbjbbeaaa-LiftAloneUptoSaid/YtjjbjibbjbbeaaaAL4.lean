/- The abstract layer, part 4: more operations: literals, structs, cuts of slices and texts, numbers, maps. -/
import Derived.Test.YtjjbjibbjbbeaaaAL3
set_option linter.unusedVariables false
set_option linter.unusedSimpArgs false
namespace Go.AL
open Go.RowKit

section
variable {P : Program} {B : Nat} {w0 : World} {σ : Store} {g : Ghost} {w : World}

/-! ### Parts put into cells -/
/-- Parts put into cells, one after the other. -/
def aFill (cells : List AV) : List (Nat × Nat × AV) → Option (List AV)
  | [] => some cells
  | (off, size, v) :: rest =>
    match v.cellsOf with
    | some cs => if cs.length = size ∧ off + size ≤ cells.length then aFill (aPut cells off cs) rest else none
    | none => none

theorem foldl_set (vs : List Value) : ∀ (off k : Nat) (cells : Array Value), off + k + vs.length ≤ cells.size →
    ((vs.zipIdx k).foldl (fun cs (c, j) => cs.setIfInBounds (off + j) c) cells) = (cells.toList.take (off + k) ++ vs ++ cells.toList.drop (off + k + vs.length)).toArray := by
  induction vs with
  | nil => intro off k cells h; simp
  | cons v vs ih =>
    intro off k cells h
    simp only [List.zipIdx_cons, List.foldl_cons]
    rw [ih off (k + 1) _ (by simp at h ⊢; omega)]
    have e := list_seg_step cells.toList (off + k) v vs (by simp at h ⊢; omega)
    simp only [Array.toList_setIfInBounds, ← Nat.add_assoc]
    congr 1

theorem CellsRel.put {cs new : List AV} {vs us : List Value} {off : Nat} (h : CellsRel g cs vs) (k : CellsRel g new us) (hle : off + new.length ≤ cs.length) :
    CellsRel g (aPut cs off new) (vs.take off ++ us ++ vs.drop (off + us.length)) := by
  have hle' : off + us.length ≤ vs.length := by rw [h.1, k.1]; exact hle
  refine ⟨by rw [aPut_length hle]; simp; have := h.1; omega, fun j c hj => ?_⟩
  rw [show aPut cs off new = cs.take off ++ new ++ cs.drop (off + new.length) from rfl, getElem?_splice cs new off j hle] at hj
  rw [List.getD_eq_getElem?_getD, getElem?_splice vs us off j hle']
  split at hj
  · rw [if_pos (by rw [k.1]; assumption), ← List.getD_eq_getElem?_getD]; exact k.2 _ c hj
  · rw [if_neg (by rw [k.1]; assumption), ← List.getD_eq_getElem?_getD]; exact h.2 _ c hj

theorem fill_rel (place : Nat → Option (Nat × Nat)) : ∀ (parts : List (Nat × Value)) (aparts : List (Nat × Nat × AV)) (cells : List AV) (vs : Array Value) (r : List AV),
    CellsRel g cells vs.toList → parts.length = aparts.length →
    (∀ (k : Nat) (q : Nat × Value) (o : Nat × Nat × AV), parts[k]? = some q → aparts[k]? = some o → place q.1 = some (o.1, o.2.1) ∧ RelV g o.2.2 q.2) →
    aFill cells aparts = some r → ∃ us, Instr.fill place vs parts = some us ∧ CellsRel g r us.toList := by
  intro parts
  induction parts with
  | nil =>
    intro aparts cells vs r hc hl hp hf
    cases aparts with
    | nil => simp [aFill] at hf; subst hf; exact ⟨vs, rfl, hc⟩
    | cons o rest => simp at hl
  | cons q rest ih =>
    intro aparts cells vs r hc hl hp hf
    cases aparts with
    | nil => simp at hl
    | cons o arest =>
      obtain ⟨off, size, av⟩ := o
      obtain ⟨h1, h2⟩ := hp 0 q (off, size, av) rfl rfl
      simp only [aFill] at hf
      split at hf
      · rename_i cs hcs
        split at hf
        · rename_i hcond
          obtain ⟨hlen, hle⟩ := hcond
          have hcr := h2.cellsRel hcs
          have hvsz : q.2.cells.size = size := by rw [← hlen, ← hcr.1]; simp
          have hle2 : off + q.2.cells.size ≤ vs.size := by have := hc.1; simp at this; omega
          have hput := hc.put (off := off) hcr (by omega)
          have hfold := foldl_set q.2.cells.toList off 0 vs (by simpa using hle2)
          have hzip : q.2.cells.zipIdx.foldl (fun cs x => cs.setIfInBounds (off + x.2) x.1) vs = (q.2.cells.toList.zipIdx 0).foldl (fun cs x => cs.setIfInBounds (off + x.2) x.1) vs := by
            rw [← Array.foldl_toList]; simp
          obtain ⟨us, hus, hrel⟩ := ih arest (aPut cells off cs) (vs.toList.take off ++ q.2.cells.toList ++ vs.toList.drop (off + q.2.cells.toList.length)).toArray r (by simpa using hput) (by simpa using hl)
            (fun k q' o' ha hb => hp (k + 1) q' o' (by simpa using ha) (by simpa using hb)) hf
          refine ⟨us, ?_, hrel⟩
          obtain ⟨qi, qv⟩ := q
          simp only at h1 hvsz hle2 hzip hfold hus ⊢
          rw [Instr.fill, h1]
          simp only [hvsz, ne_eq, not_true, false_or, decide_eq_true_eq]
          rw [if_neg (by rw [hvsz] at hle2; simp; omega)]
          have e1 : (qv.cells.zipIdx.foldl (fun cs (x : Value × Nat) => match x with | (c, j) => cs.setIfInBounds (off + j) c) vs) = (vs.toList.take off ++ qv.cells.toList ++ vs.toList.drop (off + qv.cells.toList.length)).toArray := by
            rw [← Nat.add_zero off, ← hfold]
            simpa using hzip
          rw [e1]
          exact hus
        · cases hf
      · cases hf

theorem op_build (h : SR B w0 σ g w) {t : TypeId} {fs : Array Field} {i : TypeInfo} {z : Value} (hu : P.underlying t = some (.struct fs)) (hi : P.info? t = some i) (hz : i.zero = some z)
    {places : Array (Nat × Nat)} (hpl : ∀ w : World, (fs.mapM fun f => Prod.mk f.offset <$> sizeOf f.type).run P w = .ok places w)
    {za : AV} {zc : List AV} (hza : RelV g za z) (hzc : za.cellsOf = some zc) {parts : Array (Nat × Value)} {aparts : List (Nat × Nat × AV)} (hl : parts.size = aparts.length)
    (hp : ∀ (k : Nat) (q : Nat × Value) (o : Nat × Nat × AV), parts[k]? = some q → aparts[k]? = some o → places[q.1]? = some (o.1, o.2.1) ∧ RelV g o.2.2 q.2) {r : List AV} (hf : aFill zc aparts = some r) :
    OpOK P B w0 g w (do pure (.value (← Instr.build t parts))) (.agg r) σ := by
  have hcr := hza.cellsRel hzc
  obtain ⟨us, hus, hrel⟩ := fill_rel (places[·]?) parts.toList aparts zc z.cells r hcr (by simpa using hl) (fun k q o a b => hp k q o (by simpa using a) b) hf
  refine OpOK.value h (v := .agg us) ?_ (by simpa using RelV.ofCells hrel)
  simp [Instr.build, zeroValue, typeInfo, hi, hz, run_underlying hu, hpl, hus]

/-! ### Slice literals -/
theorem fill_lit (sz : Nat) : ∀ (parts : List (Nat × Value)) (es : List (List AV)) (k : Nat) (vs : Array Value),
    (∀ (j : Nat) (q : Nat × Value) (e : List AV), parts[j]? = some q → es[j]? = some e → q.1 = k + j ∧ CellsRel g e q.2.cells.toList ∧ e.length = sz) → parts.length = es.length →
    (k + es.length) * sz ≤ vs.size → ∃ us, Instr.fill (fun i => some (i * sz, sz)) vs parts = some us ∧ us.size = vs.size ∧ (∀ q, q < k * sz → us.getD q undef = vs.getD q undef) ∧
      ∀ (i j : Nat) (e : List AV) (c : AV), es[i]? = some e → e[j]? = some c → RelV g c (us.getD ((k + i) * sz + j) undef) ∧ (us.getD ((k + i) * sz + j) undef).oneCell' = true := by
  intro parts
  induction parts with
  | nil =>
    intro es k vs hp hl hle
    cases es with
    | nil => exact ⟨vs, rfl, rfl, fun _ _ => rfl, by simp⟩
    | cons e es => simp at hl
  | cons q rest ih =>
    intro es k vs hp hl hle
    cases es with
    | nil => simp at hl
    | cons e es =>
      obtain ⟨h1, h2, h3⟩ := hp 0 q e rfl rfl
      simp only [Nat.add_zero] at h1
      have hqs : q.2.cells.size = sz := by rw [← h3, ← h2.1]; simp
      have hk : k * sz + sz ≤ vs.size := by
        have : (k + 1) * sz ≤ (k + (e :: es).length) * sz := Nat.mul_le_mul_right _ (by simp)
        rw [Nat.succ_mul] at this
        omega
      have hfold := foldl_set q.2.cells.toList (k * sz) 0 vs (by simp; omega)
      have hvs' : (vs.toList.take (k * sz) ++ q.2.cells.toList ++ vs.toList.drop (k * sz + q.2.cells.toList.length)).toArray.size = vs.size := by
        simp only [List.size_toArray, List.length_append, List.length_take, List.length_drop, Array.length_toList]; omega
      have hget : ∀ n, (vs.toList.take (k * sz) ++ q.2.cells.toList ++ vs.toList.drop (k * sz + q.2.cells.toList.length)).toArray.getD n undef =
          (if k * sz ≤ n ∧ n < k * sz + q.2.cells.toList.length then q.2.cells.toList.getD (n - k * sz) undef else vs.getD n undef) := by
        intro n
        have := getElem?_splice vs.toList q.2.cells.toList (k * sz) n (by simp only [Array.length_toList]; omega)
        rw [Array.getD_eq_getD_getElem?, List.getElem?_toArray, this]
        split
        · rw [List.getD_eq_getElem?_getD]
        · rw [Array.getD_eq_getD_getElem?, Array.getElem?_toList]
      obtain ⟨us, hus, hsz, hkeep, hrel⟩ := ih es (k + 1) (vs.toList.take (k * sz) ++ q.2.cells.toList ++ vs.toList.drop (k * sz + q.2.cells.toList.length)).toArray
        (fun j q' e' ha hb => by
          obtain ⟨x, y, z⟩ := hp (j + 1) q' e' (by simpa using ha) (by simpa using hb)
          exact ⟨by omega, y, z⟩) (by simpa using hl) (by rw [hvs']; simp at hle; rw [show k + 1 + es.length = k + (es.length + 1) from by omega]; exact hle)
      refine ⟨us, ?_, by rw [hsz, hvs'], fun n hn => ?_, fun i j e' c hi hj => ?_⟩
      · obtain ⟨qi, qv⟩ := q
        simp only at h1 hqs hfold hus ⊢
        rw [Instr.fill]
        subst h1
        dsimp only
        rw [if_neg (by rw [hqs]; simp; omega)]
        have hzip : (qv.cells.zipIdx.foldl (fun cs (x : Value × Nat) => match x with | (c, j) => cs.setIfInBounds (qi * sz + j) c) vs) =
            (vs.toList.take (qi * sz) ++ qv.cells.toList ++ vs.toList.drop (qi * sz + qv.cells.toList.length)).toArray := by
          have e2 := hfold
          simp only [Nat.add_zero] at e2
          rw [← e2, ← Array.foldl_toList]
          simp
        rw [hzip]
        exact hus
      · rw [hkeep n (by rw [Nat.succ_mul]; omega), hget n, if_neg (by omega)]
      · match i, hi with
        | 0, hi =>
          simp at hi
          subst hi
          have hj' : j < sz := by
            rw [← h3]
            rcases Nat.lt_or_ge j e.length with h' | h'
            · exact h'
            · simp [List.getElem?_eq_none h'] at hj
          simp only [Nat.add_zero]
          rw [hkeep _ (by rw [Nat.succ_mul]; omega), hget, if_pos (by simp; omega), Nat.add_sub_cancel_left]
          exact h2.2 j c hj
        | i + 1, hi =>
          simp at hi
          have := hrel i j e' c hi hj
          rwa [show k + 1 + i = k + (i + 1) from by omega] at this

theorem run_lit {t e : TypeId} {i : TypeInfo} {z : Value} (ht : P.underlying t = some (.slice e)) (hi : P.info? e = some i) (hz : i.zero = some z) {parts : Array (Nat × Value)} {es : List (List AV)}
    (hp : ∀ (j : Nat) (q : Nat × Value) (x : List AV), parts[j]? = some q → es[j]? = some x → q.1 = j ∧ CellsRel g x q.2.cells.toList ∧ x.length = i.size) (hl : parts.size = es.length) (hle : es.length * i.size ≤ 16777216) :
    ∃ us, (Instr.buildSlice t es.length parts).run P w = .ok (.slice (some ⟨w.heap.size, 0, none⟩) es.length es.length) (w.alloc (.cells us e)) ∧ us.size = es.length * i.size ∧
      ∀ (a j : Nat) (x : List AV) (c : AV), es[a]? = some x → x[j]? = some c → RelV g c (us.getD (a * i.size + j) undef) ∧ (us.getD (a * i.size + j) undef).oneCell' = true := by
  have hkey : ∀ zs : Array Value, ∃ us, Instr.fill (fun k => some (k * i.size, i.size)) ((Array.range (es.length * i.size)).map (zs[· % zs.size]!)) parts.toList = some us ∧ us.size = es.length * i.size ∧
      ∀ (a j : Nat) (x : List AV) (c : AV), es[a]? = some x → x[j]? = some c → RelV g c (us.getD (a * i.size + j) undef) ∧ (us.getD (a * i.size + j) undef).oneCell' = true := by
    intro zs
    obtain ⟨us, h1, h2, h3, h4⟩ := fill_lit (g := g) i.size parts.toList es 0 ((Array.range (es.length * i.size)).map (zs[· % zs.size]!)) (fun j q x a b => by
      obtain ⟨x1, x2, x3⟩ := hp j q x (by simpa using a) b
      exact ⟨by omega, x2, x3⟩) (by simpa using hl) (by simp)
    exact ⟨us, h1, by simpa using h2, fun a j x c p q => by have := h4 a j x c p q; simpa using this⟩
  have hn : ¬ (16777216 < es.length * i.size) := by omega
  by_cases h0 : es.length * i.size = 0
  · obtain ⟨us, h1, h2, h3⟩ := hkey #[]
    refine ⟨us, ?_, h2, h3⟩
    simp [Instr.buildSlice, run_underlying ht, run_sizeOf' hi, h0, newRow]
    simp [h0] at h1
    simp [h1]
  · obtain ⟨us, h1, h2, h3⟩ := hkey z.cells
    refine ⟨us, ?_, h2, h3⟩
    simp [Instr.buildSlice, run_underlying ht, run_sizeOf' hi, h0, hn, newRow, zeroValue, typeInfo, hi, hz, h1]

theorem op_lit_frozen (h : SR B w0 σ g w) {t e : TypeId} {i : TypeInfo} {z : Value} (ht : P.underlying t = some (.slice e)) (hi : P.info? e = some i) (hz : i.zero = some z) {parts : Array (Nat × Value)} {es : List (List AV)}
    (hp : ∀ (j : Nat) (q : Nat × Value) (x : List AV), parts[j]? = some q → es[j]? = some x → q.1 = j ∧ CellsRel g x q.2.cells.toList ∧ x.length = i.size) (hl : parts.size = es.length) (hle : es.length * i.size ≤ 16777216) (hle2 : es.length ≤ 16777216) :
    OpOK P B w0 g w (do pure (.value (← Instr.buildSlice t es.length parts))) (.list es) σ := by
  obtain ⟨us, hrun, hsz, hrel⟩ := run_lit (g := g) (w := w) ht hi hz hp hl hle
  obtain ⟨hS, hE⟩ := h.allocFrozen us e
  refine OpOK.value' hrun hE hS (.list (s := i.size) (cells := us) (by simp [Ghost.freeze]) (fun x hx => ?_) (by omega) (fun a j x c p q => ?_) (fun a j x c p q => ?_) (Nat.le_refl _) (by simp [maxLen]; omega))
  · obtain ⟨j, hj, rfl⟩ := List.getElem_of_mem hx
    have hj2 : j < parts.size := by omega
    exact (hp j _ _ (Array.getElem?_eq_getElem hj2) (List.getElem?_eq_getElem hj)).2.2
  · rw [Nat.zero_add]; exact (hrel a j x c p q).1.ext hE
  · rw [Nat.zero_add]; exact (hrel a j x c p q).2
theorem op_lit_own (h : SR B w0 σ g w) {t e : TypeId} {i : TypeInfo} {z : Value} (ht : P.underlying t = some (.slice e)) (hi : P.info? e = some i) (hz : i.zero = some z) {parts : Array (Nat × Value)} {es : List (List AV)}
    (hp : ∀ (j : Nat) (q : Nat × Value) (x : List AV), parts[j]? = some q → es[j]? = some x → q.1 = j ∧ CellsRel g x q.2.cells.toList ∧ x.length = i.size) (hl : parts.size = es.length) (hle : es.length * i.size ≤ 16777216) (hle2 : es.length ≤ 16777216) :
    OpOK P B w0 g w (do pure (.value (← Instr.buildSlice t es.length parts))) (.own σ.next 0 i.size 0 es.length) (σ.push (.cells e 0 i.size es)) := by
  obtain ⟨us, hrun, hsz, hrel⟩ := run_lit (g := g) (w := w) ht hi hz hp hl hle
  have hobj : ObjRel g (w.alloc (.cells us e)) ⟨0, w.heap.size, i.size, es.length⟩ (.cells e 0 i.size es) := by
    refine ⟨rfl, rfl, Nat.le_refl _, by simp [maxLen]; omega, us, heap_alloc_new w _, hsz, fun x hx => ?_, hrel⟩
    obtain ⟨j, hj, rfl⟩ := List.getElem_of_mem hx
    have hj2 : j < parts.size := by omega
    exact (hp j _ _ (Array.getElem?_eq_getElem hj2) (List.getElem?_eq_getElem hj)).2.2
  refine OpOK.value' hrun (.take g _) (h.allocOwned _ _ ⟨0, w.heap.size, i.size, es.length⟩ rfl hobj) (.own (by simp [Ghost.take, h.next]) (by simp [maxLen]; omega) ⟨_, _, rfl⟩ fun p hp => ?_)
  simp [Ghost.take, h.next] at hp
  subst hp
  exact ⟨Nat.le_refl _, fun _ => ⟨rfl, by simp, _, by simp; rfl, fun _ => by simp⟩⟩

/-! ### Fields of values -/
theorem op_field (h : SR B w0 σ g w) {t : TypeId} {fs : Array Field} {f : Field} {i : TypeInfo} {d : TypeDesc} {n : Nat} (hu : P.underlying t = some (.struct fs)) (hf : fs[n]? = some f)
    (hd : P.underlying f.type = some d) (hi : P.info? f.type = some i) {agg : Option Nat} (ha : agg = if aggD d then some i.size else none)
    {cs : List AV} {v : Value} (hx : RelV g (.agg cs) v) {r : AV} (hr : aLoad agg cs f.offset = some r) : OpOK P B w0 g w (do pure (.value (← Instr.field t v n))) r σ := by
  cases hx with
  | agg hs hc h1 =>
    rename_i arr
    subst ha
    cases hdd : aggD d with
    | false =>
      simp only [hdd, Bool.false_eq_true, if_false, aLoad] at hr
      have hoff : f.offset < cs.length := by
        rcases Nat.lt_or_ge f.offset cs.length with h' | h'
        · exact h'
        · simp [List.getElem?_eq_none h'] at hr
      refine OpOK.value h (v := arr.getD f.offset undef) ?_ (hc _ r hr)
      have hlt : f.offset < arr.size := by omega
      simp [Instr.field, run_underlying hu, hf, asAgg, part, run_isAgg hd, hdd, hlt]
    | true =>
      simp only [hdd, if_true, aLoad] at hr
      split at hr
      · rename_i hle
        cases hr
        refine OpOK.value h (v := .agg (arr.extract f.offset (f.offset + i.size))) ?_ ?_
        · simp [Instr.field, run_underlying hu, hf, asAgg, part, run_isAgg hd, hdd, run_sizeOf' hi]
        · refine .agg (by simp; omega) (fun j c e => ?_) (fun j c e => ?_) <;>
          · rw [List.getElem?_take] at e
            split at e
            · rename_i hj
              rw [List.getElem?_drop] at e
              have e1 := hc _ c e
              have e2 := h1 _ c e
              have hlt : f.offset + j < arr.size := by
                rcases Nat.lt_or_ge (f.offset + j) cs.length with h' | h'
                · omega
                · simp [List.getElem?_eq_none h'] at e
              have hext : (arr.extract f.offset (f.offset + i.size)).getD j undef = arr.getD (f.offset + j) undef := by
                rw [Array.getD_eq_getD_getElem?, Array.getElem?_extract, if_pos (by omega), ← Array.getD_eq_getD_getElem?]
              rw [hext]
              assumption
            · cases e
      · cases hr

theorem op_extract (h : SR B w0 σ g w) {cs : List AV} {v : Value} (hx : RelV g (.tuple cs) v) {n : Nat} {r : AV} (hr : cs[n]? = some r) : OpOK P B w0 g w (do pure (.value (← Instr.extract v n))) r σ := by
  cases hx with
  | tuple hs hc =>
    rename_i arr
    have hn : n < cs.length := by
      rcases Nat.lt_or_ge n cs.length with h' | h'
      · exact h'
      · simp [List.getElem?_eq_none h'] at hr
    have hn2 : n < arr.size := by omega
    refine OpOK.value h (v := arr.getD n undef) ?_ (hc n r hr)
    simp [Instr.extract, hn2]

/-! ### Lengths -/
theorem run_len {t ty : TypeId} {d : TypeDesc} (hu : P.underlying t = some d) {v : Value} {n : Nat} (hv : (∃ s, d = .string ∧ v = .string s ∧ n = s.size) ∨ (∃ e a c, d = .slice e ∧ v = .slice a n c) ∨ (∃ k e, d = .map k e ∧ v = .map none ∧ n = 0)) :
    (Builtin.len_ #[t] ty #[v]).run P w = .ok (.int .i64 n) w := by
  rcases hv with ⟨s, rfl, rfl, rfl⟩ | ⟨e, a, c, rfl, rfl⟩ | ⟨k, e, rfl, rfl, rfl⟩ <;> simp [Builtin.len_, run_underlying hu, goInt]
theorem op_len_str (h : SR B w0 σ g w) {t ty : TypeId} (hu : P.underlying t = some .string) {s : ByteArray} {v : Value} (hx : RelV g (.str s) v) :
    OpOK P B w0 g w (do pure (.value (← Builtin.len_ #[t] ty #[v]))) (.int .i64 s.size) σ := by
  cases hx with
  | str s hs => exact OpOK.value h (run_len hu (.inl ⟨s, rfl, rfl, rfl⟩)) (.int _ _)
theorem op_len_nils (h : SR B w0 σ g w) {t ty e : TypeId} (hu : P.underlying t = some (.slice e)) {v : Value} (hx : RelV g .nils v) :
    OpOK P B w0 g w (do pure (.value (← Builtin.len_ #[t] ty #[v]))) (.int .i64 0) σ := by
  cases hx with
  | nils => exact OpOK.value h (run_len hu (n := 0) (.inr (.inl ⟨e, none, 0, rfl, rfl⟩))) (.int _ _)
theorem op_len_list (h : SR B w0 σ g w) {t ty e : TypeId} (hu : P.underlying t = some (.slice e)) {es : List (List AV)} {v : Value} (hx : RelV g (.list es) v) :
    OpOK P B w0 g w (do pure (.value (← Builtin.len_ #[t] ty #[v]))) (.int .i64 es.length) σ := by
  cases hx with
  | listNil a c => exact OpOK.value h (run_len hu (n := 0) (.inr (.inl ⟨e, a, c, rfl, rfl⟩))) (.int _ _)
  | list => exact OpOK.value h (run_len hu (.inr (.inl ⟨e, _, _, rfl, rfl⟩))) (.int _ _)
theorem op_len_own (h : SR B w0 σ g w) {t ty e : TypeId} (hu : P.underlying t = some (.slice e)) {id ver sz off len : Nat} {v : Value} (hx : RelV g (.own id ver sz off len) v) :
    OpOK P B w0 g w (do pure (.value (← Builtin.len_ #[t] ty #[v]))) (.int .i64 len) σ := by
  cases hx with
  | own hid hlen hv hp =>
    obtain ⟨a, c, rfl⟩ := hv
    exact OpOK.value h (run_len hu (.inr (.inl ⟨e, _, _, rfl, rfl⟩))) (.int _ _)

/-! ### Cuts -/
theorem run_cut_slice {t e : TypeId} {i : TypeInfo} (hu : P.underlying t = some (.slice e)) (hi : P.info? e = some i) {a : Option Addr} {len cap : Nat} {lo hi' : Option Value} {l hh : Nat}
    (hlo : (lo = none ∧ l = 0) ∨ ∃ k, lo = some (.int k l)) (hhi : (hi' = none ∧ hh = len) ∨ ∃ k, hi' = some (.int k hh)) (h1 : l ≤ hh) (h2 : hh ≤ cap) :
    (Instr.sliceAt t (.slice a len cap) lo hi' none).run P w = .ok (.slice (if cap = l then a else a.map (·.add (l * i.size))) (hh - l) (cap - l)) w := by
  rcases hlo with ⟨rfl, rfl⟩ | ⟨k, rfl⟩ <;> rcases hhi with ⟨rfl, rfl⟩ | ⟨k', rfl⟩ <;>
    simp [Instr.sliceAt, run_underlying hu, Instr.slice, Instr.sliceBounds, Instr.sliceBound, asIntOf, run_sizeOf' hi, h1, h2, Nat.le_trans h1 h2]

theorem op_cut_list (h : SR B w0 σ g w) {t e : TypeId} {i : TypeInfo} (hu : P.underlying t = some (.slice e)) (hi : P.info? e = some i) {es : List (List AV)} {v : Value} (hx : RelV g (.list es) v) {lo hi' : Option Value} {l hh : Nat}
    (hsz : ∀ q, q ∈ es → q.length = i.size)
    (hlo : (lo = none ∧ l = 0) ∨ ∃ k, lo = some (.int k l)) (hhi : (hi' = none ∧ hh = es.length) ∨ ∃ k, hi' = some (.int k hh)) (h1 : l ≤ hh) (h2 : hh ≤ es.length) :
    OpOK P B w0 g w (do pure (.value (← Instr.sliceAt t v lo hi' none))) (.list ((es.take hh).drop l)) σ := by
  cases hx with
  | listNil a c =>
    simp at h2
    subst h2
    have : l = 0 := by omega
    subst this
    exact OpOK.value h (run_cut_slice hu hi hlo hhi h1 (Nat.zero_le _)) (by simpa using RelV.listNil _ _)
  | list hΦ hs hb hc h1' hn hcap =>
    rename_i blk off cap s cells
    have hrun := run_cut_slice (P := P) (w := w) hu hi (a := some ⟨blk, off, none⟩) (cap := cap) hlo hhi h1 (by omega)
    have hl : ((es.take hh).drop l).length = hh - l := by simp; omega
    by_cases he : hh - l = 0
    · have : (es.take hh).drop l = [] := List.eq_nil_of_length_eq_zero (by omega)
      rw [this]
      rw [he] at hrun
      exact OpOK.value h hrun (.listNil _ _)
    · have hss : s = i.size := by
        have hm : es ≠ [] := fun e => by subst e; simp at h2; omega
        obtain ⟨q, rest, rfl⟩ := List.exists_cons_of_ne_nil hm
        rw [← hs q (by simp), hsz q (by simp)]
      subst hss
      have hadd : (⟨blk, off, none⟩ : Addr).add (l * i.size) = ⟨blk, off + l * i.size, none⟩ := by unfold Addr.add; split <;> simp_all
      rw [if_neg (by omega)] at hrun
      simp only [Option.map_some, hadd] at hrun
      have hge : ∀ (a : Nat) (x : List AV), ((es.take hh).drop l)[a]? = some x → es[l + a]? = some x := by
        intro a x ha
        rw [List.getElem?_drop, List.getElem?_take] at ha
        split at ha
        · exact ha
        · cases ha
      have key : RelV g (.list ((es.take hh).drop l)) (.slice (some ⟨blk, off + l * i.size, none⟩) ((es.take hh).drop l).length (cap - l)) := by
        refine .list (s := i.size) (cells := cells) hΦ (fun x hm => hs x (List.mem_of_mem_take (List.mem_of_mem_drop hm))) ?_ (fun a j x c ha hj => ?_) (fun a j x c ha hj => ?_) (by omega) (by omega)
        · rw [hl]
          have : (l + (hh - l)) * i.size ≤ es.length * i.size := Nat.mul_le_mul_right _ (by omega)
          rw [Nat.add_mul] at this
          omega
        · have := hc (l + a) j x c (hge a x ha) hj
          rwa [Nat.add_mul, ← Nat.add_assoc] at this
        · have := h1' (l + a) j x c (hge a x ha) hj
          rwa [Nat.add_mul, ← Nat.add_assoc] at this
      rw [hl] at key
      exact OpOK.value h hrun key

theorem op_cut_own (h : SR B w0 σ g w) {t e : TypeId} {i : TypeInfo} (hu : P.underlying t = some (.slice e)) (hi : P.info? e = some i) {id ver off len : Nat} {v : Value} (hx : RelV g (.own id ver i.size off len) v) {lo hi' : Option Value} {l hh : Nat}
    {o : AObj} (ho : σ.get id = some o) (hver : ∀ p, g.pl id = some p → p.ver = ver)
    (hlo : (lo = none ∧ l = 0) ∨ ∃ k, lo = some (.int k l)) (hhi : (hi' = none ∧ hh = len) ∨ ∃ k, hi' = some (.int k hh)) (h1 : l ≤ hh) (h2 : hh ≤ len) :
    OpOK P B w0 g w (do pure (.value (← Instr.sliceAt t v lo hi' none))) (.own id ver i.size (off + l) (hh - l)) σ := by
  cases hx with
  | own hid hlen hv hp =>
    obtain ⟨p, hpp, -⟩ := h.objs id o ho
    obtain ⟨hs, hcap, a, rfl, ha⟩ := (hp p hpp).2 (hver p hpp)
    have hrun := run_cut_slice (P := P) (w := w) hu hi (a := some a) (len := len) (cap := p.cap - off) hlo hhi h1 (by omega)
    refine OpOK.value h hrun (.own hid (by omega) ?_ fun q hq => ⟨(hp q hq).1, fun _ => ?_⟩)
    · split <;> exact ⟨_, _, rfl⟩
    · rw [hpp] at hq
      cases hq
      refine ⟨hs, by omega, ?_⟩
      by_cases hc : p.cap - off = l
      · rw [if_pos hc]
        refine ⟨a, by rw [Nat.sub_sub], fun hcond => ?_⟩
        have : off = 0 ∧ l = 0 ∧ p.cap = 0 := by omega
        obtain ⟨rfl, rfl, _⟩ := this
        simpa using ha (.inl rfl)
      · rw [if_neg hc]
        have ha' := ha (by right; omega)
        subst ha'
        have hadd : (⟨p.blk, off * i.size, none⟩ : Addr).add (l * i.size) = ⟨p.blk, (off + l) * i.size, none⟩ := by rw [Nat.add_mul]; unfold Addr.add; split <;> simp_all
        exact ⟨⟨p.blk, (off + l) * i.size, none⟩, by rw [Option.map_some, hadd, Nat.sub_sub], fun _ => rfl⟩

theorem op_cut_nils (h : SR B w0 σ g w) {t e : TypeId} {i : TypeInfo} (hu : P.underlying t = some (.slice e)) (hi : P.info? e = some i) {v : Value} (hx : RelV g .nils v) {lo hi' : Option Value}
    (hlo : (lo = none) ∨ ∃ k, lo = some (.int k 0)) (hhi : (hi' = none) ∨ ∃ k, hi' = some (.int k 0)) :
    OpOK P B w0 g w (do pure (.value (← Instr.sliceAt t v lo hi' none))) .nils σ := by
  cases hx with
  | nils =>
    have hrun := run_cut_slice (P := P) (w := w) hu hi (a := none) (len := 0) (cap := 0) (l := 0) (hh := 0) (lo := lo) (hi' := hi') (by rcases hlo with rfl | ⟨k, rfl⟩ <;> simp) (by rcases hhi with rfl | ⟨k, rfl⟩ <;> simp) (Nat.le_refl _) (Nat.le_refl _)
    exact OpOK.value h hrun (by simpa using RelV.nils)

theorem op_cut_str (h : SR B w0 σ g w) {t : TypeId} (hu : P.underlying t = some .string) {s : ByteArray} {v : Value} (hx : RelV g (.str s) v) {lo hi' : Option Value} {l hh : Nat}
    (hlo : (lo = none ∧ l = 0) ∨ ∃ k, lo = some (.int k l)) (hhi : (hi' = none ∧ hh = s.size) ∨ ∃ k, hi' = some (.int k hh)) (h1 : l ≤ hh) (h2 : hh ≤ s.size) :
    OpOK P B w0 g w (do pure (.value (← Instr.sliceAt t v lo hi' none))) (.str (s.extract l hh)) σ := by
  cases hx with
  | str s hs =>
    refine OpOK.value h (v := .string (s.extract l hh)) ?_ (.str _ (by simp; omega))
    rcases hlo with ⟨rfl, rfl⟩ | ⟨k, rfl⟩ <;> rcases hhi with ⟨rfl, rfl⟩ | ⟨k', rfl⟩ <;>
      simp [Instr.sliceAt, run_underlying hu, Instr.slice, Instr.sliceBounds, Instr.sliceBound, asIntOf, h1, h2, Nat.le_trans h1 h2]

theorem op_index_str (h : SR B w0 σ g w) {t : TypeId} (hu : P.underlying t = some .string) {s : ByteArray} {v : Value} (hx : RelV g (.str s) v) {k : IntKind} {n : Int} (h0 : 0 ≤ n) {b : UInt8} (hb : s.data.toList[n.toNat]? = some b) :
    OpOK P B w0 g w (do pure (.value (← Instr.index t v (.int k n)))) (.int .u8 b.toNat) σ := by
  cases hx with
  | str s hs =>
    have hlt : n.toNat < s.size := by
      rcases Nat.lt_or_ge n.toNat s.data.toList.length with h' | h'
      · simpa using h'
      · simp [List.getElem?_eq_none h'] at hb
    have hg : s[n.toNat]? = some b := by
      rw [getElem?_pos s n.toNat hlt]
      have : s.data.toList[n.toNat]? = some s[n.toNat] := by
        rw [List.getElem?_eq_getElem (by simpa using hlt)]
        rfl
      rw [this] at hb
      exact hb
    refine OpOK.value h (v := .int .u8 b.toNat) ?_ (.int _ _)
    simp [Instr.index, asIntOf, run_underlying hu, h0, hg]
end
end Go.AL
