/- The abstract layer, part 2: what each operation does to memory, said over the relation. -/
import Derived.Test.YtjjbjibbjbbeaaaAL1
set_option linter.unusedVariables false
set_option linter.unusedSimpArgs false
namespace Go.AL
open Go.RowKit

/-- The cells of a value that can be laid into memory. -/
def AV.cellsOf : AV → Option (List AV)
  | .junk => none
  | .tuple _ => none
  | .agg cs => some cs
  | v => some [v]

/-- May the value lie in one cell? -/
def AV.isCell : AV → Bool
  | .junk => false
  | .tuple _ => false
  | .agg _ => false
  | _ => true

/-- Cells that read as some abstract cells. -/
def CellsRel (g : Ghost) (cs : List AV) (vs : List Value) : Prop :=
  vs.length = cs.length ∧ ∀ j c, cs[j]? = some c → RelV g c (vs.getD j undef) ∧ (vs.getD j undef).oneCell' = true

theorem CellsRel.ext {g g' : Ghost} (he : Ext g g') {cs : List AV} {vs : List Value} (h : CellsRel g cs vs) : CellsRel g' cs vs :=
  ⟨h.1, fun j c e => ⟨(h.2 j c e).1.ext he, (h.2 j c e).2⟩⟩
theorem CellsRel.one {g : Ghost} {cs : List AV} {vs : List Value} (h : CellsRel g cs vs) : ∀ v ∈ vs, v.oneCell' = true := by
  intro v hv
  obtain ⟨j, hj, rfl⟩ := List.getElem_of_mem hv
  have hc : j < cs.length := by rw [← h.1]; exact hj
  have := (h.2 j _ (List.getElem?_eq_getElem hc)).2
  rwa [List.getD_eq_getElem?_getD, List.getElem?_eq_getElem hj] at this

theorem RelV.one {g : Ghost} {a : AV} {v : Value} (h : RelV g a v) (hc : a.isCell = true) : v.oneCell' = true := by
  cases h <;> first | rfl | (simp [AV.isCell] at hc; done) | skip
  case ptr hid hp h1 => obtain ⟨a, rfl⟩ := h1; rfl
  case own hid hlen hv hp => obtain ⟨a, c, rfl⟩ := hv; rfl
  case map hid hp h1 => obtain ⟨r, rfl⟩ := h1; rfl

theorem RelV.cellsRel {g : Ghost} {a : AV} {v : Value} {cs : List AV} (h : RelV g a v) (hc : a.cellsOf = some cs) : CellsRel g cs v.cells.toList := by
  by_cases hcell : a.isCell = true
  · have h1 := h.one hcell
    have hcs : cs = [a] := by cases a <;> simp_all [AV.cellsOf, AV.isCell]
    have hv : v.cells = #[v] := by cases v <;> simp_all [Value.cells, Value.oneCell']
    subst hcs
    rw [hv]
    refine ⟨rfl, fun j c e => ?_⟩
    match j, e with
    | 0, e => simp at e; subst e; exact ⟨by simpa using h, by simpa using h1⟩
    | j + 1, e => simp at e
  · cases h <;> first | (simp [AV.isCell] at hcell; done) | (simp [AV.cellsOf] at hc; done) | skip
    case agg hs hcc h1 =>
      simp [AV.cellsOf] at hc
      subst hc
      refine ⟨by simpa [Value.cells] using hs, fun j c e => ⟨by simpa [Value.cells] using hcc j c e, by simpa [Value.cells] using h1 j c e⟩⟩

theorem RelV.ofCells {g : Ghost} {cs : List AV} {vs : List Value} (h : CellsRel g cs vs) : RelV g (.agg cs) (.agg vs.toArray) :=
  .agg (by simpa using h.1) (fun j c e => by simpa using (h.2 j c e).1) (fun j c e => by simpa using (h.2 j c e).2)

/-- What an operation comes to. -/
def OpOK (P : Program) (B : Nat) (w0 : World) (g : Ghost) (w : World) (s : Sem Next) (r : AV) (σ' : Store) : Prop :=
  ∃ nx w' g', s.run P w = .ok nx w' ∧ Ext g g' ∧ SR B w0 σ' g' w' ∧ ((∃ v, nx = .value v ∧ RelV g' r v) ∨ (nx = .skip ∧ r = .junk))

section
variable {P : Program} {B : Nat} {w0 : World} {σ : Store} {g : Ghost} {w : World}

theorem OpOK.value {s : Sem Value} {r : AV} {v : Value} (h : SR B w0 σ g w) (hs : s.run P w = .ok v w) (hr : RelV g r v) :
    OpOK P B w0 g w (do pure (.value (← s))) r σ :=
  ⟨.value v, w, g, by simp [hs], .refl g, h, .inl ⟨v, rfl, hr⟩⟩
theorem OpOK.value' {s : Sem Value} {r : AV} {v : Value} {w' : World} {g' : Ghost} {σ' : Store} (hs : s.run P w = .ok v w') (he : Ext g g') (h : SR B w0 σ' g' w') (hr : RelV g' r v) :
    OpOK P B w0 g w (do pure (.value (← s))) r σ' :=
  ⟨.value v, w', g', by simp [hs], he, h, .inl ⟨v, rfl, hr⟩⟩
theorem OpOK.skip {s : Sem Unit} {w' : World} {g' : Ghost} {σ' : Store} (hs : s.run P w = .ok () w') (he : Ext g g') (h : SR B w0 σ' g' w') :
    OpOK P B w0 g w (do s; pure .skip) .junk σ' :=
  ⟨.skip, w', g', by simp [hs], he, h, .inr ⟨rfl, rfl⟩⟩

/-! ### New variables -/
theorem run_newVar (t : TypeId) (v : Value) : (newVar t v).run P w = .ok ⟨w.heap.size, 0, none⟩ (w.alloc (.cells v.cells t)) := by
  simp [newVar, newRow]
theorem SR.newObj (h : SR B w0 σ g w) {cs : List AV} {vs : List Value} (hc : CellsRel g cs vs) (ty : TypeId) :
    SR B w0 (σ.push (.cells ty 0 cs.length [cs])) (g.take ⟨0, w.heap.size, cs.length, 1⟩) (w.alloc (.cells vs.toArray ty)) :=
  h.allocOwned _ _ ⟨0, w.heap.size, cs.length, 1⟩ rfl ⟨rfl, rfl, by simp, by simp [maxLen], vs.toArray, heap_alloc_new w _, by simp [hc.1], by simp, fun i j e c hi hj => by
    match i, hi with
    | 0, hi =>
      simp at hi
      subst hi
      have := hc.2 j c hj
      simpa using this
    | i + 1, hi => simp at hi⟩
theorem RelV.newPtr (h : SR B w0 σ g w) {sz cap : Nat} : RelV (g.take ⟨0, w.heap.size, sz, cap⟩) (.ptr σ.next 0 0 0) (.pointer (some ⟨w.heap.size, 0, none⟩)) :=
  .ptr (by simp [Ghost.take, h.next]) (fun p hp => by
    simp [Ghost.take, h.next] at hp
    subst hp
    simp) ⟨_, rfl⟩
theorem op_new (h : SR B w0 σ g w) {x : AV} {v : Value} {cs : List AV} (hx : RelV g x v) (hc : x.cellsOf = some cs) (ty : TypeId) :
    OpOK P B w0 g w (do pure (.value (← Instr.box ty v))) (.ptr σ.next 0 0 0) (σ.push (.cells ty 0 cs.length [cs])) := by
  have hcr := hx.cellsRel hc
  refine OpOK.value' (v := .pointer (some ⟨w.heap.size, 0, none⟩)) (w' := w.alloc (.cells v.cells ty)) ?_ (.take g _) (by simpa using h.newObj hcr ty) (RelV.newPtr h)
  simp [Instr.box, run_newVar]
theorem op_alloc (h : SR B w0 σ g w) {x : AV} {v : Value} {cs : List AV} {i : TypeInfo} (hx : RelV g x v) (hc : x.cellsOf = some cs) (ty : TypeId) (hi : P.info? ty = some i) (hz : i.zero = some v) :
    OpOK P B w0 g w (do pure (.value (← Instr.alloc ty true (.tuple #[])))) (.ptr σ.next 0 0 0) (σ.push (.cells ty 0 cs.length [cs])) := by
  have hcr := hx.cellsRel hc
  refine OpOK.value' (v := .pointer (some ⟨w.heap.size, 0, none⟩)) (w' := w.alloc (.cells v.cells ty)) ?_ (.take g _) (by simpa using h.newObj hcr ty) (RelV.newPtr h)
  simp [Instr.alloc, zeroValue, typeInfo, hi, hz, run_newVar]

/-! ### Loads -/
theorem run_loadCells_row {b off n : Nat} {C : Array Value} {t : TypeId} {fr : Nat × Nat} (hb : w.heap[b]? = some (.cells C t fr)) (hn : off + n ≤ C.size) :
    (loadCells ⟨b, off, none⟩ n).run P w = .ok ((C.toList.drop off).take n).toArray w := by
  have hl : ((C.toList.drop off).take n).length = n := by simp; omega
  have := run_loadCells_list (P := P) w ⟨b, off, none⟩ ((C.toList.drop off).take n) (fun j v hv => by
    have hadd : (⟨b, off, none⟩ : Addr).add j = ⟨b, off + j, none⟩ := by unfold Addr.add; split <;> simp_all
    rw [hadd, cell_of_row w b (off + j) C t fr hb]
    rw [List.getElem?_take] at hv
    split at hv
    · rw [List.getElem?_drop] at hv; simpa using hv
    · cases hv)
  rwa [hl] at this
theorem run_load_row {b off : Nat} {C : Array Value} {t : TypeId} {fr : Nat × Nat} (hb : w.heap[b]? = some (.cells C t fr)) (hn : off < C.size) :
    (load ⟨b, off, none⟩).run P w = .ok (C.getD off undef) w := by
  simp [run_load, cell_of_row w b off C t fr hb, hn]

/-- Is the type one of aggregates? -/
def aggD : TypeDesc → Bool
  | .struct _ => true
  | .array _ _ => true
  | _ => false
theorem run_isAgg {t : TypeId} {d : TypeDesc} (hu : P.underlying t = some d) : (isAgg t).run P w = .ok (aggD d) w := by
  unfold isAgg
  rw [Sem.run_bind, run_underlying hu w]
  cases d <;> simp [aggD]
theorem run_sizeOf' {t : TypeId} {i : TypeInfo} (hi : P.info? t = some i) : (sizeOf t).run P w = .ok i.size w := by simp [sizeOf, typeInfo, hi]

/-- The value that a load gives: one cell, or some. -/
def aLoad (agg : Option Nat) (cs : List AV) (off : Nat) : Option AV :=
  match agg with
  | none => cs[off]?
  | some n => if off + n ≤ cs.length then some (.agg ((cs.drop off).take n)) else none

theorem load_cells {t : TypeId} {d : TypeDesc} {i : TypeInfo} (hu : P.underlying t = some d) (hi : P.info? t = some i) {agg : Option Nat} (ha : agg = if aggD d then some i.size else none)
    {b o off : Nat} {C : Array Value} {ty : TypeId} {fr : Nat × Nat} (hb : w.heap[b]? = some (.cells C ty fr)) {cs : List AV} (hlen : o + cs.length ≤ C.size)
    (hc : ∀ j c, cs[j]? = some c → RelV g c (C.getD (o + j) undef) ∧ (C.getD (o + j) undef).oneCell' = true) {r : AV} (hr : aLoad agg cs off = some r) :
    ∃ v, (Instr.loadAt t (.pointer (some ⟨b, o + off, none⟩))).run P w = .ok v w ∧ RelV g r v := by
  subst ha
  cases hd : aggD d with
  | false =>
    simp only [hd, Bool.false_eq_true, if_false, aLoad] at hr
    have hoff : off < cs.length := by
      rcases Nat.lt_or_ge off cs.length with h' | h'
      · exact h'
      · simp [List.getElem?_eq_none h'] at hr
    refine ⟨C.getD (o + off) undef, ?_, (hc off r hr).1⟩
    simp only [Instr.loadAt, Instr.sureAddr, loadVar, Sem.run_bind, Sem.run_pure, Result.andThen_ok, run_isAgg hu, hd, Bool.false_eq_true, if_false]
    exact run_load_row hb (by omega)
  | true =>
    simp only [hd, if_true, aLoad] at hr
    split at hr
    · rename_i hle
      cases hr
      refine ⟨.agg ((C.toList.drop (o + off)).take i.size).toArray, ?_, ?_⟩
      · simp only [Instr.loadAt, Instr.sureAddr, loadVar, Sem.run_bind, Sem.run_pure, Result.andThen_ok, run_isAgg hu, hd, if_true, run_sizeOf' hi]
        rw [run_loadCells_row hb (by omega)]
        rfl
      · refine RelV.ofCells ⟨?_, fun j c e => ?_⟩
        · simp; omega
        · rw [List.getElem?_take] at e
          split at e
          · rename_i hj
            rw [List.getElem?_drop] at e
            have := hc (off + j) c e
            have e2 : ((C.toList.drop (o + off)).take i.size).getD j undef = C.getD (o + (off + j)) undef := by
              rw [List.getD_eq_getElem?_getD, List.getElem?_take, if_pos hj, List.getElem?_drop]
              simp [Nat.add_assoc]
            rw [e2]; exact this
          · cases e
    · cases hr

theorem op_load_own (h : SR B w0 σ g w) {t : TypeId} {d : TypeDesc} {i : TypeInfo} (hu : P.underlying t = some d) (hi : P.info? t = some i) {agg : Option Nat} (ha : agg = if aggD d then some i.size else none)
    {id ver k off : Nat} {v : Value} (hx : RelV g (.ptr id ver k off) v) {ty : TypeId} {sz : Nat} {es : List (List AV)} (ho : σ.get id = some (.cells ty ver sz es))
    {e : List AV} (he : es[k]? = some e) {r : AV} (hr : aLoad agg e off = some r) : OpOK P B w0 g w (do pure (.value (← Instr.loadAt t v))) r σ := by
  obtain ⟨p, hp, h1, h2, h3, h4, cells, h5, h6, h7, h8⟩ := h.objs id _ ho
  cases hx with
  | ptr hid hv hv1 =>
    have hv := (hv p hp).2 h1
    subst hv
    have hk : k < es.length := by
      rcases Nat.lt_or_ge k es.length with h' | h'
      · exact h'
      · simp [List.getElem?_eq_none h'] at he
    have hel : e.length = sz := h7 e (List.mem_of_getElem? he)
    have hle : k * sz + e.length ≤ cells.size := by
      rw [h6, hel, ← Nat.succ_mul]
      exact Nat.mul_le_mul_right _ (by omega)
    subst h2
    obtain ⟨u, hrun, hrel⟩ := load_cells (g := g) (o := k * p.sz) hu hi ha h5 hle (fun j c hj => h8 k j e c he hj) hr
    exact OpOK.value h hrun hrel

theorem op_load_frozen (h : SR B w0 σ g w) {t : TypeId} {d : TypeDesc} {i : TypeInfo} (hu : P.underlying t = some d) (hi : P.info? t = some i) {agg : Option Nat} (ha : agg = if aggD d then some i.size else none)
    {cs : List AV} {off : Nat} {v : Value} (hx : RelV g (.rptr cs off) v) {r : AV} (hr : aLoad agg cs off = some r) : OpOK P B w0 g w (do pure (.value (← Instr.loadAt t v))) r σ := by
  cases hx with
  | rptr hΦ hb hc h1 =>
    obtain ⟨ty, fr, hh, _⟩ := h.phi _ _ hΦ.1
    obtain ⟨u, hrun, hrel⟩ := load_cells (g := g) hu hi ha hh hb (fun j c hj => ⟨hc j c hj, h1 j c hj⟩) hr
    exact OpOK.value h hrun hrel

/-! ### Stores -/
/-- Some cells written over others. -/
def aPut (cs : List AV) (off : Nat) (new : List AV) : List AV := cs.take off ++ new ++ cs.drop (off + new.length)
theorem aPut_length {cs : List AV} {off : Nat} {new : List AV} (h : off + new.length ≤ cs.length) : (aPut cs off new).length = cs.length := by
  simp [aPut]; omega
theorem getElem?_splice {α : Type} (xs new : List α) (off j : Nat) (h : off + new.length ≤ xs.length) :
    (xs.take off ++ new ++ xs.drop (off + new.length))[j]? = if off ≤ j ∧ j < off + new.length then new[j - off]? else xs[j]? := by
  by_cases h1 : j < off
  · rw [List.append_assoc, List.getElem?_append_left (by simp; omega), List.getElem?_take, if_pos h1, if_neg (by omega)]
  · by_cases h2 : j < off + new.length
    · rw [if_pos ⟨by omega, h2⟩, List.append_assoc, List.getElem?_append_right (by simp; omega), List.getElem?_append_left (by simp; omega)]
      congr 1
      simp; omega
    · rw [if_neg (by omega), List.getElem?_append_right (by simp; omega), List.getElem?_drop]
      congr 1
      simp; omega

theorem op_store (h : SR B w0 σ g w) {t : TypeId} {i : TypeInfo} (hi : P.info? t = some i)
    {id ver k off : Nat} {a v : Value} (ha : RelV g (.ptr id ver k off) a) {x : AV} (hx : RelV g x v) {cs : List AV} (hcs : x.cellsOf = some cs) (hsz : cs.length = i.size)
    {ty : TypeId} {sz : Nat} {es : List (List AV)} (ho : σ.get id = some (.cells ty ver sz es)) {e : List AV} (he : es[k]? = some e) (hle : off + cs.length ≤ e.length) :
    OpOK P B w0 g w (do Instr.storeAt t a v; pure .skip) .junk (σ.upd id (.cells ty ver sz (es.set k (aPut e off cs)))) := by
  obtain ⟨p, hp, h1, h2, h3, h4, cells, h5, h6, h7, h8⟩ := h.objs id _ ho
  have hcr := hx.cellsRel hcs
  cases ha with
  | ptr hid hv hv1 =>
    have hv := (hv p hp).2 h1
    subst hv
    subst h2
    have hk : k < es.length := by
      rcases Nat.lt_or_ge k es.length with h' | h'
      · exact h'
      · simp [List.getElem?_eq_none h'] at he
    have hel : e.length = p.sz := h7 e (List.mem_of_getElem? he)
    have hkc : k * p.sz + e.length ≤ cells.size := by
      rw [h6, hel, ← Nat.succ_mul]
      exact Nat.mul_le_mul_right _ (by omega)
    have hvl : v.cells.toList.length = cs.length := hcr.1
    have hst := run_storeCells_at P p.blk (k * p.sz + off) ty v.cells.toList 0 cells w h5 (by omega) hcr.one
    simp only [Nat.add_zero] at hst
    refine OpOK.skip (w' := w.setRow p.blk (cells.toList.take (k * p.sz + off) ++ v.cells.toList ++ cells.toList.drop (k * p.sz + off + v.cells.toList.length)).toArray) ?_ (.refl g)
      (h.write hp (by simp [World.setRow]) rfl rfl rfl (fun j _ hj => setRow_other w p.blk j _ hj) ?_)
    · have hvs : v.cells.size = i.size := by rw [← hsz, ← hcr.1]; simp
      simp only [Instr.storeAt, Instr.sureAddr, storeVar, Sem.run_bind, Sem.run_pure, Result.andThen_ok, run_sizeOf' hi, hvs, ne_eq, not_true, if_false, Sem.run_ite]
      exact hst
    · refine ⟨h1, rfl, by simpa using h3, h4, _, setRow_heap w p.blk cells _ ty _ h5, ?_, ?_, ?_⟩
      · rw [← h6]; simp only [List.size_toArray, List.length_append, List.length_take, List.length_drop, Array.length_toList] at hvl ⊢; omega
      · intro e' he'
        rcases List.mem_or_eq_of_mem_set he' with he' | rfl
        · exact h7 e' he'
        · rw [aPut_length (by omega), hel]
      · intro i' j e' c hi' hj'
        have hget : ∀ n, (((cells.toList.take (k * p.sz + off) ++ v.cells.toList ++ cells.toList.drop (k * p.sz + off + v.cells.toList.length)).toArray).getD n undef) =
            (if k * p.sz + off ≤ n ∧ n < k * p.sz + off + v.cells.toList.length then v.cells.toList.getD (n - (k * p.sz + off)) undef else cells.getD n undef) := by
          intro n
          have := getElem?_splice cells.toList v.cells.toList (k * p.sz + off) n (by simp only [Array.length_toList] at *; omega)
          rw [Array.getD_eq_getD_getElem?, List.getElem?_toArray, this]
          split
          · rw [List.getD_eq_getElem?_getD]
          · rw [Array.getD_eq_getD_getElem?, Array.getElem?_toList]
        rw [hget]
        by_cases hik : i' = k
        · subst hik
          rw [List.getElem?_set_self hk] at hi'
          cases hi'
          rw [show aPut e off cs = e.take off ++ cs ++ e.drop (off + cs.length) from rfl, getElem?_splice e cs off j hle] at hj'
          split at hj'
          · rename_i hin
            rw [if_pos (by omega)]
            have := hcr.2 (j - off) c hj'
            rwa [show i' * p.sz + j - (i' * p.sz + off) = j - off from by omega]
          · rename_i hin
            rw [if_neg (by omega)]
            exact h8 i' j e c he hj'
        · rw [List.getElem?_set_ne (Ne.symm hik)] at hi'
          have hel' : e'.length = p.sz := h7 e' (List.mem_of_getElem? hi')
          have hj2 : j < e'.length := by
            rcases Nat.lt_or_ge j e'.length with h' | h'
            · exact h'
            · simp [List.getElem?_eq_none h'] at hj'
          have hout : ¬ (k * p.sz + off ≤ i' * p.sz + j ∧ i' * p.sz + j < k * p.sz + off + v.cells.toList.length) := by
            rintro ⟨ha, hb⟩
            rcases Nat.lt_or_gt_of_ne hik with hlt | hlt
            · have : (i' + 1) * p.sz ≤ k * p.sz := Nat.mul_le_mul_right _ hlt
              rw [Nat.succ_mul] at this
              omega
            · have : (k + 1) * p.sz ≤ i' * p.sz := Nat.mul_le_mul_right _ hlt
              rw [Nat.succ_mul] at this
              omega
          rw [if_neg hout]
          exact h8 i' j e' c hi' hj'

/-! ### Addresses -/
theorem op_faddr {t : TypeId} {fs : Array Field} {f : Field} {i : TypeInfo} {n : Nat} (hu : P.underlying t = some (.struct fs)) (hf : fs[n]? = some f) (hi : P.info? f.type = some i) (hz : i.size ≠ 0)
    {b o : Nat} : (Instr.fieldAt t (.pointer (some ⟨b, o, none⟩)) n).run P w = .ok (.pointer (some ⟨b, o + f.offset, none⟩)) w := by
  have hadd : (⟨b, o, none⟩ : Addr).add f.offset = ⟨b, o + f.offset, none⟩ := by unfold Addr.add; split <;> simp_all
  simp [Instr.fieldAt, run_underlying hu, hf, Instr.sureAddr, fieldPlace, run_sizeOf' hi, hz, hadd]
theorem op_faddr_own (h : SR B w0 σ g w) {t : TypeId} {fs : Array Field} {f : Field} {i : TypeInfo} {n : Nat} (hu : P.underlying t = some (.struct fs)) (hf : fs[n]? = some f) (hi : P.info? f.type = some i) (hz : i.size ≠ 0)
    {id ver k off : Nat} {v : Value} (hx : RelV g (.ptr id ver k off) v) {o : AObj} (ho : σ.get id = some o) (hver : ∀ p, g.pl id = some p → p.ver = ver) :
    OpOK P B w0 g w (do pure (.value (← Instr.fieldAt t v n))) (.ptr id ver k (off + f.offset)) σ := by
  cases hx with
  | ptr hid hv hv1 =>
    obtain ⟨p, hp, -⟩ := h.objs id o ho
    have hv' := (hv p hp).2 (hver p hp)
    subst hv'
    refine OpOK.value h (op_faddr hu hf hi hz) (.ptr hid (fun q hq => ⟨(hv q hq).1, fun e => ?_⟩) ⟨_, rfl⟩)
    rw [hp] at hq
    cases hq
    simp [Nat.add_assoc]
theorem op_faddr_frozen (h : SR B w0 σ g w) {t : TypeId} {fs : Array Field} {f : Field} {i : TypeInfo} {n : Nat} (hu : P.underlying t = some (.struct fs)) (hf : fs[n]? = some f) (hi : P.info? f.type = some i) (hz : i.size ≠ 0)
    {cs : List AV} {off : Nat} {v : Value} (hx : RelV g (.rptr cs off) v) : OpOK P B w0 g w (do pure (.value (← Instr.fieldAt t v n))) (.rptr cs (off + f.offset)) σ := by
  cases hx with
  | rptr hΦ hb hc h1 =>
    refine OpOK.value h (op_faddr hu hf hi hz) ?_
    rw [Nat.add_assoc]
    exact .rptr hΦ hb hc h1

theorem run_indexAddr {t : TypeId} {e : TypeId} {i : TypeInfo} (hu : P.underlying t = some (.slice e)) (hi : P.info? e = some i) {k : IntKind} {n : Int} {b o len cap : Nat} (h0 : 0 ≤ n) (h1 : n < len) :
    (Instr.indexAt t (.slice (some ⟨b, o, none⟩) len cap) (.int k n)).run P w = .ok (.pointer (some ⟨b, o + n.toNat * i.size, none⟩)) w := by
  have hadd : (⟨b, o, none⟩ : Addr).add (n.toNat * i.size) = ⟨b, o + n.toNat * i.size, none⟩ := by unfold Addr.add; split <;> simp_all
  simp [Instr.indexAt, asIntOf, run_underlying hu, h0, h1, run_sizeOf' hi, hadd]
theorem op_iaddr_list (h : SR B w0 σ g w) {t : TypeId} {e : TypeId} {i : TypeInfo} (hu : P.underlying t = some (.slice e)) (hi : P.info? e = some i) {es : List (List AV)} {v : Value} (hx : RelV g (.list es) v)
    {k : IntKind} {n : Int} (h0 : 0 ≤ n) {c : List AV} (hc : es[n.toNat]? = some c) (hsz : c.length = i.size) :
    OpOK P B w0 g w (do pure (.value (← Instr.indexAt t v (.int k n)))) (.rptr c 0) σ := by
  have hlt : n.toNat < es.length := by
    rcases Nat.lt_or_ge n.toNat es.length with h' | h'
    · exact h'
    · simp [List.getElem?_eq_none h'] at hc
  cases hx with
  | listNil => simp at hlt
  | list hΦ hs hb hcc h1 hn hcap =>
    rename_i blk off cap s cells
    have hs' : s = i.size := by rw [← hsz]; exact (hs c (List.mem_of_getElem? hc)).symm
    subst hs'
    refine OpOK.value h (run_indexAddr hu hi h0 (by omega)) ?_
    have := RelV.rptr (g := g) (cs := c) (off := 0) (o := off + n.toNat * i.size) hΦ (by
      have : (n.toNat + 1) * i.size ≤ es.length * i.size := Nat.mul_le_mul_right _ hlt
      rw [Nat.succ_mul] at this
      omega) (fun j x hj => hcc _ j c x hc hj) (fun j x hj => h1 _ j c x hc hj)
    simpa using this
theorem op_iaddr_own (h : SR B w0 σ g w) {t : TypeId} {e : TypeId} {i : TypeInfo} (hu : P.underlying t = some (.slice e)) (hi : P.info? e = some i) {id ver off len : Nat} {v : Value} (hx : RelV g (.own id ver i.size off len) v)
    {o : AObj} (ho : σ.get id = some o) (hver : ∀ p, g.pl id = some p → p.ver = ver) {k : IntKind} {n : Int} (h0 : 0 ≤ n) (h1 : n < len) :
    OpOK P B w0 g w (do pure (.value (← Instr.indexAt t v (.int k n)))) (.ptr id ver (off + n.toNat) 0) σ := by
  cases hx with
  | own hid hlen hv hp =>
    obtain ⟨p, hpp, -⟩ := h.objs id o ho
    obtain ⟨hs, hcap, a, rfl, ha⟩ := (hp p hpp).2 (hver p hpp)
    have ha := ha (by right; omega)
    subst ha
    refine OpOK.value h (run_indexAddr hu hi h0 h1) (.ptr hid (fun q hq => ⟨(hp q hq).1, fun _ => ?_⟩) ⟨_, rfl⟩)
    rw [hpp] at hq
    cases hq
    rw [hs, Nat.add_mul, Nat.add_zero]
end
end Go.AL
