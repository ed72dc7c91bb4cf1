/- The abstract layer, part 3: slices that grow, literals, structs, numbers and texts. -/
import Derived.Test.YtjjbjibbjbbeaaaAL2
import Derived.Maps.AppendAt
import Derived.Laws.AppendOwnNone
set_option linter.unusedVariables false
set_option linter.unusedSimpArgs false
namespace Go.AL
open Go.RowKit

/-- Elements, one behind the other. -/
def ElemsRel (g : Ghost) (sz : Nat) (es : List (List AV)) (vs : List Value) : Prop :=
  vs.length = es.length * sz ∧ (∀ e, e ∈ es → e.length = sz) ∧
  ∀ (i j : Nat) (e : List AV) (c : AV), es[i]? = some e → e[j]? = some c → RelV g c (vs.getD (i * sz + j) undef) ∧ (vs.getD (i * sz + j) undef).oneCell' = true

theorem split_index {sz n q : Nat} (h : q < n * sz) : ∃ i j, i < n ∧ j < sz ∧ q = i * sz + j := by
  rcases Nat.eq_zero_or_pos sz with h0 | h0
  · subst h0; simp at h
  · refine ⟨q / sz, q % sz, ?_, Nat.mod_lt _ h0, ?_⟩
    · exact (Nat.div_lt_iff_lt_mul h0).2 h
    · rw [Nat.mul_comm]; exact (Nat.div_add_mod q sz).symm

theorem ElemsRel.one {g : Ghost} {sz : Nat} {es : List (List AV)} {vs : List Value} (h : ElemsRel g sz es vs) : ∀ v ∈ vs, v.oneCell' = true := by
  intro v hv
  obtain ⟨q, hq, rfl⟩ := List.getElem_of_mem hv
  obtain ⟨i, j, hi, hj, rfl⟩ := split_index (show q < es.length * sz by rw [← h.1]; exact hq)
  have he : es[i]? = some es[i] := List.getElem?_eq_getElem hi
  have hl := h.2.1 _ (List.mem_of_getElem? he)
  have hc : es[i][j]? = some (es[i][j]'(by omega)) := List.getElem?_eq_getElem _
  have := (h.2.2 i j _ _ he hc).2
  rwa [List.getD_eq_getElem?_getD, List.getElem?_eq_getElem hq] at this

theorem ElemsRel.ext {g g' : Ghost} (he : Ext g g') {sz : Nat} {es : List (List AV)} {vs : List Value} (h : ElemsRel g sz es vs) : ElemsRel g' sz es vs :=
  ⟨h.1, h.2.1, fun i j e c a b => ⟨(h.2.2 i j e c a b).1.ext he, (h.2.2 i j e c a b).2⟩⟩

theorem index_lt {sz i j n : Nat} (hi : i < n) (hj : j < sz) : i * sz + j < n * sz := by
  have := Nat.mul_le_mul_right sz (Nat.succ_le_of_lt hi)
  rw [Nat.succ_mul] at this
  omega

theorem ElemsRel.append {g : Ghost} {sz : Nat} {es fs : List (List AV)} {vs us : List Value} (h : ElemsRel g sz es vs) (k : ElemsRel g sz fs us) : ElemsRel g sz (es ++ fs) (vs ++ us) := by
  refine ⟨by simp [h.1, k.1, Nat.add_mul], fun e he => ?_, fun i j e c hi hj => ?_⟩
  · rcases List.mem_append.1 he with he | he
    · exact h.2.1 e he
    · exact k.2.1 e he
  · by_cases hlt : i < es.length
    · rw [List.getElem?_append_left hlt] at hi
      have hjl : j < sz := by
        rw [← h.2.1 e (List.mem_of_getElem? hi)]
        rcases Nat.lt_or_ge j e.length with h' | h'
        · exact h'
        · simp [List.getElem?_eq_none h'] at hj
      have := h.2.2 i j e c hi hj
      rw [List.getD_eq_getElem?_getD, List.getElem?_append_left (by rw [h.1]; exact index_lt hlt hjl), ← List.getD_eq_getElem?_getD]
      exact this
    · have hge : es.length ≤ i := by omega
      rw [List.getElem?_append_right hge] at hi
      have := k.2.2 (i - es.length) j e c hi hj
      have hidx : i * sz + j = es.length * sz + ((i - es.length) * sz + j) := by
        rw [← Nat.add_assoc, ← Nat.add_mul]
        congr 2
        omega
      rw [hidx, List.getD_eq_getElem?_getD, List.getElem?_append_right (by rw [h.1]; omega), h.1, Nat.add_sub_cancel_left, ← List.getD_eq_getElem?_getD]
      exact this

/-- The elements of an abstract slice. -/
def elemsOf (σ : Store) (sz : Nat) : AV → Option (List (List AV))
  | .nils => some []
  | .list es => some es
  | .own id ver s off len =>
    match σ.get id with
    | some (.cells _ v _ es) => if v = ver ∧ s = sz ∧ off + len ≤ es.length then some ((es.drop off).take len) else none
    | _ => none
  | _ => none

section
variable {P : Program} {B : Nat} {w0 : World} {σ : Store} {g : Ghost} {w : World}

/-- A slice value, its elements in memory. -/
theorem slice_src (h : SR B w0 σ g w) {sz : Nat} {x : AV} {v : Value} (hx : RelV g x v) {es : List (List AV)} (he : elemsOf σ sz x = some es) (hsz : ∀ e, e ∈ es → e.length = sz) :
    ∃ ao c news, v = .slice ao es.length c ∧ ElemsRel g sz es news ∧ (ao = none → es = []) ∧ es.length ≤ maxLen ∧
      ∀ ad, ao = some ad → ∀ j u, news[j]? = some u → w.cell? (ad.add j) = some u := by
  cases hx with
  | nils =>
    simp [elemsOf] at he
    subst he
    exact ⟨none, 0, [], rfl, ⟨by simp, by simp, by simp⟩, fun _ => rfl, by simp, by simp⟩
  | listNil a c =>
    simp [elemsOf] at he
    subst he
    exact ⟨a, c, [], rfl, ⟨by simp, by simp, by simp⟩, fun _ => rfl, by simp, by simp⟩
  | list hΦ hs hb hc h1 hn hcap =>
    rename_i es1 blk off cap s cells
    have he : es1 = es := by simpa [elemsOf] using he
    obtain rfl : es = es1 := he.symm
    obtain ⟨ty, fr, hh, _⟩ := h.phi _ _ hΦ.1
    by_cases hnil : es = []
    · subst hnil
      exact ⟨_, _, [], rfl, ⟨by simp, by simp, by simp⟩, by simp, by simp, by simp⟩
    · have hss : s = sz := by
        obtain ⟨e, rest, rfl⟩ := List.exists_cons_of_ne_nil hnil
        rw [← hs e (by simp), hsz e (by simp)]
      subst hss
      have hl : ((cells.toList.drop off).take (es.length * s)).length = es.length * s := by simp; omega
      have hget : ∀ j, j < es.length * s → ((cells.toList.drop off).take (es.length * s)).getD j undef = cells.getD (off + j) undef := by
        intro j hj
        rw [List.getD_eq_getElem?_getD, List.getElem?_take, if_pos hj, List.getElem?_drop]
        simp
      refine ⟨_, _, (cells.toList.drop off).take (es.length * s), rfl, ⟨hl, hsz, fun i j e c hi hj => ?_⟩, by simp, by omega, fun ad had j u hu => ?_⟩
      · have hi' : i < es.length := by
          rcases Nat.lt_or_ge i es.length with h' | h'
          · exact h'
          · simp [List.getElem?_eq_none h'] at hi
        have hj' : j < s := by
          rw [← hsz e (List.mem_of_getElem? hi)]
          rcases Nat.lt_or_ge j e.length with h' | h'
          · exact h'
          · simp [List.getElem?_eq_none h'] at hj
        rw [hget _ (index_lt hi' hj'), ← Nat.add_assoc]
        exact ⟨hc i j e c hi hj, h1 i j e c hi hj⟩
      · cases had
        have hadd : (⟨blk, off, none⟩ : Addr).add j = ⟨blk, off + j, none⟩ := by unfold Addr.add; split <;> simp_all
        rw [hadd, cell_of_row w blk (off + j) cells ty fr hh]
        rw [List.getElem?_take] at hu
        split at hu
        · rw [List.getElem?_drop] at hu; simpa using hu
        · cases hu
  | own hid hlen hv hp =>
    rename_i id ver s off len
    simp only [elemsOf] at he
    split at he
    · rename_i ty v' s' es0 ho
      split at he
      · rename_i hcond
        obtain ⟨rfl, rfl, hle⟩ := hcond
        cases he
        obtain ⟨p, hpp, h1, h2, h3, h4, cells, h5, h6, h7, h8⟩ := h.objs id _ ho
        obtain ⟨hps, hcap, a, rfl, ha⟩ := (hp p hpp).2 h1
        have hlen' : ((es0.drop off).take len).length = len := by simp; omega
        by_cases hl0 : len = 0
        · subst hl0
          exact ⟨some a, p.cap - off, [], by simp, ⟨by simp, by simp, by simp⟩, by simp, by simp, by simp⟩
        · have ha := ha (by right; omega)
          subst ha
          have hs2 : s' = s := by rw [← h2, hps]
          subst hs2
          have hbound : off * s' + len * s' ≤ cells.size := by
            rw [h6, ← Nat.add_mul]; exact Nat.mul_le_mul_right _ hcap
          have hl : ((cells.toList.drop (off * s')).take (len * s')).length = len * s' := by simp; omega
          refine ⟨_, _, (cells.toList.drop (off * s')).take (len * s'), by rw [hlen'], ⟨by rw [hlen']; exact hl, hsz, fun i j e c hi hj => ?_⟩, by simp, by omega, fun ad had j u hu => ?_⟩
          · have hi' : i < len := by
              rcases Nat.lt_or_ge i len with h' | h'
              · exact h'
              · rw [List.getElem?_take, if_neg (by omega)] at hi; cases hi
            have hj' : j < s' := by
              rw [← hsz e (List.mem_of_getElem? hi)]
              rcases Nat.lt_or_ge j e.length with h' | h'
              · exact h'
              · simp [List.getElem?_eq_none h'] at hj
            rw [List.getElem?_take, if_pos hi', List.getElem?_drop] at hi
            have := h8 (off + i) j e c hi hj
            rw [List.getD_eq_getElem?_getD, List.getElem?_take, if_pos (index_lt hi' hj'), List.getElem?_drop]
            rw [Nat.add_mul, Nat.add_assoc] at this
            simpa using this
          · cases had
            have hadd : (⟨p.blk, off * s', none⟩ : Addr).add j = ⟨p.blk, off * s' + j, none⟩ := by unfold Addr.add; split <;> simp_all
            rw [hadd, cell_of_row w p.blk _ cells ty (0, 0) h5]
            rw [List.getElem?_take] at hu
            split at hu
            · rw [List.getElem?_drop] at hu; simpa using hu
            · cases hu
      · cases he
    · cases he
  | _ => simp [elemsOf] at he

/-! ### append -/
theorem ObjRel.ofOwns {base ver cap gb : Nat} {e : TypeId} {sz : Nat} {es : List (List AV)} {cur : Array Value} {xs : List Value} (hb : w.heap[gb]? = some (.cells cur e (0, 0)))
    (hc : cur.size = cap * sz) (hcap : cap ≤ maxLen) (hn : es.length ≤ cap) (ht : cur.toList.take (es.length * sz) = xs) (hr : ElemsRel g sz es xs) :
    ObjRel g w ⟨ver, gb, sz, cap⟩ (.cells e ver sz es) := by
  refine ⟨rfl, rfl, hn, hcap, cur, hb, hc, hr.2.1, fun i j x c hi hj => ?_⟩
  have := hr.2.2 i j x c hi hj
  have hi' : i < es.length := by
    rcases Nat.lt_or_ge i es.length with h' | h'
    · exact h'
    · simp [List.getElem?_eq_none h'] at hi
  have hj' : j < sz := by
    rw [← hr.2.1 x (List.mem_of_getElem? hi)]
    rcases Nat.lt_or_ge j x.length with h' | h'
    · exact h'
    · simp [List.getElem?_eq_none h'] at hj
  rw [← ht, List.getD_eq_getElem?_getD, List.getElem?_take, if_pos (index_lt hi' hj')] at this
  simpa using this

theorem ObjRel.elems {p : Place} {ty ver sz : Nat} {es : List (List AV)} (h : ObjRel g w p (.cells ty ver sz es)) :
    ∃ cells, w.heap[p.blk]? = some (.cells cells ty (0, 0)) ∧ cells.size = p.cap * sz ∧ p.cap ≤ maxLen ∧ p.ver = ver ∧ p.sz = sz ∧ es.length ≤ p.cap ∧
      ∀ n, n ≤ es.length → ElemsRel g sz (es.take n) (cells.toList.take (n * sz)) := by
  obtain ⟨h1, h2, h3, h4, cells, h5, h6, h7, h8⟩ := h
  refine ⟨cells, h5, h6, h4, h1, h2, h3, fun n hn => ?_⟩
  have hlen : (es.take n).length = n := by simp; omega
  have hle : n * sz ≤ cells.size := by rw [h6]; exact Nat.mul_le_mul_right _ (by omega)
  refine ⟨by rw [hlen]; simp; omega, fun e he => h7 e (List.mem_of_mem_take he), fun i j e c hi hj => ?_⟩
  have hi' : i < n := by
    rcases Nat.lt_or_ge i n with h' | h'
    · exact h'
    · rw [List.getElem?_take, if_neg (by omega)] at hi; cases hi
  rw [List.getElem?_take, if_pos hi'] at hi
  have hj' : j < sz := by
    rw [← h7 e (List.mem_of_getElem? hi)]
    rcases Nat.lt_or_ge j e.length with h' | h'
    · exact h'
    · simp [List.getElem?_eq_none h'] at hj
  have := h8 i j e c hi hj
  rw [List.getD_eq_getElem?_getD, List.getElem?_take, if_pos (index_lt hi' hj')]
  simpa using this

theorem run_append_any {t ty e : TypeId} {i : TypeInfo} {z : Value} (ht : P.underlying t = some (.slice e)) (hi : P.info? e = some i) (hz : i.zero = some z) (hzs : z.cells.size = i.size) (hsz : 0 < i.size)
    {v : Value} {n : Nat} {xs : List Value} (hown : w.ownsRow B e i.size v n xs) (hB : B ≤ w.heap.size) {ao : Option Addr} {m c : Nat} {news : List Value} (hl : news.length = m * i.size)
    (hnil : ao = none → m = 0 ∧ c = 0 ∨ m = 0) (hnews : ∀ ad, ao = some ad → ∀ j u, news[j]? = some u → w.cell? (ad.add j) = some u) (h1 : ∀ u ∈ news, u.oneCell' = true)
    (h63 : n + m ≤ maxLen) (hbytes : (n + m) * i.bytes ≤ 140737488355328) :
    ∃ v' w', (Builtin.append_ #[t, t] ty #[v, .slice ao m c]).run P w = .ok v' w' ∧ w'.ownsRow B e i.size v' (n + m) (xs ++ news) ∧ w.grownBy w' v.ownBlock ∧
      (v' = .slice none 0 0 ↔ v = .slice none 0 0 ∧ m = 0) ∧ (v'.ownBlock = v.ownBlock ∨ v'.ownBlock = some w.heap.size) := by
  cases ao with
  | some ad => exact run_append_own_at w B t ty e i z i.size i.bytes ht hi hz rfl rfl hzs hsz v n xs hown ad m c news hl (hnews ad rfl) h1 h63 hbytes hB
  | none =>
    have hm : m = 0 := by rcases hnil rfl with h | h <;> omega
    subst hm
    have hn : news = [] := List.eq_nil_of_length_eq_zero (by simpa using hl)
    subst hn
    rcases hown.2 with ⟨rfl, rfl⟩ | ⟨gb, cap, cur, rfl, hbg, hg, hnc, hcm, hcs, htake⟩
    · refine ⟨.slice none 0 0, w, ?_, by simpa using hown, ⟨rfl, rfl, rfl, Nat.le_refl _, fun _ _ _ => rfl⟩, by simp, .inl rfl⟩
      simp [Builtin.append_, run_underlying ht, sizeOf, typeInfo, hi, Builtin.lenOf, Builtin.firstCells]
    · refine ⟨.slice (some ⟨gb, 0, none⟩) n cap, w, ?_, by simpa using hown, ⟨rfl, rfl, rfl, Nat.le_refl _, fun _ _ _ => rfl⟩, by simp, .inl rfl⟩
      simp [Builtin.append_, run_underlying ht, sizeOf, typeInfo, hi, Builtin.lenOf, Builtin.firstCells, hnc, storeCells]

/-- append onto a nil slice: a new object. -/
theorem op_append_nil (h : SR B w0 σ g w) {t ty e : TypeId} {i : TypeInfo} {z : Value} (ht : P.underlying t = some (.slice e)) (hi : P.info? e = some i) (hz : i.zero = some z) (hzs : z.cells.size = i.size) (hsz : 0 < i.size)
    {x : AV} {vx : Value} (hx : RelV g x vx) {es : List (List AV)} (he : elemsOf σ i.size x = some es) (hes : ∀ q, q ∈ es → q.length = i.size) (hb : es.length * i.bytes ≤ 140737488355328) :
    OpOK P B w0 g w (do pure (.value (← Builtin.append_ #[t, t] ty #[.slice none 0 0, vx])))
      (if es = [] then .nils else .own σ.next 0 i.size 0 es.length) (if es = [] then σ else σ.push (.cells e 0 i.size es)) := by
  obtain ⟨ao, c, news, rfl, hrel, hnone, hml, hcell⟩ := slice_src h hx he hes
  obtain ⟨v', w', hrun, hown, hgrow, hnil, hblk⟩ := run_append_any (v := .slice none 0 0) (n := 0) (xs := []) (ty := ty) ht hi hz hzs hsz (World.ownsRow_nil w B e i.size) h.size hrel.1 (fun ha => .inr (by rw [hnone ha]; rfl)) hcell hrel.one
    (by omega) (by simpa using hb)
  by_cases hem : es = []
  · subst hem
    simp only [if_true]
    have hv := hnil.2 ⟨rfl, rfl⟩
    subst hv
    have hw : w' = w := by
      have hr : (Builtin.append_ #[t, t] ty #[.slice none 0 0, .slice ao ([] : List (List AV)).length c]).run P w = .ok (.slice none 0 0) w := by
        cases ao <;> simp [Builtin.append_, run_underlying ht, sizeOf, typeInfo, hi, Builtin.lenOf, Builtin.firstCells, loadCells, loadCellsFrom]
      rw [hrun] at hr
      cases hr
      rfl
    subst hw
    exact OpOK.value h hrun .nils
  · simp only [hem, if_false]
    have hne : ¬ v' = .slice none 0 0 := fun hv => hem (List.eq_nil_of_length_eq_zero (hnil.1 hv).2)
    rcases hown.2 with ⟨hv, _⟩ | ⟨gb, cap, cur, rfl, hbg, hg, hnc, hcm, hcs, htake⟩
    · exact absurd hv hne
    · have hgb : gb = w.heap.size := by
        rcases hblk with hb2 | hb2 <;> simp [Value.ownBlock] at hb2
        exact hb2
      simp only [Nat.zero_add, List.nil_append] at *
      have hlt : w.heap.size < w'.heap.size := by have := (Array.getElem?_eq_some_iff.1 hg).1; omega
      have hobj : ObjRel g w' ⟨0, gb, i.size, cap⟩ (.cells e 0 i.size es) := ObjRel.ofOwns (base := B) hg hcs hcm hnc htake hrel
      have hSR : SR B w0 (σ.push (.cells e 0 i.size es)) (g.take ⟨0, gb, i.size, cap⟩) w' := by
        have he' := Ext.take g ⟨0, gb, i.size, cap⟩
        refine ⟨h.below.trans ⟨hgrow.os, hgrow.tape, hgrow.output, hgrow.size, fun k hk => hgrow.block k (by have := h.size; omega) (by simp [Value.ownBlock])⟩, by have := h.size; have := hgrow.size; omega,
          fun b cells hb2 => ?_, by show g.next + 1 = σ.next + 1; rw [h.next], fun id y hy => ?_, fun id id' q q' hq hq' hb2 => ?_, fun id q hq => ?_, fun id q hq => ?_⟩
        · obtain ⟨t2, fr, hh, hpt⟩ := h.phi b cells hb2
          exact ⟨t2, fr, by rw [hgrow.block b (Array.getElem?_eq_some_iff.1 hh).1 (by simp [Value.ownBlock])]; exact hh, hpt⟩
        · rw [Store.get_push] at hy
          by_cases hid : id = σ.next
          · subst hid
            simp only [if_true, Option.some.injEq] at hy
            subst hy
            exact ⟨_, by simp [Ghost.take, h.next], hobj.ext he'⟩
          · simp only [hid, if_false] at hy
            obtain ⟨q, hq, hqr⟩ := h.objs id y hy
            have : id ≠ g.next := by rw [h.next]; exact hid
            exact ⟨q, by simp only [Ghost.take, this, if_false]; exact hq, (hqr.world (hgrow.block q.blk (h.fresh id q hq).2.1 (by simp [Value.ownBlock]))).ext he'⟩
        · simp only [Ghost.take] at hq hq'
          split at hq
          · rename_i a1
            split at hq'
            · rename_i a2; rw [a1, a2]
            · cases hq
              have := (h.fresh id' q' hq').2.1
              simp only at hb2
              omega
          · split at hq'
            · cases hq'
              have := (h.fresh id q hq).2.1
              simp only at hb2
              omega
            · exact h.inj id id' q q' hq hq' hb2
        · simp only [Ghost.take] at hq ⊢
          split at hq
          · cases hq; simp only [hgb]; exact h.phi_none
          · exact h.apart id q hq
        · simp only [Ghost.take] at hq ⊢
          split at hq
          · rename_i a1
            cases hq
            exact ⟨hbg, by simp only; omega, by omega⟩
          · obtain ⟨a, b, c'⟩ := h.fresh id q hq
            exact ⟨a, by omega, by omega⟩
      refine OpOK.value' hrun (Ext.take g _) hSR (.own (by simp [Ghost.take, h.next]) (by omega) ⟨_, _, rfl⟩ fun p hp => ?_)
      simp [Ghost.take, h.next] at hp
      subst hp
      exact ⟨Nat.le_refl _, fun _ => ⟨rfl, by simp only; omega, _, by simp; rfl, fun _ => by simp⟩⟩

/-- append onto an owned slice that begins at its head. -/
theorem op_append_own (h : SR B w0 σ g w) {t ty e : TypeId} {i : TypeInfo} {z : Value} (ht : P.underlying t = some (.slice e)) (hi : P.info? e = some i) (hz : i.zero = some z) (hzs : z.cells.size = i.size) (hsz : 0 < i.size)
    {id ver len : Nat} {vs : Value} (hs : RelV g (.own id ver i.size 0 len) vs) {es0 : List (List AV)} (ho : σ.get id = some (.cells e ver i.size es0)) (hle : len ≤ es0.length)
    {x : AV} {vx : Value} (hx : RelV g x vx) {es : List (List AV)} (he : elemsOf σ i.size x = some es) (hes : ∀ q, q ∈ es → q.length = i.size) (hb : (len + es.length) * i.bytes ≤ 140737488355328) (hb2 : len + es.length ≤ maxLen) :
    OpOK P B w0 g w (do pure (.value (← Builtin.append_ #[t, t] ty #[vs, vx])))
      (.own id (ver + 1) i.size 0 (len + es.length)) (σ.upd id (.cells e (ver + 1) i.size (es0.take len ++ es))) := by
  obtain ⟨ao, c, news, rfl, hrel, hnone, hml, hcell⟩ := slice_src h hx he hes
  obtain ⟨p, hp, hobj⟩ := h.objs id _ ho
  obtain ⟨cells, c1, c2, c3, c4, c5, c6, c7⟩ := hobj.elems
  have hel := c7 len hle
  cases hs with
  | own hid hlen hv hpp =>
    obtain ⟨q1, q2, a, rfl, ha⟩ := (hpp p hp).2 c4
    have ha := ha (.inl rfl)
    subst ha
    simp only [Nat.zero_mul, Nat.sub_zero, Nat.zero_add] at *
    have htl : (es0.take len).length = len := by simp; omega
    have hlenx : (cells.toList.take (len * i.size)).length = len * i.size := by rw [hel.1, htl]
    have hown0 : w.ownsRow B e i.size (.slice (some ⟨p.blk, 0, none⟩) len p.cap) len (cells.toList.take (len * i.size)) :=
      ⟨hlenx, .inr ⟨p.blk, p.cap, cells, rfl, (h.fresh id p hp).1, c1, by omega, c3, c2, rfl⟩⟩
    obtain ⟨v', w', hrun, hown, hgrow, hnil, hblk⟩ := run_append_any (ty := ty) ht hi hz hzs hsz hown0 h.size hrel.1 (fun ha => .inr (by rw [hnone ha]; rfl)) hcell hrel.one hb2 hb
    have hne : ¬ v' = .slice none 0 0 := fun hv' => by have := hnil.1 hv'; simp at this
    rcases hown.2 with ⟨hv', _⟩ | ⟨gb, cap, cur, rfl, hbg, hg, hnc, hcm, hcs, htake⟩
    · exact absurd hv' hne
    · have hlen2 : (es0.take len ++ es).length = len + es.length := by simp [htl]
      have hobj' : ObjRel g w' ⟨ver + 1, gb, i.size, cap⟩ (.cells e (ver + 1) i.size (es0.take len ++ es)) :=
        ObjRel.ofOwns (base := B) hg hcs hcm (by rw [hlen2]; exact hnc) (by rw [hlen2]; exact htake) (hel.append hrel)
      have hgbs : gb = p.blk ∨ w.heap.size ≤ gb := by
        rcases hblk with hb3 | hb3 <;> simp [Value.ownBlock] at hb3
        · exact .inl hb3
        · exact .inr (by omega)
      have hv2 : p.ver < (⟨ver + 1, gb, i.size, cap⟩ : Place).ver := by simp only; omega
      have hm := Ext.move (p := ⟨ver + 1, gb, i.size, cap⟩) hp hv2
      refine OpOK.value' hrun hm (h.moved hp hv2 hgbs (Array.getElem?_eq_some_iff.1 hg).1 hgrow.size hgrow.os hgrow.tape hgrow.output
        (fun k hk hkne => hgrow.block k hk (by simp [Value.ownBlock]; exact hkne)) (hobj'.ext hm)) (.own hid (by omega) ⟨_, _, rfl⟩ fun q hq => ?_)
      simp [Ghost.move] at hq
      subst hq
      exact ⟨Nat.le_refl _, fun _ => ⟨rfl, by simp only; omega, _, by simp; rfl, fun _ => by simp⟩⟩

/-! ### make -/
theorem op_makeSlice (h : SR B w0 σ g w) {t e : TypeId} {i : TypeInfo} {z : Value} (ht : P.underlying t = some (.slice e)) (hi : P.info? e = some i) (hz : i.zero = some z) (hzs : z.cells.size = i.size) (hsz : 0 < i.size)
    {za : AV} {cs : List AV} (hza : RelV g za z) (hcs : za.cellsOf = some cs) {kl kc : IntKind} {l c : Int} (h0 : 0 ≤ l) (hlc : l ≤ c) (hbytes : (i.bytes : Int) * c ≤ 281474976710656) (h63 : c ≤ 9223372036854775807) :
    OpOK P B w0 g w (do pure (.value (← Instr.makeSlice t (.int kl l) (.int kc c)))) (.own σ.next 0 i.size 0 l.toNat) (σ.push (.cells e 0 i.size (List.replicate l.toNat cs))) := by
  have hrun := run_make (P := P) w t e i z ht hi hz kl kc l c h0 hlc hbytes h63
  have hcr := hza.cellsRel hcs
  have hcl : cs.length = i.size := by rw [← hcr.1]; simpa using hzs
  have hget : ∀ q, q < c.toNat * i.size → (madeCells z.cells (c.toNat * i.size)).getD q undef = z.cells.toList.getD (q % i.size) undef := by
    intro q hq
    have hm : q % z.cells.size < z.cells.size := Nat.mod_lt _ (by omega)
    simp only [madeCells, Array.getD_eq_getD_getElem?, Array.getElem?_map, Array.getElem?_range, hq, if_true, Option.map_some, Option.getD_some]
    rw [getElem!_pos z.cells (q % z.cells.size) hm, ← hzs]
    simp [List.getElem?_eq_getElem, hm]
  have hobj : ObjRel g (w.alloc (.cells (madeCells z.cells (c.toNat * i.size)) e)) ⟨0, w.heap.size, i.size, c.toNat⟩ (.cells e 0 i.size (List.replicate l.toNat cs)) := by
    refine ⟨rfl, rfl, by simp; omega, by simp [maxLen]; omega, _, heap_alloc_new w _, size_madeCells _ _, fun q hq => by rw [List.eq_of_mem_replicate hq]; exact hcl, fun a j q x ha hj => ?_⟩
    have ha' : a < l.toNat := by
      rcases Nat.lt_or_ge a l.toNat with h' | h'
      · exact h'
      · rw [List.getElem?_eq_none (by simpa using h')] at ha; cases ha
    rw [List.getElem?_replicate, if_pos ha'] at ha
    cases ha
    have hj' : j < i.size := by
      rw [← hcl]
      rcases Nat.lt_or_ge j cs.length with h' | h'
      · exact h'
      · simp [List.getElem?_eq_none h'] at hj
    rw [hget _ (index_lt (by omega) hj'), Nat.mul_comm a, Nat.mul_add_mod, Nat.mod_eq_of_lt hj']
    exact hcr.2 j x hj
  refine OpOK.value' hrun (.take g _) (h.allocOwned _ _ ⟨0, w.heap.size, i.size, c.toNat⟩ rfl hobj) (.own (by simp [Ghost.take, h.next]) (by simp [maxLen]; omega) ⟨_, _, rfl⟩ fun p hp => ?_)
  simp [Ghost.take, h.next] at hp
  subst hp
  exact ⟨Nat.le_refl _, fun _ => ⟨rfl, by simp only; omega, _, by simp; rfl, fun _ => by simp⟩⟩
end
end Go.AL
