/- The arena's good state is kept by Set, Alloc and Collect. -/
import Derived.Test.YtoejjhehpbmgbaaAHe
set_option linter.unusedVariables false
set_option linter.unusedSimpArgs false
namespace Go.AL

theorem used_get {C C' : List Cl} (h : C.map (fun c => c.1.isSome) = C'.map (fun c => c.1.isSome)) (i : Nat) : ((C[i]?).bind (·.1)).isNone = ((C'[i]?).bind (·.1)).isNone := by
  have := congrArg (·[i]?) h
  simp only [List.getElem?_map] at this
  rcases h1 : C[i]? with _ | ⟨_ | x, m⟩ <;> rcases h2 : C'[i]? with _ | ⟨_ | y, m'⟩ <;> simp_all
theorem freeOf_congr {C C' : List Cl} (h : C.map (fun c => c.1.isSome) = C'.map (fun c => c.1.isSome)) : freeOf C = freeOf C' := by
  have hl : C.length = C'.length := by simpa using congrArg List.length h
  unfold freeOf
  rw [hl]
  congr 2
  exact List.filter_congr fun i _ => used_get h i
theorem countP_used (C : List Cl) : (C.countP fun c => c.1.isSome) = (C.map fun c => c.1.isSome).countP id := by
  rw [List.countP_map]; rfl
theorem all_mono {H H' : Hp} (hm : ∀ a, H.has a = true → H'.has a = true) {l : List Int} (h : H.all l = true) : H'.all l = true := by
  simp only [Hp.all, List.all_eq_true] at h ⊢
  exact fun a ha => hm a (h a ha)
theorem has_iff {H : Hp} {a : Int} : H.has a = true ↔ 0 ≤ a ∧ ∃ x m, H.cells[a.toNat]? = some (some x, m) := by
  constructor
  · intro h
    obtain ⟨x, h1, h2, m, h3⟩ := Hp.has_at h
    exact ⟨h2, x, m, h3⟩
  · rintro ⟨h0, x, m, h⟩
    exact Hp.has_of h0 h

theorem Hp.Good.set {H : Hp} (hG : H.Good) (a : Int) (x : Nd) : (H.set a x).1.Good := by
  unfold Hp.set
  split
  · rename_i h
    obtain ⟨h1, h2⟩ := h
    obtain ⟨h0, y, m, hc⟩ := has_iff.mp h1
    have hlt := (List.getElem?_eq_some_iff.mp hc).1
    have hu : (H.cells.set a.toNat (some x, false)).map (fun c => c.1.isSome) = H.cells.map (fun c => c.1.isSome) := by
      apply List.ext_getElem?
      intro j
      simp only [List.getElem?_map, List.getElem?_set]
      split
      · rename_i hj; subst hj; rw [hc]; rfl
      · rfl
    have hm : ∀ b, H.has b = true → ({ H with cells := H.cells.set a.toNat (some x, false) } : Hp).has b = true := by
      intro b hb
      obtain ⟨k0, z, m', hz⟩ := has_iff.mp hb
      refine has_iff.mpr ⟨k0, ?_⟩
      simp only [List.getElem?_set]
      split
      · exact ⟨x, false, rfl⟩
      · exact ⟨z, m', hz⟩
    refine ⟨hG.cap, ?_, ?_, ?_, ?_, ?_⟩
    · simp only [countP_used, hu]; rw [← countP_used]; exact hG.live
    · simp only; rw [freeOf_congr hu]; exact hG.free
    · intro c hc'
      simp only at hc'
      rcases List.mem_or_eq_of_mem_set hc' with h | rfl
      · exact hG.clean c h
      · rfl
    · simpa using hG.len
    · intro c hc' y' hy
      simp only at hc'
      rcases List.mem_or_eq_of_mem_set hc' with h | rfl
      · exact all_mono hm (hG.ptr c h y' hy)
      · simp at hy; subst hy; exact all_mono hm h2
  · exact hG

theorem countP_set_used {C : List Cl} {i : Nat} {m : Bool} (h : C[i]? = some (none, m)) (x : Nd) : (C.set i (some x, false)).countP (fun c => c.1.isSome) = C.countP (fun c => c.1.isSome) + 1 := by
  induction C generalizing i with
  | nil => simp at h
  | cons c C ih =>
    cases i with
    | zero => simp at h; subst h; simp
    | succ i =>
      simp at h
      have := ih h
      simp only [List.set_cons_succ, List.countP_cons, this]
      omega
theorem freeOf_set {C : List Cl} {i : Nat} (hi : i < C.length) (x : Nd) : freeOf (C.set i (some x, false)) = (freeOf C).filter fun b => b != (i : Int) := by
  unfold freeOf
  rw [List.length_set, List.filter_map, List.filter_reverse, List.filter_filter]
  congr 2
  apply List.filter_congr
  intro j _
  simp only [List.getElem?_set, Function.comp_apply]
  by_cases h : i = j
  · subst h; simp [hi]
  · have : ¬ (j : Int) = (i : Int) := by omega
    simp [h, this]
theorem freeOf_append {C : List Cl} (x : Nd) (m : Bool) : freeOf (C ++ [(some x, m)]) = freeOf C := by
  unfold freeOf
  rw [List.length_append, List.length_singleton, List.range_succ, List.filter_append]
  have e1 : ([C.length].filter fun i => (((C ++ [(some x, m)])[i]?).bind (·.1)).isNone) = [] := by simp
  rw [e1, List.append_nil]
  congr 2
  apply List.filter_congr
  intro j hj
  rw [List.getElem?_append_left (by simpa using hj)]
theorem freeOf_nodup (C : List Cl) : (freeOf C).Nodup := by
  unfold freeOf
  refine List.Pairwise.map (fun (i : Nat) => (i : Int)) (fun a b h => by simpa using h) ?_
  rw [List.pairwise_reverse]
  have := (List.nodup_range (n := C.length)).filter (fun i => ((C[i]?).bind (·.1)).isNone)
  exact this.imp fun h e => h (by omega)

theorem Hp.Good.alloc {H : Hp} (hG : H.Good) (x : Nd) : (H.alloc x).1.Good := by
  unfold Hp.alloc
  split
  · rename_i hal
    split
    · exact hG
    · rename_i hfull
      split
      · rename_i a ha
        obtain ⟨pre, hpre⟩ : ∃ pre, H.free = pre ++ [a] := by
          have := List.getLast?_eq_some_iff.mp ha
          exact this
        obtain ⟨h0, hlt, m, hc⟩ := hG.inFree (a := a) (by rw [hpre]; simp)
        have hm : ∀ b, H.has b = true → ({ H with live := H.live + 1, allocs := IntKind.i64.wrap (H.allocs + 1), cells := H.cells.set a.toNat (some x, false), free := H.free.dropLast } : Hp).has b = true := by
          intro b hb
          obtain ⟨k0, z, m', hz⟩ := has_iff.mp hb
          refine has_iff.mpr ⟨k0, ?_⟩
          simp only [List.getElem?_set]
          split
          · exact ⟨x, false, rfl⟩
          · exact ⟨z, m', hz⟩
        refine ⟨hG.cap, ?_, ?_, ?_, ?_, ?_⟩
        · simp only [countP_set_used hc x]; have := hG.live; omega
        · simp only [freeOf_set hlt x]
          rw [← hG.free, hpre, List.dropLast_concat, List.filter_append]
          have hn : (pre ++ [a]).Nodup := by rw [← hpre, hG.free]; exact freeOf_nodup _
          rw [List.nodup_append] at hn
          have e1 : ([a].filter fun b => b != (a.toNat : Int)) = [] := by simp; omega
          rw [e1, List.append_nil]
          symm
          rw [List.filter_eq_self]
          intro b hb
          have := hn.2.2 b hb a (by simp)
          simp; omega
        · intro c hc'
          simp only at hc'
          rcases List.mem_or_eq_of_mem_set hc' with h | rfl
          · exact hG.clean c h
          · rfl
        · simpa using hG.len
        · intro c hc' y' hy
          simp only at hc'
          rcases List.mem_or_eq_of_mem_set hc' with h | rfl
          · exact all_mono hm (hG.ptr c h y' hy)
          · simp at hy; subst hy; exact all_mono hm hal
      · rename_i hnone
        have hfree : H.free = [] := List.getLast?_eq_none_iff.mp hnone
        have hm : ∀ b, H.has b = true → ({ H with live := H.live + 1, allocs := IntKind.i64.wrap (H.allocs + 1), cells := H.cells ++ [(some x, false)] } : Hp).has b = true := by
          intro b hb
          obtain ⟨k0, z, m', hz⟩ := has_iff.mp hb
          refine has_iff.mpr ⟨k0, z, m', ?_⟩
          rw [List.getElem?_append_left (List.getElem?_eq_some_iff.mp hz).1]; exact hz
        have hcl := freeOf_nil (l := H.cells) (by rw [← hG.free]; exact hfree)
        have hlv := hG.live
        refine ⟨hG.cap, ?_, ?_, ?_, ?_, ?_⟩
        · simp only [List.countP_append]; simp; omega
        · simp only [freeOf_append]; exact hG.free
        · intro c hc'
          simp only [List.mem_append, List.mem_singleton] at hc'
          rcases hc' with h | rfl
          · exact hG.clean c h
          · rfl
        · simp only [List.length_append, List.length_singleton]; omega
        · intro c hc' y' hy
          simp only [List.mem_append, List.mem_singleton] at hc'
          rcases hc' with h | rfl
          · exact all_mono hm (hG.ptr c h y' hy)
          · simp at hy; subst hy; exact all_mono hm hal
  · exact hG

theorem countP_sweep (C : List Cl) : (C.map swc).countP (fun c => c.1.isSome) + sweepN C = C.countP (fun c => c.1.isSome) := by
  unfold sweepN
  induction C with
  | nil => rfl
  | cons c C ih =>
    simp only [List.map_cons, List.countP_cons] at ih ⊢
    rcases c with ⟨_ | x, _ | _⟩ <;> simp only [swc, Option.isSome_none, Option.isSome_some, if_true, if_false, Bool.false_eq_true, Bool.not_true, Bool.not_false, Bool.and_true, Bool.and_false, Bool.false_and] <;> omega
theorem has_sweep {H : Hp} {C : List Cl} (h : C.map (·.1) = H.cells.map (·.1)) (a : Int) : (H.sweep C).has a = (decide (0 ≤ a) && mrk C a && H.has a) := by
  unfold Hp.has
  rw [Hp.at_node, Hp.at_node, ← nodeAt_same h]
  unfold nodeAt Hp.sweep mrk
  by_cases h0 : 0 ≤ a
  · simp only [h0, if_true, List.getElem?_map, decide_true, Bool.true_and]
    rcases C[a.toNat]? with _ | ⟨_ | x, _ | _⟩ <;> simp [swc]
  · simp [h0]
theorem node_sweep {H : Hp} {C : List Cl} (h : C.map (·.1) = H.cells.map (·.1)) {a : Int} (hm : mrk C a = true) : (H.sweep C).at a = H.at a := by
  rw [Hp.at_node, Hp.at_node, ← nodeAt_same h]
  unfold nodeAt Hp.sweep
  unfold mrk at hm
  split
  · simp only [List.getElem?_map]
    rcases hc : C[a.toNat]? with _ | ⟨n, m⟩
    · simp
    · simp [hc] at hm; subst hm; simp [swc]
  · rfl
theorem Hp.Good.sweep {H : Hp} (hG : H.Good) {roots : List Int} {C : List Cl} (hM : MI H.cells roots C []) : (H.sweep C).Good := by
  have hp := Go.Proofs.Ytoejjhehpbmgbaa.Good.ptrs hG
  have hlen : C.length = H.cells.length := by simpa using congrArg List.length hM.same
  have hcnt : C.countP (fun c => c.1.isSome) = H.cells.countP (fun c => c.1.isSome) := by
    have : C.map (fun c => c.1.isSome) = H.cells.map (fun c => c.1.isSome) := by
      have := congrArg (List.map Option.isSome) hM.same
      rw [List.map_map, List.map_map] at this; exact this
    rw [countP_used, countP_used, this]
  refine ⟨hG.cap, ?_, rfl, ?_, ?_, ?_⟩
  · have := countP_sweep C
    have := hG.live
    simp only [Hp.sweep]; omega
  · intro c hc
    simp only [Hp.sweep, List.mem_map] at hc
    obtain ⟨c', _, rfl⟩ := hc
    rfl
  · simp only [Hp.sweep, List.length_map, hlen]; exact hG.len
  · intro c hc x hx
    simp only [Hp.sweep] at hc
    obtain ⟨c', hc', rfl⟩ := List.mem_map.mp hc
    obtain ⟨i, hi⟩ := List.mem_iff_getElem?.mp hc'
    obtain ⟨n, m⟩ := c'
    cases m with
    | false => simp [swc] at hx
    | true =>
      simp [swc] at hx; subst hx
      have hnode : nodeAt H.cells (i : Int) = some x := by rw [← nodeAt_same hM.same]; simp [nodeAt, hi]
      have hmi : mrk C (i : Int) = true := by simp [mrk, hi]
      have hr : Reach H.cells roots (i : Int) := (hM.done (by omega)).mp hmi
      simp only [Hp.all, List.all_eq_true]
      intro b hb
      have hbn := hp _ _ hnode b hb
      obtain ⟨y, hy⟩ := Option.isSome_iff_exists.mp hbn
      have hb0 := (nodeAt_cell hy).1
      have hbm : mrk C b = true := (hM.done hb0).mpr (.step hr hnode hb)
      rw [has_sweep hM.same, hbm]
      simp only [hb0, decide_true, Bool.and_self, Bool.true_and]
      exact hbn
end Go.AL
