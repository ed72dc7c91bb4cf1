/- What New, Set, Alloc and Collect do, told by the nodes at addresses. -/
import Derived.Test.YtoejjhehpbmgbaaAHg
set_option linter.unusedVariables false
set_option linter.unusedSimpArgs false
namespace Go.AL
/-- The addresses that have nodes. -/
def Hp.addrs (H : Hp) : List Int := ((List.range H.cells.length).filter fun i => ((H.cells[i]?).bind (·.1)).isSome).map fun (i : Nat) => (i : Int)
theorem mem_addrs {H : Hp} {a : Int} : a ∈ H.addrs ↔ H.has a = true := by
  unfold Hp.addrs Hp.has Hp.at
  simp only [List.mem_map, List.mem_filter, List.mem_range]
  constructor
  · rintro ⟨i, ⟨h1, h2⟩, rfl⟩
    simpa using h2
  · intro h
    by_cases h0 : 0 ≤ a
    · simp only [h0, if_true] at h
      refine ⟨a.toNat, ⟨?_, h⟩, by omega⟩
      rcases hc : H.cells[a.toNat]? with _ | c
      · simp [hc] at h
      · exact (List.getElem?_eq_some_iff.mp hc).1
    · simp [h0] at h
theorem nodup_addrs (H : Hp) : H.addrs.Nodup := by
  unfold Hp.addrs
  refine List.Pairwise.map (fun (i : Nat) => (i : Int)) (fun a b h => by simpa using h) ?_
  exact ((List.nodup_range (n := H.cells.length)).filter _).imp fun h e => h (by omega)
theorem countP_range {C : List Cl} : (C.countP fun c => c.1.isSome) = ((List.range C.length).filter fun i => ((C[i]?).bind (·.1)).isSome).length := by
  rw [← List.countP_eq_length_filter]
  induction C with
  | nil => rfl
  | cons c C ih =>
    rw [List.countP_cons, List.length_cons, List.range_succ_eq_map, List.countP_cons, List.countP_map, ih]
    congr 1
theorem Hp.Good.live_addrs {H : Hp} (hG : H.Good) : H.live = H.addrs.length := by
  rw [hG.live, countP_range]; simp [Hp.addrs]
/-- As many nodes stand in an arena as a list has addresses. -/
theorem Hp.Good.live_card {H : Hp} (hG : H.Good) {l : List Int} (hn : l.Nodup) (hm : ∀ a, a ∈ l ↔ H.has a = true) : H.live = l.length := by
  rw [hG.live_addrs]
  have : H.addrs.Perm l := (List.perm_ext_iff_of_nodup (nodup_addrs H) hn).mpr fun a => by rw [mem_addrs, hm]
  rw [this.length_eq]
theorem at_none {H : Hp} {a : Int} : H.has a = false ↔ H.at a = none := by unfold Hp.has; simp
theorem at_has {H : Hp} {a : Int} {x : Nd} (h : H.at a = some x) : H.has a = true := by unfold Hp.has; rw [h]; rfl
theorem has_nonneg {H : Hp} {a : Int} (h : H.has a = true) : 0 ≤ a := (has_iff.mp h).1
theorem at_set {H : Hp} {i : Nat} (hi : i < H.cells.length) (x : Nd) {H' : Hp} (h' : H'.cells = H.cells.set i (some x, false)) (b : Int) : H'.at b = if b = i then some x else H.at b := by
  unfold Hp.at
  rw [h']
  by_cases h0 : 0 ≤ b
  · simp only [h0, if_true, List.getElem?_set]
    by_cases hb : i = b.toNat
    · have : b = i := by omega
      rw [if_pos hb, if_pos hi, if_pos this]; rfl
    · have : ¬ b = i := by omega
      rw [if_neg hb, if_neg this]
  · have : ¬ b = i := by omega
    simp [h0, this]
theorem at_append {H : Hp} (x : Nd) {H' : Hp} (h' : H'.cells = H.cells ++ [(some x, false)]) (b : Int) : H'.at b = if b = H.cells.length then some x else H.at b := by
  unfold Hp.at
  rw [h']
  by_cases h0 : 0 ≤ b
  · simp only [h0, if_true]
    by_cases hb : b = H.cells.length
    · subst hb; simp
    · simp only [hb, if_false]
      by_cases hl : b.toNat < H.cells.length
      · rw [List.getElem?_append_left hl]
      · rw [List.getElem?_append_right (by omega), List.getElem?_eq_none (l := H.cells) (by omega), List.getElem?_eq_none (by simp; omega)]
  · have : ¬ b = H.cells.length := by omega
    simp [h0, this]
/-- Alloc, by addresses: the least free one. -/
theorem alloc_spec {H : Hp} (hG : H.Good) (x : Nd) (hal : H.all x.l = true) (hl : H.live < H.cap) :
    ∃ a : Int, (H.alloc x).2 = (a, 0) ∧ 0 ≤ a ∧ H.has a = false ∧ (∀ b, 0 ≤ b → b < a → H.has b = true) ∧ (∀ b, (H.alloc x).1.at b = if b = a then some x else H.at b) ∧ (H.alloc x).1.live = H.live + 1 ∧
      (H.alloc x).1.cap = H.cap ∧ (H.alloc x).1.allocs = IntKind.i64.wrap (H.allocs + 1) := by
  have hfull : ¬ H.cap ≤ H.live := by omega
  rcases hf : H.free.getLast? with _ | a
  · have hfree : H.free = [] := List.getLast?_eq_none_iff.mp hf
    have e : H.alloc x = ({ H with live := H.live + 1, allocs := IntKind.i64.wrap (H.allocs + 1), cells := H.cells ++ [(some x, false)] }, (H.cells.length : Int), 0) := by simp [Hp.alloc, hal, hfull, hf]
    rw [e]
    refine ⟨H.cells.length, rfl, by omega, ?_, ?_, ?_, rfl, rfl, rfl⟩
    · simp [Hp.has, Hp.at]
    · intro b hb hbl
      have hbi : b.toNat < H.cells.length := by omega
      have hemp : freeOf H.cells = [] := by rw [← hG.free]; exact hfree
      simp only [freeOf, List.map_eq_nil_iff, List.reverse_eq_nil_iff, List.filter_eq_nil_iff, List.mem_range] at hemp
      have := hemp b.toNat hbi
      simp only [Hp.has, Hp.at, hb, if_true]
      cases hz : ((H.cells[b.toNat]?).bind (·.1)) with
      | none => exact absurd (by rw [hz]; rfl) this
      | some z => rfl
    · intro b; exact at_append x rfl b
  · obtain ⟨pre, hpre⟩ := List.getLast?_eq_some_iff.mp hf
    obtain ⟨h0, hlt, m, hc⟩ := hG.inFree (a := a) (by rw [hpre]; simp)
    have e : H.alloc x = ({ H with live := H.live + 1, allocs := IntKind.i64.wrap (H.allocs + 1), cells := H.cells.set a.toNat (some x, false), free := H.free.dropLast }, a, 0) := by simp [Hp.alloc, hal, hfull, hf]
    rw [e]
    refine ⟨a, rfl, h0, ?_, ?_, ?_, rfl, rfl, rfl⟩
    · simp [Hp.has, Hp.at, h0, hc]
    · intro b hb hba
      have hbi : b.toNat < H.cells.length := by omega
      cases hh : H.has b with
      | true => rfl
      | false =>
        exfalso
        have hbf : b ∈ H.free := by
          rw [hG.free]
          simp only [freeOf, List.mem_map, List.mem_reverse, List.mem_filter, List.mem_range]
          refine ⟨b.toNat, ⟨hbi, ?_⟩, by omega⟩
          have := at_none.mp hh
          simp only [Hp.at, hb, if_true] at this
          simp [this]
        have hs : (pre ++ [a]).Pairwise (fun p q => q < p) := by
          rw [← hpre, hG.free]
          unfold freeOf
          refine List.Pairwise.map (fun (i : Nat) => (i : Int)) (fun p q (h : q < p) => by simpa using h) ?_
          rw [List.pairwise_reverse]
          exact (List.pairwise_lt_range (n := H.cells.length)).filter _
        rw [hpre] at hbf
        simp only [List.mem_append, List.mem_singleton] at hbf
        rcases hbf with h | h
        · have := (List.pairwise_append.mp hs).2.2 b h a (by simp)
          omega
        · omega
    · intro b
      have := at_set (H := H) hlt x (H' := { H with live := H.live + 1, allocs := IntKind.i64.wrap (H.allocs + 1), cells := H.cells.set a.toNat (some x, false), free := H.free.dropLast }) rfl b
      rw [this]
      have : (b = (a.toNat : Int)) = (b = a) := by apply propext; omega
      simp only [this]
theorem alloc_full {H : Hp} (x : Nd) (hal : H.all x.l = true) (hl : H.cap ≤ H.live) : H.alloc x = (H, 0, 160) := by simp [Hp.alloc, hal, hl]
theorem alloc_bad {H : Hp} (x : Nd) (hal : H.all x.l = false) : H.alloc x = (H, 0, 161) := by simp [Hp.alloc, hal]
/-- The least free address is one. -/
theorem least_unique {H : Hp} {a b : Int} (ha : 0 ≤ a) (hb : 0 ≤ b) (na : H.has a = false) (nb : H.has b = false) (la : ∀ c, 0 ≤ c → c < a → H.has c = true) (lb : ∀ c, 0 ≤ c → c < b → H.has c = true) : a = b := by
  rcases Int.lt_trichotomy a b with h | h | h
  · have := lb a ha h; rw [na] at this; cases this
  · exact h
  · have := la b hb h; rw [nb] at this; cases this
/-- Collect, by addresses. -/
theorem collect_spec {H : Hp} (hG : H.Good) {roots : List Int} (hr : H.all roots = true) {C : List Cl} (hM : MI H.cells roots C []) :
    (H.sweep C).Good ∧ (∀ a, (Reach H.cells roots a → (H.sweep C).at a = H.at a ∧ H.has a = true) ∧ (¬ Reach H.cells roots a → (H.sweep C).at a = none)) ∧
      (sweepN C : Int) = H.live - (H.sweep C).live ∧ (H.sweep C).cap = H.cap ∧ (H.sweep C).allocs = H.allocs := by
  refine ⟨hG.sweep hM, fun a => ⟨fun h => ?_, fun h => ?_⟩, ?_, rfl, rfl⟩
  · have hh : H.has a = true := by
      cases h with
      | root h => exact (List.all_eq_true.mp hr) a h
      | step h1 h2 h3 => exact Go.Proofs.Ytoejjhehpbmgbaa.Good.ptrs hG _ _ h2 a h3
    exact ⟨node_sweep hM.same ((hM.done (has_nonneg hh)).mpr h), hh⟩
  · apply at_none.mp
    rw [has_sweep hM.same]
    by_cases h0 : 0 ≤ a
    · have : mrk C a = false := by
        cases hm : mrk C a with
        | false => rfl
        | true => exact absurd ((hM.done h0).mp hm) h
      simp [this]
    · simp [h0]
  · simp only [Hp.sweep]; omega
theorem weight_le' {C : List Cl} {B : Nat} (h : ∀ (i : Nat) (x : Nd) (m : Bool), C[i]? = some (some x, m) → x.l.length ≤ B) : weight C ≤ C.length * (B + 1) := by
  induction C with
  | nil => simp [weight]
  | cons c C ih =>
    obtain ⟨n, m⟩ := c
    have := ih fun i x m' hx => h (i + 1) x m' (by simpa using hx)
    cases n with
    | none => simp only [weight, List.length_cons, Nat.add_mul, Nat.one_mul]; split <;> omega
    | some x =>
      have h0 := h 0 x m rfl
      simp only [weight, List.length_cons, Nat.add_mul, Nat.one_mul]
      split <;> omega
theorem weight_le {H : Hp} {B : Nat} (h : ∀ a x, H.at a = some x → x.l.length ≤ B) : weight H.cells ≤ H.cells.length * (B + 1) := by
  refine weight_le' fun i x m hx => h (i : Int) x ?_
  simp [Hp.at, hx]
/-- An arena that is new. -/
def Hp.mk0 (cap : Int) : Hp := ⟨cap, [], [], 0, 0⟩
theorem Hp.mk0_good {cap : Int} (h : 1 ≤ cap ∧ cap ≤ 16777216) : (Hp.mk0 cap).Good := ⟨h, rfl, rfl, by simp [Hp.clean, Hp.mk0], by simp [Hp.mk0]; omega, by simp [Hp.mk0]⟩
theorem mk0_at (cap a : Int) : (Hp.mk0 cap).at a = none := by simp [Hp.mk0, Hp.at]
/-- A step on arguments that are told more weakly. -/
theorem ACalls_args {P : Program} {f : FuncId} {args args' : List AV} {σ : Store} {K : AV → Store → Prop} (h : LeL args args') (k : ACalls P f args' σ K) : ACalls P f args σ K :=
  fun B w0 g w vs hS hl hrel => k B w0 g w vs hS (by rw [hl, h.get.1]) fun j a ha => by
    rcases hx : args[j]? with _ | x
    · rw [List.getElem?_eq_none_iff] at hx
      have := (List.getElem?_eq_some_iff.mp ha).1
      have := h.get.1
      omega
    · exact (hrel j x hx).le (h.get.2 j x a hx ha)
end Go.AL
