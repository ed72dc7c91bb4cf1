/- The abstract layer, part 10c: a row of operations whose order is drawn is run as its plan says. -/
import Derived.Test.YtjjbjibbjbbeaaaAL10b
set_option linter.unusedVariables false
set_option linter.unusedSimpArgs false
namespace Go.AL
open Go.RowKit

/-- A plan: the variables that are made first and written later (which makes, which writes, the slot), the order, what must tell the same still. -/
structure Plan where
  fu : List (Nat × Nat × Nat)
  ord : List Nat
  rs : List (List Nat)

def pw (f : Nat → Nat → Bool) : List Nat → Bool
  | [] => true
  | a :: l => l.all (f a) && pw f l
theorem pw_spec {f : Nat → Nat → Bool} : ∀ {l : List Nat}, pw f l = true → l.Pairwise (fun a b => f a b = true)
  | [], _ => .nil
  | a :: l, h => by
    simp only [pw, Bool.and_eq_true] at h
    exact .cons (fun b hb => List.all_eq_true.1 h.1 b hb) (pw_spec h.2)

def itemsOf (al : List AOper) (fu : List (Nat × Nat × Nat)) (i : Nat) : List AOper :=
  match fu.find? (fun f => f.2.1 == i) with
  | some f => (al[f.1]?).toList ++ (al[i]?).toList
  | none => (al[i]?).toList
def fuOK (b : Array Nat) (al : List AOper) (f : Nat × Nat × Nat) : Bool :=
  (match al[f.1]? with
   | some ⟨some t, .new _ (.c z), none⟩ => t == f.2.2 && (match z.cellsOf with | some zc => zc.all AV.flat | none => false)
   | _ => false) &&
  (match al[f.2.1]? with | some ⟨none, .store _ (.t t) _, none⟩ => t == f.2.2 | _ => false) &&
  (b.getD f.2.1 0).testBit f.1 &&
  (al.zipIdx.all fun p => p.2 == f.1 || p.1.dst != some f.2.2)
def planOK (ops : Array Oper) (al : List AOper) (p : Plan) : Bool :=
  let b := aheads ops.toList #[]
  let it := itemsOf al p.fu
  let R := fun i => p.rs.getD i []
  (ops.toList.zipIdx.all fun x => x.1.after.all fun e => !Region.binds .any e || decide (e.on < x.2)) &&
  ((List.range ops.size).all fun i => p.ord.contains i || p.fu.any (·.1 == i)) &&
  (p.ord.all fun i => !(p.fu.any (·.1 == i)) && decide (i < ops.size)) &&
  p.fu.all (fuOK b al) &&
  p.fu.all (fun f => p.fu.all fun f' => (f.2.1 == f'.2.1) == (f.1 == f'.1)) &&
  pw (fun x y => x != y && ((b.getD y 0).testBit x || pairOK it R x y) && (!(p.rs.any fun l => l.contains x) || safe it x y)) p.ord &&
  (p.rs.all fun l => l.all fun k => quietI (it k))

/-- What a plan comes to. -/
def opsN (P : Program) : List (List AOper × List AOper) → (Nat → AV) → Store → ((Nat → AV) → Store → Prop) → Prop
  | [], tm, σ, K => K tm σ
  | (os, cs) :: rest, tm, σ, K => opsWp P os tm σ fun tm' σ' => (∀ c, c ∈ cs → Still P c tm' σ') ∧ opsN P rest tm' σ' K
def Plan.code (p : Plan) (al : List AOper) : List (List AOper × List AOper) :=
  p.ord.map fun i => (itemsOf al p.fu i, (p.rs.getD i []).flatMap (itemsOf al p.fu))
def junks (js : List Nat) (tm : Nat → AV) : Nat → AV := js.foldl (fun t j => put t (some j) .junk) tm
theorem junks_cases : ∀ (js : List Nat) (tm : Nat → AV) (i : Nat), junks js tm i = .junk ∨ junks js tm i = tm i
  | [], tm, i => .inr rfl
  | j :: js, tm, i => by
    show junks js (put tm (some j) .junk) i = .junk ∨ junks js (put tm (some j) .junk) i = tm i
    rcases junks_cases js (put tm (some j) .junk) i with h | h
    · exact .inl h
    · rw [h]
      by_cases e : i = j
      · left; simp [put, e]
      · right; simp [put, e]
theorem junks_mem : ∀ (js : List Nat) (tm : Nat → AV) (i : Nat), (i ∈ js ∨ tm i = .junk) → junks js tm i = .junk
  | [], tm, i, h => by simpa [junks] using h
  | j :: js, tm, i, h => by
    refine junks_mem js (put tm (some j) .junk) i ?_
    by_cases e : i = j
    · right; simp [put, e]
    · rcases h with h | h
      · simp [e] at h; exact .inl h
      · right; simp [put, e, h]

section
variable {P : Program}
theorem DR_of_opsN {it : Nat → List AOper} {R : Nat → List Nat} {K : (Nat → AV) → Store → Prop} : ∀ (L acc : List Nat) (tm : Nat → AV) (σ : Store),
    opsN P (L.map fun i => (it i, (R i).flatMap it)) tm σ K → DR P it R K acc L tm σ
  | [], _, _, _, h => h
  | i :: L, acc, tm, σ, h => opsWp_mono (fun t s ⟨h1, h2⟩ => ⟨fun k _ hk o ho => h1 o (List.mem_flatMap.2 ⟨k, hk, by simp [ho]⟩), DR_of_opsN L _ t s h2⟩) h

variable {B : Nat} {w0 : World} {n : Nat} {ops : Array Oper} {Q : Exit → Act → World → Prop}
/-- A variable that is made and not yet written. -/
def Pend (al : List AOper) (g0 g : Ghost) (B : Nat) (a : Act) (f : Nat × Nat × Nat) (b : Nat) : Prop :=
  ∃ ty z zc cells cap, al[f.1]? = some ⟨some f.2.2, .new ty (.c z), none⟩ ∧ z.cellsOf = some zc ∧ g.Φ b = some cells ∧ g.vis b = some ty ∧ B ≤ b ∧ g0.Φ b = none ∧ cells.size = cap * zc.length ∧ 1 ≤ cap ∧ cap ≤ maxLen ∧
    (∀ (j : Nat) c, zc[j]? = some c → (∀ g, RelV g c (cells.getD j undef)) ∧ (cells.getD j undef).oneCell' = true) ∧ a.tmps.getD f.2.2 undef = .pointer (some ⟨b, 0, none⟩)
theorem Pend.ext {al : List AOper} {g0 g g' : Ghost} {a a' : Act} {f : Nat × Nat × Nat} {b : Nat} (h : Pend al g0 g B a f b) (hΦ : g'.Φ b = g.Φ b) (hv : g'.vis b = g.vis b) (ha : a'.tmps.getD f.2.2 undef = a.tmps.getD f.2.2 undef) : Pend al g0 g' B a' f b := by
  obtain ⟨ty, z, zc, cells, cap, h1, h2, h3, h4, h5, h6, h7, h8, h9, h10, h11⟩ := h
  exact ⟨ty, z, zc, cells, cap, h1, h2, hΦ.trans h3, hv.trans h4, h5, h6, h7, h8, h9, h10, ha.trans h11⟩
theorem Pend.extE {al : List AOper} {g0 g g' : Ghost} {a a' : Act} {f : Nat × Nat × Nat} {b : Nat} (h : Pend al g0 g B a f b) (hE : Ext g g') (ha : a'.tmps.getD f.2.2 undef = a.tmps.getD f.2.2 undef) : Pend al g0 g' B a' f b := by
  have h' := h
  obtain ⟨ty, z, zc, cells, cap, h1, h2, h3, h4, h5⟩ := h
  exact h'.ext (by rw [hE.phi _ _ h3, h3]) (hE.see _ _ h3) ha

theorem put_getD {a : Act} {d : Option Nat} {v : Value} {t : Nat} (h : d ≠ some t) : (a.put d v).tmps.getD t undef = a.tmps.getD t undef := by
  cases d with
  | none => rfl
  | some d =>
    have : d ≠ t := fun e => h (by rw [e])
    simp [Act.put, Array.getElem?_setIfInBounds_ne this]

theorem plan_sound {own : List Nat} {al : List AOper} (hres : ∀ (i : Nat) (o : Oper), ops[i]? = some o → ∃ ao, al[i]? = some ao ∧ resolveOper P own ops n o = some ao) (hlen : al.length = ops.size) {p : Plan} (hok : planOK ops al p = true)
    {K : (Nat → AV) → Store → Prop} {g0 : Ghost} (hK : ∀ tm' σ' g' a' w', K tm' σ' → Ext g0 g' → SR B w0 σ' g' w' → RelT g' n tm' a' → Q .normal a' w') :
    ∀ (fuel : Nat) (listed : Array Bool) (L : List Nat) (tm : Nat → AV) (σ : Store) (g : Ghost) (a : Act) (w : World), listed.size = ops.size → L = p.ord.filter (fun i => !listed.getD i true) →
      ((List.range ops.size).filter (fun i => !listed.getD i true)).length ≤ fuel →
      (∀ (m : Nat) (o : Oper) (e : Edge), listed.getD m false = true → ops[m]? = some o → e ∈ o.after → Region.binds .any e = true → listed.getD e.on false = true) →
      DR P (itemsOf al p.fu) (fun i => p.rs.getD i []) K [] L tm σ →
      (∀ f, f ∈ p.fu → listed.getD f.2.1 true = false → tm f.2.2 = .junk) →
      (∃ pb : Nat → Nat, (∀ f, f ∈ p.fu → listed.getD f.1 false = true → listed.getD f.2.1 true = false → Pend al g0 g B a f (pb f.1)) ∧
        (∀ f f', f ∈ p.fu → f' ∈ p.fu → listed.getD f.1 false = true → listed.getD f.2.1 true = false → listed.getD f'.1 false = true → listed.getD f'.2.1 true = false → f.1 ≠ f'.1 → pb f.1 ≠ pb f'.1)) →
      Ext g0 g → SR B w0 σ g w → RelT g n tm a → wpAny P .any ops Q fuel listed a w := by
  simp only [planOK, Bool.and_eq_true] at hok
  obtain ⟨⟨⟨⟨⟨⟨c0, c1⟩, c2⟩, c3⟩, c3'⟩, c4⟩, c5⟩ := hok
  have c4' := pw_spec c4
  -- what is ahead is listed
  have hahead : ∀ {i j : Nat} {listed : Array Bool}, ((aheads ops.toList #[]).getD j 0).testBit i = true → Ahead ops i j := fun h => aheads_spec ops.toList #[] (by simp) (by simp) _ _ h
  have hedge : ∀ {j : Nat} {o : Oper} {e : Edge}, ops[j]? = some o → e ∈ o.after → Region.binds .any e = true → e.on < j := by
    intro j o e ho he hb
    have h1 := List.all_eq_true.1 c0 (o, j) (by rw [List.mem_zipIdx_iff_getElem?]; simpa using ho)
    have h2 := Array.all_eq_true_iff_forall_mem.1 h1 e he
    simp only [hb, Bool.not_true, Bool.false_or, decide_eq_true_eq] at h2
    exact h2
  -- the variables that are made first
  have hfu : ∀ f, f ∈ p.fu → ∃ ty z zc sz x, al[f.1]? = some ⟨some f.2.2, .new ty (.c z), none⟩ ∧ z.cellsOf = some zc ∧ (∀ c, c ∈ zc → c.flat = true) ∧ al[f.2.1]? = some ⟨none, .store sz (.t f.2.2) x, none⟩ ∧ Ahead ops f.1 f.2.1 ∧ ∀ i o, al[i]? = some o → i ≠ f.1 → o.dst ≠ some f.2.2 := by
    intro f hf
    have h := List.all_eq_true.1 c3 f hf
    simp only [fuOK, Bool.and_eq_true] at h
    obtain ⟨⟨⟨h1, h2⟩, h3⟩, h4⟩ := h
    split at h1
    · rename_i t ty z e1
      simp only [Bool.and_eq_true, beq_iff_eq] at h1
      obtain ⟨rfl, h1⟩ := h1
      split at h1
      · rename_i zc hzc
        split at h2
        · rename_i sz t' x e2
          simp only [beq_iff_eq] at h2
          subst h2
          refine ⟨ty, z, zc, sz, x, e1, hzc, fun c hc => List.all_eq_true.1 h1 c hc, e2, hahead (listed := #[]) h3, fun i o hi hne hd => ?_⟩
          have := List.all_eq_true.1 h4 (o, i) (by rw [List.mem_zipIdx_iff_getElem?]; exact hi)
          simp [hne, hd] at this
        · cases h2
      · cases h1
    · cases h1
  have hfu1 : ∀ f f', f ∈ p.fu → f' ∈ p.fu → f.1 ≠ f'.1 → f.2.2 ≠ f'.2.2 := by
    intro f f' hf hf' hne e
    obtain ⟨ty, z, zc, sz, x, e1, -⟩ := hfu f hf
    obtain ⟨ty', z', zc', sz', x', -, -, -, -, -, h⟩ := hfu f' hf'
    exact h f.1 _ e1 hne (by rw [← e])
  have hlt : ∀ i, i ∈ p.ord → i < ops.size ∧ ∀ f, f ∈ p.fu → f.1 ≠ i := by
    intro i hi
    have := List.all_eq_true.1 c2 i hi
    simp only [Bool.and_eq_true, Bool.not_eq_true', decide_eq_true_eq] at this
    refine ⟨this.2, fun f hf e => ?_⟩
    have h := List.any_eq_false.1 this.1 f hf
    simp [e] at h
  have hone : ∀ i, i ∈ p.ord → (∀ f, f ∈ p.fu → f.2.1 ≠ i) → ∀ ao, al[i]? = some ao → itemsOf al p.fu i = [ao] := by
    intro i hi hf ao hao
    have : p.fu.find? (fun f => f.2.1 == i) = none := by
      rw [List.find?_eq_none]
      intro f hfm
      simp [hf f hfm]
    simp [itemsOf, this, hao]
  have htwo : ∀ f, f ∈ p.fu → itemsOf al p.fu f.2.1 = (al[f.1]?).toList ++ (al[f.2.1]?).toList := by
    intro f hf
    unfold itemsOf
    split
    · rename_i f' hf'
      have h1 := List.mem_of_find?_eq_some hf'
      have h2 := List.find?_some hf'
      simp only [beq_iff_eq] at h2
      have := List.all_eq_true.1 (List.all_eq_true.1 c3' f hf) f' h1
      simp only [h2, beq_self_eq_true, beq_iff_eq, eq_comm (a := true)] at this
      rw [this]
    · rename_i h
      rw [List.find?_eq_none] at h
      exact absurd (h f hf) (by simp)
  have hfirst : ∀ (listed : Array Bool), listed.size = ops.size → Region.ready .any ops listed = [] → ∀ i, i < ops.size → listed.getD i true = true := by
    intro listed hsz hr i hi
    induction i using Nat.strongRecOn with
    | _ i ih =>
      cases hl : listed.getD i true with
      | true => rfl
      | false =>
        exfalso
        have : i ∈ Region.ready .any ops listed := by
          rw [mem_ready]
          refine ⟨hl, ops[i], Array.getElem?_eq_getElem hi, fun e he hb => ?_⟩
          have hlt2 := hedge (Array.getElem?_eq_getElem hi) he hb
          have := ih e.on hlt2 (by omega)
          have hlt3 : e.on < listed.size := by omega
          simpa [hlt3] using this
        rw [hr] at this
        simp at this
  have hend : ∀ (listed : Array Bool) (L : List Nat) (tm : Nat → AV) (σ : Store) (g : Ghost) (a : Act) (w : World), listed.size = ops.size → L = p.ord.filter (fun i => !listed.getD i true) → Region.ready .any ops listed = [] →
      DR P (itemsOf al p.fu) (fun i => p.rs.getD i []) K [] L tm σ → Ext g0 g → SR B w0 σ g w → RelT g n tm a → Q .normal a w := by
    intro listed L tm σ g a w hsz hL hr hrun hE hS hT
    have : L = [] := by
      rw [hL, List.filter_eq_nil_iff]
      intro i hi
      rw [hfirst listed hsz hr i (hlt i hi).1]
      simp
    subst this
    exact hK tm σ g a w hrun hE hS hT
  intro fuel
  induction fuel with
  | zero =>
    intro listed L tm σ g a w hsz hL hc hdown hrun hj hpb hE hS hT
    have hnr : Region.ready .any ops listed = [] := by
      cases hr : Region.ready .any ops listed with
      | nil => rfl
      | cons x xs =>
        exfalso
        have hx : x ∈ Region.ready .any ops listed := by rw [hr]; simp
        rw [mem_ready] at hx
        obtain ⟨h1, o, ho, _⟩ := hx
        have hlt : x < ops.size := (Array.getElem?_eq_some_iff.1 ho).1
        have : x ∈ (List.range ops.size).filter (fun i => !listed.getD i true) := by rw [List.mem_filter, List.mem_range]; exact ⟨hlt, by rw [h1]; rfl⟩
        rw [List.eq_nil_of_length_eq_zero (Nat.le_zero.mp hc)] at this
        simp at this
    exact ⟨hnr, hend listed L tm σ g a w hsz hL hnr hrun hE hS hT⟩
  | succ fuel ih =>
    intro listed L tm σ g a w hsz hL hc hdown hrun hj hpb hE hS hT
    refine ⟨fun hr => hend listed L tm σ g a w hsz hL hr hrun hE hS hT, fun i hi => ?_⟩
    rw [mem_ready] at hi
    obtain ⟨hun, o, ho, hall⟩ := hi
    have hltN : i < ops.size := (Array.getElem?_eq_some_iff.1 ho).1
    have hltl : i < listed.size := by omega
    obtain ⟨ao, hao, hra⟩ := hres i o ho
    obtain ⟨pb, hpb1, hpb2⟩ := hpb
    have hunf : listed.getD i false = false := by simpa [hltl] using hun
    have hah : ∀ x, Ahead ops x i → listed.getD x false = true := fun x hx => hx.listed hdown fun o' e h2 h3 h4 => by rw [ho] at h2; cases h2; exact hall e h3 h4
    -- what changes in what is listed
    have gT : ∀ x, x ≠ i → (listed.setIfInBounds i true).getD x true = listed.getD x true := fun x hx => getD_set_ne true (Ne.symm hx)
    have gF : ∀ x, x ≠ i → (listed.setIfInBounds i true).getD x false = listed.getD x false := fun x hx => getD_set_ne false (Ne.symm hx)
    have gI : (listed.setIfInBounds i true).getD i true = true := by simp [hltl]
    have gIF : (listed.setIfInBounds i true).getD i false = true := by simp [hltl]
    have hcount : ((List.range ops.size).filter (fun x => !(listed.setIfInBounds i true).getD x true)).length ≤ fuel := by
      have e : (List.range ops.size).filter (fun x => !(listed.setIfInBounds i true).getD x true) = ((List.range ops.size).filter (fun x => !listed.getD x true)).filter (fun x => x != i) := by
        rw [List.filter_filter]
        congr 1
        funext x
        by_cases hx : x = i
        · subst hx; rw [gI]; simp
        · rw [gT x hx]; simp [hx]
      rw [e]
      have hm : i ∈ (List.range ops.size).filter (fun x => !listed.getD x true) := by rw [List.mem_filter, List.mem_range]; exact ⟨hltN, by rw [hun]; rfl⟩
      have := (List.length_filter_lt_length_iff_exists (p := fun x => x != i) (l := (List.range ops.size).filter (fun x => !listed.getD x true))).2 ⟨i, hm, by simp⟩
      omega
    have hdown' : ∀ (m : Nat) (o : Oper) (e : Edge), (listed.setIfInBounds i true).getD m false = true → ops[m]? = some o → e ∈ o.after → Region.binds .any e = true → (listed.setIfInBounds i true).getD e.on false = true := by
      intro m o' e hm ho' he hb
      by_cases hmi : m = i
      · subst hmi
        rw [ho] at ho'
        cases ho'
        exact getD_set_true (hall e he hb)
      · rw [gF m hmi] at hm
        exact getD_set_true (hdown m o' e hm ho' he hb)
    by_cases hk1 : ∃ f, f ∈ p.fu ∧ f.1 = i
    · -- a variable is made
      obtain ⟨f, hf, rfl⟩ := hk1
      obtain ⟨ty, z, zc, sz, x, e1, e2, e3, e4, e5, e6⟩ := hfu f hf
      rw [hao] at e1
      cases e1
      have hk2 : listed.getD f.2.1 true = false := by
        cases h : listed.getD f.2.1 true with
        | false => rfl
        | true =>
          exfalso
          have hlt2 : f.2.1 < listed.size := by rw [hsz, ← hlen]; exact (List.getElem?_eq_some_iff.1 e4).1
          have h' : listed.getD f.2.1 false = true := by simpa [hlt2] using h
          have := e5.listed hdown fun o' e h2 h3 h4 => hdown _ o' e h' h2 h3 h4
          rw [hunf] at this; cases this
      have hwp : AOper.wp P ⟨some f.2.2, .new ty (.c z), none⟩ tm σ fun tm' σ' => tm' = put tm (some f.2.2) (.ptr σ.next 0 0 0) ∧ σ' = σ.push (.cells ty 0 zc.length [zc]) := by
        simp [AOper.wp, AOp.wp, AOp.eff, AX.ev, e2]
      refine oper_sound2 ho hra hT hS hwp fun tm' σ' g' a' w' k1 k2 k3 k4 k5 => ?_
      obtain ⟨rfl, rfl⟩ := k1
      obtain ⟨v, rfl⟩ := k5
      have hv := k4.2.2 f.2.2
      simp only [put, if_true] at hv
      obtain ⟨b, cells, cap, g2, hvp, hS2, hE2, hΦ2, hv2, hB2, hg2, hs2, h12, hc2, hz2⟩ := hS.hide k2 k3 hv (fun c hc g v h g2 => h.flat (e3 c hc) g2)
      have hgb : g0.Φ b = none := by
        cases e : g0.Φ b with
        | none => rfl
        | some c => have := hE.phi _ _ e; rw [hg2] at this; cases this
      have hmem : ∀ x, x ∈ p.ord → x ≠ f.1 := fun x hx e => (hlt x hx).2 f hf e.symm
      refine ih (listed.setIfInBounds f.1 true) L tm σ g2 _ w' (by simpa using hsz) ?_ hcount hdown' hrun ?_ ?_ (hE.trans hE2) hS2 ?_
      · rw [hL]
        refine List.filter_congr fun x hx => ?_
        rw [gT x (hmem x hx)]
      · intro f' hf' hl
        refine hj f' hf' ?_
        by_cases h : f'.2.1 = f.1
        · rw [h, gI] at hl; cases hl
        · rwa [gT _ h] at hl
      · refine ⟨fun x => if x = f.1 then b else pb x, fun f' hf' h1 h2 => ?_, fun f' f'' hf' hf'' h1 h2 h3 h4 hne => ?_⟩
        · by_cases hff : f'.1 = f.1
          · simp only [hff, if_true]
            have ht : f'.2.2 = f.2.2 := by
              obtain ⟨ty', z', zc', sz', x', e1', -⟩ := hfu f' hf'
              rw [hff, hao] at e1'; simp only [Option.some.injEq, AOper.mk.injEq] at e1'; exact e1'.1.symm
            exact ⟨ty, z, zc, cells, cap, by rw [hff, hao, ht], e2, hΦ2, hv2, hB2, hgb, hs2, h12, hc2, hz2, by rw [ht]; exact hvp⟩
          · simp only [hff, if_false]
            rw [gF _ hff] at h1
            have h2' : listed.getD f'.2.1 true = false := by
              by_cases h : f'.2.1 = f.1
              · rw [h, gI] at h2; cases h2
              · rwa [gT _ h] at h2
            exact (hpb1 f' hf' h1 h2').extE hE2 (put_getD fun e => hfu1 f' f hf' hf hff (Option.some.inj e).symm)
        · have old : ∀ f', f' ∈ p.fu → f'.1 ≠ f.1 → (listed.setIfInBounds f.1 true).getD f'.1 false = true → (listed.setIfInBounds f.1 true).getD f'.2.1 true = false → listed.getD f'.1 false = true ∧ listed.getD f'.2.1 true = false := by
            intro f' hf' hff h1 h2
            rw [gF _ hff] at h1
            refine ⟨h1, ?_⟩
            by_cases h : f'.2.1 = f.1
            · rw [h, gI] at h2; cases h2
            · rwa [gT _ h] at h2
          have hnb : ∀ f', f' ∈ p.fu → f'.1 ≠ f.1 → (listed.setIfInBounds f.1 true).getD f'.1 false = true → (listed.setIfInBounds f.1 true).getD f'.2.1 true = false → pb f'.1 ≠ b := by
            intro f' hf' hff h1 h2 e
            obtain ⟨o1, o2⟩ := old f' hf' hff h1 h2
            obtain ⟨_, _, _, _, _, _, _, h3, _⟩ := hpb1 f' hf' o1 o2
            rw [e, hg2] at h3; cases h3
          by_cases hff : f'.1 = f.1
          · have hff2 : f''.1 ≠ f.1 := fun e => hne (hff.trans e.symm)
            simp only [hff, hff2, if_true, if_false]
            exact (hnb f'' hf'' hff2 h3 h4).symm
          · by_cases hff2 : f''.1 = f.1
            · simp only [hff, hff2, if_true, if_false]
              exact hnb f' hf' hff h1 h2
            · simp only [hff, hff2, if_false]
              obtain ⟨o1, o2⟩ := old f' hf' hff h1 h2
              obtain ⟨o3, o4⟩ := old f'' hf'' hff2 h3 h4
              exact hpb2 f' f'' hf' hf'' o1 o2 o3 o4 hne
      · refine ⟨k4.1, k4.2.1, fun x => ?_⟩
        by_cases hx : x = f.2.2
        · rw [hx, hj f hf hk2]; exact .junk _
        · rw [put_getD (fun e => hx (Option.some.inj e).symm)]
          exact (hT.2.2 x).ext hE2
    · -- an operation of the order
      have hio : i ∈ p.ord := by
        have := List.all_eq_true.1 c1 i (List.mem_range.2 hltN)
        simp only [Bool.or_eq_true, List.contains_iff_mem, List.any_eq_true, beq_iff_eq] at this
        rcases this with h | ⟨f, hf, h⟩
        · exact h
        · exact absurd ⟨f, hf, h⟩ hk1
      have hmem : i ∈ L := by rw [hL, List.mem_filter]; exact ⟨hio, by rw [hun]; rfl⟩
      obtain ⟨L1, L2, hsplit⟩ := List.append_of_mem hmem
      have hsub : (L1 ++ i :: L2).Sublist p.ord := by rw [← hsplit, hL]; exact List.filter_sublist
      have hpw := c4'.sublist hsub
      have hpw1 := (List.pairwise_append.1 hpw)
      have hL1 : ∀ x, x ∈ L1 → x ≠ i ∧ pairOK (itemsOf al p.fu) (fun i => p.rs.getD i []) x i = true := by
        intro x hx
        have h := hpw1.2.2 x hx i (by simp)
        simp only [Bool.and_eq_true, bne_iff_ne, ne_eq, Bool.or_eq_true] at h
        refine ⟨h.1.1, ?_⟩
        rcases h.1.2 with h2 | h2
        · exfalso
          have h3 := hah x (hahead (listed := #[]) h2)
          have : x ∈ L := by rw [hsplit]; simp [hx]
          rw [hL, List.mem_filter] at this
          have hxl : x < listed.size := by rw [hsz]; exact (hlt x this.1).1
          have h4 := this.2
          simp [hxl] at h3 h4
          rw [h3] at h4; cases h4
        · exact h2
      have hL2 : ∀ x, x ∈ L2 → x ≠ i := fun x hx e => by
        have h := (List.pairwise_cons.1 hpw1.2.1).1 x hx
        simp only [Bool.and_eq_true, bne_iff_ne, ne_eq] at h
        exact h.1.1 e.symm
      have hsafe : ([].reverse ++ L1).Pairwise (fun k a => k ∈ (fun i => p.rs.getD i []) i → safe (itemsOf al p.fu) k a = true) := by
        simp only [List.reverse_nil, List.nil_append]
        refine hpw1.1.imp fun {k a} h hk => ?_
        simp only [Bool.and_eq_true, Bool.or_eq_true, Bool.not_eq_true'] at h
        rcases h.2 with h2 | h2
        · exfalso
          have hmm : p.rs.getD i [] ∈ p.rs := by
            rw [List.getD_eq_getElem?_getD] at hk ⊢
            cases e : p.rs[i]? with
            | none => simp [e] at hk
            | some l => simp [List.mem_of_getElem? e]
          have := List.any_eq_false.1 h2 _ hmm
          simp at this
          exact this hk
        · exact h2
      rw [hsplit] at hrun
      have hfront := DR_front (L2 := L2) L1 [] tm σ (fun x hx => (hL1 x hx).2) hsafe hrun
      have hfront' := item_keeps (opsWp_mono (fun t s ⟨_, h⟩ => h) hfront)
      have hLnew : L1 ++ L2 = p.ord.filter (fun x => !(listed.setIfInBounds i true).getD x true) := by
        have e : p.ord.filter (fun x => !(listed.setIfInBounds i true).getD x true) = (p.ord.filter (fun x => !listed.getD x true)).filter (fun x => x != i) := by
          rw [List.filter_filter]
          congr 1
          funext x
          by_cases hx : x = i
          · subst hx; rw [gI]; simp
          · rw [gT x hx]; simp [hx]
        rw [e, ← hL, hsplit, List.filter_append, List.filter_cons]
        simp only [bne_self_eq_false, Bool.false_eq_true, if_false]
        rw [List.filter_eq_self.2 (fun x hx => by simpa using (hL1 x hx).1), List.filter_eq_self.2 (fun x hx => by simpa using hL2 x hx)]
      have hne1 : ∀ f, f ∈ p.fu → f.1 ≠ i := fun f hf e => hk1 ⟨f, hf, e⟩
      have old : ∀ f', f' ∈ p.fu → (listed.setIfInBounds i true).getD f'.2.1 true = false → f'.2.1 ≠ i ∧ listed.getD f'.2.1 true = false := by
        intro f' hf' h2
        by_cases h : f'.2.1 = i
        · rw [h, gI] at h2; cases h2
        · rw [gT _ h] at h2; exact ⟨h, h2⟩
      by_cases hk2 : ∃ f, f ∈ p.fu ∧ f.2.1 = i
      · -- a variable is written
        obtain ⟨f, hf, rfl⟩ := hk2
        obtain ⟨ty, z, zc, sz, x, e1, e2, e3, e4, e5, e6⟩ := hfu f hf
        rw [hao] at e4
        cases e4
        rw [htwo f hf, e1, hao] at hfront'
        have hl1 := hah _ e5
        obtain ⟨ty', z', zc', cells, cap, q1, q2, q3, q4, q5, q6, q7, q8, q9, q10, q11⟩ := hpb1 f hf hl1 hun
        rw [e1] at q1
        cases q1
        rw [e2] at q2
        cases q2
        have hinj : ∀ f', f' ∈ p.fu → f'.2.1 ≠ f.2.1 → f'.1 ≠ f.1 := fun f' hf' h e => by
          have := List.all_eq_true.1 (List.all_eq_true.1 c3' f' hf') f hf
          simp only [e, beq_self_eq_true, beq_iff_eq] at this
          exact h (by simpa using this)
        obtain ⟨hS', hv'⟩ := hS.adopt q3 q4 q5 q7 q8 q9 q10
        have heV : ExtV g (g.adopt (pb f.1) zc.length cap) := .adopt _ _ q4
        have hwp : AOper.wp P ⟨none, .store sz (.t f.2.2) x, none⟩ (put tm (some f.2.2) (.ptr σ.next 0 0 0)) (σ.push (.cells ty 0 zc.length [zc])) (fun t s => DR P (itemsOf al p.fu) (fun i => p.rs.getD i []) K [] (L1 ++ L2) t s ∧ ∀ j, j ∉ dsts ((some (⟨some f.2.2, .new ty (.c z), none⟩ : AOper)).toList ++ (some (⟨none, .store sz (.t f.2.2) x, none⟩ : AOper)).toList) → t j = tm j) := by
          have : (AOp.new ty (.c z)).wp P tm σ fun r s => AOper.wp P ⟨none, .store sz (.t f.2.2) x, none⟩ (put tm (some f.2.2) r) s _ := hfront'
          simp only [AOp.wp, AOp.eff, AX.ev, e2] at this
          exact this
        have hTA : RelT (g.adopt (pb f.1) zc.length cap) n (put tm (some f.2.2) (.ptr σ.next 0 0 0)) a := by
          refine ⟨hT.1, hT.2.1, fun j => ?_⟩
          simp only [put]
          split
          · rename_i hjf; rw [hjf, q11]; exact hv'
          · exact (hT.2.2 j).extV heV
        refine oper_sound2 ho hra hTA hS' hwp fun tm' σ' g' a' w' k1 k2 k3 k4 k5 => ?_
        obtain ⟨v, hav⟩ := k5
        have hav' : a' = a := hav
        subst hav'
        refine ih (listed.setIfInBounds f.2.1 true) (L1 ++ L2) tm' σ' g' a' w' (by simpa using hsz) hLnew hcount hdown' k1.1 ?_ ?_ ((hE.adopt _ _ q6).trans k2) k3 k4
        · intro f' hf' hl
          obtain ⟨o1, o2⟩ := old f' hf' hl
          have hff : f'.1 ≠ f.1 := hinj f' hf' o1
          rw [k1.2 f'.2.2 (by simp [dsts]; exact fun e => hfu1 f' f hf' hf hff e)]
          exact hj f' hf' o2
        · refine ⟨pb, fun f' hf' h1 h2 => ?_, fun f' f'' hf' hf'' h1 h2 h3 h4 hne => ?_⟩
          · obtain ⟨o1, o2⟩ := old f' hf' h2
            rw [gF _ (hne1 f' hf')] at h1
            have hff : f'.1 ≠ f.1 := hinj f' hf' o1
            have hb := hpb2 f' f hf' hf h1 o2 hl1 hun hff
            have hp' := hpb1 f' hf' h1 o2
            exact (hp'.ext (g' := g.adopt (pb f.1) zc.length cap) (a' := a') (by simp [Ghost.adopt, hb]) (by simp [Ghost.adopt, hb]) rfl).extE k2 rfl
          · obtain ⟨o1, o2⟩ := old f' hf' h2
            obtain ⟨o3, o4⟩ := old f'' hf'' h4
            rw [gF _ (hne1 f' hf')] at h1
            rw [gF _ (hne1 f'' hf'')] at h3
            exact hpb2 f' f'' hf' hf'' h1 o2 h3 o4 hne
      · -- any other one
        have hit := hone i hio (fun f hf e => hk2 ⟨f, hf, e⟩) ao hao
        rw [hit] at hfront'
        have hwp : ao.wp P tm σ fun t s => DR P (itemsOf al p.fu) (fun i => p.rs.getD i []) K [] (L1 ++ L2) t s ∧ ∀ j, j ∉ dsts [ao] → t j = tm j := hfront'
        have hnd : ∀ f, f ∈ p.fu → ao.dst ≠ some f.2.2 := fun f hf => by
          obtain ⟨ty, z, zc, sz, x, e1, e2, e3, e4, e5, e6⟩ := hfu f hf
          exact e6 i ao hao (hne1 f hf).symm
        refine oper_sound2 ho hra hT hS hwp fun tm' σ' g' a' w' k1 k2 k3 k4 k5 => ?_
        obtain ⟨v, rfl⟩ := k5
        refine ih (listed.setIfInBounds i true) (L1 ++ L2) tm' σ' g' _ w' (by simpa using hsz) hLnew hcount hdown' k1.1 ?_ ?_ (hE.trans k2) k3 k4
        · intro f' hf' hl
          obtain ⟨o1, o2⟩ := old f' hf' hl
          rw [k1.2 f'.2.2 (by
            intro hm
            simp only [dsts, List.mem_filterMap, List.mem_singleton] at hm
            obtain ⟨x, rfl, hx⟩ := hm
            exact hnd f' hf' hx)]
          exact hj f' hf' o2
        · refine ⟨pb, fun f' hf' h1 h2 => ?_, fun f' f'' hf' hf'' h1 h2 h3 h4 hne => ?_⟩
          · obtain ⟨o1, o2⟩ := old f' hf' h2
            rw [gF _ (hne1 f' hf')] at h1
            exact (hpb1 f' hf' h1 o2).extE k2 (put_getD (hnd f' hf'))
          · obtain ⟨o1, o2⟩ := old f' hf' h2
            obtain ⟨o3, o4⟩ := old f'' hf'' h4
            rw [gF _ (hne1 f' hf')] at h1
            rw [gF _ (hne1 f'' hf'')] at h3
            exact hpb2 f' f'' hf' hf'' h1 o2 h3 o4 hne
end
end Go.AL
