/- The abstract layer, part 16: from a contract of the layer to the conclusion of a row whose law answers true. -/
import Derived.Test.YtjjbjibbjbbeaaaAL15
import Derived.ProofKit
import Derived.Carry
set_option linter.unusedVariables false
set_option linter.unusedSimpArgs false
namespace Go.AL
open Go.RowKit Go.ChangeShapes Go.WideShapes

/-- The ghost of a world at a call's start: all blocks of cells stand still. -/
def g0 (W : World) : Ghost := { Φ := fun b => match W.heap[b]? with | some (.cells c _ _) => some c | _ => none, vis := fun _ => none, pl := fun _ => none, next := 0 }
theorem sr0 (W : World) : SR W.heap.size W Store.empty (g0 W) W := by
  refine ⟨.refl _ _, Nat.le_refl _, fun b cells h => ?_, rfl, fun id o h => by simp [Store.empty] at h, fun id id' p p' h => by simp [g0] at h, fun id p h => by simp [g0] at h, fun id p h => by simp [g0] at h⟩
  simp only [g0] at h
  rcases hb : W.heap[b]? with _ | o
  · simp [hb] at h
  · cases o with
    | cells c t fr => simp [hb] at h; subst h; exact ⟨t, fr, rfl, fun ty hty => by simp [g0] at hty⟩
    | map es c => simp [hb] at h
    | _ => simp [hb] at h

theorem calls_of {P : Program} {f : FuncId} {fn : Func} (hf : P.funcs[f]? = some fn) (hname : (fn.name == "runtime.NumGoroutine") = false) (hbs : fn.body.isSome = true) {args : Array Value} {avs : List AV} {W : World} {K : AV → Store → Prop}
    (h : ACalls P f avs Store.empty K) (hsz : args.size = avs.length) (hrel : ∀ j c, avs[j]? = some c → RelV (g0 W) c (args.getD j undef)) :
    Calls P f args W fun e W' => ∃ v r σ' g', e = .returned v ∧ K r σ' ∧ RelV g' r v ∧ Below W.heap.size W W' := by
  obtain ⟨code, hb⟩ := Option.isSome_iff_exists.mp hbs
  have hname' : ¬ fn.name = "runtime.NumGoroutine" := by simpa using hname
  have hc : (callFunc f args).run P W = .ok (.enter f args) W := by simp [callFunc, hf, hname', hb]
  rcases h W.heap.size W (g0 W) W args (sr0 W) hsz hrel with ⟨w', h1, h2⟩ | ⟨v, w', h1, _⟩
  · rw [hc] at h1
    cases h1
    exact h2.mono fun e w'' ⟨v, he, r, σ', g', k1, k2, k3, k4⟩ => ⟨v, r, σ', g', he, k1, k4, k3.below⟩
  · rw [hc] at h1
    cases h1

section
variable {H : Type} {enc : TypeId × Value → H} {P : Program}
theorem trodAll_stays (hl : laidOutB P = true) {W W' : World} {sp : Nat → Bool} (hb : Below W.heap.size W W') : ∀ {ts : List TypeId} {vs : List Value} {ds : List (DataW H)} {ps : List MemPlace}, (∀ t, t ∈ ts → P.readableRec t = true ∧ t < P.types.size) →
    DataW.TrodAll enc P W 0 (fun _ => true) true ts vs ds ps → (∀ x, x ∈ ps → x.block < W.heap.size ∧ sp x.block = true) → DataW.TrodAll enc P W' 0 sp true ts vs ds ps
  | [], _, _, _, _, h, _ => by
    obtain ⟨rfl, rfl, rfl⟩ := trodAll_nil h
    exact trodAll_mk0
  | t :: ts, _, _, _, ht, h, hp => by
    obtain ⟨v, vs, d, ds, p, q, rfl, rfl, rfl, h1, h2⟩ := trodAll_cons h
    obtain ⟨hr, hs⟩ := ht t (by simp)
    exact ⟨p, q, WideElems.Trod_stays hl hr hs h1 (fun x hx => hb.same (hp x (by simp [hx])).1) (fun x hx => (hp x (by simp [hx])).2), trodAll_stays hl hb (fun t h => ht t (by simp [h])) h2 (fun x hx => hp x (by simp [hx])), rfl⟩

/-- A law that answers true and leaves all as it was: the row's conclusion. -/
theorem post_true (hl : laidOutB P = true) {f : Func} {s : ChangeSpec} {apart fresh handsOn again : Bool} {W W' : World} {args : Array Value} {ds gs : List (DataW H)} {before : List MemPlace} {tb : TypeId}
    (hW : DataW.Whole enc P f.params.toList s.vars apart W args.toList ds gs before) (hb : Below W.heap.size W W') (hts : f.params.toList.all (fun t => P.readableRec t && decide (t < P.types.size)) = true)
    (hv : s.vars = []) (hs : s.fn H (ds ++ gs) = { results := [.lit (.bool true)], args := ds }) (hr : f.resultTypes = #[tb]) (htb : P.underlying tb = some .bool) :
    s.post enc P f apart fresh handsOn again W args (.bool true) W' := by
  have hW' := hW
  obtain ⟨p, q, hA, hV, rfl, hfz, hnd⟩ := hW'
  rw [hv] at hV
  obtain ⟨rfl, rfl⟩ := trodVars_none hV
  rw [List.append_nil] at hW hfz hnd
  have hlt : ∀ x, x ∈ p → x.block < W.heap.size := fun x hx => hW.lt x hx
  have hts' : ∀ t, t ∈ f.params.toList → P.readableRec t = true ∧ t < P.types.size := fun t ht => by
    have := List.all_eq_true.mp hts t ht
    simpa using this
  have hargs : ∀ sp : Nat → Bool, (∀ x, x ∈ p → sp x.block = true) → DataW.TrodAll enc P W' 0 sp true f.params.toList args.toList ds p := fun sp hsp => trodAll_stays hl hb hts' hA fun x hx => ⟨hlt x hx, hsp x hx⟩
  have hres : ∀ (b : Nat) (sp : Nat → Bool) (hd : Bool), DataW.TrodAll enc P W' b sp hd f.resultTypes.toList ((Value.bool true).resultList f.resultTypes.size) (s.fn H (ds ++ [])).results [] := fun b sp hd => by
    rw [hs, hr]; exact trodAll_mk1 (shut_bool htb true)
  have hvr : ∀ sp : Nat → Bool, DataW.TrodVars enc P W' sp s.vars (s.fn H (ds ++ [])).vars [] := fun sp => by rw [hs, hv]; rfl
  refine ⟨ds, [], p, [], p, [], hW, hres _ _ _, by rw [hs]; exact hargs _ (fun x hx => by simpa using hlt x hx), hvr _, World.keptBut_mono (fun x hx => ⟨hx, .inr (.inl hx)⟩) (hb.frame (· ∈ p)), fun _ => ?_⟩
  refine ⟨ok_one hr rfl (okWide_bool_mk htb true), [.lit (.bool true)] ++ ds, [], ([] ++ p) ++ [], ⟨[] ++ p, [], trodAll_append (hargs _ (fun _ _ => rfl)) (by have := hres 0 (fun _ => true) true; rw [hs] at this; exact this), by rw [hv]; rfl, rfl, ?_, ?_⟩, ?_⟩
  · intro b off hx
    have hx' : MemPlace.cell b off ∈ p := by simpa using hx
    rw [hb.frozen (p := ⟨b, off, none⟩) (hlt _ hx')]
    exact hfz b off hx'
  · intro ha
    have := hnd ha
    simpa using this
  · intro x hx _
    simpa using hx
end
end Go.AL
