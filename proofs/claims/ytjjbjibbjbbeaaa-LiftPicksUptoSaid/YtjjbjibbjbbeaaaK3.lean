/- A part of the proof of the claim: the abstract layer, the contracts of the functions, the law (no condition of its own). -/
import Derived.Test.YtjjbjibbjbbeaaaK2
import Derived.ProofKit
import Derived.Carry
import Derived.OpenShut
open Nat renaming reduceEqDiff → Za, reduceAdd → Zb, reduceLeDiff → Zc
open Int renaming reduceEq → Zd, reduceLT → Ze, reduceLE → Zf, reduceNeg → Zg, reduceAdd → Zh, reduceSub → Zi, reduceToNat → Zj
/- The abstract layer, part 14b: rows whose order is drawn, in the form in which they are used. -/
set_option linter.unusedVariables false
namespace Go.AL
@[congr] theorem opsN_congr {w : Prop} (hw : Visit = w) {P : Program} {l : List (List AOper × List AOper)} {tm tm' : Nat → AV} {σ σ' : Store} {K : (Nat → AV) → Store → Prop} (h : tm = tm') (h' : σ = σ') : opsN P l tm σ K = opsN P l tm' σ' K := by rw [h, h']
/-- Both; the second one is looked at later. -/
def andW (a b : Prop) : Prop := a ∧ b
@[congr] theorem andW_congr {w : Prop} (hw : Visit = w) {a a' b : Prop} (h : a = a') : andW a b = andW a' b := by rw [h]
theorem andW_true (b : Prop) : andW True b = b := by simp [andW]
def stW (r r' : AV) (s s' : Store) : Prop := r = r' ∧ s = s'
theorem stW_def (r r' : AV) (s s' : Store) : stW r r' s s' = (r = r' ∧ s = s') := (rfl)
def stillsW (P : Program) : List AOper → (Nat → AV) → Store → Prop → Prop
 | [], _, _, G => G
 | c :: cs, tm, σ, G => andW (Still P c tm σ) (stillsW P cs tm σ G)
@[congr] theorem stillsW_congr {w : Prop} (hw : Visit = w) {P : Program} {l : List AOper} {tm tm' : Nat → AV} {σ σ' : Store} {G : Prop} (h : tm = tm') (h' : σ = σ') : stillsW P l tm σ G = stillsW P l tm' σ' G := by rw [h, h']
@[congr] theorem Still_congr {w : Prop} (hw : Visit = w) {P : Program} {o : AOper} {tm tm' : Nat → AV} {σ σ' : Store} (h : tm = tm') (h' : σ = σ') : Still P o tm σ = Still P o tm' σ' := by rw [h, h']
theorem stillsW_nil (P : Program) (tm : Nat → AV) (σ : Store) (G : Prop) : stillsW P [] tm σ G = G := (rfl)
theorem stillsW_cons (P : Program) (c : AOper) (cs : List AOper) (tm : Nat → AV) (σ : Store) (G : Prop) : stillsW P (c :: cs) tm σ G = andW (Still P c tm σ) (stillsW P cs tm σ G) := (rfl)
theorem stillsW_eq (P : Program) (tm : Nat → AV) (σ : Store) (G : Prop) : ∀ cs : List AOper, stillsW P cs tm σ G = ((∀ c, c ∈ cs → Still P c tm σ) ∧ G)
 | [] => by simp [stillsW]
 | c :: cs => by
  rw [stillsW_cons, stillsW_eq P tm σ G cs]
  simp [andW, and_assoc]
theorem Still_none (P : Program) (d : Nat) (op : AOp) (tm : Nat → AV) (σ : Store) : Still P ⟨some d, op, none⟩ tm σ = op.wp P tm σ fun r σ' => stW r (tm d) σ' σ :=
 propext ⟨fun ⟨_, e, h⟩ => by cases e; exact h, fun h => ⟨d, rfl, h⟩⟩
theorem Still_guard (P : Program) (d : Nat) (op : AOp) (s : Nat) (want : Bool) (tm : Nat → AV) (σ : Store) : Still P ⟨some d, op, some (s, want)⟩ tm σ = guardW (tm s) want (op.wp P tm σ fun r σ' => stW r (tm d) σ' σ) (stW (.tuple []) (tm d) σ σ) :=
 propext ⟨fun ⟨_, e, h⟩ => by cases e; exact h, fun h => ⟨d, rfl, h⟩⟩
theorem opsN_nil (P : Program) (tm : Nat → AV) (σ : Store) (K : (Nat → AV) → Store → Prop) : opsN P [] tm σ K = K tm σ := (rfl)
theorem opsN_cons (P : Program) (os : List AOper) (rest : List (List AOper × List AOper)) (tm : Nat → AV) (σ : Store) (K : (Nat → AV) → Store → Prop) :
 opsN P ((os, []) :: rest) tm σ K = opsWp P os tm σ fun t s => opsN P rest t s K := by
 simp [opsN]
theorem opsN_still (P : Program) (os : List AOper) (c : AOper) (cs : List AOper) (rest : List (List AOper × List AOper)) (tm : Nat → AV) (σ : Store) (K : (Nat → AV) → Store → Prop) :
 opsN P ((os, c :: cs) :: rest) tm σ K = opsWp P os tm σ fun t s => stillsW P (c :: cs) t s (opsN P rest t s K) := by
 simp only [opsN, stillsW_eq]
theorem junks_nil (tm : Nat → AV) : junks [] tm = tm := (rfl)
theorem junks_cons (j : Nat) (js : List Nat) (tm : Nat → AV) : junks (j :: js) tm = junks js (put tm (some j) .junk) := (rfl)
theorem co_junk : AV.junk.cellsOf = none := (rfl)
theorem co_bool (b : Bool) : (AV.bool b).cellsOf = some [AV.bool b] := (rfl)
theorem co_int (k : IntKind) (n : Int) : (AV.int k n).cellsOf = some [AV.int k n] := (rfl)
theorem co_str (s : ByteArray) : (AV.str s).cellsOf = some [AV.str s] := (rfl)
theorem co_nilp  : (AV.nilp ).cellsOf = some [AV.nilp ] := (rfl)
theorem co_ptr (i v k o : Nat) : (AV.ptr i v k o).cellsOf = some [AV.ptr i v k o] := (rfl)
theorem co_rptr (cs : List AV) (o : Nat) : (AV.rptr cs o).cellsOf = some [AV.rptr cs o] := (rfl)
theorem co_nils  : (AV.nils ).cellsOf = some [AV.nils ] := (rfl)
theorem co_list (es : List (List AV)) : (AV.list es).cellsOf = some [AV.list es] := (rfl)
theorem co_own (a b c d e : Nat) : (AV.own a b c d e).cellsOf = some [AV.own a b c d e] := (rfl)
theorem co_nilm  : (AV.nilm ).cellsOf = some [AV.nilm ] := (rfl)
theorem co_map (i : Nat) : (AV.map i).cellsOf = some [AV.map i] := (rfl)
theorem co_nilf  : (AV.nilf ).cellsOf = some [AV.nilf ] := (rfl)
theorem co_fn (f : Fn) (a b : List AV) : (AV.fn f a b).cellsOf = some [AV.fn f a b] := (rfl)
theorem co_agg (cs : List AV) : (AV.agg cs).cellsOf = some cs := (rfl)
theorem SliceAt.co {σ : Store} {v : AV} {ty sz : Nat} {es : List (List AV)} (h : SliceAt σ v ty sz es) : v.cellsOf = some [v] := by
 rcases h with ⟨rfl, _⟩ | ⟨_, _, _, rfl, _⟩ <;> rfl
end Go.AL
/- The abstract layer, part 15: the rules of evaluation in one. -/
set_option linter.unusedVariables false
set_option linter.defProp false
namespace Go.AL
theorem S0 : type_of% (And.intro @Nat.one_ne_zero (And.intro @Nat.zero_ne_one (And.intro @List.getElem?_cons_zero.{0} (And.intro @List.getElem?_cons_succ.{0} (And.intro @Bool.bne_true (And.intro @Bool.bne_false (And.intro @Bool.not_false (And.intro @Bool.not_true (And.intro @Nat.add_zero (And.intro @Nat.zero_add (And.intro @Bool.false_eq_true (And.intro @true_and (And.intro @and_true (And.intro @List.length_cons.{0} (And.intro @List.length_nil.{0} (And.intro @List.map_cons.{0,0} (And.intro @List.map_nil.{0,0} (And.intro @opsWp_nil (And.intro @opsWp_cons (And.intro @opsWp_guard (And.intro @guardW_tt (And.intro @guardW_tf (And.intro @guardW_ft (And.intro @guardW_ff (And.intro @ok_some (And.intro @ok_ite (And.intro @put_some (And.intro @put_none (And.intro @env_cons (@env_nil)))))))))))))))))))))))))))))) := And.intro @Nat.one_ne_zero (And.intro @Nat.zero_ne_one (And.intro @List.getElem?_cons_zero.{0} (And.intro @List.getElem?_cons_succ.{0} (And.intro @Bool.bne_true (And.intro @Bool.bne_false (And.intro @Bool.not_false (And.intro @Bool.not_true (And.intro @Nat.add_zero (And.intro @Nat.zero_add (And.intro @Bool.false_eq_true (And.intro @true_and (And.intro @and_true (And.intro @List.length_cons.{0} (And.intro @List.length_nil.{0} (And.intro @List.map_cons.{0,0} (And.intro @List.map_nil.{0,0} (And.intro @opsWp_nil (And.intro @opsWp_cons (And.intro @opsWp_guard (And.intro @guardW_tt (And.intro @guardW_tf (And.intro @guardW_ft (And.intro @guardW_ff (And.intro @ok_some (And.intro @ok_ite (And.intro @put_some (And.intro @put_none (And.intro @env_cons (@env_nil)))))))))))))))))))))))))))))
theorem S1 : type_of% (And.intro @ev_t (And.intro @ev_c (And.intro @wp_move (And.intro @wp_pick (And.intro @ePick_true (And.intro @ePick_false (And.intro @wp_new (And.intro @eNew_some (And.intro @wp_build' (And.intro @eAgg_some (And.intro @wp_lit (And.intro @eLit_own (And.intro @eLit_list (And.intro @litEs_nil (And.intro @litEs_cons (And.intro @litCons_some (And.intro @eVal_some (And.intro @eVal_ite (And.intro @wp_load (And.intro @eLoad_ptr (And.intro @eLoad_rptr (And.intro @eLoad2_some (And.intro @eLoad3_some (And.intro @aLoad_none (And.intro @aLoad_some (And.intro @wp_store (And.intro @eStore_ptr (And.intro @eStore2_some (And.intro @eStore3_some (@wp_nilck)))))))))))))))))))))))))))))) := And.intro @ev_t (And.intro @ev_c (And.intro @wp_move (And.intro @wp_pick (And.intro @ePick_true (And.intro @ePick_false (And.intro @wp_new (And.intro @eNew_some (And.intro @wp_build' (And.intro @eAgg_some (And.intro @wp_lit (And.intro @eLit_own (And.intro @eLit_list (And.intro @litEs_nil (And.intro @litEs_cons (And.intro @litCons_some (And.intro @eVal_some (And.intro @eVal_ite (And.intro @wp_load (And.intro @eLoad_ptr (And.intro @eLoad_rptr (And.intro @eLoad2_some (And.intro @eLoad3_some (And.intro @aLoad_none (And.intro @aLoad_some (And.intro @wp_store (And.intro @eStore_ptr (And.intro @eStore2_some (And.intro @eStore3_some (@wp_nilck)))))))))))))))))))))))))))))
theorem S2 : type_of% (And.intro @eNck_ptr (And.intro @eNck_rptr (And.intro @wp_bin (And.intro @wp_nileq (And.intro @wp_not' (And.intro @eNot_bool (And.intro @wp_neg (And.intro @eNeg_int (And.intro @wp_conv (And.intro @eConv_int (And.intro @wp_same (And.intro @eSame_str (And.intro @wp_mkfn (And.intro @wp_mkmap (And.intro @wp_mkslice (And.intro @eMks_int (And.intro @wp_cut (And.intro @eCut_str (And.intro @cutS_some (And.intro @eCut_list (And.intro @cutL_some (And.intro @eCut_own (And.intro @cutO_some (And.intro @bound_none (And.intro @bound_int (And.intro @wp_faddr (And.intro @eFad_ptr (And.intro @eFad2_some (And.intro @eFad_rptr (@wp_field)))))))))))))))))))))))))))))) := And.intro @eNck_ptr (And.intro @eNck_rptr (And.intro @wp_bin (And.intro @wp_nileq (And.intro @wp_not' (And.intro @eNot_bool (And.intro @wp_neg (And.intro @eNeg_int (And.intro @wp_conv (And.intro @eConv_int (And.intro @wp_same (And.intro @eSame_str (And.intro @wp_mkfn (And.intro @wp_mkmap (And.intro @wp_mkslice (And.intro @eMks_int (And.intro @wp_cut (And.intro @eCut_str (And.intro @cutS_some (And.intro @eCut_list (And.intro @cutL_some (And.intro @eCut_own (And.intro @cutO_some (And.intro @bound_none (And.intro @bound_int (And.intro @wp_faddr (And.intro @eFad_ptr (And.intro @eFad2_some (And.intro @eFad_rptr (@wp_field)))))))))))))))))))))))))))))
theorem S3 : type_of% (And.intro @eFld_agg (And.intro @wp_iaddr (And.intro @eIad_list (And.intro @eIad2_some (And.intro @eIad_own (And.intro @eIad3_some (And.intro @wp_index (And.intro @eIdx_str (And.intro @eIdx2_some (And.intro @wp_lookup (And.intro @eLkp_map (And.intro @eLkp2_some (And.intro @eLkp3_some (And.intro @eLkp3_one (And.intro @wp_mapset (And.intro @eMps_map (And.intro @eMps2_some (And.intro @eMps3_some (And.intro @wp_extract (And.intro @eExt_tuple (And.intro @wp_len (And.intro @eLen_str (And.intro @eLen_list (And.intro @eLen_nils (And.intro @eLen_own (And.intro @wp_append (And.intro @elems_nils (And.intro @elems_list (And.intro @elems_own (@elems2_some)))))))))))))))))))))))))))))) := And.intro @eFld_agg (And.intro @wp_iaddr (And.intro @eIad_list (And.intro @eIad2_some (And.intro @eIad_own (And.intro @eIad3_some (And.intro @wp_index (And.intro @eIdx_str (And.intro @eIdx2_some (And.intro @wp_lookup (And.intro @eLkp_map (And.intro @eLkp2_some (And.intro @eLkp3_some (And.intro @eLkp3_one (And.intro @wp_mapset (And.intro @eMps_map (And.intro @eMps2_some (And.intro @eMps3_some (And.intro @wp_extract (And.intro @eExt_tuple (And.intro @wp_len (And.intro @eLen_str (And.intro @eLen_list (And.intro @eLen_nils (And.intro @eLen_own (And.intro @wp_append (And.intro @elems_nils (And.intro @elems_list (And.intro @elems_own (@elems2_some)))))))))))))))))))))))))))))
theorem S4 : type_of% (And.intro @wp_min2 (And.intro @eMin_int (And.intro @bin_add (And.intro @bin_sub (And.intro @bin_mul (And.intro @bin_eql (And.intro @bin_neq (And.intro @bin_lss (And.intro @bin_leq (And.intro @bin_gtr (And.intro @bin_geq (And.intro @bin_sadd (And.intro @bin_seql (And.intro @bin_sneq (And.intro @bin_beql (And.intro @bin_bneq (And.intro @nileq_np (And.intro @nileq_nn (And.intro @wp_call (And.intro @visit (And.intro @andThen_normal (And.intro @andThen_ret (And.intro @andThen_exit (And.intro @inBlock_normal (And.intro @inBlock_ret (And.intro @inBlock_exit (And.intro @res_slot (And.intro @res_slot2 (And.intro @res_slot3 (@res_none)))))))))))))))))))))))))))))) := And.intro @wp_min2 (And.intro @eMin_int (And.intro @bin_add (And.intro @bin_sub (And.intro @bin_mul (And.intro @bin_eql (And.intro @bin_neq (And.intro @bin_lss (And.intro @bin_leq (And.intro @bin_gtr (And.intro @bin_geq (And.intro @bin_sadd (And.intro @bin_seql (And.intro @bin_sneq (And.intro @bin_beql (And.intro @bin_bneq (And.intro @nileq_np (And.intro @nileq_nn (And.intro @wp_call (And.intro @visit (And.intro @andThen_normal (And.intro @andThen_ret (And.intro @andThen_exit (And.intro @inBlock_normal (And.intro @inBlock_ret (And.intro @inBlock_exit (And.intro @res_slot (And.intro @res_slot2 (And.intro @res_slot3 (@res_none)))))))))))))))))))))))))))))
theorem S5 : type_of% (And.intro @res_cell (And.intro @res_cell_slot (And.intro @Store.push_next (And.intro @Store.push_get (And.intro @Store.upd_next (And.intro @Store.drop_next (And.intro @Store.drop_get (And.intro @List.take_zero.{0} (And.intro @List.take_succ_cons.{0} (And.intro @List.drop_zero.{0} (And.intro @List.drop_succ_cons.{0} (And.intro @List.cons_append.{0} (And.intro @List.nil_append.{0} (And.intro @List.append_nil.{0} (And.intro @List.set_cons_zero.{0} (And.intro @List.set_cons_succ.{0} (And.intro @Nat.lt_irrefl (And.intro @Nat.le_refl (And.intro @Store.upd_push_self (And.intro @Store.upd_upd (And.intro @List.zip_cons_cons.{0,0} (And.intro @List.zip_nil_right.{0,0} (And.intro @Option.isSome_some.{0} (And.intro @Option.isSome_none.{0} (And.intro @decide_true (@decide_false)))))))))))))))))))))))))) := And.intro @res_cell (And.intro @res_cell_slot (And.intro @Store.push_next (And.intro @Store.push_get (And.intro @Store.upd_next (And.intro @Store.drop_next (And.intro @Store.drop_get (And.intro @List.take_zero.{0} (And.intro @List.take_succ_cons.{0} (And.intro @List.drop_zero.{0} (And.intro @List.drop_succ_cons.{0} (And.intro @List.cons_append.{0} (And.intro @List.nil_append.{0} (And.intro @List.append_nil.{0} (And.intro @List.set_cons_zero.{0} (And.intro @List.set_cons_succ.{0} (And.intro @Nat.lt_irrefl (And.intro @Nat.le_refl (And.intro @Store.upd_push_self (And.intro @Store.upd_upd (And.intro @List.zip_cons_cons.{0,0} (And.intro @List.zip_nil_right.{0,0} (And.intro @Option.isSome_some.{0} (And.intro @Option.isSome_none.{0} (And.intro @decide_true (@decide_false)))))))))))))))))))))))))
theorem S6 : type_of% (And.intro @opsN_nil (And.intro @opsN_cons (And.intro @opsN_still (And.intro @stillsW_nil (And.intro @stillsW_cons (And.intro @andW_true (And.intro @Still_none (And.intro @Still_guard (And.intro @stW_def (And.intro @junks_nil (And.intro @junks_cons (And.intro @eq_self.{1} @and_self)))))))))))) := And.intro @opsN_nil (And.intro @opsN_cons (And.intro @opsN_still (And.intro @stillsW_nil (And.intro @stillsW_cons (And.intro @andW_true (And.intro @Still_none (And.intro @Still_guard (And.intro @stW_def (And.intro @junks_nil (And.intro @junks_cons (And.intro @eq_self.{1} @and_self)))))))))))
theorem S7 : type_of% (And.intro @Option.map_some.{0,0} (And.intro @Option.map_none.{0,0} (And.intro @Int.toNat_natCast (And.intro @Int.natCast_nonneg (And.intro @Int.toNat_zero (And.intro @Nat.sub_zero (And.intro @Int.le_refl (And.intro @List.length_map.{0,0} (And.intro @Nat.succ_ne_self @Nat.lt_add_one))))))))) := And.intro @Option.map_some.{0,0} (And.intro @Option.map_none.{0,0} (And.intro @Int.toNat_natCast (And.intro @Int.natCast_nonneg (And.intro @Int.toNat_zero (And.intro @Nat.sub_zero (And.intro @Int.le_refl (And.intro @List.length_map.{0,0} (And.intro @Nat.succ_ne_self @Nat.lt_add_one))))))))
theorem S8 : type_of% (And.intro @co_junk (And.intro @co_bool (And.intro @co_int (And.intro @co_str (And.intro @co_nilp (And.intro @co_ptr (And.intro @co_rptr (And.intro @co_nils (And.intro @co_list (And.intro @co_own (And.intro @co_nilm (And.intro @co_map (And.intro @co_nilf (And.intro @co_fn (@co_agg))))))))))))))) := And.intro @co_junk (And.intro @co_bool (And.intro @co_int (And.intro @co_str (And.intro @co_nilp (And.intro @co_ptr (And.intro @co_rptr (And.intro @co_nils (And.intro @co_list (And.intro @co_own (And.intro @co_nilm (And.intro @co_map (And.intro @co_nilf (And.intro @co_fn (@co_agg))))))))))))))
/-- All the rules. -/
theorem S : type_of% (And.intro @guardW_un (And.intro S8 (And.intro S7 (And.intro S6 (And.intro S0 (And.intro S1 (And.intro S2 (And.intro S3 (And.intro S4 S5))))))))) := And.intro @guardW_un (And.intro S8 (And.intro S7 (And.intro S6 (And.intro S0 (And.intro S1 (And.intro S2 (And.intro S3 (And.intro S4 S5))))))))
end Go.AL
/- The abstract layer: short forms of operations in a plain row. -/
set_option linter.unusedVariables false
namespace Go.AL
def oo (d : Nat) (op : AOp) : AOper := ⟨some d, op, none⟩
def og (d s : Nat) (w : Bool) (op : AOp) : AOper := ⟨some d, op, some (s, w)⟩
def mv (d s : Nat) : AOper := ⟨some d, .move (.t s), none⟩
section
variable (P : Program) (tm : Nat → AV) (σ : Store) (K : (Nat → AV) → Store → Prop) (rest : List AOper)
theorem opsWp_oo (d : Nat) (op : AOp) : opsWp P (oo d op :: rest) tm σ K = op.wp P tm σ fun r σ' => opsWp P rest (put tm (some d) r) σ' K := (rfl)
theorem opsWp_og (d s : Nat) (w : Bool) (op : AOp) : opsWp P (og d s w op :: rest) tm σ K = guardW (tm s) w (op.wp P tm σ fun r σ' => opsWp P rest (put tm (some d) r) σ' K) (opsWp P rest (put tm (some d) (.tuple [])) σ K) := (rfl)
theorem opsWp_mv (d s : Nat) : opsWp P (mv d s :: rest) tm σ K = opsWp P rest (put tm (some d) (tm s)) σ K := (rfl)
theorem oo_dst (d : Nat) (op : AOp) : (oo d op).dst = some d := (rfl)
theorem oo_op (d : Nat) (op : AOp) : (oo d op).op = op := (rfl)
theorem og_dst (d s : Nat) (w : Bool) (op : AOp) : (og d s w op).dst = some d := (rfl)
theorem og_op (d s : Nat) (w : Bool) (op : AOp) : (og d s w op).op = op := (rfl)
theorem mv_dst (d s : Nat) : (mv d s).dst = some d := (rfl)
end
end Go.AL
/- The abstract layer, part 16: from a contract of the layer to the conclusion of a row whose law answers true. -/
set_option linter.unusedVariables false
set_option linter.unusedSimpArgs false
namespace Go.AL
open Go.RowKit Go.ChangeShapes Go.WideShapes

/-- The ghost of a world at a call's start: all blocks of cells stand still. -/
def g0 (W : World) : Ghost := { Φ := fun b => match W.heap[b]? with | some (.cells c _ _) => some c | _ => none, vis := fun _ => none, pl := fun _ => none, next := 0 }
theorem sr0 (W : World) : SR W.heap.size W Store.empty (g0 W) W := by
 refine ⟨.refl _ _, Nat.le_refl _, fun b cells h => ?_, rfl, fun id o h => by simp [Store.empty] at h, fun id id' p p' h => by simp [g0] at h, fun id p h => by simp [g0] at h, fun id p h => by simp [g0] at h⟩
 simp only [g0] at h
 rcases hb : W.heap[b]? with _ | o
 · simp [hb] at h
 · cases o with
   | cells c t fr => simp [hb] at h; subst h; exact ⟨t, fr, rfl, fun ty hty => by simp [g0] at hty⟩
   | map es c => simp [hb] at h
   | _ => simp [hb] at h

theorem calls_of {P : Program} {f : FuncId} {fn : Func} (hf : P.funcs[f]? = some fn) (hname : (fn.name == "runtime.NumGoroutine") = false) (hbs : fn.body.isSome = true) {args : Array Value} {avs : List AV} {W : World} {K : AV → Store → Prop}
 (h : ACalls P f avs Store.empty K) (hsz : args.size = avs.length) (hrel : ∀ j c, avs[j]? = some c → RelV (g0 W) c (args.getD j undef)) :
 Calls P f args W fun e W' => ∃ v r σ' g', e = .returned v ∧ K r σ' ∧ RelV g' r v ∧ Below W.heap.size W W' := by
 obtain ⟨code, hb⟩ := Option.isSome_iff_exists.mp hbs
 have hname' : ¬ fn.name = "runtime.NumGoroutine" := by simpa using hname
 have hc : (callFunc f args).run P W = .ok (.enter f args) W := by simp [callFunc, hf, hname', hb]
 rcases h W.heap.size W (g0 W) W args (sr0 W) hsz hrel with ⟨w', h1, h2⟩ | ⟨v, w', h1, _⟩
 · rw [hc] at h1
   cases h1
   exact h2.mono fun e w'' ⟨v, he, r, σ', g', k1, k2, k3, k4⟩ => ⟨v, r, σ', g', he, k1, k4, k3.below⟩
 · rw [hc] at h1
   cases h1

section
variable {H : Type} {enc : TypeId × Value → H} {P : Program}
theorem trodAll_stays (hl : laidOutB P = true) {W W' : World} {sp : Nat → Bool} (hb : Below W.heap.size W W') : ∀ {ts : List TypeId} {vs : List Value} {ds : List (DataW H)} {ps : List MemPlace}, (∀ t, t ∈ ts → P.readableRec t = true ∧ t < P.types.size) →
 DataW.TrodAll enc P W 0 (fun _ => true) true ts vs ds ps → (∀ x, x ∈ ps → x.block < W.heap.size ∧ sp x.block = true) → DataW.TrodAll enc P W' 0 sp true ts vs ds ps
 | [], _, _, _, _, h, _ => by
  obtain ⟨rfl, rfl, rfl⟩ := trodAll_nil h
  exact trodAll_mk0
 | t :: ts, _, _, _, ht, h, hp => by
  obtain ⟨v, vs, d, ds, p, q, rfl, rfl, rfl, h1, h2⟩ := trodAll_cons h
  obtain ⟨hr, hs⟩ := ht t (by simp)
  exact ⟨p, q, WideElems.Trod_stays hl hr hs h1 (fun x hx => hb.same (hp x (by simp [hx])).1) (fun x hx => (hp x (by simp [hx])).2), trodAll_stays hl hb (fun t h => ht t (by simp [h])) h2 (fun x hx => hp x (by simp [hx])), rfl⟩

/-- A law that answers true and leaves all as it was: the row's conclusion. -/
theorem post_true (hl : laidOutB P = true) {f : Func} {s : ChangeSpec} {apart fresh handsOn again : Bool} {W W' : World} {args : Array Value} {ds gs : List (DataW H)} {before : List MemPlace} {tb : TypeId}
 (hW : DataW.Whole enc P f.params.toList s.vars apart W args.toList ds gs before) (hb : Below W.heap.size W W') (hts : f.params.toList.all (fun t => P.readableRec t && decide (t < P.types.size)) = true)
 (hv : s.vars = []) (hs : s.fn H (ds ++ gs) = { results := [.lit (.bool true)], args := ds }) (hr : f.resultTypes = #[tb]) (htb : P.underlying tb = some .bool) :
 s.post enc P f apart fresh handsOn again W args (.bool true) W' := by
 have hW' := hW
 obtain ⟨p, q, hA, hV, rfl, hfz, hnd⟩ := hW'
 rw [hv] at hV
 obtain ⟨rfl, rfl⟩ := trodVars_none hV
 rw [List.append_nil] at hW hfz hnd
 have hlt : ∀ x, x ∈ p → x.block < W.heap.size := fun x hx => hW.lt x hx
 have hts' : ∀ t, t ∈ f.params.toList → P.readableRec t = true ∧ t < P.types.size := fun t ht => by
  have := List.all_eq_true.mp hts t ht
  simpa using this
 have hargs : ∀ sp : Nat → Bool, (∀ x, x ∈ p → sp x.block = true) → DataW.TrodAll enc P W' 0 sp true f.params.toList args.toList ds p := fun sp hsp => trodAll_stays hl hb hts' hA fun x hx => ⟨hlt x hx, hsp x hx⟩
 have hres : ∀ (b : Nat) (sp : Nat → Bool) (hd : Bool), DataW.TrodAll enc P W' b sp hd f.resultTypes.toList ((Value.bool true).resultList f.resultTypes.size) (s.fn H (ds ++ [])).results [] := fun b sp hd => by
  rw [hs, hr]; exact trodAll_mk1 (shut_bool htb true)
 have hvr : ∀ sp : Nat → Bool, DataW.TrodVars enc P W' sp s.vars (s.fn H (ds ++ [])).vars [] := fun sp => by rw [hs, hv]; rfl
 refine ⟨ds, [], p, [], p, [], hW, hres _ _ _, by rw [hs]; exact hargs _ (fun x hx => by simpa using hlt x hx), hvr _, World.keptBut_mono (fun x hx => ⟨hx, .inr (.inl hx)⟩) (hb.frame (· ∈ p)), fun _ => ?_⟩
 refine ⟨ok_one hr rfl (okWide_bool_mk htb true), [.lit (.bool true)] ++ ds, [], ([] ++ p) ++ [], ⟨[] ++ p, [], trodAll_append (hargs _ (fun _ _ => rfl)) (by have := hres 0 (fun _ => true) true; rw [hs] at this; exact this), by rw [hv]; rfl, rfl, ?_, ?_⟩, ?_⟩
 · intro b off hx
   have hx' : MemPlace.cell b off ∈ p := by simpa using hx
   rw [hb.frozen (p := ⟨b, off, none⟩) (hlt _ hx')]
   exact hfz b off hx'
 · intro ha
   have := hnd ha
   simpa using this
 · intro x hx _
   simpa using hx
end
end Go.AL
/- The abstract layer, part 17: what a call's arguments are, read as values of the layer. -/
set_option linter.unusedVariables false
set_option linter.unusedSimpArgs false
namespace Go.AL
open Go.RowKit Go.ChangeShapes Go.WideShapes

/-- Types that are read: the others are left as something unknown. -/
def okType (P : Program) (t : TypeId) : Bool :=
 match P.underlying t with
 | some .bool => true
 | some (.int _) => true
 | some .string => true
 | some (.pointer e) => decide (0 < P.cellsOf e)
 | some (.slice e) => decide (0 < P.cellsOf e)
 | some (.struct _) => true
 | _ => false

/-- A reading's data, as a value of the layer (cell by cell). -/
inductive AVD {H : Type} (P : Program) : TypeId → List AV → DataW H → Prop
 | bool {t : TypeId} {b : Bool} : P.underlying t = some .bool → AVD P t [.bool b] (.lit (.bool b))
 | int {t : TypeId} {k : IntKind} {n : Int} : P.underlying t = some (.int k) → (Lit.int k n).wf = true → AVD P t [.int k n] (.lit (.int k n))
 | str {t : TypeId} {s : ByteArray} : P.underlying t = some .string → s.size ≤ maxLen → AVD P t [.str s] (.lit (.string s.data.toList))
 | nilp {t e : TypeId} : P.underlying t = some (.pointer e) → AVD P t [.nilp] .nil
 | ptr {t e : TypeId} {cs : List AV} {d : DataW H} : P.underlying t = some (.pointer e) → AVD P e cs d → AVD P t [.rptr cs 0] (.ptr d)
 | nils {t e : TypeId} : P.underlying t = some (.slice e) → AVD P t [.list []] .nil
 | list {t e : TypeId} {es : List (List AV)} {ds rest : List (DataW H)} : P.underlying t = some (.slice e) → es.length = ds.length → es.length ≤ maxLen → (∀ (i : Nat) (c : List AV) (d : DataW H), es[i]? = some c → ds[i]? = some d → AVD P e c d) → AVD P t [.list es] (.slice ds rest)
 | struct {t : TypeId} {fs : Array Field} {cs : List AV} {ds : List (DataW H)} : P.underlying t = some (.struct fs) → cs.length = P.cellsOf t → ds.length = fs.size →
  (∀ (i : Nat) (f : Field) (d : DataW H), fs[i]? = some f → ds[i]? = some d → AVD P f.type ((cs.drop f.offset).take (P.cellsOf f.type)) d) → AVD P t cs (.agg ds)
 | other {t : TypeId} {cs : List AV} {d : DataW H} : okType P t = false → AVD P t cs d

theorem g0_phi {W : World} {b : Nat} {c : Array Value} {t : TypeId} {fr : Nat × Nat} (h : W.heap[b]? = some (.cells c t fr)) : (g0 W).Φ b = some c ∧ (g0 W).vis b = none := by simp [g0, h]
theorem cell_heap {W : World} {b o : Nat} {v : Value} (h : W.cell? ⟨b, o, none⟩ = some v) : ∃ c t fr, W.heap[b]? = some (.cells c t fr) ∧ c[o]? = some v := by
 unfold World.cell? at h
 split at h
 · rename_i c t fr hc
   simp at h
   exact ⟨c, t, fr, hc, h⟩
 · cases h
/-- The cells of a list, as the layer's. -/
def Cells (W : World) (aas : List AV) (cs : List Value) : Prop :=
 aas.length = cs.length ∧ ∀ (j : Nat) (a : AV) (v : Value), aas[j]? = some a → cs[j]? = some v → RelV (g0 W) a v ∧ v.oneCell' = true
theorem cells_one {W : World} {a : AV} {v : Value} (h : RelV (g0 W) a v) (h1 : v.oneCell' = true) : Cells W [a] [v] :=
 ⟨rfl, fun j a' v' ha hv => by
  cases j with
  | zero => simp at ha hv; subst ha; subst hv; exact ⟨h, h1⟩
  | succ j => simp at ha⟩

/-- A row of cells in memory. -/
theorem block_of {W : World} {b off n : Nat} {cs : List Value} (hn : 0 < n) (hl : cs.length = n) (hc : ∀ i, i < n → W.cell? ⟨b, off + i, none⟩ = cs[i]?) :
 ∃ c t fr, W.heap[b]? = some (.cells c t fr) ∧ off + n ≤ c.size ∧ ∀ i v, cs[i]? = some v → c.getD (off + i) undef = v := by
 have h0 := hc 0 hn
 rw [List.getElem?_eq_getElem (by omega)] at h0
 obtain ⟨c, t, fr, hb, hv⟩ := cell_heap h0
 have key : ∀ i v, cs[i]? = some v → c[off + i]? = some v := by
  intro i v hi
  have hin : i < n := by have := (List.getElem?_eq_some_iff.mp hi).1; omega
  have := hc i hin
  rw [hi] at this
  obtain ⟨c', t', fr', hb', hv'⟩ := cell_heap this
  rw [hb] at hb'
  cases hb'
  exact hv'
 refine ⟨c, t, fr, hb, ?_, fun i v hi => by rw [Array.getD_eq_getD_getElem?, key i v hi]; rfl⟩
 have hl1 : cs[n - 1]? = some cs[n - 1] := List.getElem?_eq_getElem (by omega)
 have := (Array.getElem?_eq_some_iff.mp (key _ _ hl1)).1
 omega

theorem list_choice {α : Type} {n : Nat} {p : Nat → α → Prop} (h : ∀ i, i < n → ∃ x, p i x) : ∃ l : List α, l.length = n ∧ ∀ i x, l[i]? = some x → p i x := by
 induction n with
 | zero => exact ⟨[], rfl, fun i x h => by simp at h⟩
 | succ n ih =>
  obtain ⟨l, h1, h2⟩ := ih fun i hi => h i (by omega)
  obtain ⟨x, hx⟩ := h n (by omega)
  refine ⟨l ++ [x], by simp [h1], fun i y hy => ?_⟩
  by_cases hi : i < n
  · rw [List.getElem?_append_left (by omega)] at hy; exact h2 i y hy
  · rw [List.getElem?_append_right (by omega)] at hy
    have : i - l.length = 0 := by
     rcases Nat.lt_or_ge (i - l.length) 1 with h | h
     · omega
     · rw [List.getElem?_eq_none (by simpa using h)] at hy; cases hy
    rw [this] at hy; simp at hy
    have : i = n := by omega
    subst this; subst hy; exact hx

section
variable {H : Type} {enc : TypeId × Value → H} {P : Program} {W : World}
theorem trod_av (hl : laidOutB P = true) : ∀ (fuel : Nat) (t : TypeId) (cs : List Value) (x : DataW H × List MemPlace), t < P.types.size → DataW.trod enc P W 0 (fun _ => true) true fuel t cs = some x →
    ∃ aas, Cells W aas cs ∧ AVD P t aas x.1 := by
  intro fuel
  induction fuel with
  | zero => intro t cs x _ h; simp [DataW.trod] at h
  | succ fuel ih =>
    intro t cs x ht h
    have other : okType P t = false → (∃ v, cs = [v] ∧ v.oneCell' = true) → ∃ aas, Cells W aas cs ∧ AVD P t aas x.1 := by
      rintro h1 ⟨v, rfl, h2⟩
      exact ⟨[.junk], cells_one (.junk _) h2, .other h1⟩
    cases hu : P.underlying t with
    | none => unfold DataW.trod at h; rw [hu] at h; simp at h
    | some d =>
      cases d
      case bool =>
        obtain ⟨b, rfl, rfl⟩ := DataW.trod_bool hu h
        exact ⟨[.bool b], cells_one (.bool b) rfl, .bool hu⟩
      case int k =>
        obtain ⟨n, rfl, rfl, hw⟩ := DataW.trod_int hu h
        exact ⟨[.int k n], cells_one (.int k n) rfl, .int hu hw⟩
      case string =>
        obtain ⟨s, rfl, rfl, hs⟩ := DataW.trod_string hu h
        exact ⟨[.str s], cells_one (.str s hs) rfl, .str hu hs⟩
      case pointer e =>
        rcases DataW.trod_pointer hu h with ⟨rfl, rfl⟩ | ⟨a, cs', y, n, hf, rfl, rfl, hcells, hd⟩
        · exact ⟨[.nilp], cells_one .nilp rfl, .nilp hu⟩
        · cases hf
          by_cases hpos : 0 < P.cellsOf e
          · obtain ⟨aas, hA, hD⟩ := ih e cs' y (kid_pointer hl ht hu) hd
            obtain ⟨_, hlen, hcell⟩ := World.cells?_some hcells
            obtain ⟨b, off, spot⟩ := a
            have g0' := hcell 0 hpos
            rw [List.getElem?_eq_getElem (by omega)] at g0'
            have hspot : spot = none := by simpa [Addr.add] using World.cell?_spot g0'
            subst hspot
            obtain ⟨c, u, fr, hb, hsz, hget⟩ := block_of (b := b) (off := off) hpos hlen (fun i hi => by have h := hcell i hi; rwa [add_plain] at h)
            have hrel : ∀ j a, aas[j]? = some a → RelV (g0 W) a (c.getD (off + j) undef) ∧ (c.getD (off + j) undef).oneCell' = true := fun j a ha => by
              have hj : j < cs'.length := by have := (List.getElem?_eq_some_iff.mp ha).1; have := hA.1; omega
              have hv : cs'[j]? = some cs'[j] := List.getElem?_eq_getElem hj
              rw [hget j _ hv]
              exact hA.2 j a _ ha hv
            have := RelV.rptr (g := g0 W) (cs := aas) (off := 0) (o := off) (g0_phi hb) (by rw [hA.1, hlen]; exact hsz) (fun j a ha => (hrel j a ha).1) (fun j a ha => (hrel j a ha).2)
            exact ⟨[.rptr aas 0], cells_one this rfl, .ptr hu hD⟩
          · exact other (by simp [okType, hu, hpos]) ⟨_, rfl, rfl⟩
      case slice e =>
        rcases DataW.trod_slice hu h with ⟨rfl, rfl⟩ | ⟨a, len, cap, elems, rest, n, hf, rfl, rfl, _, hlc, hcap, hel, hget, _, _⟩
        · exact ⟨[.list []], cells_one (.listNil _ _) rfl, .nils hu⟩
        · cases hf
          by_cases hpos : 0 < P.cellsOf e
          · rcases Nat.eq_zero_or_pos len with rfl | hlen
            · have : elems = [] := List.eq_nil_of_length_eq_zero hel
              subst this
              exact ⟨[.list []], cells_one (.listNil _ _) rfl, .list hu rfl (by simp) (fun i c d h => by simp at h)⟩
            · have each : ∀ i, i < len → ∃ aas : List AV, ∃ cs' : List Value, ∃ y, elems[i]? = some y ∧ W.cells? 0 (a.add (i * P.cellsOf e)) (P.cellsOf e) = some cs' ∧ Cells W aas cs' ∧ AVD P e aas y.1 := by
                intro i hi
                have hg := hget i hi
                rw [List.getElem?_eq_getElem (by omega), Option.bind_eq_some_iff] at hg
                obtain ⟨cs', h1, h2⟩ := hg
                obtain ⟨aas, hA, hD⟩ := ih e cs' _ (kid_slice hl ht hu) h2
                exact ⟨aas, cs', _, List.getElem?_eq_getElem (by omega), h1, hA, hD⟩
              obtain ⟨es, he1, he2⟩ := list_choice each
              obtain ⟨b, off, spot⟩ := a
              have hspot : spot = none := by
                obtain ⟨aas, cs', y, _, h1, _, _⟩ := each 0 hlen
                obtain ⟨_, hlen', hcell⟩ := World.cells?_some h1
                have g0' := hcell 0 hpos
                rw [List.getElem?_eq_getElem (by omega)] at g0'
                simpa [Addr.add] using World.cell?_spot g0'
              subst hspot
              have rows : ∀ i aas, es[i]? = some aas → ∃ cs' : List Value, ∃ y, elems[i]? = some y ∧ cs'.length = P.cellsOf e ∧ (∀ j, j < P.cellsOf e → W.cell? ⟨b, off + i * P.cellsOf e + j, none⟩ = cs'[j]?) ∧ Cells W aas cs' ∧ AVD P e aas y.1 := by
                intro i aas hi
                obtain ⟨cs', y, h0, h1, h2, h3⟩ := he2 i aas hi
                obtain ⟨_, hlen', hcell⟩ := World.cells?_some h1
                refine ⟨cs', y, h0, hlen', fun j hj => ?_, h2, h3⟩
                have := hcell j hj
                rwa [add_plain, add_plain] at this
              obtain ⟨c, u, fr, hb⟩ : ∃ c u fr, W.heap[b]? = some (.cells c u fr) := by
                have h0 : es[0]? = some es[0] := List.getElem?_eq_getElem (by omega)
                obtain ⟨cs', y, _, h2, h3, _, _⟩ := rows 0 _ h0
                obtain ⟨c, u, fr, hb, _⟩ := block_of hpos h2 h3
                exact ⟨c, u, fr, hb⟩
              have rows2 : ∀ i aas, es[i]? = some aas → aas.length = P.cellsOf e ∧ off + i * P.cellsOf e + P.cellsOf e ≤ c.size ∧ ∀ j a, aas[j]? = some a → RelV (g0 W) a (c.getD (off + i * P.cellsOf e + j) undef) ∧ (c.getD (off + i * P.cellsOf e + j) undef).oneCell' = true := by
                intro i aas hi
                obtain ⟨cs', y, _, h2, h3, h4, _⟩ := rows i aas hi
                obtain ⟨c', u', fr', hb', hs', hg'⟩ := block_of hpos h2 h3
                rw [hb] at hb'; cases hb'
                refine ⟨by rw [h4.1, h2], hs', fun j a ha => ?_⟩
                have hj : j < cs'.length := by have := (List.getElem?_eq_some_iff.mp ha).1; have := h4.1; omega
                have hv : cs'[j]? = some cs'[j] := List.getElem?_eq_getElem hj
                rw [hg' j _ hv]
                exact h4.2 j a _ ha hv
              have hsz : off + es.length * P.cellsOf e ≤ c.size := by
                have h0 : es[len - 1]? = some es[len - 1] := List.getElem?_eq_getElem (by omega)
                have := (rows2 _ _ h0).2.1
                rw [he1]
                have e1 : len * P.cellsOf e = (len - 1) * P.cellsOf e + P.cellsOf e := by
                  rw [← Nat.succ_mul]; congr 1; omega
                omega
              have hrel := RelV.list (g := g0 W) (es := es) (off := off) (s := P.cellsOf e) (cap := cap) (g0_phi hb) (fun aas has => by
                  obtain ⟨i, hi⟩ := List.mem_iff_getElem?.mp has
                  exact (rows2 i aas hi).1) hsz (fun i j aas a h1 h2 => ((rows2 i aas h1).2.2 j a h2).1) (fun i j aas a h1 h2 => ((rows2 i aas h1).2.2 j a h2).2) (by omega) hcap
              rw [he1] at hrel
              refine ⟨[.list es], cells_one hrel rfl, .list hu (by simp [he1, hel]) (by omega) fun i aas d h1 h2 => ?_⟩
              obtain ⟨cs', y, h3, _, _, _, h4⟩ := rows i aas h1
              simp only [List.getElem?_map, h3, Option.map_some, Option.some.injEq] at h2
              subst h2; exact h4
          · exact other (by simp [okType, hu, hpos]) ⟨_, rfl, rfl⟩
      case struct fs =>
        obtain ⟨xs, n, hf, rfl, hlen, hxs, hget⟩ := DataW.trod_struct hu h
        cases hf
        obtain ⟨k1, k2, k3⟩ := kid_struct hl ht hu
        have key : ∀ m, m ≤ fs.size → ∃ aas, Cells W aas (cs.take ((fs.toList.take m).map fun f => P.cellsOf f.type).sum) ∧
            ∀ (i : Nat) (f : Field) (d : DataW H), i < m → fs[i]? = some f → (xs.map (·.1))[i]? = some d → AVD P f.type ((aas.drop f.offset).take (P.cellsOf f.type)) d := by
          intro m
          induction m with
          | zero => intro _; exact ⟨[], ⟨by simp, fun j a v h => by simp at h⟩, fun i f d hi => by omega⟩
          | succ m ihm =>
            intro hm
            obtain ⟨aas, hA, hD⟩ := ihm (by omega)
            have hfm : fs.toList[m]? = some fs.toList[m] := List.getElem?_eq_getElem (by simp; omega)
            have hfm' : fs[m]? = some fs.toList[m] := by rw [← Array.getElem?_toList]; exact hfm
            generalize fs.toList[m] = f at hfm hfm'
            have hoff := k3 m f hfm
            have hx := hget m f hfm'
            rw [List.getElem?_eq_getElem (by omega)] at hx
            obtain ⟨bs, hB, hE⟩ := ih f.type _ _ (k1 f (List.mem_of_getElem? hfm)) hx
            have hsum : ((fs.toList.take (m + 1)).map fun f => P.cellsOf f.type).sum = f.offset + P.cellsOf f.type := by
              rw [List.take_add_one, hfm, List.map_append, List.sum_append, hoff]; simp
            have htot : f.offset + P.cellsOf f.type ≤ cs.length := by
              rw [hlen, k2, ← hsum]
              conv => rhs; rw [← List.take_append_drop (m + 1) fs.toList]
              rw [List.map_append, List.sum_append]; omega
            rw [← hoff] at hA
            have hal : aas.length = f.offset := by rw [hA.1, List.length_take]; omega
            have hbl : bs.length = P.cellsOf f.type := by rw [hB.1]; simp; omega
            have hcat : cs.take (f.offset + P.cellsOf f.type) = cs.take f.offset ++ (cs.drop f.offset).take (P.cellsOf f.type) := List.take_add ..
            refine ⟨aas ++ bs, ?_, fun i f' d hi hf' hd => ?_⟩
            · rw [hsum, hcat]
              refine ⟨by simp [hA.1, hB.1], fun j a v h1 h2 => ?_⟩
              by_cases hj : j < aas.length
              · rw [List.getElem?_append_left hj] at h1
                rw [List.getElem?_append_left (by rw [← hA.1]; exact hj)] at h2
                exact hA.2 j a v h1 h2
              · rw [List.getElem?_append_right (by omega)] at h1
                rw [List.getElem?_append_right (by rw [← hA.1]; omega), ← hA.1] at h2
                exact hB.2 _ a v h1 h2
            · by_cases him : i < m
              · have hsmall : f'.offset + P.cellsOf f'.type ≤ aas.length := by
                  have hfi : fs.toList[i]? = some f' := by rw [Array.getElem?_toList]; exact hf'
                  have ho := k3 i f' hfi
                  rw [hal, hoff]
                  have e1 : ((fs.toList.take (i + 1)).map fun f => P.cellsOf f.type).sum = f'.offset + P.cellsOf f'.type := by
                    rw [List.take_add_one, hfi, List.map_append, List.sum_append, ho]; simp
                  rw [← e1]
                  have e2 : fs.toList.take m = fs.toList.take (i + 1) ++ (fs.toList.take m).drop (i + 1) := by
                    conv => lhs; rw [← List.take_append_drop (i + 1) (fs.toList.take m)]
                    rw [List.take_take, Nat.min_eq_left (by omega)]
                  rw [e2, List.map_append, List.sum_append]; omega
                have := hD i f' d him hf' hd
                rw [List.drop_append_of_le_length (by omega), List.take_append_of_le_length (by simp; omega)]
                exact this
              · have : i = m := by omega
                subst this
                rw [hfm'] at hf'; cases hf'
                rw [List.getElem?_map, List.getElem?_eq_getElem (by omega)] at hd
                simp at hd; subst hd
                rw [← hal, List.drop_left, List.take_of_length_le (by omega)]
                exact hE
        obtain ⟨aas, hA, hD⟩ := key fs.size (Nat.le_refl _)
        have hall : cs.take ((fs.toList.take fs.size).map fun f => P.cellsOf f.type).sum = cs := by
          apply List.take_of_length_le
          rw [show fs.size = fs.toList.length by simp, List.take_length, ← k2, hlen]; exact Nat.le_refl _
        rw [hall] at hA
        refine ⟨aas, hA, .struct hu (by rw [hA.1, hlen]) (by simp [hxs]) fun i f d h1 h2 => hD i f d (by have := (Array.getElem?_eq_some_iff.mp h1).1; omega) h1 h2⟩
      case array n e =>
        obtain ⟨xs, m, hf, rfl, hlen, hxs, hget⟩ := DataW.trod_array hu h
        cases hf
        obtain ⟨k1, k2⟩ := kid_array hl ht hu
        refine ⟨List.replicate cs.length .junk, ⟨by simp, fun j a v h1 h2 => ?_⟩, .other (by simp [okType, hu])⟩
        have ha : a = .junk := List.eq_of_mem_replicate (List.mem_of_getElem? h1)
        subst ha
        refine ⟨.junk _, ?_⟩
        have hj := (List.getElem?_eq_some_iff.mp h2).1
        rw [hlen, k2] at hj
        have hc : 0 < P.cellsOf e := by
          rcases Nat.eq_zero_or_pos (P.cellsOf e) with h0 | h0
          · rw [h0] at hj; simp at hj
          · exact h0
        have hi : j / P.cellsOf e < n := Nat.div_lt_of_lt_mul (by rw [Nat.mul_comm]; exact hj)
        have hx := hget _ hi
        rw [List.getElem?_eq_getElem (by omega)] at hx
        obtain ⟨aas, hA, _⟩ := ih e _ _ k1 hx
        have hmod := Nat.mod_lt j hc
        have hdm := Nat.div_add_mod j (P.cellsOf e)
        have hv : ((cs.drop (j / P.cellsOf e * P.cellsOf e)).take (P.cellsOf e))[j % P.cellsOf e]? = some v := by
          rw [List.getElem?_take, if_pos hmod, List.getElem?_drop, Nat.mul_comm, hdm]; exact h2
        have hjl := (List.getElem?_eq_some_iff.mp hv).1
        have hja : j % P.cellsOf e < aas.length := by rw [hA.1]; exact hjl
        exact (hA.2 _ _ v (List.getElem?_eq_getElem hja) hv).2
      all_goals (
        unfold DataW.trod at h; rw [hu] at h
        first
          | (simp at h; done)
          | (refine other (by simp [okType, hu]) ?_
             split at h <;> first | (simp at h; done) | (exact ⟨_, rfl, rfl⟩) | (rename_i heq; cases heq)))

def isAgg (P : Program) (t : TypeId) : Bool := match P.underlying t with | some (.struct _) => true | some (.array _ _) => true | _ => false
/-- An argument. -/
theorem arg_av (hl : laidOutB P = true) {t : TypeId} (ht : t < P.types.size) {base : Nat} {v : Value} {d : DataW H} {ps : List MemPlace} (hval : Value.okWide P W .any base t v) (h : DataW.Trod enc P W 0 (fun _ => true) true t v d ps) :
 (isAgg P t = true → ∃ aas, RelV (g0 W) (.agg aas) v ∧ AVD P t aas d) ∧ (isAgg P t = false → ∃ a, RelV (g0 W) a v ∧ AVD P t [a] d) := by
 obtain ⟨fuel, hf⟩ := h
 obtain ⟨aas, hA, hD⟩ := trod_av (W := W) hl fuel t _ _ ht hf
 refine ⟨fun ha => ?_, fun ha => ?_⟩
 · obtain ⟨arr, rfl⟩ : ∃ arr, v = .agg arr := by
    unfold isAgg at ha
    unfold Value.okWide at hval
    split at hval
    · obtain ⟨c, hc, _⟩ := hval; exact ⟨c, hc⟩
    · obtain ⟨c, hc, _⟩ := hval; exact ⟨c, hc⟩
    · split at ha
      · rename_i h1 h2 _ _ h3; exact absurd h3 (h1 _)
      · rename_i h1 h2 _ _ _ h3; exact absurd h3 (h2 _ _)
      · cases ha
   refine ⟨aas, .agg (by have := hA.1; simpa [Value.cells] using this.symm) (fun j c hc => ?_) (fun j c hc => ?_), hD⟩
   all_goals (
    have hj : j < arr.size := by have := (List.getElem?_eq_some_iff.mp hc).1; have h2 := hA.1; simp [Value.cells] at h2; omega
    have hv : (Value.agg arr).cells.toList[j]? = some arr[j] := by simp [Value.cells, hj]
    have := hA.2 j c _ hc hv
    rw [Array.getD_eq_getD_getElem?, Array.getElem?_eq_getElem hj, Option.getD_some])
   · exact this.1
   · exact this.2
 · have hv : v.cells.toList = [v] := by
    cases v <;> first | rfl | skip
    exfalso
    unfold isAgg at ha
    unfold Value.okWide at hval
    split at hval
    · rename_i h; rw [h] at ha; simp at ha
    · rename_i h; rw [h] at ha; simp at ha
    · unfold Cell.okWide at hval
      split at hval <;> first | contradiction | skip
      unfold Cell.ok at hval
      split at hval <;> first | contradiction | (exact hval.elim) | skip
   rw [hv] at hA
   match aas, hA with
   | [a], hA => exact ⟨a, (hA.2 0 a v rfl rfl).1, hD⟩
   | [], hA => have := hA.1; simp at this
   | _ :: _ :: _, hA => have := hA.1; simp at this
end
end Go.AL
/- The abstract layer, part 18: arguments taken apart by their types. -/
set_option linter.unusedVariables false
set_option linter.unusedSimpArgs false
namespace Go.AL
section
variable {H : Type} {P : Program} {t : TypeId} {cs : List AV} {d : DataW H}
theorem avd_int {k : IntKind} (hu : P.underlying t = some (.int k)) (h : AVD P t cs d) : ∃ n, cs = [.int k n] ∧ (Lit.int k n).wf = true := by
 cases h with
 | int h hw => rw [hu] at h; cases h; exact ⟨_, rfl, hw⟩
 | bool h => rw [hu] at h; cases h
 | str h _ => rw [hu] at h; cases h
 | nilp h => rw [hu] at h; cases h
 | ptr h _ => rw [hu] at h; cases h
 | nils h => rw [hu] at h; cases h
 | list h _ _ _ => rw [hu] at h; cases h
 | struct h _ _ _ => rw [hu] at h; cases h
 | other h => simp [okType, hu] at h
end
end Go.AL
/- The abstract layer, part 22: arguments taken apart by their types: texts, and what is of a type that leads to itself. -/
set_option linter.unusedVariables false
set_option linter.unusedSimpArgs false
namespace Go.AL
section
variable {H : Type} {P : Program} {t : TypeId} {cs : List AV} {d : DataW H}
end
theorem len2 {α : Type} : ∀ {l : List α}, l.length = 2 → ∃ a b, l = [a, b]
 | [a, b], _ => ⟨a, b, rfl⟩
theorem len5' {α : Type} : ∀ {l : List α}, l.length = 5 → ∃ a b c d e, l = [a, b, c, d, e]
 | [a, b, c, d, e], _ => ⟨a, b, c, d, e, rfl⟩
end Go.AL
/- The abstract layer, part 23: code is run on values, and what is run so is so. -/
set_option linter.unusedVariables false
set_option linter.unusedSimpArgs false
namespace Go.AL
open Go.RowKit

/-- A tree keyed by numbers. -/
inductive Tr (α : Type) where
 | nil
 | node (v : Option α) (l r : Tr α)
noncomputable def Tr.get {α : Type} (t : Tr α) : Nat → Option α :=
 Tr.rec (motive := fun _ => Nat → Option α) (fun _ => none) (fun v l r gl gr k => Nat.rec (motive := fun _ => Option α) v (fun k _ => Bool.rec (motive := fun _ => Option α) (gr (Nat.div k 2)) (gl (Nat.div k 2)) (Nat.beq (Nat.mod k 2) 0)) k) t
theorem Tr.get_zero {α : Type} (v : Option α) (l r : Tr α) : (Tr.node v l r).get 0 = v := (rfl)
theorem Tr.get_succ {α : Type} (v : Option α) (l r : Tr α) (k : Nat) : (Tr.node v l r).get (k + 1) = match Nat.beq (Nat.mod k 2) 0 with | true => l.get (Nat.div k 2) | false => r.get (Nat.div k 2) := by
 show Bool.rec (motive := fun _ => Option α) (r.get (Nat.div k 2)) (l.get (Nat.div k 2)) (Nat.beq (Nat.mod k 2) 0) = _
 cases Nat.beq (Nat.mod k 2) 0 <;> rfl
noncomputable def optNode {α : Type} (x : Option (Tr α)) (f : Tr α → Tr α) : Option (Tr α) := Option.rec (motive := fun _ => Option (Tr α)) none (fun t => some (f t)) x
noncomputable def Tr.put {α : Type} (v : Option α) (l r : Tr α) (rec : Tr α → Nat → Option (Tr α)) (k : Nat) (a : α) : Option (Tr α) :=
 Nat.rec (motive := fun _ => Option (Tr α)) (some (.node (some a) l r)) (fun k _ => Bool.rec (motive := fun _ => Option (Tr α)) (optNode (rec r (Nat.div k 2)) fun r => .node v l r) (optNode (rec l (Nat.div k 2)) fun l => .node v l r) (Nat.beq (Nat.mod k 2) 0)) k
noncomputable def Tr.setR {α : Type} (a : α) (f : Nat) : Tr α → Nat → Option (Tr α) :=
 Nat.rec (motive := fun _ => Tr α → Nat → Option (Tr α)) (fun _ _ => none) (fun _ rec t => Tr.rec (motive := fun _ => Nat → Option (Tr α)) (fun k => Tr.put none .nil .nil rec k a) (fun v l r _ _ k => Tr.put v l r rec k a) t) f
noncomputable def Tr.set {α : Type} (f : Nat) (t : Tr α) (k : Nat) (a : α) : Option (Tr α) := Tr.setR a f t k
theorem Tr.put_eq {α : Type} (v : Option α) (l r : Tr α) (rec : Tr α → Nat → Option (Tr α)) (k : Nat) (a : α) : Tr.put v l r rec k a =
 match k with
 | 0 => some (.node (some a) l r)
 | k + 1 =>
  match Nat.beq (Nat.mod k 2) 0 with
  | true => match rec l (Nat.div k 2) with | some l => some (.node v l r) | none => none
  | false => match rec r (Nat.div k 2) with | some r => some (.node v l r) | none => none := by
 cases k with
 | zero => rfl
 | succ k =>
  show Bool.rec (motive := fun _ => Option (Tr α)) (optNode (rec r (Nat.div k 2)) fun r => .node v l r) (optNode (rec l (Nat.div k 2)) fun l => .node v l r) (Nat.beq (Nat.mod k 2) 0) = (match Nat.beq (Nat.mod k 2) 0 with
   | true => match rec l (Nat.div k 2) with | some l => some (.node v l r) | none => none
   | false => match rec r (Nat.div k 2) with | some r => some (.node v l r) | none => none)
  cases Nat.beq (Nat.mod k 2) 0
  · simp only
    cases rec r (Nat.div k 2) <;> rfl
  · simp only
    cases rec l (Nat.div k 2) <;> rfl
theorem Tr.set_nil {α : Type} (f k : Nat) (a : α) : Tr.set (f + 1) .nil k a = Tr.put none .nil .nil (fun t k => Tr.set f t k a) k a := (rfl)
theorem Tr.set_node {α : Type} (f k : Nat) (v : Option α) (l r : Tr α) (a : α) : Tr.set (f + 1) (.node v l r) k a = Tr.put v l r (fun t k => Tr.set f t k a) k a := (rfl)
theorem beqT {k : Nat} (h : Nat.beq (Nat.mod k 2) 0 = true) : k % 2 = 0 := Nat.eq_of_beq_eq_true h
theorem beqF {k : Nat} (h : Nat.beq (Nat.mod k 2) 0 = false) : ¬ k % 2 = 0 := Nat.ne_of_beq_eq_false h
theorem Tr.get_nil {α : Type} (k : Nat) : (Tr.nil : Tr α).get k = none := rfl
theorem Tr.get_put {α : Type} (v : Option α) (l r t' : Tr α) (rec : Tr α → Nat → Option (Tr α)) (k : Nat) (a : α) (hr : ∀ t t' k, rec t k = some t' → ∀ j, t'.get j = if j = k then some a else t.get j) (h : Tr.put v l r rec k a = some t') (j : Nat) :
 t'.get j = if j = k then some a else (Tr.node v l r).get j := by
 rw [Tr.put_eq] at h
 cases k with
 | zero =>
  simp only [Option.some.injEq] at h
  subst h
  cases j with
  | zero => rw [Tr.get_zero, if_pos rfl]
  | succ j => rw [if_neg (by omega), Tr.get_succ, Tr.get_succ]
 | succ k =>
  simp only at h
  split at h
  · rename_i hb
    split at h
    · rename_i l' hl
      cases h
      have ih := hr _ _ _ hl
      cases j with
      | zero => rw [if_neg (by omega), Tr.get_zero, Tr.get_zero]
      | succ j =>
       rw [Tr.get_succ, Tr.get_succ]
       have hb' : k % 2 = 0 := beqT hb
       split
       · rename_i hj
         have hj' : j % 2 = 0 := beqT hj
         rw [ih]
         have : (j.div 2 = k.div 2) = (j + 1 = k + 1) := by show (j / 2 = k / 2) = _; simp; omega
         simp only [this]
       · rename_i hj
         have hj' : ¬ j % 2 = 0 := beqF hj
         rw [if_neg (by omega)]
    · cases h
  · rename_i hb
    split at h
    · rename_i l' hl
      cases h
      have ih := hr _ _ _ hl
      cases j with
      | zero => rw [if_neg (by omega), Tr.get_zero, Tr.get_zero]
      | succ j =>
       rw [Tr.get_succ, Tr.get_succ]
       have hb' : ¬ k % 2 = 0 := beqF hb
       split
       · rename_i hj
         have hj' : j % 2 = 0 := beqT hj
         rw [if_neg (by omega)]
       · rename_i hj
         have hj' : ¬ j % 2 = 0 := beqF hj
         rw [ih]
         have : (j.div 2 = k.div 2) = (j + 1 = k + 1) := by show (j / 2 = k / 2) = _; simp; omega
         simp only [this]
    · cases h
theorem Tr.get_set {α : Type} : ∀ (f : Nat) (t t' : Tr α) (k : Nat) (a : α), Tr.set f t k a = some t' → ∀ j, t'.get j = if j = k then some a else t.get j
 | 0, t, t', k, a, h, j => by cases h
 | f + 1, .nil, t', k, a, h, j => by
  rw [Tr.set_nil] at h
  rw [Tr.get_put _ _ _ _ _ _ _ (fun t t' k h => Tr.get_set f t t' k a h) h j]
  cases j with
  | zero => rfl
  | succ j => rw [Tr.get_succ]; simp only [Tr.get_nil]; cases Nat.beq (Nat.mod j 2) 0 <;> rfl
 | f + 1, .node v l r, t', k, a, h, j => by
  rw [Tr.set_node] at h
  rw [Tr.get_put _ _ _ _ _ _ _ (fun t t' k h => Tr.get_set f t t' k a h) h j]

/-- Where a run stands. -/
structure St where
 tm : Tr AV
 n : Nat
 hp : Tr AObj
noncomputable def tmF (t : Tr AV) (i : Nat) : AV := match t.get i with | some v => v | none => .junk
noncomputable def stF (n : Nat) (hp : Tr AObj) : Store := ⟨n, fun i => match Nat.ble n i with | true => none | false => hp.get i, fun i hi => by
 have : Nat.ble n i = true := by rw [Nat.ble_eq]; exact hi
 simp only [this]⟩
theorem stF_get {n : Nat} {hp : Tr AObj} {i : Nat} (h : i < n) : (stF n hp).get i = hp.get i := by
 have : Nat.ble n i = false := by
  cases e : Nat.ble n i with
  | false => rfl
  | true => have := Nat.le_of_ble_eq_true e; omega
 simp only [stF, this]
/-- The object that an operation may change. -/
def AOp.touch (op : AOp) (tm : Nat → AV) : Option Nat :=
 match op with
 | .store _ a _ => match a.ev tm with | .ptr id _ _ _ => some id | _ => none
 | .append _ _ _ s _ => match s.ev tm with | .own id _ _ _ _ => some id | _ => none
 | .mapset _ m _ _ => match m.ev tm with | .map id => some id | _ => none
 | .mapdel _ m _ => match m.ev tm with | .map id => some id | _ => none
 | _ => none
theorem AOp.eff_touch {op : AOp} {tm : Nat → AV} {σ σ' : Store} {r : AV} (h : op.eff tm σ = some (r, σ')) : (σ'.next = σ.next ∨ σ'.next = σ.next + 1) ∧ ∀ j, j < σ.next → op.touch tm ≠ some j → σ'.get j = σ.get j := by
 by_cases hq : op.quiet = true
 · have := AOp.eff_quiet hq h
   subst this
   exact ⟨.inl rfl, fun _ _ _ => rfl⟩
 · have hp : ∀ (o : AObj), ((σ.push o).next = σ.next ∨ (σ.push o).next = σ.next + 1) ∧ ∀ j, j < σ.next → op.touch tm ≠ some j → (σ.push o).get j = σ.get j := fun o => ⟨.inr rfl, fun j hj _ => Store.get_push_lt _ _ hj⟩
   have hu : ∀ (id : Nat) (o : AObj), op.touch tm = some id → ((σ.upd id o).next = σ.next ∨ (σ.upd id o).next = σ.next + 1) ∧ ∀ j, j < σ.next → op.touch tm ≠ some j → (σ.upd id o).get j = σ.get j := fun id o e => ⟨.inl rfl, fun j hj hn => Store.get_upd_ne _ _ (fun e2 => hn (by rw [e, e2]))⟩
   have hs : (σ.next = σ.next ∨ σ.next = σ.next + 1) ∧ ∀ j, j < σ.next → op.touch tm ≠ some j → σ.get j = σ.get j := ⟨.inl rfl, fun _ _ _ => rfl⟩
   cases op <;> simp only [AOp.quiet, not_true_eq_false, Bool.false_eq_true] at hq <;> simp only [AOp.eff] at h
   all_goals (repeat' split at h)
   all_goals first | (cases h; done) | (simp only [Option.some.injEq, Prod.mk.injEq] at h; obtain ⟨-, rfl⟩ := h; first | exact hs | exact hp _ | (refine hu _ _ ?_; simp_all [AOp.touch]) | (split <;> first | exact hs | exact hp _))

/-- A number is brought to its plain form. -/
def forceN {β : Type} (n : Nat) (k : Nat → β) : β := match n with | 0 => k 0 | m + 1 => k (m + 1)
theorem forceN_eq {β : Type} (n : Nat) (k : Nat → β) : forceN n k = k n := by cases n <;> rfl
def forceV {β : Type} (v : AV) (k : AV → β) : β :=
 match v with
 | .int kd (.ofNat m) => forceN m fun m => k (.int kd (.ofNat m))
 | .int kd (.negSucc m) => forceN m fun m => k (.int kd (.negSucc m))
 | .bool true => k (.bool true)
 | .bool false => k (.bool false)
 | .ptr a b c d => forceN b fun b => forceN c fun c => forceN d fun d => k (.ptr a b c d)
 | .own a b c d e => forceN b fun b => forceN d fun d => forceN e fun e => k (.own a b c d e)
 | v => k v
theorem forceV_eq {β : Type} (v : AV) (k : AV → β) : forceV v k = k v := by
 unfold forceV
 split <;> simp only [forceN_eq]

/-- What an operation leaves. -/
noncomputable def commit1 (hp : Tr AObj) (σ' : Store) (t : Option Nat) : Option (Tr AObj) :=
 match t with
 | none => some hp
 | some id => match σ'.get id with | some o => Tr.set 64 hp id o | none => none
noncomputable def commit3 (v : AV) (n : Nat) (hp : Tr AObj) (σ' : Store) : Option (AV × Nat × Tr AObj) :=
 match Nat.beq σ'.next n with
 | true => some (v, n, hp)
 | false => match σ'.get n with | some o => (match Tr.set 64 hp n o with | some hp => forceN σ'.next fun n => some (v, n, hp) | none => none) | none => none
noncomputable def commit2 (v : AV) (n : Nat) (hp : Tr AObj) (σ' : Store) : Option (AV × Nat × Tr AObj) := forceV v fun v => commit3 v n hp σ'
noncomputable def commit (t : Option Nat) (n : Nat) (hp : Tr AObj) (x : Option (AV × Store)) : Option (AV × Nat × Tr AObj) :=
 match x with
 | none => none
 | some (v, σ') => match commit1 hp σ' t with | none => none | some hp => commit2 v n hp σ'
theorem stF_ext {n : Nat} {hp : Tr AObj} {σ : Store} (hn : σ.next = n) (h : ∀ j, j < n → hp.get j = σ.get j) : stF n hp = σ := by
 refine Store.ext' hn.symm (funext fun j => ?_)
 rcases Nat.lt_or_ge j n with hj | hj
 · rw [stF_get hj, h j hj]
 · rw [(stF n hp).wf j hj, σ.wf j (by omega)]
theorem commit_ok {op : AOp} {n0 : Nat} {hp0 : Tr AObj} {tm : Nat → AV} {x : Option (AV × Store)} {id : Option Nat} {v : AV} {n : Nat} {hp : Tr AObj} (hx : x = op.eff tm (stF n0 hp0)) (hi : op.touch tm = none ∨ op.touch tm = id) (h : commit id n0 hp0 x = some (v, n, hp)) :
 op.eff tm (stF n0 hp0) = some (v, stF n hp) := by
 subst hx
 cases e : op.eff tm (stF n0 hp0) with
 | none => rw [e] at h; cases h
 | some p =>
  obtain ⟨r, σ'⟩ := p
  obtain ⟨h1, h2⟩ := AOp.eff_touch e
  rw [e] at h
  simp only [commit] at h
  split at h
  · cases h
  · rename_i hp1 hh
    have k1 : ∀ j, j < n0 → hp1.get j = σ'.get j := by
     intro j hj
     have hj2 : (stF n0 hp0).get j = hp0.get j := stF_get hj
     have hun : ∀ j, j < n0 → id ≠ some j → hp0.get j = σ'.get j := fun j hj hne => by
      rw [h2 j hj (by rcases hi with e | e <;> rw [e] <;> simp_all), stF_get hj]
     cases id with
     | none =>
      simp only [commit1, Option.some.injEq] at hh
      subst hh
      exact hun j hj (by simp)
     | some id =>
      simp only [commit1] at hh
      split at hh
      · rename_i o ho
        rw [Tr.get_set _ _ _ _ _ hh]
        by_cases hji : j = id
        · rw [if_pos hji, hji, ho]
        · rw [if_neg hji, hun j hj (by simpa using fun e => hji e.symm)]
      · cases hh
    simp only [commit2, forceV_eq, commit3] at h
    split at h
    · rename_i hb
      have hb := Nat.eq_of_beq_eq_true hb
      simp only [Option.some.injEq, Prod.mk.injEq] at h
      obtain ⟨rfl, rfl, rfl⟩ := h
      rw [stF_ext hb k1]
    · rename_i hb
      have hb := Nat.ne_of_beq_eq_false hb
      split at h
      · rename_i o ho
        split at h
        · rename_i hp2 hh2
          rw [forceN_eq] at h
          simp only [Option.some.injEq, Prod.mk.injEq] at h
          obtain ⟨rfl, rfl, rfl⟩ := h
          have hn : σ'.next = n0 + 1 := h1.elim (fun e => absurd e hb) (fun h => h)
          rw [stF_ext rfl fun j hj => ?_]
          rw [Tr.get_set _ _ _ _ _ hh2]
          by_cases hjn : j = n0
          · rw [if_pos hjn, hjn, ho]
          · rw [if_neg hjn]; exact k1 j (by omega)
        · cases h
      · cases h

/-! ### Running -/
structure FEnt where
 n : Nat
 c : ACode
 rs : List RV
def FTab := FuncId → Option FEnt
def FTab.OK (P : Program) (tab : FTab) : Prop := ∀ f e, tab f = some e → ∀ (args : List AV) (σ : Store) (K : AV → Store → Prop), args.length ≤ e.n →
 AWP P e.n e.c (fun x t s => match x with | .exit _ => False | _ => Res e.rs K t s) (env (argList 0 args)) σ → ACalls P f args σ K
abbrev Rec := ACode → St → Option (AEx × St)
noncomputable def argT : Nat → List AV → Tr AV → Option (Tr AV)
 | _, [], t => some t
 | k, a :: r, t => match Tr.set 64 t k a with | some t => argT (k + 1) r t | none => none
theorem argT_get : ∀ (args : List AV) (k : Nat) (t t' : Tr AV), argT k args t = some t' → ∀ i, tmF t' i = if k ≤ i ∧ i < k + args.length then args.getD (i - k) .junk else tmF t i
 | [], k, t, t', h, i => by simp [argT] at h; subst h; rw [if_neg (by simp only [List.length_nil]; omega)]
 | a :: r, k, t, t', h, i => by
  simp only [argT] at h
  split at h
  · rename_i t1 ht
    rw [argT_get r (k + 1) t1 t' h i]
    have hg := Tr.get_set _ _ _ _ _ ht i
    by_cases h1 : i = k
    · subst h1
      rw [if_neg (by omega), if_pos (by simp)]
      simp [tmF, hg]
    · by_cases h2 : k + 1 ≤ i ∧ i < k + 1 + r.length
      · rw [if_pos h2, if_pos (by simp; omega)]
        have : i - k = (i - (k + 1)) + 1 := by omega
        simp [this]
      · rw [if_neg h2, if_neg (by simp; omega)]
        simp only [tmF, hg, if_neg h1]
  · cases h
noncomputable def callF (tab : FTab) (rec : Rec) (f : FuncId) (args : List AV) (n : Nat) (hp : Tr AObj) : Option (AV × Nat × Tr AObj) :=
 match tab f with
 | none => none
 | some e =>
  match Nat.ble args.length e.n, argT 0 args .nil with
  | true, some t =>
   match rec e.c ⟨t, n, hp⟩ with
   | some (.exit _, _) => none
   | some (_, s) => match resVals (tmF s.tm) (stF s.n s.hp) e.rs with | some l => some (resOne l, s.n, s.hp) | none => none
   | none => none
  | _, _ => none
/-- What an operation that changes nothing comes to. -/
def quietF (x : Option (AV × Store)) (n : Nat) (hp : Tr AObj) : Option (AV × Nat × Tr AObj) := match x with | some (v, _) => some (v, n, hp) | none => none
noncomputable def binF (x : Option AV) (n : Nat) (hp : Tr AObj) : Option (AV × Nat × Tr AObj) := match x with | some v => forceV v fun v => some (v, n, hp) | none => none
noncomputable def callvF (tab : FTab) (rec : Rec) (f : AV) (args : List AV) (n : Nat) (hp : Tr AObj) : Option (AV × Nat × Tr AObj) :=
 match f with | .fn (.func f) a b => callF tab rec f (a ++ args ++ b) n hp | _ => none
noncomputable def evF (t : Tr AV) (x : AX) : AV := match x with | .t i => tmF t i | .c v => v
noncomputable def evsF (t : Tr AV) : List AX → List AV
 | [] => []
 | x :: l => evF t x :: evsF t l
noncomputable def evO (t : Tr AV) (x : Option AX) : Option AV := match x with | some x => some (evF t x) | none => none
def idOf (v : AV) : Option Nat := match v with | .ptr id _ _ _ => some id | .own id _ _ _ _ => some id | .map id => some id | _ => none
noncomputable def opF (tab : FTab) (rec : Rec) (op : AOp) (t : Tr AV) (n : Nat) (hp : Tr AObj) : Option (AV × Nat × Tr AObj) :=
 match op with
 | .call f args => callF tab rec f (evsF t args) n hp
 | .callv f args => callvF tab rec (evF t f) (evsF t args) n hp
 | .move x => some (evF t x, n, hp)
 | .pick c a b => quietF (ePick (evF t c) (evF t a) (evF t b) (stF n hp)) n hp
 | .new ty x => commit none n hp (eNew ty (evF t x).cellsOf (stF n hp))
 | .build z ps => quietF (eAgg (aFill z (ps.map fun p => (p.1, p.2.1, evF t p.2.2))) (stF n hp)) n hp
 | .lit own ty sz xs => commit none n hp (eLit own ty sz (litEs sz (evsF t xs)) (stF n hp))
 | .load agg x => quietF (eLoad agg (evF t x) (stF n hp)) n hp
 | .store sz a x => commit (idOf (evF t a)) n hp (eStore sz (evF t a) (evF t x).cellsOf (stF n hp))
 | .nilck x => quietF (eNck (evF t x) (stF n hp)) n hp
 | .bin kd op x y => binF (aBin kd op (evF t x) (evF t y)) n hp
 | .nileq k ng x y => quietF (eVal (aNilEq k ng (evF t x) (evF t y)) (stF n hp)) n hp
 | .not x => quietF (eNot (evF t x) (stF n hp)) n hp
 | .neg x => quietF (eNeg (evF t x) (stF n hp)) n hp
 | .conv k x => quietF (eConv k (evF t x) (stF n hp)) n hp
 | .same x => quietF (eSame (evF t x) (stF n hp)) n hp
 | .mkfn f a b => some (.fn f (evsF t a) (evsF t b), n, hp)
 | .mkmap => commit none n hp (some (.map n, (stF n hp).push (.map [])))
 | .mkslice ty sz bytes zc l c => commit none n hp (eMks ty sz bytes zc (evF t l) (evF t c) (stF n hp))
 | .cut k sz x lo hi => quietF (eCut k sz (evF t x) (evO t lo) (evO t hi) (stF n hp)) n hp
 | .faddr off x => quietF (eFad off (evF t x) (stF n hp)) n hp
 | .field off agg x => quietF (eFld off agg (evF t x) (stF n hp)) n hp
 | .iaddr sz x i => quietF (eIad sz (evF t x) (evF t i) (stF n hp)) n hp
 | .index x i => quietF (eIdx (evF t x) (evF t i) (stF n hp)) n hp
 | .lookup kd z ok m k => quietF (eLkp kd z ok (evF t m) (evF t k) (stF n hp)) n hp
 | .mapset kd m k x => commit (idOf (evF t m)) n hp (eMps kd (evF t m) (evF t k) (evF t x) (stF n hp))
 | .extract x i => quietF (eExt (evF t x) i (stF n hp)) n hp
 | .len k x => quietF (eLen k (evF t x) (stF n hp)) n hp
 | .append ty sz bytes s x => commit (idOf (evF t s)) n hp (eApp ty sz bytes (evF t s) (elemsOf (stF n hp) sz (evF t x)) (stF n hp))
 | .bstr x => quietF (eBst (elemsOf (stF n hp) 1 (evF t x)) (stF n hp)) n hp
 | .max2 x y => quietF (eMax (evF t x) (evF t y) (stF n hp)) n hp
 | .mapdel kd m k => commit (idOf (evF t m)) n hp (eMpd kd (evF t m) (evF t k) (stF n hp))
 | .min2 x y => quietF (eMin (evF t x) (evF t y) (stF n hp)) n hp
noncomputable def putF (t : Tr AV) (d : Option Nat) (v : AV) : Option (Tr AV) := match d with | none => some t | some d => Tr.set 64 t d v
noncomputable def operF (tab : FTab) (rec : Rec) (o : AOper) (s : St) : Option St :=
 let go : Unit → Option St := fun _ =>
  match opF tab rec o.op s.tm s.n s.hp with
  | some (v, n, hp) => match putF s.tm o.dst v with | some t => some ⟨t, n, hp⟩ | none => none
  | none => none
 match o.guard with
 | none => go ()
 | some (g, want) =>
  match tmF s.tm g with
  | .bool true => if want then go () else (match putF s.tm o.dst (.tuple []) with | some t => some ⟨t, s.n, s.hp⟩ | none => none)
  | .bool false => if want then (match putF s.tm o.dst (.tuple []) with | some t => some ⟨t, s.n, s.hp⟩ | none => none) else go ()
  | .tuple [] => (match putF s.tm o.dst (.tuple []) with | some t => some ⟨t, s.n, s.hp⟩ | none => none)
  | _ => none
noncomputable def opsF (tab : FTab) (rec : Rec) : List AOper → St → Option St
 | [], s => some s
 | o :: l, s => match operF tab rec o s with | some s => opsF tab rec l s | none => none
/-- Surely the same. -/
def eqA : AV → AV → Bool
 | .junk, .junk => true
 | .bool a, .bool b => a == b
 | .int k a, .int l b => decide (k = l) && decide (a = b)
 | .str a, .str b => decide (a = b)
 | .nilp, .nilp => true
 | .nils, .nils => true
 | .nilm, .nilm => true
 | .nilf, .nilf => true
 | .map a, .map b => Nat.beq a b
 | .ptr a b c d, .ptr a' b' c' d' => Nat.beq a a' && (Nat.beq b b' && (Nat.beq c c' && Nat.beq d d'))
 | .own a b c d e, .own a' b' c' d' e' => Nat.beq a a' && (Nat.beq b b' && (Nat.beq c c' && (Nat.beq d d' && Nat.beq e e')))
 | _, _ => false
theorem eqA_ok {a b : AV} (h : eqA a b = true) : a = b := by
 have hb : ∀ {x y : Nat}, Nat.beq x y = true → x = y := Nat.eq_of_beq_eq_true
 unfold eqA at h
 split at h
 · rfl
 · rw [eq_of_beq h]
 · simp only [Bool.and_eq_true, decide_eq_true_eq] at h; rw [h.1, h.2]
 · rw [of_decide_eq_true h]
 · rfl
 · rfl
 · rfl
 · rfl
 · rw [hb h]
 · simp only [Bool.and_eq_true] at h; rw [hb h.1, hb h.2.1, hb h.2.2.1, hb h.2.2.2]
 · simp only [Bool.and_eq_true] at h; rw [hb h.1, hb h.2.1, hb h.2.2.1, hb h.2.2.2.1, hb h.2.2.2.2]
 · cases h
def eqAL : List AV → List AV → Bool
 | [], [] => true
 | a :: r, b :: l => eqA a b && eqAL r l
 | _, _ => false
theorem eqAL_ok : ∀ {a b : List AV}, eqAL a b = true → a = b
 | [], [], _ => rfl
 | a :: r, b :: l, h => by
  simp only [eqAL, Bool.and_eq_true] at h
  rw [eqA_ok h.1, eqAL_ok h.2]
def eqA2 : AV → AV → Bool
 | .agg a, .agg b => eqAL a b
 | .tuple a, .tuple b => eqAL a b
 | a, b => eqA a b
theorem eqA2_ok {a b : AV} (h : eqA2 a b = true) : a = b := by
 unfold eqA2 at h
 split at h
 · rw [eqAL_ok h]
 · rw [eqAL_ok h]
 · exact eqA_ok h
noncomputable def stillF (o : AOper) (s : St) : Bool :=
 match o.dst with
 | none => false
 | some d =>
  let go : Unit → Bool := fun _ =>
   o.op.quiet && (match opF (fun _ => none) (fun _ _ => none) o.op s.tm s.n s.hp with | some (v, _) => eqA2 v (tmF s.tm d) | none => false)
  match o.guard with
  | none => go ()
  | some (g, want) =>
   match tmF s.tm g with
   | .bool true => if want then go () else eqA2 (.tuple []) (tmF s.tm d)
   | .bool false => if want then eqA2 (.tuple []) (tmF s.tm d) else go ()
   | .tuple [] => eqA2 (.tuple []) (tmF s.tm d)
   | _ => false
noncomputable def stillsF : List AOper → St → Bool
 | [], _ => true
 | o :: l, s => stillF o s && stillsF l s
noncomputable def drawF (tab : FTab) (rec : Rec) : List (List AOper × List AOper) → St → Option St
 | [], s => some s
 | (os, cs) :: l, s => match opsF tab rec os s with | some s => (match stillsF cs s with | true => drawF tab rec l s | false => none) | none => none
def iterF (body : St → Option (AEx × St)) : Nat → St → Option (AEx × St)
 | 0, _ => none
 | k + 1, s => match body s with | some (.normal, s) => iterF body k s | r => r
noncomputable def junkF : List Nat → Tr AV → Option (Tr AV)
 | [], t => some t
 | j :: l, t => match Tr.set 64 t j .junk with | some t => junkF l t | none => none
noncomputable def stepF (tab : FTab) (rec : Rec) : Rec := fun c s =>
 match c with
 | .skip => some (.normal, s)
 | .reg ops => match opsF tab rec ops s with | some s => some (.normal, s) | none => none
 | .draw js ops => match junkF js s.tm with | some t => (match drawF tab rec ops ⟨t, s.n, s.hp⟩ with | some s => some (.normal, s) | none => none) | none => none
 | .seq a b => match rec a s with | some (.normal, s) => rec b s | r => r
 | .cond c a b => match c.ev (tmF s.tm) with | .bool true => rec a s | .bool false => rec b s | _ => none
 | .block id c => match rec c s with | some (.exit id', s) => (match Nat.beq id' id with | true => some (.normal, s) | false => some (.exit id', s)) | r => r
 | .loop c => iterF (rec c) 100000 s
 | .exit id => some (.exit id, s)
 | .ret => some (.ret, s)
 | .scope c => rec c s
noncomputable def runF (tab : FTab) : Nat → Rec
 | 0 => fun _ _ => none
 | f + 1 => stepF tab (runF tab f)
end Go.AL
/- The abstract layer, part 24: what is run on values is so. -/
set_option linter.unusedVariables false
set_option linter.unusedSimpArgs false
namespace Go.AL
open Go.RowKit

theorem evF_eq (t : Tr AV) (x : AX) : evF t x = x.ev (tmF t) := by cases x <;> rfl
theorem evsF_eq (t : Tr AV) : ∀ l : List AX, evsF t l = l.map (·.ev (tmF t))
 | [] => rfl
 | x :: l => by rw [evsF, evF_eq, evsF_eq t l]; rfl
theorem evO_eq (t : Tr AV) (x : Option AX) : evO t x = x.map (·.ev (tmF t)) := by cases x with
 | none => rfl
 | some x => simp [evO, evF_eq]
theorem wp_of_eff {P : Program} {op : AOp} {tm : Nat → AV} {σ σ' : Store} {v : AV} {K : AV → Store → Prop} (h : op.eff tm σ = some (v, σ')) (hk : K v σ') : op.wp P tm σ K := by
 cases op
 case call f args => cases h
 case callv f args => cases h
 case move x => cases h; exact hk
 case mkfn f a b => cases h; exact hk
 case mkmap => cases h; exact hk
 all_goals (show (match AOp.eff _ tm σ with | some (r, σ') => K r σ' | none => False); rw [h]; exact hk)
def RecOK (P : Program) (rec : Rec) : Prop := ∀ c s r s', rec c s = some (r, s') → ∀ (m : Nat) (Q : AEx → (Nat → AV) → Store → Prop), Q r (tmF s'.tm) (stF s'.n s'.hp) → AWP P m c Q (tmF s.tm) (stF s.n s.hp)
section
variable {P : Program} {tab : FTab} {rec : Rec} {K : AV → Store → Prop}
theorem callF_ok (ht : tab.OK P) (hr : RecOK P rec) {f : FuncId} {args : List AV} {n n' : Nat} {hp hp' : Tr AObj} {v : AV} (h : callF tab rec f args n hp = some (v, n', hp')) (hk : K v (stF n' hp')) : ACalls P f args (stF n hp) K := by
 unfold callF at h
 split at h
 · cases h
 · rename_i e he
   split at h
   · rename_i t hle hat
     have htm : env (argList 0 args) = tmF t := funext fun i => by
      rw [env_argList, argT_get args 0 .nil t hat i]
      simp only [Nat.zero_le, if_true, true_and, Nat.sub_zero, Nat.zero_add]
      split
      · rfl
      · rename_i hi
        rw [List.getD_eq_getElem?_getD, List.getElem?_eq_none (by omega)]
        rfl
     refine ht f e he args (stF n hp) K (Nat.le_of_ble_eq_true hle) ?_
     rw [htm]
     split at h
     · cases h
     · rename_i x s hx hrun
       split at h
       · rename_i l hl
         simp only [Option.some.injEq, Prod.mk.injEq] at h
         obtain ⟨rfl, rfl, rfl⟩ := h
         refine hr _ _ _ _ hrun e.n _ ?_
         cases x with
         | exit id => exact absurd rfl (hx id)
         | normal => show Res e.rs K _ _; unfold Res; rw [hl]; exact hk
         | ret => show Res e.rs K _ _; unfold Res; rw [hl]; exact hk
       · cases h
     · cases h
   · cases h
theorem quiet_ok {op : AOp} (hq : op.quiet = true) {tm : Nat → AV} {x : Option (AV × Store)} {n n' : Nat} {hp hp' : Tr AObj} {v : AV} (hx : x = op.eff tm (stF n hp)) (h : quietF x n hp = some (v, n', hp')) : op.eff tm (stF n hp) = some (v, stF n' hp') := by
 subst hx
 unfold quietF at h
 split at h
 · rename_i r σ' he
   simp only [Option.some.injEq, Prod.mk.injEq] at h
   obtain ⟨rfl, rfl, rfl⟩ := h
   have := AOp.eff_quiet hq he
   rw [he, this]
 · cases h
theorem opF_ok (ht : tab.OK P) (hr : RecOK P rec) {op : AOp} {t : Tr AV} {n n' : Nat} {hp hp' : Tr AObj} {v : AV} (h : opF tab rec op t n hp = some (v, n', hp')) (hk : K v (stF n' hp')) : op.wp P (tmF t) (stF n hp) K := by
 cases op
 case call f args =>
  simp only [opF, evsF_eq] at h
  exact callF_ok ht hr h hk
 case callv f args =>
  simp only [opF, evsF_eq, evF_eq, callvF] at h
  show (match f.ev (tmF t) with | .fn (.func f) first captured => ACalls P f (first ++ args.map (·.ev (tmF t)) ++ captured) (stF n hp) K | _ => False)
  split at h
  · rename_i g a b hfe
    try rw [hfe]
    exact callF_ok ht hr h hk
  · cases h
 case move x =>
  simp only [opF, evF_eq, Option.some.injEq, Prod.mk.injEq] at h
  obtain ⟨rfl, rfl, rfl⟩ := h
  exact wp_of_eff rfl hk
 case mkfn f a b =>
  simp only [opF, evsF_eq, Option.some.injEq, Prod.mk.injEq] at h
  obtain ⟨rfl, rfl, rfl⟩ := h
  exact wp_of_eff rfl hk
 case lit own ty sz xs =>
  simp only [opF, evsF_eq] at h
  exact wp_of_eff (commit_ok (op := .lit own ty sz xs) rfl (.inl rfl) h) hk
 case new ty x =>
  simp only [opF, evF_eq] at h
  exact wp_of_eff (commit_ok (op := .new ty x) rfl (.inl rfl) h) hk
 case mkmap =>
  simp only [opF] at h
  exact wp_of_eff (commit_ok (op := .mkmap) rfl (.inl rfl) h) hk
 case mkslice ty sz bytes zc l c =>
  simp only [opF, evF_eq] at h
  exact wp_of_eff (commit_ok (op := .mkslice ty sz bytes zc l c) rfl (.inl rfl) h) hk
 case store sz a x =>
  simp only [opF, evF_eq] at h
  refine wp_of_eff (commit_ok (op := .store sz a x) rfl ?_ h) hk
  simp only [AOp.touch]
  split <;> simp_all [idOf]
 case mapset kd m k x =>
  simp only [opF, evF_eq] at h
  refine wp_of_eff (commit_ok (op := .mapset kd m k x) rfl ?_ h) hk
  simp only [AOp.touch]
  split <;> simp_all [idOf]
 case mapdel kd m k =>
  simp only [opF, evF_eq] at h
  refine wp_of_eff (commit_ok (op := .mapdel kd m k) rfl ?_ h) hk
  simp only [AOp.touch]
  split <;> simp_all [idOf]
 case append ty sz bytes s x =>
  simp only [opF, evF_eq] at h
  refine wp_of_eff (commit_ok (op := .append ty sz bytes s x) rfl ?_ h) hk
  simp only [AOp.touch]
  split <;> simp_all [idOf]
 case cut k sz x lo hi =>
  simp only [opF, evF_eq, evO_eq] at h
  exact wp_of_eff (quiet_ok (op := .cut k sz x lo hi) rfl (by rfl) h) hk
 case build z ps =>
  simp only [opF, evF_eq] at h
  exact wp_of_eff (quiet_ok (op := .build z ps) rfl (by rfl) h) hk
 case bin kd op x y =>
  simp only [opF, evF_eq, binF] at h
  split at h
  · rename_i r hr
    rw [forceV_eq] at h
    simp only [Option.some.injEq, Prod.mk.injEq] at h
    obtain ⟨rfl, rfl, rfl⟩ := h
    exact wp_of_eff (by simp only [AOp.eff, hr]) hk
  · cases h
 case len k x =>
  simp only [opF, evF_eq] at h
  exact wp_of_eff (quiet_ok (op := .len k x) (by cases k <;> rfl) (by rfl) h) hk
 all_goals (simp only [opF, evF_eq] at h; refine wp_of_eff (quiet_ok ?_ ?_ h) hk <;> rfl)
theorem putF_ok {t t' : Tr AV} {d : Option Nat} {v : AV} (h : putF t d v = some t') : tmF t' = put (tmF t) d v := by
 cases d with
 | none => simp only [putF, Option.some.injEq] at h; subst h; rfl
 | some d =>
  simp only [putF] at h
  funext i
  have := Tr.get_set _ _ _ _ _ h i
  simp only [tmF, this, put]
  by_cases hi : i = d
  · rw [if_pos hi, if_pos hi]
  · rw [if_neg hi, if_neg hi]
theorem operF_ok (ht : tab.OK P) (hr : RecOK P rec) {o : AOper} {s s' : St} (h : operF tab rec o s = some s') {K : (Nat → AV) → Store → Prop} (hk : K (tmF s'.tm) (stF s'.n s'.hp)) : o.wp P (tmF s.tm) (stF s.n s.hp) K := by
 have go : ∀ s', (match opF tab rec o.op s.tm s.n s.hp with | some (v, n, hp) => (match putF s.tm o.dst v with | some t => some (⟨t, n, hp⟩ : St) | none => none) | none => none) = some s' → K (tmF s'.tm) (stF s'.n s'.hp) →
  o.op.wp P (tmF s.tm) (stF s.n s.hp) fun r σ' => K (put (tmF s.tm) o.dst r) σ' := by
  intro s' h hk
  split at h
  · rename_i v n hp hop
    split at h
    · rename_i t hput
      cases h
      refine opF_ok ht hr hop ?_
      rw [← putF_ok hput]
      exact hk
    · cases h
  · cases h
 have jk : ∀ s', (match putF s.tm o.dst (.tuple []) with | some t => some (⟨t, s.n, s.hp⟩ : St) | none => none) = some s' → K (tmF s'.tm) (stF s'.n s'.hp) → K (put (tmF s.tm) o.dst (.tuple [])) (stF s.n s.hp) := by
  intro s' h hk
  split at h
  · rename_i t hput
    cases h
    rw [← putF_ok hput]
    exact hk
  · cases h
 unfold AOper.wp
 cases hg : o.guard with
 | none =>
  simp only [operF, hg] at h
  exact go s' h hk
 | some p =>
  obtain ⟨g, want⟩ := p
  simp only [operF, hg] at h
  simp only
  cases hb : tmF s.tm g with
  | bool b =>
   simp only [hb] at h ⊢
   cases b <;> cases want
   · exact go s' h hk
   · exact jk s' h hk
   · exact jk s' h hk
   · exact go s' h hk
  | tuple vs =>
   cases vs with
   | nil => simp only [hb] at h ⊢; exact jk s' h hk
   | cons x l => simp only [hb, reduceCtorEq] at h
  | _ => simp only [hb, reduceCtorEq] at h
theorem opsF_ok (ht : tab.OK P) (hr : RecOK P rec) : ∀ (l : List AOper) (s s' : St), opsF tab rec l s = some s' → ∀ K : (Nat → AV) → Store → Prop, K (tmF s'.tm) (stF s'.n s'.hp) → opsWp P l (tmF s.tm) (stF s.n s.hp) K
 | [], s, s', h, K, hk => by simp only [opsF, Option.some.injEq] at h; subst h; exact hk
 | o :: l, s, s', h, K, hk => by
  simp only [opsF] at h
  split at h
  · rename_i s1 h1
    exact operF_ok ht hr h1 (opsF_ok ht hr l s1 s' h K hk)
  · cases h
end
theorem emptyTab_ok (P : Program) : FTab.OK P (fun _ => none) := fun f e h => by cases h
theorem emptyRec_ok (P : Program) : RecOK P (fun _ _ => none) := fun c s r s' h => by cases h
theorem stillF_ok {P : Program} {o : AOper} {s : St} (h : stillF o s = true) : Still P o (tmF s.tm) (stF s.n s.hp) := by
 unfold stillF at h
 cases hd : o.dst with
 | none => simp only [hd, Bool.false_eq_true] at h
 | some d =>
  simp only [hd] at h
  refine ⟨d, hd, ?_⟩
  have go : (o.op.quiet && (match opF (fun _ => none) (fun _ _ => none) o.op s.tm s.n s.hp with | some (v, _) => eqA2 v (tmF s.tm d) | none => false)) = true → o.op.wp P (tmF s.tm) (stF s.n s.hp) fun r σ' => r = tmF s.tm d ∧ σ' = stF s.n s.hp := by
   intro h
   simp only [Bool.and_eq_true] at h
   obtain ⟨hq, h⟩ := h
   split at h
   · rename_i v q hop
     obtain ⟨n', hp'⟩ := q
     have h1 : o.op.wp P (tmF s.tm) (stF s.n s.hp) fun r σ' => r = v := opF_ok (emptyTab_ok P) (emptyRec_ok P) hop rfl
     obtain ⟨r, h2, h3⟩ := (AOp.wp_quiet hq).1 h1
     refine (AOp.wp_quiet hq).2 ⟨r, h2, ?_, rfl⟩
     rw [h3]
     exact eqA2_ok h
   · cases h
  unfold AOper.out
  cases hg : o.guard with
  | none =>
   simp only [hg] at h
   exact go h
  | some p =>
   obtain ⟨g, want⟩ := p
   simp only [hg] at h
   simp only
   cases hb : tmF s.tm g with
   | bool b =>
    simp only [hb] at h ⊢
    cases b <;> cases want
    · exact go h
    · exact ⟨eqA2_ok h, trivial⟩
    · exact ⟨eqA2_ok h, trivial⟩
    · exact go h
   | tuple vs =>
    cases vs with
    | nil => simp only [hb] at h ⊢; exact ⟨eqA2_ok h, trivial⟩
    | cons x l => simp only [hb, Bool.false_eq_true] at h
   | _ => simp only [hb, Bool.false_eq_true] at h
theorem stillsF_ok {P : Program} {s : St} : ∀ {l : List AOper}, stillsF l s = true → ∀ c, c ∈ l → Still P c (tmF s.tm) (stF s.n s.hp)
 | [], _, c, hc => by cases hc
 | o :: l, h, c, hc => by
  simp only [stillsF, Bool.and_eq_true] at h
  rcases List.mem_cons.1 hc with rfl | hc
  · exact stillF_ok h.1
  · exact stillsF_ok h.2 c hc
section
variable {P : Program} {tab : FTab} {rec : Rec}
theorem drawF_ok (ht : tab.OK P) (hr : RecOK P rec) : ∀ (l : List (List AOper × List AOper)) (s s' : St), drawF tab rec l s = some s' → ∀ K : (Nat → AV) → Store → Prop, K (tmF s'.tm) (stF s'.n s'.hp) → opsN P l (tmF s.tm) (stF s.n s.hp) K
 | [], s, s', h, K, hk => by simp only [drawF, Option.some.injEq] at h; subst h; exact hk
 | (os, cs) :: l, s, s', h, K, hk => by
  simp only [drawF] at h
  split at h
  · rename_i s1 h1
    split at h
    · rename_i hst
      exact opsF_ok ht hr os s s1 h1 _ ⟨stillsF_ok hst, drawF_ok ht hr l s1 s' h K hk⟩
    · cases h
  · cases h
theorem junkF_ok : ∀ (l : List Nat) (t t' : Tr AV), junkF l t = some t' → tmF t' = junks l (tmF t)
 | [], t, t', h => by simp only [junkF, Option.some.injEq] at h; subst h; rfl
 | j :: l, t, t', h => by
  simp only [junkF] at h
  split at h
  · rename_i t1 h1
    rw [junkF_ok l t1 t' h, junks_cons]
    congr 1
    funext i
    have := Tr.get_set _ _ _ _ _ h1 i
    simp only [tmF, this, put]
    by_cases hi : i = j
    · rw [if_pos hi, if_pos hi]
    · rw [if_neg hi, if_neg hi]
  · cases h
theorem iterF_ok (hr : RecOK P rec) (c : ACode) (m : Nat) (Q : AEx → (Nat → AV) → Store → Prop) {k : Nat} {s s' : St} {r : AEx} (h : iterF (rec c) k s = some (r, s')) (hq : Q r (tmF s'.tm) (stF s'.n s'.hp)) : ALoop P m c Q (tmF s.tm) (stF s.n s.hp) := by
 refine ALoop_measure (fun k t σ => ∃ s, iterF (rec c) k s = some (r, s') ∧ t = tmF s.tm ∧ σ = stF s.n s.hp) ?_ ⟨s, h, rfl, rfl⟩
 rintro k t σ ⟨s, hs, rfl, rfl⟩
 cases k with
 | zero => cases hs
 | succ k =>
  simp only [iterF] at hs
  cases hb : rec c s with
  | none => rw [hb] at hs; cases hs
  | some p =>
   obtain ⟨x, s1⟩ := p
   rw [hb] at hs
   cases x with
   | normal => exact hr c s _ s1 hb m _ ⟨k, Nat.lt_succ_self k, s1, hs, rfl, rfl⟩
   | exit id => cases hs; exact hr c s _ _ hb m _ hq
   | ret => cases hs; exact hr c s _ _ hb m _ hq
theorem stepF_ok (ht : tab.OK P) (hr : RecOK P rec) : RecOK P (stepF tab rec) := by
 intro c s r s' h m Q hq
 cases c with
 | skip => cases h; exact AWP_skip hq
 | reg ops =>
  simp only [stepF] at h
  split at h
  · rename_i s1 h1
    cases h
    exact AWP_reg (opsF_ok ht hr ops s _ h1 _ hq)
  · cases h
 | draw js ops =>
  simp only [stepF] at h
  split at h
  · rename_i t hj
    split at h
    · rename_i s1 h1
      cases h
      refine AWP_draw ?_
      rw [← junkF_ok js s.tm t hj]
      exact drawF_ok ht hr ops _ _ h1 _ hq
    · cases h
  · cases h
 | seq a b =>
  simp only [stepF] at h
  refine AWP_seq ?_
  cases ha : rec a s with
  | none => rw [ha] at h; cases h
  | some p =>
   obtain ⟨x, s1⟩ := p
   rw [ha] at h
   refine hr a s x s1 ha m _ ?_
   cases x with
   | normal => exact hr b s1 r s' h m Q hq
   | exit id => cases h; exact hq
   | ret => cases h; exact hq
 | cond c a b =>
  simp only [stepF] at h
  split at h
  · rename_i hb; exact AWP_cond_true hb (hr a s r s' h m Q hq)
  · rename_i hb; exact AWP_cond_false hb (hr b s r s' h m Q hq)
  · cases h
 | block id c =>
  simp only [stepF] at h
  refine AWP_block ?_
  cases hc : rec c s with
  | none => rw [hc] at h; cases h
  | some p =>
   obtain ⟨x, s1⟩ := p
   rw [hc] at h
   refine hr c s x s1 hc m _ ?_
   cases x with
   | normal => cases h; exact hq
   | ret => cases h; exact hq
   | exit id' =>
    simp only at h
    split at h
    · rename_i hb
      cases h
      show (if id' = id then _ else _)
      rw [if_pos (Nat.eq_of_beq_eq_true hb)]
      exact hq
    · rename_i hb
      cases h
      show (if id' = id then _ else _)
      rw [if_neg (Nat.ne_of_beq_eq_false hb)]
      exact hq
 | loop c =>
  simp only [stepF] at h
  exact AWP_loop (iterF_ok hr c m Q h hq)
 | exit id => cases h; exact AWP_exit hq
 | ret => cases h; exact AWP_ret hq
 | scope c => exact AWP_scope (hr c s r s' h m Q hq)
theorem runF_ok (ht : tab.OK P) : ∀ f, RecOK P (runF tab f)
 | 0 => emptyRec_ok P
 | f + 1 => stepF_ok ht (runF_ok ht f)
/-- A call that is run. -/
theorem callF_calls (ht : tab.OK P) {fuel : Nat} {f : FuncId} {args : List AV} {n n' : Nat} {hp hp' : Tr AObj} {v : AV} (h : callF tab (runF tab fuel) f args n hp = some (v, n', hp')) : ACalls P f args (stF n hp) fun r σ' => r = v ∧ σ' = stF n' hp' :=
 callF_ok ht (runF_ok ht fuel) h ⟨rfl, rfl⟩
theorem stF_empty : stF 0 .nil = Store.empty := Store.ext' rfl (funext fun j => (stF 0 Tr.nil).wf j (Nat.zero_le _))
/-- Is it this bool? -/
noncomputable def saysF (b : Bool) (x : Option (AV × Nat × Tr AObj)) : Bool := match x with | some (.bool c, _, _) => c == b | _ => false
/-- A call that says some bool. -/
theorem ACalls_says (ht : tab.OK P) {fuel : Nat} {f : FuncId} {args : List AV} {b : Bool} (h : saysF b (callF tab (runF tab fuel) f args 0 .nil) = true) : ACalls P f args Store.empty fun r σ' => r = .bool b := by
 unfold saysF at h
 split at h
 · rename_i c n hp he
   have := callF_calls ht he
   rw [stF_empty] at this
   exact this.mono fun r s hr => by rw [hr.1, eq_of_beq h]
 · cases h
end
/-! ### Tables -/
def EntOK (P : Program) (f : FuncId) (e : FEnt) : Prop := ∀ (args : List AV) (σ : Store) (K : AV → Store → Prop), args.length ≤ e.n →
 AWP P e.n e.c (fun x t s => match x with | .exit _ => False | _ => Res e.rs K t s) (env (argList 0 args)) σ → ACalls P f args σ K
noncomputable def tabOf : List (Nat × FEnt) → FTab
 | [], _ => none
 | (g, e) :: l, f => match Nat.beq f g with | true => some e | false => tabOf l f
inductive EntsOK (P : Program) : List (Nat × FEnt) → Prop
 | nil : EntsOK P []
 | cons {f : FuncId} {e : FEnt} {l : List (Nat × FEnt)} (h : EntOK P f e) (t : EntsOK P l) : EntsOK P ((f, e) :: l)
theorem tabOf_ok {P : Program} {l : List (Nat × FEnt)} (h : EntsOK P l) : (tabOf l).OK P := by
 induction h with
 | nil => intro f e h; cases h
 | cons h t ih =>
  intro f e hf
  simp only [tabOf] at hf
  split at hf
  · rename_i hb
    cases hf
    have := Nat.eq_of_beq_eq_true hb
    subst this
    exact h
  · exact ih f e hf
end Go.AL
/- The abstract layer, part 25: conditions that are not known. -/
set_option linter.unusedVariables false
set_option linter.unusedSimpArgs false
namespace Go.AL
theorem guardW_b {b w : Bool} {A B : Prop} (h1 : b = true → guardW (.bool true) w A B) (h2 : b = false → guardW (.bool false) w A B) : guardW (.bool b) w A B := by
 cases b with
 | true => exact h1 rfl
 | false => exact h2 rfl
theorem ePick_b {b : Bool} {x y : AV} {σ : Store} {K : AV → Store → Prop} (h1 : b = true → ok (ePick (.bool true) x y σ) K) (h2 : b = false → ok (ePick (.bool false) x y σ) K) : ok (ePick (.bool b) x y σ) K := by
 cases b with
 | true => exact h1 rfl
 | false => exact h2 rfl
section
variable {P : Program} {n : Nat} {Q : AEx → (Nat → AV) → Store → Prop} {tm : Nat → AV} {σ : Store}
/-- What holds behind a part is told by the slots that matter. -/
theorem AWP_cut {α : Type} {c d : ACode} (ks : List Nat) (V : α → List AV) (I : α → Store → Prop)
 (h1 : AWP P n c (andThen (fun t s' => ∃ x, ks.map t = V x ∧ I x s') Q) tm σ)
 (h2 : ∀ (x : α) (s : Store), I x s → AWP P n d Q (env (ks.zip (V x))) s) : AWP P n (.seq c d) Q tm σ := by
 refine AWP_seq (h1.mono fun e t' s' hq => ?_)
 cases e with
 | normal =>
  obtain ⟨x, hx, hI⟩ := hq
  exact AWP_weaken (tm' := env (ks.zip (V x))) (fun i => by rw [← hx]; exact env_zip t' ks i) (h2 x s' hI)
 | exit id => exact hq
 | ret => exact hq
end
theorem dec_t (p : Prop) [Decidable p] : (decide p = true) = p := by simp
theorem dec_f (p : Prop) [Decidable p] : (decide p = false) = ¬ p := by simp
theorem not_t (b : Bool) : ((!b) = true) = (b = false) := by simp
theorem not_f (b : Bool) : ((!b) = false) = (b = true) := by simp
/-! ### Bytes and elements that are there -/
theorem str_nil (s : ByteArray) : (s = ⟨#[]⟩) = (s.size = 0) := by
 refine propext ⟨fun h => by subst h; rfl, fun h => ByteArray.ext (Array.eq_empty_of_size_eq_zero h)⟩
theorem ok_idx {s : ByteArray} {i : Nat} {σ : Store} {K : AV → Store → Prop} (h : i < s.size) (hk : ∀ b : UInt8, s.data.toList[i]? = some b → K (.int .u8 b.toNat) σ) : ok (eIdx2 s.data.toList[i]? σ) K := by
 have hb : s.data.toList[i]? = some (s.data.toList[i]'(by simpa using h)) := List.getElem?_eq_getElem _
 rw [hb]
 exact hk _ hb
theorem ok_iad {α : Type} {l : List α} {f : α → List AV} {i sz : Nat} {σ : Store} {K : AV → Store → Prop} (h : i < l.length) (hk : ∀ x, l[i]? = some x → x ∈ l → ok (eIad2 sz (some (f x)) σ) K) : ok (eIad2 sz (l.map f)[i]? σ) K := by
 have hb : l[i]? = some (l[i]'h) := List.getElem?_eq_getElem h
 rw [List.getElem?_map, hb]
 exact hk _ hb (List.mem_of_getElem? hb)
end Go.AL
/- The abstract layer, part 26: a call without arguments, at any store; lengths of lists inside of arguments. -/
set_option linter.unusedVariables false
set_option linter.unusedSimpArgs false
namespace Go.AL
open Go.RowKit
/-- What a call without arguments says at an empty store, it says at any. -/
theorem ACalls_shut {P : Program} {f : FuncId} {b : Bool} (h : ACalls P f [] Store.empty fun r _ => r = .bool b) (σ : Store) : ACalls P f [] σ fun r σ' => r = .bool b ∧ σ' = σ := by
 intro B w0 g w vs hS hl hrel
 refine (h w.heap.size w (g0 w) w vs (sr0 w) hl (fun j c hj => by simp at hj)).mono ?_
 rintro v w' ⟨r, σ', g', rfl, hE, hS', hr⟩
 have hb := hS'.below
 have hblk : ∀ k, k < w.heap.size → w'.heap[k]? = w.heap[k]? := hb.block
 refine ⟨_, σ, g, ⟨rfl, rfl⟩, Ext.refl g, ?_, ?_⟩
 · refine ⟨hS.below.trans (hb.mono hS.size), Nat.le_trans hS.size hS'.size, fun k cells e => ?_, hS.next, fun id o e => ?_, hS.inj, hS.apart, fun id p e => ?_⟩
   · obtain ⟨t, fr, hh, hpt⟩ := hS.phi k cells e
     exact ⟨t, fr, by rw [hblk k (Array.getElem?_eq_some_iff.1 hh).1]; exact hh, hpt⟩
   · obtain ⟨p, hp, ho⟩ := hS.objs id o e
     exact ⟨p, hp, ho.world (hblk _ (hS.fresh id p hp).2.1)⟩
   · obtain ⟨x, y, z⟩ := hS.fresh id p e
     exact ⟨x, Nat.lt_of_lt_of_le y hS'.size, z⟩
 · cases hr with
   | bool => exact .bool b
end Go.AL
/- The abstract layer, part 19: stores that grow, slices that are built by append in a loop, numbers of rounds. -/
set_option linter.unusedVariables false
set_option linter.unusedSimpArgs false
namespace Go.AL
open Go.RowKit

/-- What was there is as it was. -/
structure Kp (σ s : Store) : Prop where
 next : σ.next ≤ s.next
 keep : ∀ j, j < σ.next → s.get j = σ.get j
theorem Kp.refl (σ : Store) : Kp σ σ := ⟨Nat.le_refl _, fun _ _ => rfl⟩
theorem Kp.trans {a b c : Store} (h : Kp a b) (k : Kp b c) : Kp a c := ⟨Nat.le_trans h.next k.next, fun j hj => by rw [k.keep j (Nat.lt_of_lt_of_le hj h.next), h.keep j hj]⟩
theorem Kp.push {σ s : Store} (h : Kp σ s) (o : AObj) : Kp σ (s.push o) := ⟨by have := h.next; simp only [Store.push_next]; omega, fun j hj => by have := h.next; rw [Store.push_get, if_neg (by omega), h.keep j hj]⟩
theorem Kp.upd {σ s : Store} (h : Kp σ s) {id : Nat} (hid : σ.next ≤ id) (o : AObj) : Kp σ (s.upd id o) := ⟨h.next, fun j hj => by rw [Store.get_upd_ne _ _ (by omega), h.keep j hj]⟩
theorem Kp.pushed (σ : Store) (o : AObj) : Kp σ (σ.push o) := (Kp.refl σ).push o
theorem Kp.get {σ s : Store} (h : Kp σ s) {id : Nat} {o : AObj} (e : σ.get id = some o) : s.get id = some o := by rw [h.keep id (σ.lt e)]; exact e
theorem Kp.out {σ s : Store} (h : Kp σ s) {r : AV} {p : Prop} (hk : p) (hc : Cln σ.next r) : p ∧ Cln σ.next r ∧ σ.next ≤ s.next ∧ ∀ id, id < σ.next → s.get id = σ.get id := ⟨hk, hc, h.next, h.keep⟩
theorem Kp.box {σ s : Store} {o : AObj} (h : Kp (σ.push o) s) : s.get σ.next = some o ∧ σ.next < s.next ∧ Kp σ s :=
 ⟨h.get (by simp [Store.push_get]), by have := h.next; simp only [Store.push_next] at this; omega, ⟨by have := h.next; simp only [Store.push_next] at this; omega, fun j hj => by rw [h.keep j (by simp only [Store.push_next]; omega), Store.push_get, if_neg (by omega)]⟩⟩

/-- A slice that has been built since: its object is new. -/
structure Grow (σ s : Store) (v : AV) (ty sz : Nat) (es : List (List AV)) : Prop where
 kp : Kp σ s
 sl : SliceAt s v ty sz es
 fresh : ∀ j, j ∈ slIds v → σ.next ≤ j
theorem Grow.start (σ : Store) (ty sz : Nat) : Grow σ σ .nils ty sz [] := ⟨.refl σ, .nil _ _ _, by simp [slIds]⟩
theorem Grow.of {σ s : Store} (h : Kp σ s) (ty sz : Nat) : Grow σ s .nils ty sz [] := ⟨h, .nil _ _ _, by simp [slIds]⟩
theorem Grow.keep {σ s s' : Store} {v : AV} {ty sz : Nat} {es : List (List AV)} (h : Grow σ s v ty sz es) (k : Kp s s') : Grow σ s' v ty sz es :=
 ⟨h.kp.trans k, h.sl.keep fun i hi => k.keep i (h.sl.lt hi), h.fresh⟩
theorem Grow.push {σ s : Store} {v : AV} {ty sz : Nat} {es : List (List AV)} (h : Grow σ s v ty sz es) (o : AObj) : Grow σ (s.push o) v ty sz es := h.keep (.pushed s o)
theorem Grow.base {σ0 σ s : Store} {v : AV} {ty sz : Nat} {es : List (List AV)} (h : Grow σ s v ty sz es) (k : Kp σ0 σ) : Grow σ0 s v ty sz es := ⟨k.trans h.kp, h.sl, fun j hj => Nat.le_trans k.next (h.fresh j hj)⟩
/-- The step of an append to such a slice. -/
theorem ok_grow {σ s : Store} {v : AV} {ty sz bytes : Nat} {es es2 : List (List AV)} {K : AV → Store → Prop} (h : Grow σ s v ty sz es) (h2 : ∀ q, q ∈ es2 → q.length = sz) (hb : (es.length + es2.length) * bytes ≤ 140737488355328) (hm : es.length + es2.length ≤ maxLen)
 (hk : ∀ v' s', Grow σ s' v' ty sz (es ++ es2) → (∀ j, j < s.next → j ∉ slIds v → s'.get j = s.get j) → s.next ≤ s'.next → K v' s') : ok (eApp ty sz bytes v (some es2) s) K := by
 refine ok_app h.sl h2 hb hm fun v' s' h1 h2 => hk v' s' ⟨⟨Nat.le_trans h.kp.next h2.next, fun j hj => ?_⟩, h1, fun j hj => ?_⟩ h2.keep h2.next
 · have := h.kp.next
   rw [h2.keep j (by omega) (fun hm => by have := h.fresh j hm; omega), h.kp.keep j hj]
 · rcases h2.fresh j hj with e | e
   · exact h.fresh j e
   · exact Nat.le_trans h.kp.next e
section
variable {P : Program} {n : Nat} {Q : AEx → (Nat → AV) → Store → Prop} {tm : Nat → AV} {s : Store}
end
theorem wrap_succ {i : Nat} (h : i < 9223372036854775807) : IntKind.i64.wrap ((i : Int) + 1) = ((i + 1 : Nat) : Int) := by rw [wrap_of (by omega) (by omega)]; rfl
theorem self_ne1 (n : Nat) : (n = n + 1) = False := by simp
theorem self_ne2 (n : Nat) : (n = n + 1 + 1) = False := by simp; omega
theorem self_ne3 (n : Nat) : (n = n + 1 + 1 + 1) = False := by simp; omega
theorem self_ne4 (n : Nat) : (n = n + 1 + 1 + 1 + 1) = False := by simp; omega
theorem ne_self2 (n : Nat) : (n + 1 + 1 = n) = False := by simp; omega
theorem ne_self3 (n : Nat) : (n + 1 + 1 + 1 = n) = False := by simp; omega
theorem ne_self4 (n : Nat) : (n + 1 + 1 + 1 + 1 = n) = False := by simp; omega
theorem Store.upd_push_eq (σ : Store) (o o' : AObj) (id : Nat) (h : id = σ.next) : (σ.push o).upd id o' = σ.push o' := by subst h; exact Store.upd_push_self σ o o'
theorem Store.upd_push_ne (σ : Store) (o o' : AObj) (id : Nat) (h : (id = σ.next) = False) : (σ.push o).upd id o' = (σ.upd id o').push o :=
 Store.ext' rfl (funext fun j => by
  have h : id ≠ σ.next := by simpa using h
  simp only [Store.upd, Store.push]
  by_cases h1 : j = id
  · subst h1
    simp only [h, if_false, true_and]
    by_cases h2 : j < σ.next
    · rw [if_pos (by omega), if_pos h2]
    · rw [if_neg (by omega), if_neg h2]
  · simp [h1])
theorem res_cell_slot_slot (t u v : Nat) (agg : Option Nat) (K : AV → Store → Prop) (tm : Nat → AV) (σ : Store) : Res [.cell t agg, .slot u, .slot v] K tm σ = ok (eLoad agg (tm t) σ) fun r _ => K (.tuple [r, tm u, tm v]) σ := by
 show (match resVals tm σ [.cell t agg, .slot u, .slot v] with | some l => K (resOne l) σ | none => False) = _
 have e : (AOp.load agg (.t t)).eff tm σ = eLoad agg (tm t) σ := rfl
 simp only [resVals, RV.val, e]
 cases h : eLoad agg (tm t) σ with
 | none => rfl
 | some p => rfl
theorem res_cell_cell (t u : Nat) (agg agg' : Option Nat) (K : AV → Store → Prop) (tm : Nat → AV) (σ : Store) : Res [.cell t agg, .cell u agg'] K tm σ = ok (eLoad agg (tm t) σ) fun r _ => ok (eLoad agg' (tm u) σ) fun r' _ => K (.tuple [r, r']) σ := by
 show (match resVals tm σ [.cell t agg, .cell u agg'] with | some l => K (resOne l) σ | none => False) = _
 have e : ∀ agg t, (AOp.load agg (.t t)).eff tm σ = eLoad agg (tm t) σ := fun _ _ => rfl
 simp only [resVals, RV.val, e]
 cases h : eLoad agg (tm t) σ with
 | none => rfl
 | some p => cases h' : eLoad agg' (tm u) σ <;> rfl
theorem S9 : type_of% (And.intro @self_ne1 (And.intro @self_ne2 (And.intro @self_ne3 (And.intro @self_ne4 (And.intro @ne_self2 (And.intro @ne_self3 (And.intro @ne_self4 (And.intro @Store.upd_push_eq (And.intro @Store.upd_push_ne (And.intro @res_slot_cell (And.intro @res_cell_slot_slot @res_cell_cell))))))))))) :=
 And.intro @self_ne1 (And.intro @self_ne2 (And.intro @self_ne3 (And.intro @self_ne4 (And.intro @ne_self2 (And.intro @ne_self3 (And.intro @ne_self4 (And.intro @Store.upd_push_eq (And.intro @Store.upd_push_ne (And.intro @res_slot_cell (And.intro @res_cell_slot_slot @res_cell_cell))))))))))
/-- All the rules, and those on what is written to new variables. -/
theorem SS : type_of% (And.intro S9 S) := And.intro S9 S

/-! ### Slices inside of results -/
mutual
/-- One value in the place of another one, wherever it stands. -/
inductive Sub (v w : AV) : AV → AV → Prop
 | refl (a : AV) : Sub v w a a
 | here : Sub v w v w
 | agg {a b : List AV} (h : SubL v w a b) : Sub v w (.agg a) (.agg b)
 | tuple {a b : List AV} (h : SubL v w a b) : Sub v w (.tuple a) (.tuple b)
inductive SubL (v w : AV) : List AV → List AV → Prop
 | nil : SubL v w [] []
 | cons {x y : AV} {a b : List AV} (h : Sub v w x y) (t : SubL v w a b) : SubL v w (x :: a) (y :: b)
end
theorem SubL.get {v w : AV} : ∀ {a b : List AV}, SubL v w a b → a.length = b.length ∧ ∀ (j : Nat) (y : AV), b[j]? = some y → ∃ x, a[j]? = some x ∧ Sub v w x y
 | _, _, .nil => by simp
 | _, _, .cons h t => by
  obtain ⟨h1, h2⟩ := t.get
  refine ⟨by simp [h1], fun j y hj => ?_⟩
  match j, hj with
  | 0, hj => simp at hj; subst hj; exact ⟨_, rfl, h⟩
  | j + 1, hj => simpa using h2 j y (by simpa using hj)
theorem RelV.sub {g g' : Ghost} (he : Ext g g') {v w : AV} (hvw : ∀ x, RelV g v x → RelV g' w x) : ∀ {a b : AV}, Sub v w a b → ∀ {x : Value}, RelV g a x → RelV g' b x
 | _, _, .refl a, x, h => h.ext he
 | _, _, .here, x, h => hvw x h
 | .agg a, .agg b, .agg hs, x, h => by
  cases h with
  | agg hsz hc h1 =>
   obtain ⟨k1, k2⟩ := hs.get
   refine .agg (by omega) (fun j c hj => ?_) (fun j c hj => ?_)
   · obtain ⟨y, hy, hsub⟩ := k2 j c hj
     have := List.mem_of_getElem? hj
     exact RelV.sub he hvw hsub (hc j y hy)
   · obtain ⟨y, hy, hsub⟩ := k2 j c hj
     exact h1 j y hy
 | .tuple a, .tuple b, .tuple hs, x, h => by
  cases h with
  | tuple hsz hc =>
   obtain ⟨k1, k2⟩ := hs.get
   refine .tuple (by omega) (fun j c hj => ?_)
   obtain ⟨y, hy, hsub⟩ := k2 j c hj
   have := List.mem_of_getElem? hj
   exact RelV.sub he hvw hsub (hc j y hy)
termination_by a b => SizeOf.sizeOf b
decreasing_by all_goals (have := List.sizeOf_lt_of_mem this; simp; omega)
/-- A slice in a result becomes a value. -/
theorem ACalls_froze {P : Program} {f : FuncId} {args : List AV} {σ : Store} {K : AV → Store → Prop} (h : ACalls P f args σ fun r σ' => ∃ v ty sz es r', SliceAt σ' v ty sz es ∧ Sub v (.list es) r r' ∧
 ∀ σ2 : Store, σ2.next = σ'.next → (∀ i, i ∉ slIds v → σ2.get i = σ'.get i) → K r' σ2) : ACalls P f args σ K :=
 fun B w0 g w vs hS hl hrel => (h B w0 g w vs hS hl hrel).mono fun x w' ⟨r, σ', g', ⟨v, ty, sz, es, r', hsl, hsub, hk⟩, hE, hS', hr⟩ => by
  rcases hsl with ⟨rfl, rfl⟩ | ⟨id, ver, es', rfl, hg⟩
  · exact ⟨r', σ', g', hk σ' rfl fun _ _ => rfl, hE, hS', RelV.sub (.refl g') (fun x hx => RelV.le Le.nil hx) hsub hr⟩
  · obtain ⟨g2, hS2, hE2, hrel2⟩ := hS'.frozen hg
    refine ⟨r', σ'.drop id, g2, hk _ rfl fun i hi => by simp [slIds] at hi; simp [Store.drop_get, hi], hE.trans hE2, hS2, RelV.sub hE2 (fun x hx => ?_) hsub hr⟩
    have := hrel2 0 es.length x (by simp) hx
    simpa using this

/-! ### Slices that are read -/
/-- A pointer into an element. -/
def EP (σ : Store) (p : AV) (c : List AV) (off : Nat) : Prop := (∃ id ver k ty sz es, p = .ptr id ver k off ∧ σ.get id = some (.cells ty ver sz es) ∧ es[k]? = some c) ∨ p = .rptr c off
theorem EP.load {σ : Store} {p : AV} {c : List AV} {off : Nat} (h : EP σ p c off) (agg : Option Nat) : eLoad agg p σ = eVal (aLoad agg c off) σ := by
 rcases h with ⟨id, ver, k, ty, sz, es, rfl, h1, h2⟩ | rfl
 · rw [eLoad_ptr, h1, eLoad2_some, if_pos rfl, h2, eLoad3_some]
 · rfl
structure Rds (σ : Store) (v : AV) (sz : Nat) (es : List (List AV)) : Prop where
 len : eLen .slice v σ = some (.int .i64 es.length, σ)
 iad : ∀ (i : Nat) c, es[i]? = some c → ∃ p, eIad sz v (.int .i64 i) σ = some (p, σ) ∧ EP σ p c 0
theorem Rds.list (σ : Store) {sz : Nat} {es : List (List AV)} (h : ∀ q, q ∈ es → q.length = sz) : Rds σ (.list es) sz es :=
 ⟨rfl, fun i c hc => ⟨.rptr c 0, by rw [eIad_list, if_pos (by omega), Int.toNat_natCast, hc, eIad2_some, if_pos (h c (List.mem_of_getElem? hc))], .inr rfl⟩⟩
theorem SliceAt.rds {σ : Store} {v : AV} {ty sz : Nat} {es : List (List AV)} (h : SliceAt σ v ty sz es) : Rds σ v sz es := by
 refine ⟨h.len σ, fun i c hc => ?_⟩
 rcases h with ⟨rfl, rfl⟩ | ⟨id, ver, es', rfl, h⟩
 · simp at hc
 · have hi := (List.getElem?_eq_some_iff.mp hc).1
   refine ⟨.ptr id ver i 0, by rw [eIad_own, h, eIad3_some, if_pos ⟨rfl, rfl, by omega, by omega⟩, Int.toNat_natCast, Nat.zero_add], .inl ⟨id, ver, i, ty, sz, es ++ es', rfl, h, by rw [List.getElem?_append_left hi]; exact hc⟩⟩
end Go.AL
/- The abstract layer, part 20: slices inside of variables become values; maps keyed by texts; lists that may be nil. -/
set_option linter.unusedVariables false
set_option linter.unusedSimpArgs false
namespace Go.AL
open Go.RowKit

/-- One value in the place of another one, in an object of cells. -/
inductive SubE (v w : AV) : List (List AV) → List (List AV) → Prop
 | nil : SubE v w [] []
 | cons {x y : List AV} {a b : List (List AV)} (h : SubL v w x y) (t : SubE v w a b) : SubE v w (x :: a) (y :: b)
theorem SubE.get {v w : AV} {a b : List (List AV)} (h : SubE v w a b) : a.length = b.length ∧ ∀ (j : Nat) (y : List AV), b[j]? = some y → ∃ x, a[j]? = some x ∧ SubL v w x y := by
 induction h with
 | nil => simp
 | cons h t ih =>
  refine ⟨by simp [ih.1], fun j y hj => ?_⟩
  match j, hj with
  | 0, hj => simp at hj; subst hj; exact ⟨_, rfl, h⟩
  | j + 1, hj => simpa using ih.2 j y (by simpa using hj)
theorem SR.recell {B : Nat} {w0 : World} {σ : Store} {g g' : Ghost} {w : World} (h : SR B w0 σ g w) (hg : g' = g) {oid ty ver sz : Nat} {es es' : List (List AV)} (ho : σ.get oid = some (.cells ty ver sz es))
 (hl : es'.length = es.length) (hs : ∀ e, e ∈ es' → e.length = sz)
 (hr : ∀ (j i : Nat) (e : List AV) (c : AV), es'[j]? = some e → e[i]? = some c → ∃ e0 c0, es[j]? = some e0 ∧ e0[i]? = some c0 ∧ ∀ x, RelV g c0 x → RelV g c x) : SR B w0 (σ.upd oid (.cells ty ver sz es')) g w := by
 subst hg
 obtain ⟨p, hp, h1, h2, h3, h4, cells, h5, h6, h7, h8⟩ := h.objs oid _ ho
 have hlt := σ.lt ho
 refine ⟨h.below, h.size, h.phi, h.next, fun j y e => ?_, h.inj, h.apart, h.fresh⟩
 rw [Store.get_upd _ _ hlt] at e
 split at e
 · rename_i hj
   cases e
   refine ⟨p, by rw [hj]; exact hp, h1, h2, by omega, h4, cells, h5, h6, hs, fun i k e c hi hk => ?_⟩
   obtain ⟨e0, c0, a, b, f⟩ := hr i k e c hi hk
   have := h8 i k e0 c0 a b
   exact ⟨f _ this.1, this.2⟩
 · exact h.objs j y e
/-- A slice that stands in a variable, too, becomes a value there. -/
theorem SR.frozeO {B : Nat} {w0 : World} {σ : Store} {g : Ghost} {w : World} (h : SR B w0 σ g w) {v : AV} {ty sz : Nat} {es : List (List AV)} (hv : SliceAt σ v ty sz es) {oid ty' ver' sz' : Nat} {os os' : List (List AV)} (ho : σ.get oid = some (.cells ty' ver' sz' os))
 (hn : oid ∉ slIds v) (hs : SubE v (.list es) os os') : ∃ σ2 g', SR B w0 σ2 g' w ∧ Ext g g' ∧ σ2.next = σ.next ∧ σ2.get oid = some (.cells ty' ver' sz' os') ∧ ∀ i, i ∉ slIds v → i ≠ oid → σ2.get i = σ.get i := by
 obtain ⟨hl, hgt⟩ := hs.get
 have hsz : ∀ (σ' : Store) (g' : Ghost), SR B w0 σ' g' w → σ'.get oid = some (.cells ty' ver' sz' os) → ∀ e, e ∈ os' → e.length = sz' := by
  intro σ' g' h' ho' e he
  obtain ⟨p, hp, h1, h2, h3, h4, cells, h5, h6, h7, h8⟩ := h'.objs oid _ ho'
  obtain ⟨j, hj⟩ := List.mem_iff_getElem?.mp he
  obtain ⟨x, hx, hsub⟩ := hgt j e hj
  rw [← hsub.get.1]
  exact h7 x (List.mem_of_getElem? hx)
 rcases hv with ⟨rfl, rfl⟩ | ⟨id, ver, es', rfl, hg⟩
 · refine ⟨_, g, h.recell rfl ho hl.symm (hsz σ g h ho) (fun j i e c hj hi => ?_), .refl g, rfl, Store.get_upd_self _ _ (σ.lt ho), fun i _ hi => Store.get_upd_ne _ _ hi⟩
   obtain ⟨x, hx, hsub⟩ := hgt j e hj
   obtain ⟨c0, hc0, hs0⟩ := hsub.get.2 i c hi
   exact ⟨x, c0, hx, hc0, fun y hy => RelV.sub (.refl g) (fun z hz => RelV.le Le.nil hz) hs0 hy⟩
 · obtain ⟨g2, hS2, hE2, hrel2⟩ := h.frozen hg
   have hne : oid ≠ id := fun e => hn (by simp [slIds, e])
   have ho2 : (σ.drop id).get oid = some (.cells ty' ver' sz' os) := by simp [Store.drop_get, hne, ho]
   obtain ⟨p, hp, h1, h2, h3, h4, cells, h5, h6, h7, h8⟩ := h.objs oid _ ho
   -- the object's cells, aas they stood
   obtain ⟨q, hq, k1, k2, k3, k4, cells2, k5, k6, k7, k8⟩ := hS2.objs oid _ ho2
   refine ⟨(σ.drop id).upd oid (.cells ty' ver' sz' os'), g2, ?_, hE2, rfl, Store.get_upd_self _ _ (Store.lt _ ho2), fun i hi hi2 => by rw [Store.get_upd_ne _ _ hi2]; simp [slIds] at hi; simp [Store.drop_get, hi]⟩
   have hlt := Store.lt _ ho2
   have hpq : q.blk = p.blk ∧ q = p := by
    obtain ⟨p2, hp2, e⟩ := hE2.pl oid q (by rw [h.next]; exact σ.lt ho) hq
    rw [hp] at hp2; cases hp2
    rcases e with rfl | e
    · exact ⟨rfl, rfl⟩
    · omega
   obtain ⟨-, rfl⟩ := hpq
   rw [h5] at k5
   cases k5
   refine ⟨hS2.below, hS2.size, hS2.phi, hS2.next, fun j y e => ?_, hS2.inj, hS2.apart, hS2.fresh⟩
   rw [Store.get_upd _ _ hlt] at e
   split at e
   · rename_i hj
     cases e
     refine ⟨q, by rw [hj]; exact hq, k1, k2, by omega, k4, cells, h5, h6, hsz σ g h ho, fun i k e c hi hk => ?_⟩
     obtain ⟨x, hx, hsub⟩ := hgt i e hi
     obtain ⟨c0, hc0, hs0⟩ := hsub.get.2 k c hk
     have := h8 i k x c0 hx hc0
     exact ⟨RelV.sub hE2 (fun z hz => by have := hrel2 0 es.length z (by simp) hz; simpa using this) hs0 this.1, this.2⟩
   · exact hS2.objs j y e
section
variable {P : Program} {n : Nat} {Q : AEx → (Nat → AV) → Store → Prop} {tm : Nat → AV} {σ : Store}
theorem AWP_frozeO {c : ACode} {v : AV} {ty sz : Nat} {es : List (List AV)} (hv : SliceAt σ v ty sz es) {oid ty' ver' sz' : Nat} {os os' : List (List AV)} (ho : σ.get oid = some (.cells ty' ver' sz' os))
 (hn : oid ∉ slIds v) (hs : SubE v (.list es) os os') (hk : ∀ σ2 : Store, σ2.next = σ.next → σ2.get oid = some (.cells ty' ver' sz' os') → (∀ i, i ∉ slIds v → i ≠ oid → σ2.get i = σ.get i) → AWP P n c Q tm σ2) : AWP P n c Q tm σ := by
 intro own code hc B w0 g w a hS hT
 obtain ⟨σ2, g', h1, h2, h3, h4, h5⟩ := hS.frozeO hv ho hn hs
 exact wp_mono (hk σ2 h3 h4 h5 own code hc B w0 g' w a h1 (hT.ext h2)) fun e a' w' hp => hp.mono h2 fun _ _ _ h => h
end

/-- A list, or nil. -/
def InL (v : AV) (es : List (List AV)) : Prop := v = .list es ∨ (v = .nils ∧ es = [])
theorem InL.len {v : AV} {es : List (List AV)} (k : InL v es) (s : Store) : eLen .slice v s = some (.int .i64 es.length, s) := by rcases k with rfl | ⟨rfl, rfl⟩ <;> rfl
theorem InL.co {v : AV} {es : List (List AV)} (k : InL v es) : v.cellsOf = some [v] := by rcases k with rfl | ⟨rfl, e⟩ <;> rfl
theorem InL.le {v : AV} {es : List (List AV)} (k : InL v es) : Le v (.list es) := by
 rcases k with rfl | ⟨rfl, rfl⟩
 · exact .refl _
 · exact .nil
theorem InL.rds {v : AV} {es : List (List AV)} (k : InL v es) (s : Store) {sz : Nat} (h : ∀ q, q ∈ es → q.length = sz) : Rds s v sz es := by
 rcases k with rfl | ⟨rfl, rfl⟩
 · exact .list s h
 · exact ⟨rfl, fun i c hc => by simp at hc⟩
theorem InL.of (es : List (List AV)) : InL (.list es) es := .inl rfl
theorem InL.nils : InL .nils [] := .inr ⟨rfl, rfl⟩

/-! ### Maps keyed by texts -/
/-- What a call leaves: what was there as it was; in its result a slice, that becomes a value. -/
def FP (σ : Store) (p : AV → Prop) (r : AV) (s : Store) : Prop := ∃ v ty sz es r', SliceAt s v ty sz es ∧ Sub v (.list es) r r' ∧ p r' ∧ Cln σ.next r' ∧ Kp σ s ∧ ∀ j, j ∈ slIds v → σ.next ≤ j
@[congr] theorem FP_congr {w : Prop} (hw : Visit = w) {σ : Store} {p : AV → Prop} {r r' : AV} {s s' : Store} (h : r = r') (h' : s = s') : FP σ p r s = FP σ p r' s' := by rw [h, h']
theorem FP.mk {σ s : Store} {p : AV → Prop} {r : AV} {v : AV} {ty sz : Nat} {es : List (List AV)} (r' : AV) (h : SliceAt s v ty sz es) (hs : Sub v (.list es) r r') (hp : p r') (hc : Cln σ.next r') (k : Kp σ s) (hf : ∀ j, j ∈ slIds v → σ.next ≤ j) : FP σ p r s := ⟨v, ty, sz, es, r', h, hs, hp, hc, k, hf⟩
theorem FP.same {σ s : Store} {p : AV → Prop} {r : AV} (k : Kp σ s) (hp : p r) (hc : Cln σ.next r) : FP σ p r s := ⟨.nils, 0, 0, [], r, .nil _ _ _, .refl _, hp, hc, k, by simp [slIds]⟩
theorem ACalls_fp {P : Program} {f : FuncId} {args : List AV} {σ : Store} {p : AV → Prop} (h : ACalls P f args σ (FP σ p)) : ACalls P f args σ fun r σ' => p r ∧ σ' = σ :=
 ACalls_pure (ACalls_froze (h.mono fun r s ⟨v, ty, sz, es, r', h1, h2, h3, h4, k, hf⟩ => ⟨v, ty, sz, es, r', h1, h2, fun σ2 hn hg => ⟨h3, h4, by rw [hn]; exact k.next, fun id hid => by rw [hg id (fun hm => by have := hf id hm; omega), k.keep id hid]⟩⟩))
end Go.AL
/- The abstract layer, part 21: values that are told less sharply, deep inside; arguments that are owned slices. -/
set_option linter.unusedVariables false
set_option linter.unusedSimpArgs false
namespace Go.AL
open Go.RowKit
mutual
/-- Nil is an empty list, wherever it stands. -/
inductive LeD : AV → AV → Prop
 | refl (a : AV) : LeD a a
 | nil : LeD .nils (.list [])
 | agg {a b : List AV} (h : LeDL a b) : LeD (.agg a) (.agg b)
 | tuple {a b : List AV} (h : LeDL a b) : LeD (.tuple a) (.tuple b)
 | list {a b : List (List AV)} (h : LeDE a b) : LeD (.list a) (.list b)
inductive LeDL : List AV → List AV → Prop
 | nil : LeDL [] []
 | cons {x y : AV} {a b : List AV} (h : LeD x y) (t : LeDL a b) : LeDL (x :: a) (y :: b)
inductive LeDE : List (List AV) → List (List AV) → Prop
 | nil : LeDE [] []
 | cons {x y : List AV} {a b : List (List AV)} (h : LeDL x y) (t : LeDE a b) : LeDE (x :: a) (y :: b)
end
theorem LeDL.get : ∀ {a b : List AV}, LeDL a b → a.length = b.length ∧ ∀ (j : Nat) (y : AV), b[j]? = some y → ∃ x, a[j]? = some x ∧ LeD x y
 | _, _, .nil => by simp
 | _, _, .cons h t => by
  obtain ⟨h1, h2⟩ := t.get
  refine ⟨by simp [h1], fun j y hj => ?_⟩
  match j, hj with
  | 0, hj => simp at hj; subst hj; exact ⟨_, rfl, h⟩
  | j + 1, hj => simpa using h2 j y (by simpa using hj)
theorem LeDE.get : ∀ {a b : List (List AV)}, LeDE a b → a.length = b.length ∧ ∀ (j : Nat) (y : List AV), b[j]? = some y → ∃ x, a[j]? = some x ∧ LeDL x y
 | _, _, .nil => by simp
 | _, _, .cons h t => by
  obtain ⟨h1, h2⟩ := t.get
  refine ⟨by simp [h1], fun j y hj => ?_⟩
  match j, hj with
  | 0, hj => simp at hj; subst hj; exact ⟨_, rfl, h⟩
  | j + 1, hj => simpa using h2 j y (by simpa using hj)
theorem LeDL.refl : ∀ a : List AV, LeDL a a
 | [] => .nil
 | x :: a => .cons (.refl x) (LeDL.refl a)
theorem RelV.leD {g : Ghost} : ∀ {b a : AV}, LeD a b → ∀ {x : Value}, RelV g a x → RelV g b x
 | _, _, .refl a, x, h => h
 | _, _, .nil, x, h => by cases h; exact .listNil none 0
 | .agg b, .agg a, .agg hs, x, h => by
  cases h with
  | agg hsz hc h1 =>
   obtain ⟨k1, k2⟩ := hs.get
   refine .agg (by omega) (fun j c hj => ?_) (fun j c hj => ?_)
   · obtain ⟨y, hy, hsub⟩ := k2 j c hj
     have := List.mem_of_getElem? hj
     exact RelV.leD hsub (hc j y hy)
   · obtain ⟨y, hy, hsub⟩ := k2 j c hj
     exact h1 j y hy
 | .tuple b, .tuple a, .tuple hs, x, h => by
  cases h with
  | tuple hsz hc =>
   obtain ⟨k1, k2⟩ := hs.get
   refine .tuple (by omega) (fun j c hj => ?_)
   obtain ⟨y, hy, hsub⟩ := k2 j c hj
   have := List.mem_of_getElem? hj
   exact RelV.leD hsub (hc j y hy)
 | .list b, .list a, .list hs, x, h => by
  obtain ⟨k1, k2⟩ := hs.get
  cases h with
  | listNil p c =>
   have : b = [] := List.eq_nil_of_length_eq_zero (by rw [← k1]; rfl)
   subst this
   exact .listNil p c
  | list hΦ hlen hb hc h1 hn hcap =>
   rename_i blk off cap s cells
   have := RelV.list (g := g) (es := b) (blk := blk) (off := off) (cap := cap) (s := s) (cells := cells) hΦ (fun e he => by
    obtain ⟨j, hj⟩ := List.mem_iff_getElem?.mp he
    obtain ⟨y, hy, hsub⟩ := k2 j e hj
    rw [← hsub.get.1]
    exact hlen y (List.mem_of_getElem? hy)) (by rw [← k1]; exact hb) (fun i j e c hi hj => by
    obtain ⟨y, hy, hsub⟩ := k2 i e hi
    obtain ⟨z, hz, hsz⟩ := hsub.get.2 j c hj
    have h1 := List.mem_of_getElem? hi
    have h2 := List.mem_of_getElem? hj
    exact RelV.leD hsz (hc i j y z hy hz)) (fun i j e c hi hj => by
    obtain ⟨y, hy, hsub⟩ := k2 i e hi
    obtain ⟨z, hz, hsz⟩ := hsub.get.2 j c hj
    exact h1 i j y z hy hz) (by omega) hcap
   rw [← k1] at this
   exact this
termination_by b => SizeOf.sizeOf b
decreasing_by
 · have := List.sizeOf_lt_of_mem this; simp; omega
 · have := List.sizeOf_lt_of_mem this; simp; omega
 · have := List.sizeOf_lt_of_mem h1; have := List.sizeOf_lt_of_mem h2; simp; omega
section
variable {P : Program} {f : FuncId} {args args' : List AV} {σ : Store} {K : AV → Store → Prop}
theorem ACalls_argsD (h : LeDL args args') (k : ACalls P f args' σ K) : ACalls P f args σ K :=
 fun B w0 g w vs hS hl hrel => k B w0 g w vs hS (by rw [hl, h.get.1]) fun j a ha => by
  obtain ⟨x, hx, hle⟩ := h.get.2 j a ha
  exact RelV.leD hle (hrel j x hx)
theorem ACalls_leD (h : ACalls P f args σ fun r σ' => ∃ r', LeD r r' ∧ K r' σ') : ACalls P f args σ K :=
 fun B w0 g w vs hS hl hrel => (h B w0 g w vs hS hl hrel).mono fun v w' ⟨r, σ', g', ⟨r', k1, k2⟩, hE, hS', hr⟩ => ⟨r', σ', g', k2, hE, hS', RelV.leD k1 hr⟩
end
end Go.AL
/- The abstract layer: short names for the rules of a walk; a condition as a goal of its own. -/
set_option linter.unusedVariables false
set_option linter.defProp false
namespace Go.AL
/-- A condition. -/
def condW (v : AV) (A B : Prop) : Prop :=
 match v with
 | .bool true => A
 | .bool false => B
 | _ => False
@[congr] theorem condW_congr {w : Prop} (hw : Visit = w) {v v' : AV} {A B : Prop} (h : v = v') : condW v A B = condW v' A B := by rw [h]
theorem condW_t (A B : Prop) : condW (.bool true) A B = A := (rfl)
theorem condW_f (A B : Prop) : condW (.bool false) A B = B := (rfl)
theorem condW_b {b : Bool} {A B : Prop} (h1 : b = true → A) (h2 : b = false → B) : condW (.bool b) A B := by
 cases b with
 | true => exact h1 rfl
 | false => exact h2 rfl
/-- A goal that is not yet evaluated. -/
def Raw (p : Prop) : Prop := p
theorem raw {p : Prop} (h : Raw p) : p := h
theorem unr {p : Prop} (h : p) : Raw p := h
section
variable {P : Program} {n : Nat} {Q : AEx → (Nat → AV) → Store → Prop} {tm : Nat → AV} {σ : Store}
theorem W1 {x y : ACode} (h : Raw (AWP P n x (andThen (AWP P n y Q) Q) tm σ)) : AWP P n (.seq x y) Q tm σ := AWP_seq h
theorem W2 {id : Nat} {c : ACode} (h : Raw (AWP P n c (inBlock id Q) tm σ)) : AWP P n (.block id c) Q tm σ := AWP_block h
theorem W3 {c : ACode} (h : Raw (AWP P n c Q tm σ)) : AWP P n (.scope c) Q tm σ := AWP_scope h
theorem W4 {al : List AOper} (h : Raw (opsWp P al tm σ (fun t s => Q .normal t s))) : AWP P n (.reg al) Q tm σ := AWP_reg h
theorem W5 {js : List Nat} {al : List (List AOper × List AOper)} (h : Raw (opsN P al (junks js tm) σ (fun t s => Q .normal t s))) : AWP P n (.draw js al) Q tm σ := AWP_draw h
theorem W6 (h : Raw (Q .normal tm σ)) : AWP P n .skip Q tm σ := AWP_skip h
theorem W7 (h : Raw (Q .ret tm σ)) : AWP P n .ret Q tm σ := AWP_ret h
theorem W8 {id : Nat} (h : Raw (Q (.exit id) tm σ)) : AWP P n (.exit id) Q tm σ := AWP_exit h
theorem W9 {c : AX} {x y : ACode} (h : Raw (condW (c.ev tm) (AWP P n x Q tm σ) (AWP P n y Q tm σ))) : AWP P n (.cond c x y) Q tm σ := by
 replace h : condW (c.ev tm) (AWP P n x Q tm σ) (AWP P n y Q tm σ) := h
 generalize hv : c.ev tm = v at h
 match v, hv, h with
 | .bool true, hv, h => exact AWP_cond_true hv h
 | .bool false, hv, h => exact AWP_cond_false hv h
end
theorem Z0 : type_of% (And.intro @argList.eq_1 (And.intro @argList.eq_2 (And.intro @aFill.eq_1 (And.intro @aFill.eq_2 (And.intro @aPut.eq_1 (And.intro @condW_t @condW_f)))))) := And.intro @argList.eq_1 (And.intro @argList.eq_2 (And.intro @aFill.eq_1 (And.intro @aFill.eq_2 (And.intro @aPut.eq_1 (And.intro @condW_t @condW_f)))))
theorem Ty : type_of% (And.intro @dec_t (And.intro @dec_f (And.intro @not_t @not_f))) := And.intro @dec_t (And.intro @dec_f (And.intro @not_t @not_f))
theorem ZZ : type_of% (And.intro Z0 SS) := And.intro Z0 SS
end Go.AL
/- The abstract layer: one rule for a step of a walk. -/
set_option linter.unusedVariables false
set_option linter.defProp false
namespace Go.AL
def isK : ACode → Bool
 | .loop _ => false
 | _ => true
def stepW (P : Program) (n : Nat) (c : ACode) (Q : AEx → (Nat → AV) → Store → Prop) (tm : Nat → AV) (σ : Store) : Prop :=
 match c with
 | .seq x y => AWP P n x (andThen (AWP P n y Q) Q) tm σ
 | .block id c => AWP P n c (inBlock id Q) tm σ
 | .scope c => AWP P n c Q tm σ
 | .reg al => opsWp P al tm σ fun t s => Q .normal t s
 | .draw js al => opsN P al (junks js tm) σ fun t s => Q .normal t s
 | .skip => Q .normal tm σ
 | .ret => Q .ret tm σ
 | .exit id => Q (.exit id) tm σ
 | .cond c x y => condW (c.ev tm) (AWP P n x Q tm σ) (AWP P n y Q tm σ)
 | .loop _ => False
@[congr] theorem stepW_congr {w : Prop} (hw : Visit = w) {P : Program} {n : Nat} {c : ACode} {Q : AEx → (Nat → AV) → Store → Prop} {tm tm' : Nat → AV} {σ σ' : Store} (h : tm = tm') (h' : σ = σ') : stepW P n c Q tm σ = stepW P n c Q tm' σ' := by rw [h, h']
section
variable (P : Program) (n : Nat) (Q : AEx → (Nat → AV) → Store → Prop) (tm : Nat → AV) (σ : Store)
theorem st1 (x y : ACode) : stepW P n (.seq x y) Q tm σ = AWP P n x (andThen (AWP P n y Q) Q) tm σ := (rfl)
theorem st2 (id : Nat) (c : ACode) : stepW P n (.block id c) Q tm σ = AWP P n c (inBlock id Q) tm σ := (rfl)
theorem st3 (c : ACode) : stepW P n (.scope c) Q tm σ = AWP P n c Q tm σ := (rfl)
theorem st4 (al : List AOper) : stepW P n (.reg al) Q tm σ = opsWp P al tm σ fun t s => Q .normal t s := (rfl)
theorem st5 (js : List Nat) (al : List (List AOper × List AOper)) : stepW P n (.draw js al) Q tm σ = opsN P al (junks js tm) σ fun t s => Q .normal t s := (rfl)
theorem st6 : stepW P n .skip Q tm σ = Q .normal tm σ := (rfl)
theorem st7 : stepW P n .ret Q tm σ = Q .ret tm σ := (rfl)
theorem st8 (id : Nat) : stepW P n (.exit id) Q tm σ = Q (.exit id) tm σ := (rfl)
theorem st9 (c : AX) (x y : ACode) : stepW P n (.cond c x y) Q tm σ = condW (c.ev tm) (AWP P n x Q tm σ) (AWP P n y Q tm σ) := (rfl)
end
theorem stY : type_of% (And.intro @st1 (And.intro @st2 (And.intro @st3 (And.intro @st4 (And.intro @st5 (And.intro @st6 (And.intro @st7 (And.intro @st8 @st9)))))))) := And.intro @st1 (And.intro @st2 (And.intro @st3 (And.intro @st4 (And.intro @st5 (And.intro @st6 (And.intro @st7 (And.intro @st8 @st9)))))))
theorem WW {P : Program} {n : Nat} {c : ACode} {Q : AEx → (Nat → AV) → Store → Prop} {tm : Nat → AV} {σ : Store} (hk : isK c = true) (h : Raw (stepW P n c Q tm σ)) : AWP P n c Q tm σ := by
 cases c with
 | seq x y => exact W1 h
 | block id c => exact W2 h
 | scope c => exact W3 h
 | reg al => exact W4 h
 | draw js al => exact W5 h
 | skip => exact W6 h
 | ret => exact W7 h
 | exit id => exact W8 h
 | cond c x y => exact W9 h
 | loop c => cases hk
theorem stX : type_of% (And.intro @oo_dst (And.intro @oo_op (And.intro @og_dst (And.intro @og_op (And.intro @mv_dst stY))))) := And.intro @oo_dst (And.intro @oo_op (And.intro @og_dst (And.intro @og_op (And.intro @mv_dst stY))))
theorem stZ : type_of% (And.intro @opsWp_oo (And.intro @opsWp_og (And.intro @opsWp_mv stX))) := And.intro @opsWp_oo (And.intro @opsWp_og (And.intro @opsWp_mv stX))
theorem YY : type_of% (And.intro stZ ZZ) := And.intro stZ ZZ
end Go.AL
