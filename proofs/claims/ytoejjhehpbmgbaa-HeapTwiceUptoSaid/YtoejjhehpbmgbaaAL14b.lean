/- The abstract layer, part 14b: rows whose order is drawn, in the form in which they are used. -/
import Derived.Test.YtoejjhehpbmgbaaAL14
set_option linter.unusedVariables false
namespace Go.AL
def dwp (P : Program) (op : AOp) (tm : Nat → AV) (σ : Store) (K : AV → Store → Prop) : Prop :=
  match op with
  | .call f args => ∃ r, ACalls P f (args.map (·.ev tm)) σ (fun r' τ => r' = r ∧ τ = σ) ∧ K r σ
  | .callv f args => ∃ r σ', (AOp.callv f args).dval P tm σ r σ' ∧ K r σ'
  | op => op.wp P tm σ K
@[congr] theorem dwp_congr {w : Prop} (hw : Visit = w) (P : Program) (op : AOp) {tm tm' : Nat → AV} {σ σ' : Store} (K : AV → Store → Prop) (h : tm = tm') (h' : σ = σ') : dwp P op tm σ K = dwp P op tm' σ' K := by rw [h, h']
@[congr] theorem opsD_congr {w : Prop} (hw : Visit = w) {P : Program} {l : List AOper} {tm tm' : Nat → AV} {σ σ' : Store} {K : (Nat → AV) → Store → Prop} (h : tm = tm') (h' : σ = σ') : opsD P l tm σ K = opsD P l tm' σ' K := by rw [h, h']
theorem dwp_eq {P : Program} {op : AOp} {tm : Nat → AV} {σ : Store} {K : AV → Store → Prop} : (∃ r σ', op.dval P tm σ r σ' ∧ K r σ') = dwp P op tm σ K := by
  have key : ∀ op : AOp, (∃ r σ', op.eff tm σ = some (r, σ') ∧ K r σ') = (match op.eff tm σ with | some (r, σ') => K r σ' | none => False) := by
    intro op
    apply propext
    cases op.eff tm σ with
    | none => simp
    | some p => obtain ⟨r, s⟩ := p; exact ⟨fun ⟨_, _, e, k⟩ => by cases e; exact k, fun k => ⟨r, s, rfl, k⟩⟩
  cases op
  case call f args => exact propext ⟨fun ⟨r, s, ⟨e, h⟩, k⟩ => ⟨r, h, by subst e; exact k⟩, fun ⟨r, h, k⟩ => ⟨r, σ, ⟨rfl, h⟩, k⟩⟩
  case callv f args => rfl
  all_goals exact key _
theorem dwp_call {P : Program} (f : FuncId) (args : List AX) (tm : Nat → AV) (σ : Store) (K : AV → Store → Prop) : dwp P (.call f args) tm σ K = ∃ r, ACalls P f (args.map (·.ev tm)) σ (fun r' τ => r' = r ∧ τ = σ) ∧ K r σ := (rfl)
theorem dwp_move (P : Program) (x : AX) (tm : Nat → AV) (σ : Store) (K : AV → Store → Prop) : dwp P (.move x) tm σ K = (AOp.move x).wp P tm σ K := (rfl)
theorem dwp_pick (P : Program) (c a b : AX) (tm : Nat → AV) (σ : Store) (K : AV → Store → Prop) : dwp P (.pick c a b) tm σ K = (AOp.pick c a b).wp P tm σ K := (rfl)
theorem dwp_new (P : Program) (ty : Nat) (x : AX) (tm : Nat → AV) (σ : Store) (K : AV → Store → Prop) : dwp P (.new ty x) tm σ K = (AOp.new ty x).wp P tm σ K := (rfl)
theorem dwp_build (P : Program) (zero : List AV) (parts : List (Nat × Nat × AX)) (tm : Nat → AV) (σ : Store) (K : AV → Store → Prop) : dwp P (.build zero parts) tm σ K = (AOp.build zero parts).wp P tm σ K := (rfl)
theorem dwp_lit (P : Program) (own : Bool) (ty sz : Nat) (xs : List AX) (tm : Nat → AV) (σ : Store) (K : AV → Store → Prop) : dwp P (.lit own ty sz xs) tm σ K = (AOp.lit own ty sz xs).wp P tm σ K := (rfl)
theorem dwp_load (P : Program) (agg : Option Nat) (x : AX) (tm : Nat → AV) (σ : Store) (K : AV → Store → Prop) : dwp P (.load agg x) tm σ K = (AOp.load agg x).wp P tm σ K := (rfl)
theorem dwp_store (P : Program) (sz : Nat) (a x : AX) (tm : Nat → AV) (σ : Store) (K : AV → Store → Prop) : dwp P (.store sz a x) tm σ K = (AOp.store sz a x).wp P tm σ K := (rfl)
theorem dwp_nilck (P : Program) (x : AX) (tm : Nat → AV) (σ : Store) (K : AV → Store → Prop) : dwp P (.nilck x) tm σ K = (AOp.nilck x).wp P tm σ K := (rfl)
theorem dwp_bin (P : Program) (kd : KK) (op : BinOp) (x y : AX) (tm : Nat → AV) (σ : Store) (K : AV → Store → Prop) : dwp P (.bin kd op x y) tm σ K = (AOp.bin kd op x y).wp P tm σ K := (rfl)
theorem dwp_nileq (P : Program) (k : NK) (neg : Bool) (x y : AX) (tm : Nat → AV) (σ : Store) (K : AV → Store → Prop) : dwp P (.nileq k neg x y) tm σ K = (AOp.nileq k neg x y).wp P tm σ K := (rfl)
theorem dwp_not (P : Program) (x : AX) (tm : Nat → AV) (σ : Store) (K : AV → Store → Prop) : dwp P (.not x) tm σ K = (AOp.not x).wp P tm σ K := (rfl)
theorem dwp_neg (P : Program) (x : AX) (tm : Nat → AV) (σ : Store) (K : AV → Store → Prop) : dwp P (.neg x) tm σ K = (AOp.neg x).wp P tm σ K := (rfl)
theorem dwp_conv (P : Program) (k : IntKind) (x : AX) (tm : Nat → AV) (σ : Store) (K : AV → Store → Prop) : dwp P (.conv k x) tm σ K = (AOp.conv k x).wp P tm σ K := (rfl)
theorem dwp_same (P : Program) (x : AX) (tm : Nat → AV) (σ : Store) (K : AV → Store → Prop) : dwp P (.same x) tm σ K = (AOp.same x).wp P tm σ K := (rfl)
theorem dwp_mkfn (P : Program) (f : Fn) (first captured : List AX) (tm : Nat → AV) (σ : Store) (K : AV → Store → Prop) : dwp P (.mkfn f first captured) tm σ K = (AOp.mkfn f first captured).wp P tm σ K := (rfl)
theorem dwp_mkmap (P : Program)  (tm : Nat → AV) (σ : Store) (K : AV → Store → Prop) : dwp P (.mkmap) tm σ K = (AOp.mkmap).wp P tm σ K := (rfl)
theorem dwp_mkslice (P : Program) (ty sz bytes : Nat) (zero : List AV) (l c : AX) (tm : Nat → AV) (σ : Store) (K : AV → Store → Prop) : dwp P (.mkslice ty sz bytes zero l c) tm σ K = (AOp.mkslice ty sz bytes zero l c).wp P tm σ K := (rfl)
theorem dwp_cut (P : Program) (k : LK) (sz : Nat) (x : AX) (lo hi : Option AX) (tm : Nat → AV) (σ : Store) (K : AV → Store → Prop) : dwp P (.cut k sz x lo hi) tm σ K = (AOp.cut k sz x lo hi).wp P tm σ K := (rfl)
theorem dwp_faddr (P : Program) (off : Nat) (x : AX) (tm : Nat → AV) (σ : Store) (K : AV → Store → Prop) : dwp P (.faddr off x) tm σ K = (AOp.faddr off x).wp P tm σ K := (rfl)
theorem dwp_field (P : Program) (off : Nat) (agg : Option Nat) (x : AX) (tm : Nat → AV) (σ : Store) (K : AV → Store → Prop) : dwp P (.field off agg x) tm σ K = (AOp.field off agg x).wp P tm σ K := (rfl)
theorem dwp_iaddr (P : Program) (sz : Nat) (x i : AX) (tm : Nat → AV) (σ : Store) (K : AV → Store → Prop) : dwp P (.iaddr sz x i) tm σ K = (AOp.iaddr sz x i).wp P tm σ K := (rfl)
theorem dwp_index (P : Program) (x i : AX) (tm : Nat → AV) (σ : Store) (K : AV → Store → Prop) : dwp P (.index x i) tm σ K = (AOp.index x i).wp P tm σ K := (rfl)
theorem dwp_lookup (P : Program) (kd : KK) (zero : AV) (ok : Bool) (m k : AX) (tm : Nat → AV) (σ : Store) (K : AV → Store → Prop) : dwp P (.lookup kd zero ok m k) tm σ K = (AOp.lookup kd zero ok m k).wp P tm σ K := (rfl)
theorem dwp_mapset (P : Program) (kd : KK) (m k x : AX) (tm : Nat → AV) (σ : Store) (K : AV → Store → Prop) : dwp P (.mapset kd m k x) tm σ K = (AOp.mapset kd m k x).wp P tm σ K := (rfl)
theorem dwp_extract (P : Program) (x : AX) (i : Nat) (tm : Nat → AV) (σ : Store) (K : AV → Store → Prop) : dwp P (.extract x i) tm σ K = (AOp.extract x i).wp P tm σ K := (rfl)
theorem dwp_len (P : Program) (k : LK) (x : AX) (tm : Nat → AV) (σ : Store) (K : AV → Store → Prop) : dwp P (.len k x) tm σ K = (AOp.len k x).wp P tm σ K := (rfl)
theorem dwp_append (P : Program) (ty sz bytes : Nat) (s x : AX) (tm : Nat → AV) (σ : Store) (K : AV → Store → Prop) : dwp P (.append ty sz bytes s x) tm σ K = (AOp.append ty sz bytes s x).wp P tm σ K := (rfl)
theorem dwp_min2 (P : Program) (x y : AX) (tm : Nat → AV) (σ : Store) (K : AV → Store → Prop) : dwp P (.min2 x y) tm σ K = (AOp.min2 x y).wp P tm σ K := (rfl)
theorem opsD_nil (P : Program) (tm : Nat → AV) (σ : Store) (K : (Nat → AV) → Store → Prop) : opsD P [] tm σ K = K tm σ := (rfl)
theorem opsD_cons (P : Program) (d : Option Nat) (op : AOp) (rest : List AOper) (tm : Nat → AV) (σ : Store) (K : (Nat → AV) → Store → Prop) :
    opsD P (⟨d, op, none⟩ :: rest) tm σ K = dwp P op tm σ fun r σ' => opsD P rest (put tm d r) σ' K := by
  rw [← dwp_eq]; rfl
theorem opsD_guard (P : Program) (d : Option Nat) (op : AOp) (s : Nat) (want : Bool) (rest : List AOper) (tm : Nat → AV) (σ : Store) (K : (Nat → AV) → Store → Prop) :
    opsD P (⟨d, op, some (s, want)⟩ :: rest) tm σ K = guardW (tm s) want (dwp P op tm σ fun r σ' => opsD P rest (put tm d r) σ' K) (opsD P rest (put tm d .junk) σ K) := by
  simp only [opsD, AOper.dval]
  rw [← dwp_eq]
  unfold guardW
  cases hb : tm s
  case bool b =>
    simp only
    by_cases hw : b = want
    · simp only [hw, if_true]
    · simp only [hw, if_false]
      exact propext ⟨fun ⟨r, s, ⟨e1, e2⟩, k⟩ => by subst e1; subst e2; exact k, fun k => ⟨_, _, ⟨rfl, rfl⟩, k⟩⟩
  all_goals simp
@[congr] theorem opsDL_congr {w : Prop} (hw : Visit = w) {P : Program} {l : List AOper} {tm tm' : Nat → AV} {σ σ' : Store} {K : (Nat → AV) → Store → Prop} (h : tm = tm') (h' : σ = σ') : opsDL P l tm σ K = opsDL P l tm' σ' K := by rw [h, h']
theorem opsDL_one (P : Program) (d : Option Nat) (op : AOp) (tm : Nat → AV) (σ : Store) (K : (Nat → AV) → Store → Prop) : opsDL P [⟨d, op, none⟩] tm σ K = op.wp P tm σ fun r σ' => K (put tm d r) σ' := (rfl)
theorem opsDL_cons (P : Program) (d : Option Nat) (op : AOp) (o : AOper) (rest : List AOper) (tm : Nat → AV) (σ : Store) (K : (Nat → AV) → Store → Prop) :
    opsDL P (⟨d, op, none⟩ :: o :: rest) tm σ K = dwp P op tm σ fun r σ' => opsDL P (o :: rest) (put tm d r) σ' K := by
  rw [← dwp_eq]; rfl
theorem opsDL_guard (P : Program) (d : Option Nat) (op : AOp) (s : Nat) (want : Bool) (o : AOper) (rest : List AOper) (tm : Nat → AV) (σ : Store) (K : (Nat → AV) → Store → Prop) :
    opsDL P (⟨d, op, some (s, want)⟩ :: o :: rest) tm σ K = guardW (tm s) want (dwp P op tm σ fun r σ' => opsDL P (o :: rest) (put tm d r) σ' K) (opsDL P (o :: rest) (put tm d .junk) σ K) := by
  simp only [opsDL, AOper.dval]
  rw [← dwp_eq]
  unfold guardW
  cases hb : tm s
  case bool b =>
    simp only
    by_cases hw : b = want
    · simp only [hw, if_true]
    · simp only [hw, if_false]
      exact propext ⟨fun ⟨r, s, ⟨e1, e2⟩, k⟩ => by subst e1; subst e2; exact k, fun k => ⟨_, _, ⟨rfl, rfl⟩, k⟩⟩
  all_goals simp
/-- A call in a row whose order is drawn. -/
theorem d_call {P : Program} {f : FuncId} {args : List AV} {σ : Store} {K : AV → Prop} {r : AV} (h : ACalls P f args σ fun r' τ => r' = r ∧ τ = σ) (hk : K r) : ∃ r, ACalls P f args σ (fun r' τ => r' = r ∧ τ = σ) ∧ K r := ⟨r, h, hk⟩
theorem co_junk : AV.junk.cellsOf = none := (rfl)
theorem co_bool (b : Bool) : (AV.bool b).cellsOf = some [AV.bool b] := (rfl)
theorem co_int (k : IntKind) (n : Int) : (AV.int k n).cellsOf = some [AV.int k n] := (rfl)
theorem co_str (s : ByteArray) : (AV.str s).cellsOf = some [AV.str s] := (rfl)
theorem co_nilp  : (AV.nilp ).cellsOf = some [AV.nilp ] := (rfl)
theorem co_ptr (i v k o : Nat) : (AV.ptr i v k o).cellsOf = some [AV.ptr i v k o] := (rfl)
theorem co_rptr (cs : List AV) (o : Nat) : (AV.rptr cs o).cellsOf = some [AV.rptr cs o] := (rfl)
theorem co_nils  : (AV.nils ).cellsOf = some [AV.nils ] := (rfl)
theorem co_list (es : List (List AV)) : (AV.list es).cellsOf = some [AV.list es] := (rfl)
theorem co_own (a b c d e : Nat) : (AV.own a b c d e).cellsOf = some [AV.own a b c d e] := (rfl)
theorem co_nilm  : (AV.nilm ).cellsOf = some [AV.nilm ] := (rfl)
theorem co_map (i : Nat) : (AV.map i).cellsOf = some [AV.map i] := (rfl)
theorem co_nilf  : (AV.nilf ).cellsOf = some [AV.nilf ] := (rfl)
theorem co_fn (f : Fn) (a b : List AV) : (AV.fn f a b).cellsOf = some [AV.fn f a b] := (rfl)
theorem co_agg (cs : List AV) : (AV.agg cs).cellsOf = some cs := (rfl)
theorem SliceAt.co {σ : Store} {v : AV} {ty sz : Nat} {es : List (List AV)} (h : SliceAt σ v ty sz es) : v.cellsOf = some [v] := by
  rcases h with ⟨rfl, _⟩ | ⟨_, _, _, rfl, _⟩ <;> rfl
end Go.AL
