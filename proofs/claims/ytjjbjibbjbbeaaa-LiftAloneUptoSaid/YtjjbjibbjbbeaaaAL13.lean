/- The abstract layer, part 13: the rules in the form in which they are used. -/
import Derived.Test.YtjjbjibbjbbeaaaAL12
set_option linter.unusedVariables false
set_option linter.unusedSimpArgs false
namespace Go.AL
open Go.RowKit

/-- A word that is always so: the rules by which `simp` visits a goal have it, so that it leaves what comes later alone. -/
def Visit : Prop := True
theorem visit : Visit = True := (rfl)
/-- What holds of an outcome. -/
def ok (x : Option (AV × Store)) (K : AV → Store → Prop) : Prop :=
  match x with
  | some (r, σ') => K r σ'
  | none => False
@[congr] theorem ok_congr {w : Prop} (hw : Visit = w) {x y : Option (AV × Store)} {K : AV → Store → Prop} (h : x = y) : ok x K = ok y K := by rw [h]
theorem ok_some (r : AV) (σ : Store) (K : AV → Store → Prop) : ok (some (r, σ)) K = K r σ := (rfl)
theorem ok_none (K : AV → Store → Prop) : ok none K = False := (rfl)
theorem ok_ite (c : Prop) [Decidable c] (x : Option (AV × Store)) (K : AV → Store → Prop) : ok (if c then x else none) K = (c ∧ ok x K) := by by_cases h : c <;> simp [h, ok]
/-- A guard. -/
def guardW (v : AV) (want : Bool) (A B : Prop) : Prop :=
  match v with
  | .bool b => if b = want then A else B
  | .tuple [] => B
  | _ => False
@[congr] theorem guardW_congr {w : Prop} (hw : Visit = w) {v v' : AV} {want : Bool} {A B : Prop} (h : v = v') : guardW v want A B = guardW v' want A B := by rw [h]
theorem guardW_un (want : Bool) (A B : Prop) : guardW (.tuple []) want A B = B := (rfl)
theorem guardW_tt (A B : Prop) : guardW (.bool true) true A B = A := (rfl)
theorem guardW_tf (A B : Prop) : guardW (.bool true) false A B = B := (rfl)
theorem guardW_ft (A B : Prop) : guardW (.bool false) true A B = B := (rfl)
theorem guardW_ff (A B : Prop) : guardW (.bool false) false A B = A := (rfl)

@[congr] theorem opsWp_congr {w : Prop} (hw : Visit = w) {P : Program} {l : List AOper} {tm tm' : Nat → AV} {σ σ' : Store} {K : (Nat → AV) → Store → Prop} (h : tm = tm') (h' : σ = σ') : opsWp P l tm σ K = opsWp P l tm' σ' K := by rw [h, h']
@[congr] theorem AWP_congr {w : Prop} (hw : Visit = w) {P : Program} {n : Nat} {c : ACode} {Q : AEx → (Nat → AV) → Store → Prop} {tm tm' : Nat → AV} {σ σ' : Store} (h : tm = tm') (h' : σ = σ') : AWP P n c Q tm σ = AWP P n c Q tm' σ' := by rw [h, h']
@[congr] theorem ACalls_congr {w : Prop} (hw : Visit = w) {P : Program} {f : FuncId} {args args' : List AV} {σ σ' : Store} {K : AV → Store → Prop} (h : args = args') (h' : σ = σ') : ACalls P f args σ K = ACalls P f args' σ' K := by rw [h, h']
@[congr] theorem wp_congr {w : Prop} (hw : Visit = w) (P : Program) (op : AOp) {tm tm' : Nat → AV} {σ σ' : Store} (K : AV → Store → Prop) (h : tm = tm') (h' : σ = σ') : op.wp P tm σ K = op.wp P tm' σ' K := by rw [h, h']

theorem env_nil (i : Nat) : env [] i = .junk := (rfl)
theorem env_cons (j : Nat) (v : AV) (r : List (Nat × AV)) (i : Nat) : env ((j, v) :: r) i = if i = j then v else env r i := (rfl)
theorem put_some (l : List (Nat × AV)) (d : Nat) (v : AV) : put (env l) (some d) v = env ((d, v) :: l) := (rfl)
theorem put_none (tm : Nat → AV) (v : AV) : put tm none v = tm := (rfl)
theorem ev_t (tm : Nat → AV) (i : Nat) : (AX.t i).ev tm = tm i := (rfl)
theorem ev_c (tm : Nat → AV) (v : AV) : (AX.c v).ev tm = v := (rfl)
section
variable (P : Program) (tm : Nat → AV) (σ : Store)
theorem opsWp_nil (K : (Nat → AV) → Store → Prop) : opsWp P [] tm σ K = K tm σ := (rfl)
theorem opsWp_cons (d : Option Nat) (op : AOp) (rest : List AOper) (K : (Nat → AV) → Store → Prop) :
    opsWp P (⟨d, op, none⟩ :: rest) tm σ K = op.wp P tm σ fun r σ' => opsWp P rest (put tm d r) σ' K := (rfl)
theorem opsWp_guard (d : Option Nat) (op : AOp) (s : Nat) (want : Bool) (rest : List AOper) (K : (Nat → AV) → Store → Prop) :
    opsWp P (⟨d, op, some (s, want)⟩ :: rest) tm σ K = guardW (tm s) want (op.wp P tm σ fun r σ' => opsWp P rest (put tm d r) σ' K) (opsWp P rest (put tm d (.tuple [])) σ K) := (rfl)

variable (K : AV → Store → Prop)
theorem wp_call (f : FuncId) (args : List AX) : (AOp.call f args).wp P tm σ K = ACalls P f (args.map (·.ev tm)) σ K := (rfl)
def callvW (P : Program) (f : AV) (args : List AV) (σ : Store) (K : AV → Store → Prop) : Prop :=
  match f with
  | .fn (.func f) first captured => ACalls P f (first ++ args ++ captured) σ K
  | _ => False
theorem wp_callv (f : AX) (args : List AX) : (AOp.callv f args).wp P tm σ K = callvW P (f.ev tm) (args.map (·.ev tm)) σ K := (rfl)
theorem callvW_fn (f : FuncId) (first captured args : List AV) : callvW P (.fn (.func f) first captured) args σ K = ACalls P f (first ++ args ++ captured) σ K := (rfl)

theorem wp_move (x : AX) : (AOp.move x).wp P tm σ K = K (x.ev tm) σ := (rfl)
def ePick (c a b : AV) (σ : Store) : Option (AV × Store) := match c with | .bool t => some (if t then a else b, σ) | _ => none
theorem wp_pick (c a b : AX) : (AOp.pick c a b).wp P tm σ K = ok (ePick (c.ev tm) (a.ev tm) (b.ev tm) σ) K := (rfl)
theorem ePick_true (a b : AV) : ePick (.bool true) a b σ = some (a, σ) := (rfl)
theorem ePick_false (a b : AV) : ePick (.bool false) a b σ = some (b, σ) := (rfl)
def eNew (ty : Nat) (cs : Option (List AV)) (σ : Store) : Option (AV × Store) := match cs with | some cs => some (.ptr σ.next 0 0 0, σ.push (.cells ty 0 cs.length [cs])) | none => none
theorem wp_new (ty : Nat) (x : AX) : (AOp.new ty x).wp P tm σ K = ok (eNew ty (x.ev tm).cellsOf σ) K := (rfl)
theorem eNew_some (ty : Nat) (cs : List AV) : eNew ty (some cs) σ = some (.ptr σ.next 0 0 0, σ.push (.cells ty 0 cs.length [cs])) := (rfl)
theorem wp_build (z : List AV) (ps : List (Nat × Nat × AX)) : (AOp.build z ps).wp P tm σ K = ok (match aFill z (ps.map fun p => (p.1, p.2.1, p.2.2.ev tm)) with | some r => some (.agg r, σ) | none => none) K := (rfl)
def eAgg (r : Option (List AV)) (σ : Store) : Option (AV × Store) := match r with | some r => some (.agg r, σ) | none => none
theorem wp_build' (z : List AV) (ps : List (Nat × Nat × AX)) : (AOp.build z ps).wp P tm σ K = ok (eAgg (aFill z (ps.map fun p => (p.1, p.2.1, p.2.2.ev tm))) σ) K := (rfl)
theorem eAgg_some (r : List AV) : eAgg (some r) σ = some (.agg r, σ) := (rfl)
def eLit (own : Bool) (ty sz : Nat) (es : Option (List (List AV))) (σ : Store) : Option (AV × Store) :=
  match es with
  | some es => if own then some (.own σ.next 0 sz 0 es.length, σ.push (.cells ty 0 sz es)) else some (.list es, σ)
  | none => none
theorem wp_lit (own : Bool) (ty sz : Nat) (xs : List AX) : (AOp.lit own ty sz xs).wp P tm σ K = ok (eLit own ty sz (litEs sz (xs.map (·.ev tm))) σ) K := (rfl)
theorem eLit_own (ty sz : Nat) (es : List (List AV)) : eLit true ty sz (some es) σ = some (.own σ.next 0 sz 0 es.length, σ.push (.cells ty 0 sz es)) := (rfl)
theorem eLit_list (ty sz : Nat) (es : List (List AV)) : eLit false ty sz (some es) σ = some (.list es, σ) := (rfl)
theorem litEs_nil (sz : Nat) : litEs sz [] = some [] := (rfl)
def litCons (sz : Nat) (c : Option (List AV)) (r : Option (List (List AV))) : Option (List (List AV)) :=
  match c with
  | some cs => if cs.length = sz then (match r with | some es => some (cs :: es) | none => none) else none
  | none => none
theorem litEs_cons (sz : Nat) (v : AV) (r : List AV) : litEs sz (v :: r) = litCons sz v.cellsOf (litEs sz r) := (rfl)
theorem litCons_some (sz : Nat) (cs : List AV) (es : List (List AV)) : litCons sz (some cs) (some es) = if cs.length = sz then some (cs :: es) else none := (rfl)

/-- A value and the store as it was. -/
def eVal (r : Option AV) (σ : Store) : Option (AV × Store) := match r with | some r => some (r, σ) | none => none
theorem eVal_some (r : AV) : eVal (some r) σ = some (r, σ) := (rfl)
theorem eVal_none : eVal none σ = none := (rfl)
theorem eVal_ite (c : Prop) [Decidable c] (x y : Option AV) : eVal (if c then x else y) σ = if c then eVal x σ else eVal y σ := by by_cases h : c <;> simp [h]

def eLoad (agg : Option Nat) (v : AV) (σ : Store) : Option (AV × Store) :=
  match v with
  | .ptr id ver k off =>
    match σ.get id with
    | some (.cells _ v _ es) => if v = ver then (match es[k]? with | some e => (match aLoad agg e off with | some r => some (r, σ) | none => none) | none => none) else none
    | _ => none
  | .rptr cs off => match aLoad agg cs off with | some r => some (r, σ) | none => none
  | _ => none
def eLoad2 (agg : Option Nat) (ver k off : Nat) (o : Option AObj) (σ : Store) : Option (AV × Store) :=
  match o with
  | some (.cells _ v _ es) => if v = ver then (match es[k]? with | some e => (match aLoad agg e off with | some r => some (r, σ) | none => none) | none => none) else none
  | _ => none
def eLoad3 (agg : Option Nat) (off : Nat) (e : Option (List AV)) (σ : Store) : Option (AV × Store) :=
  match e with | some e => (match aLoad agg e off with | some r => some (r, σ) | none => none) | none => none
theorem wp_load (agg : Option Nat) (x : AX) : (AOp.load agg x).wp P tm σ K = ok (eLoad agg (x.ev tm) σ) K := (rfl)
theorem eLoad_ptr (agg : Option Nat) (id ver k off : Nat) : eLoad agg (.ptr id ver k off) σ = eLoad2 agg ver k off (σ.get id) σ := (rfl)
theorem eLoad_rptr (agg : Option Nat) (cs : List AV) (off : Nat) : eLoad agg (.rptr cs off) σ = eVal (aLoad agg cs off) σ := (rfl)
theorem eLoad2_some (agg : Option Nat) (ver k off ty v sz : Nat) (es : List (List AV)) : eLoad2 agg ver k off (some (.cells ty v sz es)) σ = if v = ver then eLoad3 agg off es[k]? σ else none := (rfl)
theorem eLoad3_some (agg : Option Nat) (off : Nat) (e : List AV) : eLoad3 agg off (some e) σ = eVal (aLoad agg e off) σ := (rfl)
theorem aLoad_none (cs : List AV) (off : Nat) : aLoad none cs off = cs[off]? := (rfl)
theorem aLoad_some (n : Nat) (cs : List AV) (off : Nat) : aLoad (some n) cs off = if off + n ≤ cs.length then some (.agg ((cs.drop off).take n)) else none := (rfl)

def eStore (sz : Nat) (a : AV) (cs : Option (List AV)) (σ : Store) : Option (AV × Store) :=
  match a with
  | .ptr id ver k off =>
    match cs with
    | some cs =>
      match σ.get id with
      | some (.cells ty v s es) => if v = ver ∧ cs.length = sz then (match es[k]? with | some e => if off + cs.length ≤ e.length then some (.junk, σ.upd id (.cells ty ver s (es.set k (aPut e off cs)))) else none | none => none) else none
      | _ => none
    | none => none
  | _ => none
def eStore2 (sz id ver k off : Nat) (cs : List AV) (o : Option AObj) (σ : Store) : Option (AV × Store) :=
  match o with
  | some (.cells ty v s es) => if v = ver ∧ cs.length = sz then (match es[k]? with | some e => if off + cs.length ≤ e.length then some (.junk, σ.upd id (.cells ty ver s (es.set k (aPut e off cs)))) else none | none => none) else none
  | _ => none
def eStore3 (id ver k off ty s : Nat) (cs : List AV) (es : List (List AV)) (e : Option (List AV)) (σ : Store) : Option (AV × Store) :=
  match e with | some e => if off + cs.length ≤ e.length then some (.junk, σ.upd id (.cells ty ver s (es.set k (aPut e off cs)))) else none | none => none
theorem wp_store (sz : Nat) (a x : AX) : (AOp.store sz a x).wp P tm σ K = ok (eStore sz (a.ev tm) (x.ev tm).cellsOf σ) K := (rfl)
theorem eStore_ptr (sz id ver k off : Nat) (cs : List AV) : eStore sz (.ptr id ver k off) (some cs) σ = eStore2 sz id ver k off cs (σ.get id) σ := (rfl)
theorem eStore2_some (sz id ver k off ty v s : Nat) (cs : List AV) (es : List (List AV)) : eStore2 sz id ver k off cs (some (.cells ty v s es)) σ = if v = ver ∧ cs.length = sz then eStore3 id ver k off ty s cs es es[k]? σ else none := (rfl)
theorem eStore3_some (id ver k off ty s : Nat) (cs : List AV) (es : List (List AV)) (e : List AV) : eStore3 id ver k off ty s cs es (some e) σ = if off + cs.length ≤ e.length then some (.junk, σ.upd id (.cells ty ver s (es.set k (aPut e off cs)))) else none := (rfl)

def eNck (v : AV) (σ : Store) : Option (AV × Store) := match v with | .ptr a b c d => some (.ptr a b c d, σ) | .rptr a b => some (.rptr a b, σ) | .fn (.func f) a b => some (.fn (.func f) a b, σ) | _ => none
theorem wp_nilck (x : AX) : (AOp.nilck x).wp P tm σ K = ok (eNck (x.ev tm) σ) K := (rfl)
theorem eNck_ptr (a b c d : Nat) : eNck (.ptr a b c d) σ = some (.ptr a b c d, σ) := (rfl)
theorem eNck_rptr (a : List AV) (b : Nat) : eNck (.rptr a b) σ = some (.rptr a b, σ) := (rfl)
theorem eNck_fn (f : FuncId) (a b : List AV) : eNck (.fn (.func f) a b) σ = some (.fn (.func f) a b, σ) := (rfl)
theorem wp_bin (kd : KK) (op : BinOp) (x y : AX) : (AOp.bin kd op x y).wp P tm σ K = ok (eVal (aBin kd op (x.ev tm) (y.ev tm)) σ) K := (rfl)
theorem wp_nileq (k : NK) (ng : Bool) (x y : AX) : (AOp.nileq k ng x y).wp P tm σ K = ok (eVal (aNilEq k ng (x.ev tm) (y.ev tm)) σ) K := (rfl)
def aNot : AV → Option AV | .bool b => some (.bool (!b)) | _ => none
theorem wp_not (x : AX) : (AOp.not x).wp P tm σ K = ok (match x.ev tm with | .bool b => some (.bool (!b), σ) | _ => none) K := (rfl)
def eNot (v : AV) (σ : Store) : Option (AV × Store) := match v with | .bool b => some (.bool (!b), σ) | _ => none
theorem wp_not' (x : AX) : (AOp.not x).wp P tm σ K = ok (eNot (x.ev tm) σ) K := (rfl)
theorem eNot_bool (b : Bool) : eNot (.bool b) σ = some (.bool (!b), σ) := (rfl)
def eNeg (v : AV) (σ : Store) : Option (AV × Store) := match v with | .int k n => some (.int k (k.wrap (0 - n)), σ) | _ => none
theorem wp_neg (x : AX) : (AOp.neg x).wp P tm σ K = ok (eNeg (x.ev tm) σ) K := (rfl)
theorem eNeg_int (k : IntKind) (n : Int) : eNeg (.int k n) σ = some (.int k (k.wrap (0 - n)), σ) := (rfl)
def eConv (k : IntKind) (v : AV) (σ : Store) : Option (AV × Store) := match v with | .int _ n => some (.int k (k.wrap n), σ) | _ => none
theorem wp_conv (k : IntKind) (x : AX) : (AOp.conv k x).wp P tm σ K = ok (eConv k (x.ev tm) σ) K := (rfl)
theorem eConv_int (k j : IntKind) (n : Int) : eConv k (.int j n) σ = some (.int k (k.wrap n), σ) := (rfl)
def eSame (v : AV) (σ : Store) : Option (AV × Store) := match v with | .str s => some (.str s, σ) | _ => none
theorem wp_same (x : AX) : (AOp.same x).wp P tm σ K = ok (eSame (x.ev tm) σ) K := (rfl)
theorem eSame_str (s : ByteArray) : eSame (.str s) σ = some (.str s, σ) := (rfl)
theorem wp_mkfn (f : Fn) (a b : List AX) : (AOp.mkfn f a b).wp P tm σ K = K (.fn f (a.map (·.ev tm)) (b.map (·.ev tm))) σ := (rfl)
theorem wp_mkmap : AOp.mkmap.wp P tm σ K = K (.map σ.next) (σ.push (.map [])) := (rfl)
def eMks (ty sz bytes : Nat) (zc : List AV) (l c : AV) (σ : Store) : Option (AV × Store) :=
  match l, c with
  | .int _ l, .int _ c => if 0 ≤ l ∧ l ≤ c ∧ (bytes : Int) * c ≤ 281474976710656 ∧ c ≤ 9223372036854775807 then some (.own σ.next 0 sz 0 l.toNat, σ.push (.cells ty 0 sz (List.replicate l.toNat zc))) else none
  | _, _ => none
theorem wp_mkslice (ty sz bytes : Nat) (zc : List AV) (l c : AX) : (AOp.mkslice ty sz bytes zc l c).wp P tm σ K = ok (eMks ty sz bytes zc (l.ev tm) (c.ev tm) σ) K := (rfl)
theorem eMks_int (ty sz bytes : Nat) (zc : List AV) (k j : IntKind) (l c : Int) : eMks ty sz bytes zc (.int k l) (.int j c) σ = if 0 ≤ l ∧ l ≤ c ∧ (bytes : Int) * c ≤ 281474976710656 ∧ c ≤ 9223372036854775807 then some (.own σ.next 0 sz 0 l.toNat, σ.push (.cells ty 0 sz (List.replicate l.toNat zc))) else none := (rfl)

def eCut (k : LK) (sz : Nat) (v : AV) (lo hi : Option AV) (σ : Store) : Option (AV × Store) :=
  match k, v with
  | .str, .str s =>
    match bound 0 lo, bound s.size hi with
    | some l, some h => if 0 ≤ l ∧ l ≤ h ∧ h ≤ s.size then some (.str (s.extract l.toNat h.toNat), σ) else none
    | _, _ => none
  | .slice, .list es =>
    match bound 0 lo, bound es.length hi with
    | some l, some h => if 0 ≤ l ∧ l ≤ h ∧ h ≤ es.length ∧ (∀ q, q ∈ es → q.length = sz) then some (.list ((es.take h.toNat).drop l.toNat), σ) else none
    | _, _ => none
  | .slice, .nils =>
    match bound 0 lo, bound 0 hi with
    | some l, some h => if l = 0 ∧ h = 0 then some (.nils, σ) else none
    | _, _ => none
  | .slice, .own id ver s off ln =>
    match bound 0 lo, bound ln hi with
    | some l, some h =>
      match σ.get id with
      | some (.cells _ v _ _) => if v = ver ∧ s = sz ∧ 0 ≤ l ∧ l ≤ h ∧ h ≤ ln then some (.own id ver s (off + l.toNat) (h.toNat - l.toNat), σ) else none
      | _ => none
    | _, _ => none
  | _, _ => none
theorem wp_cut (k : LK) (sz : Nat) (x : AX) (lo hi : Option AX) : (AOp.cut k sz x lo hi).wp P tm σ K = ok (eCut k sz (x.ev tm) (lo.map (·.ev tm)) (hi.map (·.ev tm)) σ) K := (rfl)
def cutS (s : ByteArray) (l h : Option Int) (σ : Store) : Option (AV × Store) := match l, h with
  | some l, some h => if 0 ≤ l ∧ l ≤ h ∧ h ≤ s.size then some (.str (s.extract l.toNat h.toNat), σ) else none
  | _, _ => none
def cutL (sz : Nat) (es : List (List AV)) (l h : Option Int) (σ : Store) : Option (AV × Store) := match l, h with
  | some l, some h => if 0 ≤ l ∧ l ≤ h ∧ h ≤ es.length ∧ (∀ q, q ∈ es → q.length = sz) then some (.list ((es.take h.toNat).drop l.toNat), σ) else none
  | _, _ => none
def cutO (sz id ver s off ln : Nat) (l h : Option Int) (o : Option AObj) (σ : Store) : Option (AV × Store) := match l, h with
  | some l, some h =>
    match o with
    | some (.cells _ v _ _) => if v = ver ∧ s = sz ∧ 0 ≤ l ∧ l ≤ h ∧ h ≤ ln then some (.own id ver s (off + l.toNat) (h.toNat - l.toNat), σ) else none
    | _ => none
  | _, _ => none
theorem eCut_str (sz : Nat) (s : ByteArray) (lo hi : Option AV) : eCut .str sz (.str s) lo hi σ = cutS s (bound 0 lo) (bound s.size hi) σ := (rfl)
theorem cutS_some (s : ByteArray) (l h : Int) : cutS s (some l) (some h) σ = if 0 ≤ l ∧ l ≤ h ∧ h ≤ s.size then some (.str (s.extract l.toNat h.toNat), σ) else none := (rfl)
theorem eCut_list (sz : Nat) (es : List (List AV)) (lo hi : Option AV) : eCut .slice sz (.list es) lo hi σ = cutL sz es (bound 0 lo) (bound es.length hi) σ := (rfl)
theorem cutL_some (sz : Nat) (es : List (List AV)) (l h : Int) : cutL sz es (some l) (some h) σ = if 0 ≤ l ∧ l ≤ h ∧ h ≤ es.length ∧ (∀ q, q ∈ es → q.length = sz) then some (.list ((es.take h.toNat).drop l.toNat), σ) else none := (rfl)
theorem eCut_own (sz id ver s off ln : Nat) (lo hi : Option AV) : eCut .slice sz (.own id ver s off ln) lo hi σ = cutO sz id ver s off ln (bound 0 lo) (bound ln hi) (σ.get id) σ := by
  simp only [eCut, cutO]
theorem cutO_some (sz id ver s off ln ty v z : Nat) (l h : Int) (es : List (List AV)) : cutO sz id ver s off ln (some l) (some h) (some (.cells ty v z es)) σ = if v = ver ∧ s = sz ∧ 0 ≤ l ∧ l ≤ h ∧ h ≤ ln then some (.own id ver s (off + l.toNat) (h.toNat - l.toNat), σ) else none := (rfl)
theorem bound_none (d : Int) : bound d none = some d := (rfl)
theorem bound_int (d : Int) (k : IntKind) (n : Int) : bound d (some (.int k n)) = some n := (rfl)

def eFad (off : Nat) (v : AV) (σ : Store) : Option (AV × Store) :=
  match v with
  | .ptr id ver k o => match σ.get id with | some (.cells _ v _ _) => if v = ver then some (.ptr id ver k (o + off), σ) else none | _ => none
  | .rptr cs o => some (.rptr cs (o + off), σ)
  | _ => none
def eFad2 (off id ver k o : Nat) (x : Option AObj) (σ : Store) : Option (AV × Store) := match x with | some (.cells _ v _ _) => if v = ver then some (.ptr id ver k (o + off), σ) else none | _ => none
theorem wp_faddr (off : Nat) (x : AX) : (AOp.faddr off x).wp P tm σ K = ok (eFad off (x.ev tm) σ) K := (rfl)
theorem eFad_ptr (off id ver k o : Nat) : eFad off (.ptr id ver k o) σ = eFad2 off id ver k o (σ.get id) σ := (rfl)
theorem eFad2_some (off id ver k o ty v sz : Nat) (es : List (List AV)) : eFad2 off id ver k o (some (.cells ty v sz es)) σ = if v = ver then some (.ptr id ver k (o + off), σ) else none := (rfl)
theorem eFad_rptr (off o : Nat) (cs : List AV) : eFad off (.rptr cs o) σ = some (.rptr cs (o + off), σ) := (rfl)
def eFld (off : Nat) (agg : Option Nat) (v : AV) (σ : Store) : Option (AV × Store) := match v with | .agg cs => (match aLoad agg cs off with | some r => some (r, σ) | none => none) | _ => none
theorem wp_field (off : Nat) (agg : Option Nat) (x : AX) : (AOp.field off agg x).wp P tm σ K = ok (eFld off agg (x.ev tm) σ) K := (rfl)
theorem eFld_agg (off : Nat) (agg : Option Nat) (cs : List AV) : eFld off agg (.agg cs) σ = eVal (aLoad agg cs off) σ := (rfl)
def eIad (sz : Nat) (v i : AV) (σ : Store) : Option (AV × Store) :=
  match i with
  | .int _ n =>
    match v with
    | .list es => if 0 ≤ n then (match es[n.toNat]? with | some c => if c.length = sz then some (.rptr c 0, σ) else none | none => none) else none
    | .own id ver s off ln => match σ.get id with | some (.cells _ v _ _) => if v = ver ∧ s = sz ∧ 0 ≤ n ∧ n < ln then some (.ptr id ver (off + n.toNat) 0, σ) else none | _ => none
    | _ => none
  | _ => none
def eIad2 (sz : Nat) (c : Option (List AV)) (σ : Store) : Option (AV × Store) := match c with | some c => if c.length = sz then some (.rptr c 0, σ) else none | none => none
def eIad3 (sz id ver s off ln : Nat) (n : Int) (o : Option AObj) (σ : Store) : Option (AV × Store) := match o with | some (.cells _ v _ _) => if v = ver ∧ s = sz ∧ 0 ≤ n ∧ n < ln then some (.ptr id ver (off + n.toNat) 0, σ) else none | _ => none
theorem wp_iaddr (sz : Nat) (x i : AX) : (AOp.iaddr sz x i).wp P tm σ K = ok (eIad sz (x.ev tm) (i.ev tm) σ) K := (rfl)
theorem eIad_list (sz : Nat) (es : List (List AV)) (k : IntKind) (n : Int) : eIad sz (.list es) (.int k n) σ = if 0 ≤ n then eIad2 sz es[n.toNat]? σ else none := (rfl)
theorem eIad2_some (sz : Nat) (c : List AV) : eIad2 sz (some c) σ = if c.length = sz then some (.rptr c 0, σ) else none := (rfl)
theorem eIad_own (sz id ver s off ln : Nat) (k : IntKind) (n : Int) : eIad sz (.own id ver s off ln) (.int k n) σ = eIad3 sz id ver s off ln n (σ.get id) σ := (rfl)
theorem eIad3_some (sz id ver s off ln ty v z : Nat) (n : Int) (es : List (List AV)) : eIad3 sz id ver s off ln n (some (.cells ty v z es)) σ = if v = ver ∧ s = sz ∧ 0 ≤ n ∧ n < ln then some (.ptr id ver (off + n.toNat) 0, σ) else none := (rfl)
def eIdx (v i : AV) (σ : Store) : Option (AV × Store) :=
  match v, i with
  | .str s, .int _ n => if 0 ≤ n then (match s.data.toList[n.toNat]? with | some b => some (.int .u8 b.toNat, σ) | none => none) else none
  | _, _ => none
def eIdx2 (b : Option UInt8) (σ : Store) : Option (AV × Store) := match b with | some b => some (.int .u8 b.toNat, σ) | none => none
theorem wp_index (x i : AX) : (AOp.index x i).wp P tm σ K = ok (eIdx (x.ev tm) (i.ev tm) σ) K := (rfl)
theorem eIdx_str (s : ByteArray) (k : IntKind) (n : Int) : eIdx (.str s) (.int k n) σ = if 0 ≤ n then eIdx2 s.data.toList[n.toNat]? σ else none := (rfl)
theorem eIdx2_some (b : UInt8) : eIdx2 (some b) σ = some (.int .u8 b.toNat, σ) := (rfl)

def eLkp (kd : KK) (za : AV) (okk : Bool) (m k : AV) (σ : Store) : Option (AV × Store) :=
  match m with
  | .map id =>
    match σ.get id with
    | some (.map es) =>
      match aFind kd k es 0 with
      | some r => some (if okk then .tuple [findVal za r, .bool r.isSome] else findVal za r, σ)
      | none => none
    | _ => none
  | _ => none
def eLkp2 (kd : KK) (za : AV) (okk : Bool) (k : AV) (o : Option AObj) (σ : Store) : Option (AV × Store) :=
  match o with
  | some (.map es) =>
    match aFind kd k es 0 with
    | some r => some (if okk then .tuple [findVal za r, .bool r.isSome] else findVal za r, σ)
    | none => none
  | _ => none
def eLkp3 (za : AV) (okk : Bool) (r : Option (Option (Nat × AV))) (σ : Store) : Option (AV × Store) :=
  match r with
  | some r => some (if okk then .tuple [findVal za r, .bool r.isSome] else findVal za r, σ)
  | none => none
theorem wp_lookup (kd : KK) (za : AV) (okk : Bool) (m k : AX) : (AOp.lookup kd za okk m k).wp P tm σ K = ok (eLkp kd za okk (m.ev tm) (k.ev tm) σ) K := (rfl)
theorem eLkp_map (kd : KK) (za : AV) (okk : Bool) (id : Nat) (k : AV) : eLkp kd za okk (.map id) k σ = eLkp2 kd za okk k (σ.get id) σ := (rfl)
theorem eLkp2_some (kd : KK) (za : AV) (okk : Bool) (k : AV) (es : List (AV × AV)) : eLkp2 kd za okk k (some (.map es)) σ = eLkp3 za okk (aFind kd k es 0) σ := (rfl)
theorem eLkp3_some (za : AV) (r : Option (Nat × AV)) : eLkp3 za true (some r) σ = some (.tuple [findVal za r, .bool r.isSome], σ) := (rfl)
theorem eLkp3_one (za : AV) (r : Option (Nat × AV)) : eLkp3 za false (some r) σ = some (findVal za r, σ) := (rfl)
def eMps (kd : KK) (m k x : AV) (σ : Store) : Option (AV × Store) :=
  match m with
  | .map id =>
    match σ.get id with
    | some (.map es) =>
      match aFind kd k es 0 with
      | some r => some (.junk, σ.upd id (.map (mapPut es k x r)))
      | none => none
    | _ => none
  | _ => none
def eMps2 (kd : KK) (id : Nat) (k x : AV) (o : Option AObj) (σ : Store) : Option (AV × Store) :=
  match o with
  | some (.map es) =>
    match aFind kd k es 0 with
    | some r => some (.junk, σ.upd id (.map (mapPut es k x r)))
    | none => none
  | _ => none
def eMps3 (id : Nat) (k x : AV) (es : List (AV × AV)) (r : Option (Option (Nat × AV))) (σ : Store) : Option (AV × Store) :=
  match r with
  | some r => some (.junk, σ.upd id (.map (mapPut es k x r)))
  | none => none
theorem wp_mapset (kd : KK) (m k x : AX) : (AOp.mapset kd m k x).wp P tm σ K = ok (eMps kd (m.ev tm) (k.ev tm) (x.ev tm) σ) K := (rfl)
theorem eMps_map (kd : KK) (id : Nat) (k x : AV) : eMps kd (.map id) k x σ = eMps2 kd id k x (σ.get id) σ := (rfl)
theorem eMps2_some (kd : KK) (id : Nat) (k x : AV) (es : List (AV × AV)) : eMps2 kd id k x (some (.map es)) σ = eMps3 id k x es (aFind kd k es 0) σ := (rfl)
theorem eMps3_some (id : Nat) (k x : AV) (es : List (AV × AV)) (r : Option (Nat × AV)) : eMps3 id k x es (some r) σ = some (.junk, σ.upd id (.map (mapPut es k x r))) := (rfl)
def eExt (v : AV) (i : Nat) (σ : Store) : Option (AV × Store) := match v with | .tuple vs => (match vs[i]? with | some r => some (r, σ) | none => none) | _ => none
theorem wp_extract (x : AX) (i : Nat) : (AOp.extract x i).wp P tm σ K = ok (eExt (x.ev tm) i σ) K := (rfl)
theorem eExt_tuple (vs : List AV) (i : Nat) : eExt (.tuple vs) i σ = eVal vs[i]? σ := (rfl)
def eLen (k : LK) (v : AV) (σ : Store) : Option (AV × Store) :=
  match k, v with
  | .str, .str s => some (.int .i64 s.size, σ)
  | .slice, .list es => some (.int .i64 es.length, σ)
  | .slice, .nils => some (.int .i64 0, σ)
  | .slice, .own _ _ _ _ ln => some (.int .i64 ln, σ)
  | .map, .map id => match σ.get id with | some (.map es) => some (.int .i64 es.length, σ) | _ => none
  | _, _ => none
theorem wp_len (k : LK) (x : AX) : (AOp.len k x).wp P tm σ K = ok (eLen k (x.ev tm) σ) K := (rfl)
theorem eLen_str (s : ByteArray) : eLen .str (.str s) σ = some (.int .i64 s.size, σ) := (rfl)
theorem eLen_list (es : List (List AV)) : eLen .slice (.list es) σ = some (.int .i64 es.length, σ) := (rfl)
theorem eLen_nils : eLen .slice .nils σ = some (.int .i64 0, σ) := (rfl)
theorem eLen_own (a b c d ln : Nat) : eLen .slice (.own a b c d ln) σ = some (.int .i64 ln, σ) := (rfl)
def eApp (ty sz bytes : Nat) (s : AV) (es : Option (List (List AV))) (σ : Store) : Option (AV × Store) :=
  match es with
  | some es =>
    match s with
    | .nils => if (∀ q, q ∈ es → q.length = sz) ∧ es.length * bytes ≤ 140737488355328 then some (if es = [] then .nils else .own σ.next 0 sz 0 es.length, if es = [] then σ else σ.push (.cells ty 0 sz es)) else none
    | .own id ver s off ln =>
      match σ.get id with
      | some (.cells t v z es0) => if (v = ver ∧ s = sz ∧ off = 0 ∧ t = ty ∧ z = sz ∧ ln ≤ es0.length) ∧ (∀ q, q ∈ es → q.length = sz) ∧ (ln + es.length) * bytes ≤ 140737488355328 ∧ ln + es.length ≤ maxLen then
          some (.own id (ver + 1) sz 0 (ln + es.length), σ.upd id (.cells ty (ver + 1) sz (es0.take ln ++ es))) else none
      | _ => none
    | _ => none
  | none => none
def eApp2 (ty sz bytes id ver s off ln : Nat) (es : List (List AV)) (o : Option AObj) (σ : Store) : Option (AV × Store) :=
  match o with
  | some (.cells t v z es0) => if (v = ver ∧ s = sz ∧ off = 0 ∧ t = ty ∧ z = sz ∧ ln ≤ es0.length) ∧ (∀ q, q ∈ es → q.length = sz) ∧ (ln + es.length) * bytes ≤ 140737488355328 ∧ ln + es.length ≤ maxLen then
      some (.own id (ver + 1) sz 0 (ln + es.length), σ.upd id (.cells ty (ver + 1) sz (es0.take ln ++ es))) else none
  | _ => none
theorem wp_append (ty sz bytes : Nat) (s x : AX) : (AOp.append ty sz bytes s x).wp P tm σ K = ok (eApp ty sz bytes (s.ev tm) (elemsOf σ sz (x.ev tm)) σ) K := (rfl)
theorem eApp_nils (ty sz bytes : Nat) (es : List (List AV)) : eApp ty sz bytes .nils (some es) σ = if (∀ q, q ∈ es → q.length = sz) ∧ es.length * bytes ≤ 140737488355328 then some (if es = [] then .nils else .own σ.next 0 sz 0 es.length, if es = [] then σ else σ.push (.cells ty 0 sz es)) else none := (rfl)
theorem eApp_own (ty sz bytes id ver s off ln : Nat) (es : List (List AV)) : eApp ty sz bytes (.own id ver s off ln) (some es) σ = eApp2 ty sz bytes id ver s off ln es (σ.get id) σ := (rfl)
theorem eApp2_some (ty sz bytes id ver s off ln t v z : Nat) (es es0 : List (List AV)) : eApp2 ty sz bytes id ver s off ln es (some (.cells t v z es0)) σ = if (v = ver ∧ s = sz ∧ off = 0 ∧ t = ty ∧ z = sz ∧ ln ≤ es0.length) ∧ (∀ q, q ∈ es → q.length = sz) ∧ (ln + es.length) * bytes ≤ 140737488355328 ∧ ln + es.length ≤ maxLen then
      some (.own id (ver + 1) sz 0 (ln + es.length), σ.upd id (.cells ty (ver + 1) sz (es0.take ln ++ es))) else none := (rfl)
theorem elems_nils (sz : Nat) : elemsOf σ sz .nils = some [] := (rfl)
theorem elems_list (sz : Nat) (es : List (List AV)) : elemsOf σ sz (.list es) = some es := (rfl)
def elems2 (sz ver s off ln : Nat) (o : Option AObj) : Option (List (List AV)) :=
  match o with
  | some (.cells _ v _ es) => if v = ver ∧ s = sz ∧ off + ln ≤ es.length then some ((es.drop off).take ln) else none
  | _ => none
theorem elems_own (sz id ver s off ln : Nat) : elemsOf σ sz (.own id ver s off ln) = elems2 sz ver s off ln (σ.get id) := (rfl)
theorem elems2_some (sz ver s off ln ty v z : Nat) (es : List (List AV)) : elems2 sz ver s off ln (some (.cells ty v z es)) = if v = ver ∧ s = sz ∧ off + ln ≤ es.length then some ((es.drop off).take ln) else none := (rfl)
def eMax (x y : AV) (σ : Store) : Option (AV × Store) := match x, y with | .int k a, .int _ b => some (.int k (if a < b then b else a), σ) | _, _ => none
theorem wp_max2 (x y : AX) : (AOp.max2 x y).wp P tm σ K = ok (eMax (x.ev tm) (y.ev tm) σ) K := (rfl)
def eMpd (kd : KK) (m k : AV) (σ : Store) : Option (AV × Store) :=
  match m with
  | .map id =>
    match σ.get id with
    | some (.map es) =>
      match aFind kd k es 0 with
      | some r => some (.tuple [], σ.upd id (.map (mapDel es r)))
      | none => none
    | _ => none
  | _ => none
theorem wp_mapdel (kd : KK) (m k : AX) : (AOp.mapdel kd m k).wp P tm σ K = ok (eMpd kd (m.ev tm) (k.ev tm) σ) K := (rfl)
def eBst (es : Option (List (List AV))) (σ : Store) : Option (AV × Store) :=
  match es with
  | some es => if ∀ q, q ∈ es → q.length = 1 then (match bytesOf es with | some ns => some (.str (bytesStr ns), σ) | none => none) else none
  | none => none
theorem wp_bstr (x : AX) : (AOp.bstr x).wp P tm σ K = ok (eBst (elemsOf σ 1 (x.ev tm)) σ) K := (rfl)
def eMin (x y : AV) (σ : Store) : Option (AV × Store) := match x, y with | .int k a, .int _ b => some (.int k (if b < a then b else a), σ) | _, _ => none
theorem wp_min2 (x y : AX) : (AOp.min2 x y).wp P tm σ K = ok (eMin (x.ev tm) (y.ev tm) σ) K := (rfl)
theorem eMin_int (k j : IntKind) (a b : Int) : eMin (.int k a) (.int j b) σ = some (.int k (if b < a then b else a), σ) := (rfl)
end

/-! ### Numbers, texts -/
section
variable (k : IntKind) (x y : Int) (s u : ByteArray) (a b : Bool)
theorem bin_add : aBin .int .add (.int k x) (.int k y) = some (.int k (k.wrap (x + y))) := by simp [aBin]
theorem bin_sub : aBin .int .sub (.int k x) (.int k y) = some (.int k (k.wrap (x - y))) := by simp [aBin]
theorem bin_mul : aBin .int .mul (.int k x) (.int k y) = some (.int k (k.wrap (x * y))) := by simp [aBin]
theorem bin_quo : aBin .int .quo (.int k x) (.int k y) = if y = 0 then none else some (.int k (k.wrap (x.tdiv y))) := by simp [aBin]
theorem bin_rem : aBin .int .rem (.int k x) (.int k y) = if y = 0 then none else some (.int k (x.tmod y)) := by simp [aBin]
theorem bin_eql : aBin .int .eql (.int k x) (.int k y) = some (.bool (decide (x = y))) := by simp [aBin]
theorem bin_neq : aBin .int .neq (.int k x) (.int k y) = some (.bool (!decide (x = y))) := by simp [aBin]
theorem bin_lss : aBin .int .lss (.int k x) (.int k y) = some (.bool (decide (x < y))) := by simp [aBin]
theorem bin_leq : aBin .int .leq (.int k x) (.int k y) = some (.bool (decide (x ≤ y))) := by simp [aBin]
theorem bin_gtr : aBin .int .gtr (.int k x) (.int k y) = some (.bool (decide (y < x))) := by simp [aBin]
theorem bin_geq : aBin .int .geq (.int k x) (.int k y) = some (.bool (decide (y ≤ x))) := by simp [aBin]
theorem bin_sadd : aBin .str .add (.str s) (.str u) = if s.size + u.size ≤ maxLen then some (.str (s ++ u)) else none := (rfl)
theorem bin_seql : aBin .str .eql (.str s) (.str u) = some (.bool (decide (s = u))) := (rfl)
theorem bin_sneq : aBin .str .neq (.str s) (.str u) = some (.bool (!decide (s = u))) := (rfl)
theorem bin_beql : aBin .bool .eql (.bool a) (.bool b) = some (.bool (decide (a = b))) := (rfl)
theorem bin_bneq : aBin .bool .neq (.bool a) (.bool b) = some (.bool (!decide (a = b))) := (rfl)
theorem nileq_np (ng : Bool) (i v k o : Nat) : aNilEq .ptr ng (.ptr i v k o) .nilp = some (.bool (false != ng)) := (rfl)
theorem nileq_nn (ng : Bool) : aNilEq .ptr ng .nilp .nilp = some (.bool (true != ng)) := (rfl)
end

/-! ### Code -/
section
variable (K : (Nat → AV) → Store → Prop) (Q : AEx → (Nat → AV) → Store → Prop) (t : Nat → AV) (s : Store)
theorem andThen_normal : andThen K Q .normal t s = K t s := (rfl)
theorem andThen_ret : andThen K Q .ret t s = Q .ret t s := (rfl)
theorem andThen_exit (i : Nat) : andThen K Q (.exit i) t s = Q (.exit i) t s := (rfl)
theorem inBlock_normal (id : Nat) : inBlock id Q .normal t s = Q .normal t s := (rfl)
theorem inBlock_ret (id : Nat) : inBlock id Q .ret t s = Q .ret t s := (rfl)
theorem inBlock_exit (id i : Nat) : inBlock id Q (.exit i) t s = if i = id then Q .normal t s else Q (.exit i) t s := (rfl)
end
theorem res_slot (t : Nat) (K : AV → Store → Prop) (tm : Nat → AV) (σ : Store) : Res [.slot t] K tm σ = K (tm t) σ := (rfl)
theorem res_slot2 (t u : Nat) (K : AV → Store → Prop) (tm : Nat → AV) (σ : Store) : Res [.slot t, .slot u] K tm σ = K (.tuple [tm t, tm u]) σ := (rfl)
theorem res_slot3 (t u v : Nat) (K : AV → Store → Prop) (tm : Nat → AV) (σ : Store) : Res [.slot t, .slot u, .slot v] K tm σ = K (.tuple [tm t, tm u, tm v]) σ := (rfl)
theorem res_none (K : AV → Store → Prop) (tm : Nat → AV) (σ : Store) : Res [] K tm σ = K (.tuple []) σ := (rfl)
theorem res_cell (t : Nat) (agg : Option Nat) (K : AV → Store → Prop) (tm : Nat → AV) (σ : Store) : Res [.cell t agg] K tm σ = ok (eLoad agg (tm t) σ) fun r _ => K r σ := by
  have h : (AOp.load agg (.t t)).eff tm σ = eLoad agg (tm t) σ := (rfl)
  simp only [Res, resVals, RV.val, h, ok]
  cases eLoad agg (tm t) σ with
  | none => rfl
  | some p => rfl
theorem res_cell_slot (t u : Nat) (agg : Option Nat) (K : AV → Store → Prop) (tm : Nat → AV) (σ : Store) : Res [.cell t agg, .slot u] K tm σ = ok (eLoad agg (tm t) σ) fun r _ => K (.tuple [r, tm u]) σ := by
  have h : (AOp.load agg (.t t)).eff tm σ = eLoad agg (tm t) σ := (rfl)
  simp only [Res, resVals, RV.val, h, ok]
  cases eLoad agg (tm t) σ with
  | none => rfl
  | some p => rfl
theorem res_slot_cell (t u : Nat) (agg : Option Nat) (K : AV → Store → Prop) (tm : Nat → AV) (σ : Store) : Res [.slot u, .cell t agg] K tm σ = ok (eLoad agg (tm t) σ) fun r _ => K (.tuple [tm u, r]) σ := by
  have h : (AOp.load agg (.t t)).eff tm σ = eLoad agg (tm t) σ := (rfl)
  simp only [Res, resVals, RV.val, h, ok]
  cases eLoad agg (tm t) σ with
  | none => rfl
  | some p => rfl

theorem Store.get_upd (σ : Store) (o : AObj) {id : Nat} (h : id < σ.next) (j : Nat) : (σ.upd id o).get j = if j = id then some o else σ.get j := by simp [Store.upd, h]
theorem lt_ne {i n : Nat} (h : i < n) : (i = n) = False := by simp; omega
theorem lt_ne_add {i n k : Nat} (h : i < n) : (i = n + k) = False := by simp; omega
theorem lt_ne' {i n : Nat} (h : i < n) : (n = i) = False := by simp; omega
theorem lt_ne_add' {i n k : Nat} (h : i < n) : (n + k = i) = False := by simp; omega
theorem lt_succ_true {i n k : Nat} (h : i < n) : (i < n + k) = True := by simp; omega
section
variable {P : Program} {n : Nat} {Q : AEx → (Nat → AV) → Store → Prop} {tm : Nat → AV} {σ : Store}
/-- A condition that is not decided: two ways. -/
theorem AWP_cond_split {c : AX} {x y : ACode} {b : Bool} (hb : c.ev tm = .bool b) (ht : b = true → AWP P n x Q tm σ) (hf : b = false → AWP P n y Q tm σ) : AWP P n (.cond c x y) Q tm σ := by
  cases b
  · exact AWP_cond_false hb (hf rfl)
  · exact AWP_cond_true hb (ht rfl)
end
end Go.AL
