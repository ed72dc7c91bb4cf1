/- The abstract layer, part 14b: rows whose order is drawn, in the form in which they are used. -/
import Derived.Test.YtjjbjibbjbbeaaaAL14
set_option linter.unusedVariables false
namespace Go.AL
@[congr] theorem opsN_congr {w : Prop} (hw : Visit = w) {P : Program} {l : List (List AOper × List AOper)} {tm tm' : Nat → AV} {σ σ' : Store} {K : (Nat → AV) → Store → Prop} (h : tm = tm') (h' : σ = σ') : opsN P l tm σ K = opsN P l tm' σ' K := by rw [h, h']
/-- Both; the second one is looked at later. -/
def andW (a b : Prop) : Prop := a ∧ b
@[congr] theorem andW_congr {w : Prop} (hw : Visit = w) {a a' b : Prop} (h : a = a') : andW a b = andW a' b := by rw [h]
theorem andW_true (b : Prop) : andW True b = b := by simp [andW]
def stW (r r' : AV) (s s' : Store) : Prop := r = r' ∧ s = s'
theorem stW_def (r r' : AV) (s s' : Store) : stW r r' s s' = (r = r' ∧ s = s') := (rfl)
def stillsW (P : Program) : List AOper → (Nat → AV) → Store → Prop → Prop
  | [], _, _, G => G
  | c :: cs, tm, σ, G => andW (Still P c tm σ) (stillsW P cs tm σ G)
@[congr] theorem stillsW_congr {w : Prop} (hw : Visit = w) {P : Program} {l : List AOper} {tm tm' : Nat → AV} {σ σ' : Store} {G : Prop} (h : tm = tm') (h' : σ = σ') : stillsW P l tm σ G = stillsW P l tm' σ' G := by rw [h, h']
@[congr] theorem Still_congr {w : Prop} (hw : Visit = w) {P : Program} {o : AOper} {tm tm' : Nat → AV} {σ σ' : Store} (h : tm = tm') (h' : σ = σ') : Still P o tm σ = Still P o tm' σ' := by rw [h, h']
theorem stillsW_nil (P : Program) (tm : Nat → AV) (σ : Store) (G : Prop) : stillsW P [] tm σ G = G := (rfl)
theorem stillsW_cons (P : Program) (c : AOper) (cs : List AOper) (tm : Nat → AV) (σ : Store) (G : Prop) : stillsW P (c :: cs) tm σ G = andW (Still P c tm σ) (stillsW P cs tm σ G) := (rfl)
theorem stillsW_eq (P : Program) (tm : Nat → AV) (σ : Store) (G : Prop) : ∀ cs : List AOper, stillsW P cs tm σ G = ((∀ c, c ∈ cs → Still P c tm σ) ∧ G)
  | [] => by simp [stillsW]
  | c :: cs => by
    rw [stillsW_cons, stillsW_eq P tm σ G cs]
    simp [andW, and_assoc]
theorem Still_none (P : Program) (d : Nat) (op : AOp) (tm : Nat → AV) (σ : Store) : Still P ⟨some d, op, none⟩ tm σ = op.wp P tm σ fun r σ' => stW r (tm d) σ' σ :=
  propext ⟨fun ⟨_, e, h⟩ => by cases e; exact h, fun h => ⟨d, rfl, h⟩⟩
theorem Still_guard (P : Program) (d : Nat) (op : AOp) (s : Nat) (want : Bool) (tm : Nat → AV) (σ : Store) : Still P ⟨some d, op, some (s, want)⟩ tm σ = guardW (tm s) want (op.wp P tm σ fun r σ' => stW r (tm d) σ' σ) (stW (.tuple []) (tm d) σ σ) :=
  propext ⟨fun ⟨_, e, h⟩ => by cases e; exact h, fun h => ⟨d, rfl, h⟩⟩
theorem opsN_nil (P : Program) (tm : Nat → AV) (σ : Store) (K : (Nat → AV) → Store → Prop) : opsN P [] tm σ K = K tm σ := (rfl)
theorem opsN_cons (P : Program) (os : List AOper) (rest : List (List AOper × List AOper)) (tm : Nat → AV) (σ : Store) (K : (Nat → AV) → Store → Prop) :
    opsN P ((os, []) :: rest) tm σ K = opsWp P os tm σ fun t s => opsN P rest t s K := by
  simp [opsN]
theorem opsN_still (P : Program) (os : List AOper) (c : AOper) (cs : List AOper) (rest : List (List AOper × List AOper)) (tm : Nat → AV) (σ : Store) (K : (Nat → AV) → Store → Prop) :
    opsN P ((os, c :: cs) :: rest) tm σ K = opsWp P os tm σ fun t s => stillsW P (c :: cs) t s (opsN P rest t s K) := by
  simp only [opsN, stillsW_eq]
theorem junks_nil (tm : Nat → AV) : junks [] tm = tm := (rfl)
theorem junks_cons (j : Nat) (js : List Nat) (tm : Nat → AV) : junks (j :: js) tm = junks js (put tm (some j) .junk) := (rfl)
theorem co_junk : AV.junk.cellsOf = none := (rfl)
theorem co_bool (b : Bool) : (AV.bool b).cellsOf = some [AV.bool b] := (rfl)
theorem co_int (k : IntKind) (n : Int) : (AV.int k n).cellsOf = some [AV.int k n] := (rfl)
theorem co_str (s : ByteArray) : (AV.str s).cellsOf = some [AV.str s] := (rfl)
theorem co_nilp  : (AV.nilp ).cellsOf = some [AV.nilp ] := (rfl)
theorem co_ptr (i v k o : Nat) : (AV.ptr i v k o).cellsOf = some [AV.ptr i v k o] := (rfl)
theorem co_rptr (cs : List AV) (o : Nat) : (AV.rptr cs o).cellsOf = some [AV.rptr cs o] := (rfl)
theorem co_nils  : (AV.nils ).cellsOf = some [AV.nils ] := (rfl)
theorem co_list (es : List (List AV)) : (AV.list es).cellsOf = some [AV.list es] := (rfl)
theorem co_own (a b c d e : Nat) : (AV.own a b c d e).cellsOf = some [AV.own a b c d e] := (rfl)
theorem co_nilm  : (AV.nilm ).cellsOf = some [AV.nilm ] := (rfl)
theorem co_map (i : Nat) : (AV.map i).cellsOf = some [AV.map i] := (rfl)
theorem co_nilf  : (AV.nilf ).cellsOf = some [AV.nilf ] := (rfl)
theorem co_fn (f : Fn) (a b : List AV) : (AV.fn f a b).cellsOf = some [AV.fn f a b] := (rfl)
theorem co_agg (cs : List AV) : (AV.agg cs).cellsOf = some cs := (rfl)
theorem SliceAt.co {σ : Store} {v : AV} {ty sz : Nat} {es : List (List AV)} (h : SliceAt σ v ty sz es) : v.cellsOf = some [v] := by
  rcases h with ⟨rfl, _⟩ | ⟨_, _, _, rfl, _⟩ <;> rfl
end Go.AL
