/- The abstract layer, part 5: numbers, texts, comparisons, maps. -/
import Derived.Test.YtoejjhehpbmgbaaAL4
set_option linter.unusedVariables false
set_option linter.unusedSimpArgs false
namespace Go.AL
open Go.RowKit

/-- The kinds of plain values. -/
inductive KK where
  | int | str | bool
  deriving DecidableEq
def KK.fits : KK → TypeDesc → Bool
  | .int, .int _ => true
  | .str, .string => true
  | .bool, .bool => true
  | _, _ => false

/-- A binary operator on numbers, texts, bools. -/
def aBin (kd : KK) (op : BinOp) (a b : AV) : Option AV :=
  match kd, a, b with
  | .int, .int k x, .int k' y =>
    if k = k' then
      match op with
      | .add => some (.int k (k.wrap (x + y)))
      | .sub => some (.int k (k.wrap (x - y)))
      | .mul => some (.int k (k.wrap (x * y)))
      | .quo => if y = 0 then none else some (.int k (k.wrap (x.tdiv y)))
      | .rem => if y = 0 then none else some (.int k (x.tmod y))
      | .and => some (.int k (k.wrap (BitVec.ofInt k.bits x &&& BitVec.ofInt k.bits y).toNat))
      | .or => some (.int k (k.wrap (BitVec.ofInt k.bits x ||| BitVec.ofInt k.bits y).toNat))
      | .xor => some (.int k (k.wrap (BitVec.ofInt k.bits x ^^^ BitVec.ofInt k.bits y).toNat))
      | .eql => some (.bool (decide (x = y)))
      | .neq => some (.bool (!decide (x = y)))
      | .lss => some (.bool (decide (x < y)))
      | .leq => some (.bool (decide (x ≤ y)))
      | .gtr => some (.bool (decide (y < x)))
      | .geq => some (.bool (decide (y ≤ x)))
      | _ => none
    else none
  | .str, .str x, .str y =>
    match op with
    | .add => if x.size + y.size ≤ maxLen then some (.str (x ++ y)) else none
    | .eql => some (.bool (decide (x = y)))
    | .neq => some (.bool (!decide (x = y)))
    | .lss => some (.bool (Op.bytesLess x.toList y.toList))
    | .leq => some (.bool (Op.bytesLess x.toList y.toList || decide (x = y)))
    | .gtr => some (.bool (!(Op.bytesLess x.toList y.toList || decide (x = y))))
    | .geq => some (.bool (!Op.bytesLess x.toList y.toList))
    | _ => none
  | .bool, .bool x, .bool y =>
    match op with
    | .eql => some (.bool (decide (x = y)))
    | .neq => some (.bool (!decide (x = y)))
    | _ => none
  | _, _, _ => none

/-- The value of a plain abstract value. -/
def AV.scal : AV → Value
  | .int k n => .int k n
  | .str s => .string s
  | .bool b => .bool b
  | _ => undef

/-- The kinds of values that may be nil. -/
inductive NK where
  | ptr | slice | map | func
  deriving DecidableEq
def NK.fits : NK → TypeDesc → Bool
  | .ptr, .pointer _ => true
  | .slice, .slice _ => true
  | .map, .map _ _ => true
  | .func, .func _ _ _ => true
  | _, _ => false

/-- Is a pointer, slice, map, function nil? -/
def aNil (k : NK) (x : AV) : Option Bool :=
  match k, x with
  | .ptr, .nilp => some true
  | .ptr, .ptr .. => some false
  | .ptr, .rptr .. => some false
  | .slice, .nils => some true
  | .slice, .own .. => some false
  | .map, .nilm => some true
  | .map, .map .. => some false
  | .func, .nilf => some true
  | .func, .fn .. => some false
  | _, _ => none

/-- A comparison with nil. -/
def aNilEq (k : NK) (neg : Bool) (x y : AV) : Option AV :=
  match aNil k x, aNil k y with
  | some true, some b => some (.bool (b != neg))
  | some b, some true => some (.bool (b != neg))
  | _, _ => none

theorem toList_beq (x y : ByteArray) : (x.toList == y.toList) = decide (x = y) := by
  rw [← beq_toListBytes]
  by_cases h : x = y
  · subst h
    simp
    rw [beq_toListBytes]
    simp
  · have : ¬ (x == y) = true := fun hb => by
      rw [beq_toListBytes, ByteArray.toList_eq, ByteArray.toList_eq] at hb
      have hb2 := eq_of_beq hb
      exact h (by cases x; cases y; simp_all [Array.ext_iff, ← Array.toList_inj])
    simp [h]
    simpa using this

section
variable {P : Program} {B : Nat} {w0 : World} {σ : Store} {g : Ghost} {w : World}

theorem run_eqGuard {op : BinOp} {t : TypeId} {x y : Operand} {a b : Value} (ha : ∀ cs, a ≠ .agg cs) (hn : a ≠ .nilIface) : (eqGuard op t x y a b).run P w = .ok () w := by
  cases op <;> cases a <;> first | (simp [eqGuard]; done) | (exact absurd rfl (ha _)) | (exact absurd rfl hn)

theorem RelV.noAgg {a : AV} {v : Value} (h : RelV g a v) (hc : a.isCell = true) : (∀ cs, v ≠ .agg cs) ∧ (∀ cs, v ≠ .tuple cs) := by
  have := h.one hc
  constructor <;> rintro cs rfl <;> simp [Value.oneCell'] at this

theorem run_bin {kd : KK} {op : BinOp} {t : TypeId} {d : TypeDesc} (hu : P.underlying t = some d) (hd : kd.fits d = true) {x y r : AV} {vx vy : Value} (hx : RelV g x vx) (hy : RelV g y vy) (hr : aBin kd op x y = some r) :
    (Go.binOp op t vx vy).run P w = .ok r.scal w ∧ RelV g r r.scal ∧ (∀ cs, vx ≠ .agg cs) ∧ vx ≠ .nilIface := by
  unfold aBin at hr
  split at hr
  · rename_i k a k' b
    cases hx; cases hy
    split at hr
    · rename_i hk
      subst hk
      refine ⟨?_, ?_, by simp, by simp⟩
      · cases op <;> simp only [reduceCtorEq] at hr <;>
          first
          | (split at hr
             · cases hr
             · rename_i hz
               cases hr
               simp [Go.binOp, Op.intDiv, hz, AV.scal])
          | (cases hr; simp [Go.binOp, Op.intArith, Op.intBits, Op.intCmp, AV.scal]; done)
          | (cases hr; simp [Go.binOp, Op.intArith, Op.intBits, Op.intCmp, AV.scal]; rfl)
          | (cases hr; rfl)
      · cases op <;> simp only [reduceCtorEq] at hr <;>
          first
          | (split at hr
             · cases hr
             · cases hr; constructor)
          | (cases hr; constructor)
    · cases hr
  · rename_i a b
    cases hx; cases hy
    refine ⟨?_, ?_, by simp, by simp⟩
    · cases op <;> simp only [reduceCtorEq] at hr <;>
        first
        | (split at hr
           · rename_i hle
             cases hr
             have hn : ¬ (IntKind.i64.max < ((a.size + b.size : Nat) : Int)) := by simp [IntKind.max, IntKind.bits, IntKind.signed, maxLen] at hle ⊢; omega
             simp only [Go.binOp, Op.stringOp, AV.scal, gt_iff_lt, if_neg hn]
             rfl
           · cases hr)
        | (cases hr; simp [Go.binOp, Op.stringOp, toList_beq, AV.scal]; done)
    · cases op <;> simp only [reduceCtorEq] at hr <;>
        first
        | (split at hr
           · rename_i hle
             cases hr
             exact .str _ (by simpa using hle)
           · cases hr)
        | (cases hr; constructor)
  · rename_i a b
    cases hx; cases hy
    have hdb : d = .bool := by cases d <;> simp_all [KK.fits]
    subst hdb
    refine ⟨?_, ?_, by simp, by simp⟩
    · have he : (Op.equal t (.bool a) (.bool b)).run P w = .ok (a == b) w := run_equalIn_bool' w 9999 t a b hu
      have hdec : (a == b) = decide (a = b) := by cases a <;> cases b <;> rfl
      cases op <;> simp only [reduceCtorEq] at hr <;> cases hr
      · show ((do pure (Value.bool (← Op.equal t (.bool a) (.bool b)))) : Sem Value).run P w = _
        rw [Sem.run_bind, he, hdec]; rfl
      · show ((do pure (Value.bool (!(← Op.equal t (.bool a) (.bool b))))) : Sem Value).run P w = _
        rw [Sem.run_bind, he, hdec]; rfl
    · cases op <;> simp only [reduceCtorEq] at hr <;> cases hr <;> constructor
  · cases hr
theorem op_bin (h : SR B w0 σ g w) {kd : KK} {op : BinOp} {t : TypeId} {d : TypeDesc} (hu : P.underlying t = some d) (hd : kd.fits d = true) {ox oy : Operand} {x y r : AV} {vx vy : Value} (hx : RelV g x vx) (hy : RelV g y vy) (hr : aBin kd op x y = some r) :
    OpOK P B w0 g w (do pure (.value (← (do eqGuard op t ox oy vx vy; Go.binOp op t vx vy)))) r σ := by
  obtain ⟨h1, h2, h3, h4⟩ := run_bin (w := w) hu hd hx hy hr
  refine OpOK.value h (v := r.scal) ?_ h2
  rw [Sem.run_bind, run_eqGuard h3 h4]
  exact h1

theorem run_equalIn_nil (n : Nat) {k : NK} {t : TypeId} {d : TypeDesc} (hu : P.underlying t = some d) (hd : k.fits d = true) {x y : AV} {vx vy : Value} (hx : RelV g x vx) (hy : RelV g y vy) {b : Bool}
    (hr : (aNil k x = some true ∧ aNil k y = some b) ∨ (aNil k x = some b ∧ aNil k y = some true)) : (Op.equalIn (n + 1) t vx vy).run P w = .ok b w := by
  have shape : ∀ {z : AV} {v : Value} {c : Bool}, RelV g z v → aNil k z = some c →
      (k = .ptr ∧ ((c = true ∧ v = .pointer none) ∨ (c = false ∧ ∃ a, v = .pointer (some a)))) ∨ (k = .slice ∧ ((c = true ∧ v = .slice none 0 0) ∨ (c = false ∧ ∃ a l m, v = .slice (some a) l m))) ∨
      (k = .map ∧ ((c = true ∧ v = .map none) ∨ (c = false ∧ ∃ r, v = .map (some r)))) ∨ (k = .func ∧ ((c = true ∧ v = .nilFunc) ∨ (c = false ∧ ∃ f a l, v = .func f a l))) := by
    intro z v c hz hc
    unfold aNil at hc
    split at hc <;> simp only [Option.some.injEq, reduceCtorEq] at hc <;> subst hc <;> cases hz <;> simp_all
    case own hid hlen hv hp => obtain ⟨a, c, rfl⟩ := hv; simp
  rcases hr with ⟨a1, a2⟩ | ⟨a1, a2⟩
  · have sx := shape hx a1
    have sy := shape hy a2
    cases k <;> cases d <;> simp [NK.fits] at hd <;> simp at sx sy <;> subst sx <;>
      rcases sy with ⟨rfl, rfl⟩ | ⟨rfl, sy⟩ <;> (try obtain ⟨a, rfl⟩ := sy) <;> (try obtain ⟨l, m, rfl⟩ := sy) <;> (try obtain ⟨a, l, m, rfl⟩ := sy) <;> simp [Op.equalIn, run_underlying hu]
  · have sx := shape hx a1
    have sy := shape hy a2
    cases k <;> cases d <;> simp [NK.fits] at hd <;> simp at sx sy <;> subst sy <;>
      rcases sx with ⟨rfl, rfl⟩ | ⟨rfl, sx⟩ <;> (try obtain ⟨a, rfl⟩ := sx) <;> (try obtain ⟨l, m, rfl⟩ := sx) <;> (try obtain ⟨a, l, m, rfl⟩ := sx) <;> simp [Op.equalIn, run_underlying hu]
/-- Is it a pointer, a slice, a map, a function? -/
def refLike : Value → Bool
  | .pointer _ => true
  | .slice _ _ _ => true
  | .map _ => true
  | .func _ _ _ => true
  | .nilFunc => true
  | _ => false
theorem RelV.ptr_form {id ver i off : Nat} {v : Value} (h : RelV g (.ptr id ver i off) v) : ∃ a, v = .pointer (some a) := by cases h with | ptr hid hp h1 => exact h1
theorem RelV.own_form {id ver sz off len : Nat} {v : Value} (h : RelV g (.own id ver sz off len) v) : ∃ a c, v = .slice (some a) len c := by cases h with | own hid hlen hv hp => exact hv
theorem RelV.map_form {id : Nat} {v : Value} (h : RelV g (.map id) v) : ∃ r, v = .map (some r) := by cases h with | map hid hp h1 => exact h1
theorem RelV.refLike {k : NK} {z : AV} {v : Value} {c : Bool} (hz : RelV g z v) (hc : aNil k z = some c) : refLike v = true := by
  unfold aNil at hc
  split at hc <;> simp only [Option.some.injEq, reduceCtorEq] at hc <;>
    first
    | (obtain ⟨a, rfl⟩ := hz.ptr_form; rfl)
    | (obtain ⟨a, c, rfl⟩ := hz.own_form; rfl)
    | (obtain ⟨a, rfl⟩ := hz.map_form; rfl)
    | (cases hz; rfl)
theorem binOp_eql_ref {t : TypeId} {x y : Value} (hx : refLike x = true) (hy : refLike y = true) : Go.binOp .eql t x y = (do pure (.bool (← Op.equal t x y))) := by
  cases x <;> simp [refLike] at hx <;> cases y <;> simp [refLike] at hy <;> rfl
theorem binOp_neq_ref {t : TypeId} {x y : Value} (hx : refLike x = true) (hy : refLike y = true) : Go.binOp .neq t x y = (do pure (.bool (!(← Op.equal t x y)))) := by
  cases x <;> simp [refLike] at hx <;> cases y <;> simp [refLike] at hy <;> rfl
theorem aNilEq_some {k : NK} {neg : Bool} {x y r : AV} (h : aNilEq k neg x y = some r) : ∃ b, r = .bool (b != neg) ∧ ((aNil k x = some true ∧ aNil k y = some b) ∨ (aNil k x = some b ∧ aNil k y = some true)) := by
  unfold aNilEq at h
  split at h
  · rename_i b h1 h2; cases h; exact ⟨b, rfl, .inl ⟨h1, h2⟩⟩
  · rename_i b hne h1 h2; cases h; exact ⟨b, rfl, .inr ⟨h1, h2⟩⟩
  · cases h
theorem op_nileq (h : SR B w0 σ g w) {k : NK} {neg : Bool} {op : BinOp} (hop : op = if neg then .neq else .eql) {t : TypeId} {d : TypeDesc} (hu : P.underlying t = some d) (hd : k.fits d = true) {ox oy : Operand} {x y r : AV} {vx vy : Value}
    (hx : RelV g x vx) (hy : RelV g y vy) (hr : aNilEq k neg x y = some r) : OpOK P B w0 g w (do pure (.value (← (do eqGuard op t ox oy vx vy; Go.binOp op t vx vy)))) r σ := by
  obtain ⟨b, rfl, hb⟩ := aNilEq_some hr
  have hrx : refLike vx = true := by rcases hb with ⟨a, _⟩ | ⟨a, _⟩ <;> exact hx.refLike a
  have hry : refLike vy = true := by rcases hb with ⟨_, a⟩ | ⟨_, a⟩ <;> exact hy.refLike a
  have he : (Op.equal t vx vy).run P w = .ok b w := run_equalIn_nil 9999 hu hd hx hy hb
  have hg : (eqGuard op t ox oy vx vy).run P w = .ok () w := run_eqGuard (by rintro cs rfl; simp [AL.refLike] at hrx) (by rintro rfl; simp [AL.refLike] at hrx)
  subst hop
  cases neg
  · refine OpOK.value h (v := .bool b) ?_ (by simpa using RelV.bool b)
    rw [Sem.run_bind, hg, Result.andThen_ok]
    simp only [Bool.false_eq_true, if_false, binOp_eql_ref hrx hry, Sem.run_bind, he, Result.andThen_ok, Sem.run_pure]
  · refine OpOK.value h (v := .bool (!b)) ?_ (by simpa using RelV.bool (!b))
    rw [Sem.run_bind, hg, Result.andThen_ok]
    simp only [if_true, binOp_neq_ref hrx hry, Sem.run_bind, he, Result.andThen_ok, Sem.run_pure]

/-! ### Maps -/
/-- Are two keys the same? -/
def keyEq (kd : KK) (a b : AV) : Option Bool :=
  match kd, a, b with
  | .int, .int k x, .int k' y => if k = k' then some (decide (x = y)) else none
  | .str, .str x, .str y => some (decide (x = y))
  | .bool, .bool x, .bool y => some (decide (x = y))
  | _, _, _ => none
/-- The place of a key, and its value. -/
def aFind (kd : KK) (k : AV) : List (AV × AV) → Nat → Option (Option (Nat × AV))
  | [], _ => some none
  | (k', v) :: rest, i =>
    match keyEq kd k k' with
    | some true => some (some (i, v))
    | some false => aFind kd k rest (i + 1)
    | none => none

/-- The value that was found, or another one. -/
def findVal (za : AV) : Option (Nat × AV) → AV
  | some (_, v) => v
  | none => za
/-- A map's entries with one put. -/
def mapPut (es : List (AV × AV)) (k x : AV) : Option (Nat × AV) → List (AV × AV)
  | some (n, _) => es.set n (k, x)
  | none => es ++ [(k, x)]

theorem sameNow_rel {kd : KK} {d : TypeDesc} (hd : kd.fits d = true) {a b : AV} {va vb : Value} (ha : RelV g a va) (hb : RelV g b vb) {c : Bool} (h : keyEq kd a b = some c) : Instr.sameNow d va vb = some c := by
  unfold keyEq at h
  split at h
  · split at h
    · rename_i hk; subst hk; cases h; cases ha; cases hb
      cases d <;> simp_all [KK.fits, Instr.sameNow]
      rfl
    · cases h
  · cases h; cases ha; cases hb
    cases d <;> simp_all [KK.fits, Instr.sameNow]
    rw [beq_toListBytes, toList_beq]
  · cases h; cases ha; cases hb
    cases d <;> simp_all [KK.fits, Instr.sameNow]
    rename_i x y; cases x <;> cases y <;> rfl
  · cases h

theorem findNow_rel {kd : KK} {d : TypeDesc} (hd : kd.fits d = true) {k : AV} {vk : Value} (hk : RelV g k vk) : ∀ (es : List (AV × AV)) (entries : List MapEntry) (i : Nat) (r : Option (Nat × AV)),
    entries.length = es.length → (∀ (j : Nat) (a b : AV), es[j]? = some (a, b) → ∃ e : MapEntry, entries[j]? = some e ∧ RelV g a e.key ∧ RelV g b e.val) → aFind kd k es i = some r →
    (r = none ∧ Instr.findNow d vk entries i = some none) ∨ ∃ n v u, r = some (n, v) ∧ Instr.findNow d vk entries i = some (some (n, u)) ∧ RelV g v u ∧ i ≤ n ∧ ∃ e : MapEntry, entries[n - i]? = some e ∧ Instr.sameNow d vk e.key = some true ∧ e.val = u := by
  intro es
  induction es with
  | nil =>
    intro entries i r hl he hf
    have : entries = [] := List.eq_nil_of_length_eq_zero (by simpa using hl)
    subst this
    simp [aFind] at hf
    subst hf
    exact .inl ⟨rfl, rfl⟩
  | cons q rest ih =>
    intro entries i r hl he hf
    obtain ⟨k', v⟩ := q
    cases entries with
    | nil => simp at hl
    | cons e0 erest =>
      obtain ⟨e, he0, hka, hva⟩ := he 0 k' v rfl
      simp at he0
      subst he0
      simp only [aFind] at hf
      split at hf
      · rename_i hq
        cases hf
        refine .inr ⟨i, v, e0.val, rfl, ?_, hva, Nat.le_refl _, e0, by simp, sameNow_rel hd hk hka hq, rfl⟩
        simp [Instr.findNow, sameNow_rel hd hk hka hq]
      · rename_i hq
        have hs := sameNow_rel hd hk hka hq
        rcases ih erest (i + 1) r (by simpa using hl) (fun j a b hj => by
          obtain ⟨e, x, y⟩ := he (j + 1) a b (by simpa using hj)
          exact ⟨e, by simpa using x, y⟩) hf with ⟨h1, h2⟩ | ⟨n, v', u, h1, h2, h3, h4, e, h5, h6, h7⟩
        · exact .inl ⟨h1, by simp [Instr.findNow, hs, h2]⟩
        · refine .inr ⟨n, v', u, h1, by simp [Instr.findNow, hs, h2], h3, by omega, e, ?_, h6, h7⟩
          rw [show n - i = (n - (i + 1)) + 1 from by omega]
          simpa using h5
      · cases hf

theorem run_checkKey {t : TypeId} {d : TypeDesc} {kd : KK} (hu : P.underlying t = some d) (hd : kd.fits d = true) {v : Value} (n : Nat) (e : Bool) : (Instr.checkKey e (n + 1) t v).run P w = .ok () w := by
  cases d <;> simp [KK.fits] at hd <;> cases v <;> simp [Instr.checkKey, run_underlying hu]

theorem run_getMap {r : Nat} {es : Array MapEntry} {clock : Nat} (hr : w.heap[r]? = some (.map es clock)) : (getObj r).run P w = .ok (.map es clock) w := by
  simp [getObj, Sem.run, hr]
theorem run_setMap {r : Nat} {es : Array MapEntry} {clock : Nat} (hr : w.heap[r]? = some (.map es clock)) (o : Obj) : (setObj r o).run P w = .ok () { w with heap := w.heap.setIfInBounds r o } := by
  simp [setObj, Sem.run, hr]

theorem op_makeMap (h : SR B w0 σ g w) {t : TypeId} : OpOK P B w0 g w (do pure (.value (← Instr.makeMap t none))) (.map σ.next) (σ.push (.map [])) := by
  refine OpOK.value' (v := .map (some w.heap.size)) (w' := w.alloc (.map #[] 0)) (by simp [Instr.makeMap]) (.take g ⟨0, w.heap.size, 0, 0⟩)
    (h.allocOwned _ _ ⟨0, w.heap.size, 0, 0⟩ rfl ⟨rfl, #[], 0, heap_alloc_new w _, rfl, by simp⟩) (.map (by simp [Ghost.take, h.next]) (fun p hp _ => ?_) ⟨_, rfl⟩)
  simp [Ghost.take, h.next] at hp
  subst hp
  rfl

theorem op_lookup (h : SR B w0 σ g w) {t kt et : TypeId} {d : TypeDesc} {kd : KK} (hu : P.underlying t = some (.map kt et)) (hk : P.underlying kt = some d) (hd : kd.fits d = true) {i : TypeInfo} {z : Value} (hi : P.info? et = some i) (hz : i.zero = some z)
    {za : AV} (hza : RelV g za z) {id : Nat} {vm : Value} (hm : RelV g (.map id) vm) {es : List (AV × AV)} (ho : σ.get id = some (.map es)) {k : AV} {vk : Value} (hkv : RelV g k vk) {r : Option (Nat × AV)} (hf : aFind kd k es 0 = some r) (ok : Bool) :
    OpOK P B w0 g w (do pure (.value (← Instr.lookup t vm vk ok))) (if ok then .tuple [findVal za r, .bool r.isSome] else findVal za r) σ := by
  obtain ⟨p, hp, hv0, entries, clock, h2, h3, h4⟩ := h.objs id _ ho
  cases hm with
  | map hid hmm h1 =>
    have := hmm p hp hv0
    subst this
    have hfr := findNow_rel hd hkv es entries.toList 0 r (by simpa using h3) (fun j a b hj => by obtain ⟨e, x, y⟩ := h4 j a b hj; exact ⟨e, by simpa using x, y⟩) hf
    have hck : ∀ b, (Instr.checkKey b 10000 kt vk).run P w = .ok () w := fun b => run_checkKey hk hd 9999 b
    have hfin : ∀ u : Value, ∀ a : AV, ∀ c : Bool, RelV g a u → RelV g (if ok then .tuple [a, .bool c] else a) (if ok then .tuple #[u, .bool c] else u) := by
      intro u a c hau
      cases ok
      · exact hau
      · refine .tuple rfl (fun j x hj => ?_)
        match j, hj with
        | 0, hj => simp at hj; subst hj; simpa using hau
        | 1, hj => simp at hj; subst hj; simpa using RelV.bool c
        | j + 2, hj => simp at hj
    rcases hfr with ⟨rfl, hn⟩ | ⟨n, v, u, rfl, hn, hrel, _⟩
    · refine OpOK.value h (v := if ok then .tuple #[z, .bool false] else z) ?_ (hfin z za false hza)
      simp [Instr.lookup, run_underlying hu, run_getMap h2, hck, Instr.findKey, run_underlying hk, hn, zeroValue, typeInfo, hi, hz]
    · refine OpOK.value h (v := if ok then .tuple #[u, .bool true] else u) ?_ (hfin u v true hrel)
      simp [Instr.lookup, run_underlying hu, run_getMap h2, hck, Instr.findKey, run_underlying hk, hn]

theorem heap_setObj {r : Nat} {o x : Obj} (hr : w.heap[r]? = some x) : (w.heap.setIfInBounds r o)[r]? = some o := by
  have := (Array.getElem?_eq_some_iff.1 hr).1
  simp [this]

theorem sameBits_of {d : TypeDesc} {kd : KK} (hd : kd.fits d = true) {a b : Value} (n : Nat) (h : Instr.sameNow d b a = some true) : Instr.sameBits n a b = true := by
  cases d <;> simp [KK.fits] at hd <;> cases a <;> cases b <;> simp [Instr.sameNow, Instr.sameBits] at h ⊢
  all_goals first | (exact ⟨h.1.symm, h.2.symm⟩) | (exact h.symm) | (rw [beq_toListBytes, toList_beq] at h ⊢; simp at h ⊢; exact h.symm)

theorem op_mapset (h : SR B w0 σ g w) {t kt et : TypeId} {d : TypeDesc} {kd : KK} (hu : P.underlying t = some (.map kt et)) (hk : P.underlying kt = some d) (hd : kd.fits d = true)
    {id : Nat} {vm : Value} (hm : RelV g (.map id) vm) {es : List (AV × AV)} (ho : σ.get id = some (.map es)) {k x : AV} {vk vx : Value} (hkv : RelV g k vk) (hxv : RelV g x vx) {r : Option (Nat × AV)} (hf : aFind kd k es 0 = some r) :
    OpOK P B w0 g w (do Instr.mapUpdate t vm vk vx; pure .skip) .junk (σ.upd id (.map (mapPut es k x r))) := by
  obtain ⟨p, hp, hv0, entries, clock, h2, h3, h4⟩ := h.objs id _ ho
  cases hm with
  | map hid hmm h1 =>
    have := hmm p hp hv0
    subst this
    have hfr := findNow_rel hd hkv es entries.toList 0 r (by simpa using h3) (fun j a b hj => by obtain ⟨e, x, y⟩ := h4 j a b hj; exact ⟨e, by simpa using x, y⟩) hf
    have hck : ∀ b, (Instr.checkKey b 10000 kt vk).run P w = .ok () w := fun b => run_checkKey hk hd 9999 b
    have hwr : ∀ (es' : List (AV × AV)) (entries' : Array MapEntry) (clock' : Nat), entries'.size = es'.length →
        (∀ (i : Nat) (k v : AV), es'[i]? = some (k, v) → ∃ e : MapEntry, entries'[i]? = some e ∧ RelV g k e.key ∧ RelV g v e.val) →
        SR B w0 (σ.upd id (.map es')) g { w with heap := w.heap.setIfInBounds p.blk (.map entries' clock') } := by
      intro es' entries' clock' hl hall
      refine h.write hp (by simp) rfl rfl rfl (fun j hj hne => ?_) ⟨hv0, entries', clock', heap_setObj h2, hl, hall⟩
      simp [Array.getElem?_setIfInBounds, Ne.symm hne]
    rcases hfr with ⟨rfl, hn⟩ | ⟨n, v, u, rfl, hn, hrel, _, e, he1, he2, he3⟩
    · simp only [mapPut]
      refine OpOK.skip (w' := { w with heap := w.heap.setIfInBounds p.blk (.map (entries.push { key := vk, val := vx, born := clock }) (clock + 1)) }) ?_ (.refl g)
        (hwr _ _ _ (by simp [h3]) (fun i a b hi => ?_))
      · simp [Instr.mapUpdate, run_underlying hu, run_getMap h2, hck, Instr.findKey, run_underlying hk, hn, run_setMap h2]
      · by_cases hlt : i < es.length
        · rw [List.getElem?_append_left hlt] at hi
          obtain ⟨e, x1, x2⟩ := h4 i a b hi
          exact ⟨e, by rw [Array.getElem?_push_lt (by omega)]; rw [← x1, Array.getElem?_eq_getElem (by omega)], x2⟩
        · have : i = es.length := by
            rcases Nat.lt_or_ge i (es.length + 1) with h' | h'
            · omega
            · rw [List.getElem?_eq_none (by simp; omega)] at hi; cases hi
          subst this
          simp at hi
          obtain ⟨rfl, rfl⟩ := hi
          exact ⟨{ key := vk, val := vx, born := clock }, by rw [← h3]; simp, hkv, hxv⟩
    · simp only [mapPut]
      simp only [Nat.sub_zero, Array.getElem?_toList] at he1
      have hsb : Instr.sameBits 10000 e.key vk = true := sameBits_of hd 10000 he2
      refine OpOK.skip (w' := { w with heap := w.heap.setIfInBounds p.blk (.map (entries.modify n fun e => { e with key := vk, val := vx }) clock) }) ?_ (.refl g)
        (hwr _ _ _ (by simp [h3]) (fun i a b hi => ?_))
      · have hlt : n < entries.size := (Array.getElem?_eq_some_iff.1 he1).1
        have he1' : entries[n] = e := (Array.getElem?_eq_some_iff.1 he1).2
        simp [Instr.mapUpdate, run_underlying hu, run_getMap h2, hck, Instr.findKey, run_underlying hk, hn, run_setMap h2, Instr.keyThatStays, hlt, he1', hsb]
      · by_cases hin : i = n
        · subst hin
          have hlt : i < es.length := by have := (Array.getElem?_eq_some_iff.1 he1).1; omega
          rw [List.getElem?_set_self hlt] at hi
          cases hi
          refine ⟨_, by rw [Array.getElem?_modify, if_pos rfl, he1]; rfl, hkv, hxv⟩
        · rw [List.getElem?_set_ne (Ne.symm hin)] at hi
          obtain ⟨e, x1, x2⟩ := h4 i a b hi
          exact ⟨e, by rw [Array.getElem?_modify, if_neg (Ne.symm hin)]; exact x1, x2⟩

theorem op_len_map (h : SR B w0 σ g w) {t ty kt et : TypeId} (hu : P.underlying t = some (.map kt et)) {id : Nat} {v : Value} (hx : RelV g (.map id) v) {es : List (AV × AV)} (ho : σ.get id = some (.map es)) :
    OpOK P B w0 g w (do pure (.value (← Builtin.len_ #[t] ty #[v]))) (.int .i64 es.length) σ := by
  obtain ⟨p, hp, hv0, entries, clock, h2, h3, h4⟩ := h.objs id _ ho
  cases hx with
  | map hid hmm h1 =>
    have := hmm p hp hv0
    subst this
    refine OpOK.value h (v := .int .i64 es.length) ?_ (.int _ _)
    simp [Builtin.len_, run_underlying hu, run_getMap h2, goInt, h3]
end
end Go.AL
