/- The abstract layer, part 5: numbers, texts, comparisons, maps. -/
import Derived.Test.YtjjbjibbjbbeaaaAL4
import Derived.Laws.BytesString
set_option linter.unusedVariables false
set_option linter.unusedSimpArgs false
namespace Go.AL
open Go.RowKit

/-- The kinds of plain values. -/
inductive K1 where
  | int | str | bool
  deriving DecidableEq
inductive KK where
  | int | str | bool | row (ks : List K1)
  deriving DecidableEq
def K1.fits : K1 → TypeDesc → Bool
  | .int, .int _ => true
  | .str, .string => true
  | .bool, .bool => true
  | _, _ => false
/-- Are two plain values the same? -/
def eq1 : K1 → AV → AV → Option Bool
  | .int, .int k x, .int k' y => if k = k' then some (decide (x = y)) else none
  | .str, .str x, .str y => some (decide (x = y))
  | .bool, .bool x, .bool y => some (decide (x = y))
  | _, _, _ => none
/-- Are two rows of plain values the same? -/
def eqFs : List K1 → List AV → List AV → Option Bool
  | [], [], [] => some true
  | k :: r, x :: a, y :: b => match eq1 k x y, eqFs r a b with | some c, some d => some (c && d) | _, _ => none
  | _, _, _ => none
def KK.fits : KK → TypeDesc → Bool
  | .int, .int _ => true
  | .str, .string => true
  | .bool, .bool => true
  | _, _ => false

/-- A binary operator on numbers, texts, bools. -/
def aBin (kd : KK) (op : BinOp) (a b : AV) : Option AV :=
  match kd, a, b with
  | .int, .int k x, .int k' y =>
    if k = k' then
      match op with
      | .add => some (.int k (k.wrap (x + y)))
      | .sub => some (.int k (k.wrap (x - y)))
      | .mul => some (.int k (k.wrap (x * y)))
      | .quo => if y = 0 then none else some (.int k (k.wrap (x.tdiv y)))
      | .rem => if y = 0 then none else some (.int k (x.tmod y))
      | .and => some (.int k (k.wrap (BitVec.ofInt k.bits x &&& BitVec.ofInt k.bits y).toNat))
      | .or => some (.int k (k.wrap (BitVec.ofInt k.bits x ||| BitVec.ofInt k.bits y).toNat))
      | .xor => some (.int k (k.wrap (BitVec.ofInt k.bits x ^^^ BitVec.ofInt k.bits y).toNat))
      | .eql => some (.bool (decide (x = y)))
      | .neq => some (.bool (!decide (x = y)))
      | .lss => some (.bool (decide (x < y)))
      | .leq => some (.bool (decide (x ≤ y)))
      | .gtr => some (.bool (decide (y < x)))
      | .geq => some (.bool (decide (y ≤ x)))
      | _ => none
    else none
  | .str, .str x, .str y =>
    match op with
    | .add => if x.size + y.size ≤ maxLen then some (.str (x ++ y)) else none
    | .eql => some (.bool (decide (x = y)))
    | .neq => some (.bool (!decide (x = y)))
    | .lss => some (.bool (Op.bytesLess x.toList y.toList))
    | .leq => some (.bool (Op.bytesLess x.toList y.toList || decide (x = y)))
    | .gtr => some (.bool (!(Op.bytesLess x.toList y.toList || decide (x = y))))
    | .geq => some (.bool (!Op.bytesLess x.toList y.toList))
    | _ => none
  | .bool, .bool x, .bool y =>
    match op with
    | .eql => some (.bool (decide (x = y)))
    | .neq => some (.bool (!decide (x = y)))
    | _ => none
  | .row ks, .agg a, .agg b =>
    match op with
    | .eql => (match eqFs ks a b with | some r => some (.bool r) | none => none)
    | .neq => (match eqFs ks a b with | some r => some (.bool (!r)) | none => none)
    | _ => none
  | _, _, _ => none

/-- The value of a plain abstract value. -/
def AV.scal : AV → Value
  | .int k n => .int k n
  | .str s => .string s
  | .bool b => .bool b
  | _ => undef

/-- The kinds of values that may be nil. -/
inductive NK where
  | ptr | slice | map | func
  deriving DecidableEq
def NK.fits : NK → TypeDesc → Bool
  | .ptr, .pointer _ => true
  | .slice, .slice _ => true
  | .map, .map _ _ => true
  | .func, .func _ _ _ => true
  | _, _ => false

/-- Is a pointer, slice, map, function nil? -/
def aNil (k : NK) (x : AV) : Option Bool :=
  match k, x with
  | .ptr, .nilp => some true
  | .ptr, .ptr .. => some false
  | .ptr, .rptr .. => some false
  | .slice, .nils => some true
  | .slice, .own .. => some false
  | .map, .nilm => some true
  | .map, .map .. => some false
  | .func, .nilf => some true
  | .func, .fn .. => some false
  | _, _ => none

/-- A comparison with nil. -/
def aNilEq (k : NK) (neg : Bool) (x y : AV) : Option AV :=
  match aNil k x, aNil k y with
  | some true, some b => some (.bool (b != neg))
  | some b, some true => some (.bool (b != neg))
  | _, _ => none

theorem toList_beq (x y : ByteArray) : (x.toList == y.toList) = decide (x = y) := by
  rw [← beq_toListBytes]
  by_cases h : x = y
  · subst h
    simp
    rw [beq_toListBytes]
    simp
  · have : ¬ (x == y) = true := fun hb => by
      rw [beq_toListBytes, ByteArray.toList_eq, ByteArray.toList_eq] at hb
      have hb2 := eq_of_beq hb
      exact h (by cases x; cases y; simp_all [Array.ext_iff, ← Array.toList_inj])
    simp [h]
    simpa using this

section
variable {P : Program} {B : Nat} {w0 : World} {σ : Store} {g : Ghost} {w : World}

theorem run_eqGuard {op : BinOp} {t : TypeId} {x y : Operand} {a b : Value} (ha : ∀ cs, a ≠ .agg cs) (hn : a ≠ .nilIface) : (eqGuard op t x y a b).run P w = .ok () w := by
  cases op <;> cases a <;> first | (simp [eqGuard]; done) | (exact absurd rfl (ha _)) | (exact absurd rfl hn)

theorem RelV.noAgg {a : AV} {v : Value} (h : RelV g a v) (hc : a.isCell = true) : (∀ cs, v ≠ .agg cs) ∧ (∀ cs, v ≠ .tuple cs) := by
  have := h.one hc
  constructor <;> rintro cs rfl <;> simp [Value.oneCell'] at this

theorem run_bin {kd : KK} {op : BinOp} {t : TypeId} {d : TypeDesc} (hu : P.underlying t = some d) (hd : kd.fits d = true) {x y r : AV} {vx vy : Value} (hx : RelV g x vx) (hy : RelV g y vy) (hr : aBin kd op x y = some r) :
    (Go.binOp op t vx vy).run P w = .ok r.scal w ∧ RelV g r r.scal ∧ (∀ cs, vx ≠ .agg cs) ∧ vx ≠ .nilIface := by
  unfold aBin at hr
  split at hr
  · rename_i k a k' b
    cases hx; cases hy
    split at hr
    · rename_i hk
      subst hk
      refine ⟨?_, ?_, by simp, by simp⟩
      · cases op <;> simp only [reduceCtorEq] at hr <;>
          first
          | (split at hr
             · cases hr
             · rename_i hz
               cases hr
               simp [Go.binOp, Op.intDiv, hz, AV.scal])
          | (cases hr; simp [Go.binOp, Op.intArith, Op.intBits, Op.intCmp, AV.scal]; done)
          | (cases hr; simp [Go.binOp, Op.intArith, Op.intBits, Op.intCmp, AV.scal]; rfl)
          | (cases hr; rfl)
      · cases op <;> simp only [reduceCtorEq] at hr <;>
          first
          | (split at hr
             · cases hr
             · cases hr; constructor)
          | (cases hr; constructor)
    · cases hr
  · rename_i a b
    cases hx; cases hy
    refine ⟨?_, ?_, by simp, by simp⟩
    · cases op <;> simp only [reduceCtorEq] at hr <;>
        first
        | (split at hr
           · rename_i hle
             cases hr
             have hn : ¬ (IntKind.i64.max < ((a.size + b.size : Nat) : Int)) := by simp [IntKind.max, IntKind.bits, IntKind.signed, maxLen] at hle ⊢; omega
             simp only [Go.binOp, Op.stringOp, AV.scal, gt_iff_lt, if_neg hn]
             rfl
           · cases hr)
        | (cases hr; simp [Go.binOp, Op.stringOp, toList_beq, AV.scal]; done)
    · cases op <;> simp only [reduceCtorEq] at hr <;>
        first
        | (split at hr
           · rename_i hle
             cases hr
             exact .str _ (by simpa using hle)
           · cases hr)
        | (cases hr; constructor)
  · rename_i a b
    cases hx; cases hy
    have hdb : d = .bool := by cases d <;> simp_all [KK.fits]
    subst hdb
    refine ⟨?_, ?_, by simp, by simp⟩
    · have he : (Op.equal t (.bool a) (.bool b)).run P w = .ok (a == b) w := run_equalIn_bool' w 9999 t a b hu
      have hdec : (a == b) = decide (a = b) := by cases a <;> cases b <;> rfl
      cases op <;> simp only [reduceCtorEq] at hr <;> cases hr
      · show ((do pure (Value.bool (← Op.equal t (.bool a) (.bool b)))) : Sem Value).run P w = _
        rw [Sem.run_bind, he, hdec]; rfl
      · show ((do pure (Value.bool (!(← Op.equal t (.bool a) (.bool b))))) : Sem Value).run P w = _
        rw [Sem.run_bind, he, hdec]; rfl
    · cases op <;> simp only [reduceCtorEq] at hr <;> cases hr <;> constructor
  · cases d <;> simp [KK.fits] at hd
  · cases hr
theorem op_bin (h : SR B w0 σ g w) {kd : KK} {op : BinOp} {t : TypeId} {d : TypeDesc} (hu : P.underlying t = some d) (hd : kd.fits d = true) {ox oy : Operand} {x y r : AV} {vx vy : Value} (hx : RelV g x vx) (hy : RelV g y vy) (hr : aBin kd op x y = some r) :
    OpOK P B w0 g w (do pure (.value (← (do eqGuard op t ox oy vx vy; Go.binOp op t vx vy)))) r σ := by
  obtain ⟨h1, h2, h3, h4⟩ := run_bin (w := w) hu hd hx hy hr
  refine OpOK.value h (v := r.scal) ?_ h2
  rw [Sem.run_bind, run_eqGuard h3 h4]
  exact h1

theorem run_equalIn_nil (n : Nat) {k : NK} {t : TypeId} {d : TypeDesc} (hu : P.underlying t = some d) (hd : k.fits d = true) {x y : AV} {vx vy : Value} (hx : RelV g x vx) (hy : RelV g y vy) {b : Bool}
    (hr : (aNil k x = some true ∧ aNil k y = some b) ∨ (aNil k x = some b ∧ aNil k y = some true)) : (Op.equalIn (n + 1) t vx vy).run P w = .ok b w := by
  have shape : ∀ {z : AV} {v : Value} {c : Bool}, RelV g z v → aNil k z = some c →
      (k = .ptr ∧ ((c = true ∧ v = .pointer none) ∨ (c = false ∧ ∃ a, v = .pointer (some a)))) ∨ (k = .slice ∧ ((c = true ∧ v = .slice none 0 0) ∨ (c = false ∧ ∃ a l m, v = .slice (some a) l m))) ∨
      (k = .map ∧ ((c = true ∧ v = .map none) ∨ (c = false ∧ ∃ r, v = .map (some r)))) ∨ (k = .func ∧ ((c = true ∧ v = .nilFunc) ∨ (c = false ∧ ∃ f a l, v = .func f a l))) := by
    intro z v c hz hc
    unfold aNil at hc
    split at hc <;> simp only [Option.some.injEq, reduceCtorEq] at hc <;> subst hc <;> cases hz <;> simp_all
    case own hid hlen hv hp => obtain ⟨a, c, rfl⟩ := hv; simp
  rcases hr with ⟨a1, a2⟩ | ⟨a1, a2⟩
  · have sx := shape hx a1
    have sy := shape hy a2
    cases k <;> cases d <;> simp [NK.fits] at hd <;> simp at sx sy <;> subst sx <;>
      rcases sy with ⟨rfl, rfl⟩ | ⟨rfl, sy⟩ <;> (try obtain ⟨a, rfl⟩ := sy) <;> (try obtain ⟨l, m, rfl⟩ := sy) <;> (try obtain ⟨a, l, m, rfl⟩ := sy) <;> simp [Op.equalIn, run_underlying hu]
  · have sx := shape hx a1
    have sy := shape hy a2
    cases k <;> cases d <;> simp [NK.fits] at hd <;> simp at sx sy <;> subst sy <;>
      rcases sx with ⟨rfl, rfl⟩ | ⟨rfl, sx⟩ <;> (try obtain ⟨a, rfl⟩ := sx) <;> (try obtain ⟨l, m, rfl⟩ := sx) <;> (try obtain ⟨a, l, m, rfl⟩ := sx) <;> simp [Op.equalIn, run_underlying hu]
/-- Is it a pointer, a slice, a map, a function? -/
def refLike : Value → Bool
  | .pointer _ => true
  | .slice _ _ _ => true
  | .map _ => true
  | .func _ _ _ => true
  | .nilFunc => true
  | _ => false
theorem RelV.ptr_form {id ver i off : Nat} {v : Value} (h : RelV g (.ptr id ver i off) v) : ∃ a, v = .pointer (some a) := by cases h with | ptr hid hp h1 => exact h1
theorem RelV.own_form {id ver sz off len : Nat} {v : Value} (h : RelV g (.own id ver sz off len) v) : ∃ a c, v = .slice (some a) len c := by cases h with | own hid hlen hv hp => exact hv
theorem RelV.map_form {id : Nat} {v : Value} (h : RelV g (.map id) v) : ∃ r, v = .map (some r) := by cases h with | map hid hp h1 => exact h1
theorem RelV.refLike {k : NK} {z : AV} {v : Value} {c : Bool} (hz : RelV g z v) (hc : aNil k z = some c) : refLike v = true := by
  unfold aNil at hc
  split at hc <;> simp only [Option.some.injEq, reduceCtorEq] at hc <;>
    first
    | (obtain ⟨a, rfl⟩ := hz.ptr_form; rfl)
    | (obtain ⟨a, c, rfl⟩ := hz.own_form; rfl)
    | (obtain ⟨a, rfl⟩ := hz.map_form; rfl)
    | (cases hz; rfl)
theorem binOp_eql_ref {t : TypeId} {x y : Value} (hx : refLike x = true) (hy : refLike y = true) : Go.binOp .eql t x y = (do pure (.bool (← Op.equal t x y))) := by
  cases x <;> simp [refLike] at hx <;> cases y <;> simp [refLike] at hy <;> rfl
theorem binOp_neq_ref {t : TypeId} {x y : Value} (hx : refLike x = true) (hy : refLike y = true) : Go.binOp .neq t x y = (do pure (.bool (!(← Op.equal t x y)))) := by
  cases x <;> simp [refLike] at hx <;> cases y <;> simp [refLike] at hy <;> rfl
theorem aNilEq_some {k : NK} {neg : Bool} {x y r : AV} (h : aNilEq k neg x y = some r) : ∃ b, r = .bool (b != neg) ∧ ((aNil k x = some true ∧ aNil k y = some b) ∨ (aNil k x = some b ∧ aNil k y = some true)) := by
  unfold aNilEq at h
  split at h
  · rename_i b h1 h2; cases h; exact ⟨b, rfl, .inl ⟨h1, h2⟩⟩
  · rename_i b hne h1 h2; cases h; exact ⟨b, rfl, .inr ⟨h1, h2⟩⟩
  · cases h
theorem op_nileq (h : SR B w0 σ g w) {k : NK} {neg : Bool} {op : BinOp} (hop : op = if neg then .neq else .eql) {t : TypeId} {d : TypeDesc} (hu : P.underlying t = some d) (hd : k.fits d = true) {ox oy : Operand} {x y r : AV} {vx vy : Value}
    (hx : RelV g x vx) (hy : RelV g y vy) (hr : aNilEq k neg x y = some r) : OpOK P B w0 g w (do pure (.value (← (do eqGuard op t ox oy vx vy; Go.binOp op t vx vy)))) r σ := by
  obtain ⟨b, rfl, hb⟩ := aNilEq_some hr
  have hrx : refLike vx = true := by rcases hb with ⟨a, _⟩ | ⟨a, _⟩ <;> exact hx.refLike a
  have hry : refLike vy = true := by rcases hb with ⟨_, a⟩ | ⟨_, a⟩ <;> exact hy.refLike a
  have he : (Op.equal t vx vy).run P w = .ok b w := run_equalIn_nil 9999 hu hd hx hy hb
  have hg : (eqGuard op t ox oy vx vy).run P w = .ok () w := run_eqGuard (by rintro cs rfl; simp [AL.refLike] at hrx) (by rintro rfl; simp [AL.refLike] at hrx)
  subst hop
  cases neg
  · refine OpOK.value h (v := .bool b) ?_ (by simpa using RelV.bool b)
    rw [Sem.run_bind, hg, Result.andThen_ok]
    simp only [Bool.false_eq_true, if_false, binOp_eql_ref hrx hry, Sem.run_bind, he, Result.andThen_ok, Sem.run_pure]
  · refine OpOK.value h (v := .bool (!b)) ?_ (by simpa using RelV.bool (!b))
    rw [Sem.run_bind, hg, Result.andThen_ok]
    simp only [if_true, binOp_neq_ref hrx hry, Sem.run_bind, he, Result.andThen_ok, Sem.run_pure]

/-! ### Maps -/
/-- Are two keys the same? -/
def keyEq (kd : KK) (a b : AV) : Option Bool :=
  match kd, a, b with
  | .int, .int k x, .int k' y => if k = k' then some (decide (x = y)) else none
  | .str, .str x, .str y => some (decide (x = y))
  | .bool, .bool x, .bool y => some (decide (x = y))
  | .row ks, .agg a, .agg b => eqFs ks a b
  | _, _, _ => none
/-- May it be a key at all? -/
def keyOK : KK → AV → Bool
  | .row ks, .agg a => a.length == ks.length
  | .row _, _ => false
  | _, _ => true
/-- The place of a key, and its value. -/
def aFind (kd : KK) (k : AV) : List (AV × AV) → Nat → Option (Option (Nat × AV))
  | [], _ => match keyOK kd k with | true => some none | false => none
  | (k', v) :: rest, i =>
    match keyEq kd k k' with
    | some true => some (some (i, v))
    | some false => aFind kd k rest (i + 1)
    | none => none

/-- The value that was found, or another one. -/
def findVal (za : AV) : Option (Nat × AV) → AV
  | some (_, v) => v
  | none => za
/-- A map's entries with one put. -/
def mapPut (es : List (AV × AV)) (k x : AV) : Option (Nat × AV) → List (AV × AV)
  | some (n, _) => es.set n (k, x)
  | none => es ++ [(k, x)]

theorem sameNow_rel {kd : KK} {d : TypeDesc} (hd : kd.fits d = true) {a b : AV} {va vb : Value} (ha : RelV g a va) (hb : RelV g b vb) {c : Bool} (h : keyEq kd a b = some c) : Instr.sameNow d va vb = some c := by
  unfold keyEq at h
  split at h
  · split at h
    · rename_i hk; subst hk; cases h; cases ha; cases hb
      cases d <;> simp_all [KK.fits, Instr.sameNow]
      rfl
    · cases h
  · cases h; cases ha; cases hb
    cases d <;> simp_all [KK.fits, Instr.sameNow]
    rw [beq_toListBytes, toList_beq]
  · cases h; cases ha; cases hb
    cases d <;> simp_all [KK.fits, Instr.sameNow]
    rename_i x y; cases x <;> cases y <;> rfl
  · cases d <;> simp [KK.fits] at hd
  · cases h

theorem findNow_rel {kd : KK} {d : TypeDesc} (hd : kd.fits d = true) {k : AV} {vk : Value} (hk : RelV g k vk) : ∀ (es : List (AV × AV)) (entries : List MapEntry) (i : Nat) (r : Option (Nat × AV)),
    entries.length = es.length → (∀ (j : Nat) (a b : AV), es[j]? = some (a, b) → ∃ e : MapEntry, entries[j]? = some e ∧ RelV g a e.key ∧ RelV g b e.val) → aFind kd k es i = some r →
    (r = none ∧ Instr.findNow d vk entries i = some none) ∨ ∃ n v u, r = some (n, v) ∧ Instr.findNow d vk entries i = some (some (n, u)) ∧ RelV g v u ∧ i ≤ n ∧ ∃ e : MapEntry, entries[n - i]? = some e ∧ Instr.sameNow d vk e.key = some true ∧ e.val = u := by
  intro es
  induction es with
  | nil =>
    intro entries i r hl he hf
    have : entries = [] := List.eq_nil_of_length_eq_zero (by simpa using hl)
    subst this
    simp only [aFind] at hf
    split at hf
    · cases hf
      exact .inl ⟨rfl, rfl⟩
    · cases hf
  | cons q rest ih =>
    intro entries i r hl he hf
    obtain ⟨k', v⟩ := q
    cases entries with
    | nil => simp at hl
    | cons e0 erest =>
      obtain ⟨e, he0, hka, hva⟩ := he 0 k' v rfl
      simp at he0
      subst he0
      simp only [aFind] at hf
      split at hf
      · rename_i hq
        cases hf
        refine .inr ⟨i, v, e0.val, rfl, ?_, hva, Nat.le_refl _, e0, by simp, sameNow_rel hd hk hka hq, rfl⟩
        simp [Instr.findNow, sameNow_rel hd hk hka hq]
      · rename_i hq
        have hs := sameNow_rel hd hk hka hq
        rcases ih erest (i + 1) r (by simpa using hl) (fun j a b hj => by
          obtain ⟨e, x, y⟩ := he (j + 1) a b (by simpa using hj)
          exact ⟨e, by simpa using x, y⟩) hf with ⟨h1, h2⟩ | ⟨n, v', u, h1, h2, h3, h4, e, h5, h6, h7⟩
        · exact .inl ⟨h1, by simp [Instr.findNow, hs, h2]⟩
        · refine .inr ⟨n, v', u, h1, by simp [Instr.findNow, hs, h2], h3, by omega, e, ?_, h6, h7⟩
          rw [show n - i = (n - (i + 1)) + 1 from by omega]
          simpa using h5
      · cases hf

/-! ### Structs of plain values -/
def matchF (P : Program) : Nat → List Field → List K1 → Bool
  | _, [], [] => true
  | o, f :: l, k :: r => decide (f.name ≠ "_") && decide (f.offset = o) && (match P.underlying f.type with | some d => k.fits d | none => false) && matchF P (o + 1) l r
  | _, _, _ => false
def recFits (P : Program) (t : TypeId) (ks : List K1) : Bool :=
  match P.underlying t with
  | some (.struct fs) => !P.stoodInHeld t && !P.eqGuardType P.depth t && matchF P 0 fs.toList ks
  | _ => false
theorem run_part1 {t : TypeId} {d : TypeDesc} {k : K1} (hu : P.underlying t = some d) (hd : k.fits d = true) {xs : Array Value} {o : Nat} (h : o < xs.size) : (part t xs o).run P w = .ok (xs.getD o undef) w := by
  have hag : aggD d = false := by cases k <;> cases d <;> simp_all [K1.fits, aggD]
  simp [part, run_isAgg hu, hag, h]
theorem run_equal1 {t : TypeId} {d : TypeDesc} {k : K1} (hu : P.underlying t = some d) (hd : k.fits d = true) (n : Nat) {x y : AV} {vx vy : Value} (hx : RelV g x vx) (hy : RelV g y vy) {c : Bool} (h : eq1 k x y = some c) : (Op.equalIn (n + 1) t vx vy).run P w = .ok c w := by
  unfold eq1 at h
  split at h
  · split at h
    · rename_i hk
      subst hk
      cases h; cases hx; cases hy
      cases d <;> simp [K1.fits] at hd
      rename_i a b k
      rw [run_equalIn_int w n t _ k a b hu]
      rfl
    · cases h
  · cases h; cases hx; cases hy
    cases d <;> simp [K1.fits] at hd
    rw [run_equalIn_string w n t _ _ hu, toList_beq]
  · cases h; cases hx; cases hy
    cases d <;> simp [K1.fits] at hd
    rename_i a b
    rw [run_equalIn_bool' w n t _ _ hu]
    cases a <;> cases b <;> rfl
  · cases h
theorem run_eqFs {xs ys : Array Value} (n : Nat) : ∀ (fs : List Field) (ks : List K1) (o : Nat) (a b : List AV) (c : Bool), matchF P o fs ks = true → eqFs ks a b = some c → o + a.length = xs.size → o + b.length = ys.size →
    (∀ j c, a[j]? = some c → RelV g c (xs.getD (o + j) undef)) → (∀ j c, b[j]? = some c → RelV g c (ys.getD (o + j) undef)) → (Op.eqFields (n + 1) xs ys fs).run P w = .ok c w
  | [], ks, o, a, b, c, hm, he, ha, hb, ra, rb => by
    cases ks with
    | nil =>
      cases a <;> cases b <;> simp [eqFs] at he
      subst he
      rfl
    | cons k r => simp [matchF] at hm
  | f :: fs, ks, o, a, b, c, hm, he, ha, hb, ra, rb => by
    cases ks with
    | nil => simp [matchF] at hm
    | cons k r =>
      cases a with
      | nil => simp [eqFs] at he
      | cons x a =>
        cases b with
        | nil => simp [eqFs] at he
        | cons y b =>
          simp only [matchF, Bool.and_eq_true, decide_eq_true_eq] at hm
          obtain ⟨⟨⟨h1, h2⟩, h3⟩, h4⟩ := hm
          split at h3
          · rename_i d hu
            have hox : f.offset < xs.size := by simp at ha; omega
            have hoy : f.offset < ys.size := by simp at hb; omega
            have rx : RelV g x (xs.getD f.offset undef) := by have := ra 0 x rfl; rw [h2]; simpa using this
            have ry : RelV g y (ys.getD f.offset undef) := by have := rb 0 y rfl; rw [h2]; simpa using this
            simp only [eqFs] at he
            have step : ∀ q, eq1 k x y = some q → (Op.eqFields (n + 1) xs ys (f :: fs)).run P w = (if q = true then (Op.eqFields (n + 1) xs ys fs).run P w else .ok false w) := by
              intro q hq
              simp only [Op.eqFields, if_pos h1, Sem.run_bind, run_part1 hu h3 hox, run_part1 hu h3 hoy, Result.andThen_ok, run_equal1 hu h3 n rx ry hq]
              cases q <;> simp
            split at he
            · rename_i q q2 hq hq2
              cases he
              rw [step _ hq]
              cases q with
              | false => rfl
              | true =>
              rw [if_pos rfl, Bool.true_and]
              refine run_eqFs n fs r (o + 1) a b q2 h4 hq2 (by simp at ha; omega) (by simp at hb; omega) (fun j c hj => ?_) (fun j c hj => ?_)
              · have := ra (j + 1) c (by simpa using hj); rw [show o + 1 + j = o + (j + 1) by omega]; exact this
              · have := rb (j + 1) c (by simpa using hj); rw [show o + 1 + j = o + (j + 1) by omega]; exact this
            · cases he
          · cases h3
theorem eqFs_len : ∀ {ks : List K1} {a b : List AV} {c : Bool}, eqFs ks a b = some c → a.length = ks.length ∧ b.length = ks.length
  | [], [], [], _, _ => ⟨rfl, rfl⟩
  | k :: ks, x :: a, y :: b, c, h => by
    simp only [eqFs] at h
    split at h
    · rename_i q q2 hq hq2
      have := eqFs_len hq2
      simp [this.1, this.2]
    · cases h
  | [], x :: a, b, _, h => by simp [eqFs] at h
  | [], [], y :: b, _, h => by simp [eqFs] at h
  | k :: ks, [], b, _, h => by simp [eqFs] at h
  | k :: ks, x :: a, [], _, h => by simp [eqFs] at h
theorem run_equalRec {t : TypeId} {ks : List K1} (hf : recFits P t ks = true) (n : Nat) {a b : List AV} {vx vy : Value} (hx : RelV g (.agg a) vx) (hy : RelV g (.agg b) vy) {c : Bool} (h : eqFs ks a b = some c) : (Op.equalIn (n + 2) t vx vy).run P w = .ok c w := by
  unfold recFits at hf
  split at hf
  · rename_i fs hu
    simp only [Bool.and_eq_true, Bool.not_eq_true'] at hf
    have hfo : P.fieldsOf t = fs := by simp [Program.fieldsOf, hu]
    cases hx with
    | agg hs hc h1 =>
      cases hy with
      | agg hs' hc' h1' =>
        rw [run_equalIn_struct w (n + 1) t _ _ (by rw [hfo]; exact hu) hf.1.1, hfo]
        exact run_eqFs n fs.toList ks 0 a b c hf.2 h (by omega) (by omega) (fun j c hj => by simpa using hc j c hj) (fun j c hj => by simpa using hc' j c hj)
  · cases hf
theorem op_bin_rec (h : SR B w0 σ g w) {ks : List K1} {op : BinOp} {t : TypeId} (hf : recFits P t ks = true) {ox oy : Operand} {x y r : AV} {vx vy : Value} (hx : RelV g x vx) (hy : RelV g y vy) (hr : aBin (.row ks) op x y = some r) :
    OpOK P B w0 g w (do pure (.value (← (do eqGuard op t ox oy vx vy; Go.binOp op t vx vy)))) r σ := by
  cases x with
  | agg a =>
    cases y with
    | agg b =>
      have hgd : P.eqGuardType P.depth t = false := by
        unfold recFits at hf
        split at hf
        · simp only [Bool.and_eq_true, Bool.not_eq_true'] at hf; exact hf.1.2
        · cases hf
      have hx' := hx
      have hy' := hy
      cases hx with
      | agg hs hc h1 =>
        cases hy with
        | agg hs' hc' h1' =>
          simp only [aBin] at hr
          split at hr
          · split at hr
            · rename_i c hc
              cases hr
              refine OpOK.value h (v := .bool c) ?_ (.bool c)
              rw [Sem.run_bind, run_eqGuard_agg w _ t ox oy _ _ hgd, Result.andThen_ok, run_eql_struct, run_equalRec hf 9998 hx' hy' hc]
              rfl
            · cases hr
          · split at hr
            · rename_i c hc
              cases hr
              refine OpOK.value h (v := .bool (!c)) ?_ (.bool (!c))
              rw [Sem.run_bind, run_eqGuard_agg w _ t ox oy _ _ hgd, Result.andThen_ok, run_neq_struct, run_equalRec hf 9998 hx' hy' hc]
              rfl
            · cases hr
          · cases hr
    | _ => simp [aBin] at hr
  | _ => simp [aBin] at hr
theorem run_checkKey {t : TypeId} {d : TypeDesc} {kd : KK} (hu : P.underlying t = some d) (hd : kd.fits d = true) {v : Value} (n : Nat) (e : Bool) : (Instr.checkKey e (n + 1) t v).run P w = .ok () w := by
  cases d <;> simp [KK.fits] at hd <;> cases v <;> simp [Instr.checkKey, run_underlying hu]

/-! ### Keys -/
/-- A kind of keys fits a type. -/
def KK.suits (P : Program) (kd : KK) (t : TypeId) : Prop := (∃ d, P.underlying t = some d ∧ kd.fits d = true) ∨ ∃ ks, kd = .row ks ∧ recFits P t ks = true
theorem sameBits1 {k : K1} {x y : AV} {vx vy : Value} (n : Nat) (hx : RelV g x vx) (hy : RelV g y vy) (h : eq1 k x y = some true) : Instr.sameBits n vy vx = true := by
  unfold eq1 at h
  split at h
  · split at h
    · rename_i hk
      subst hk
      cases hx; cases hy
      simp only [Option.some.injEq, decide_eq_true_eq] at h
      simp [Instr.sameBits, h]
    · cases h
  · cases hx; cases hy
    simp only [Option.some.injEq, decide_eq_true_eq] at h
    subst h
    simp [Instr.sameBits, beq_toListBytes, toList_beq]
  · cases hx; cases hy
    simp only [Option.some.injEq, decide_eq_true_eq] at h
    simp [Instr.sameBits, h]
  · cases h
theorem sameBitsFs (n : Nat) : ∀ (ks : List K1) (a b : List AV) (xs ys : List Value), eqFs ks a b = some true → xs.length = a.length → ys.length = b.length → (∀ j c, a[j]? = some c → RelV g c (xs.getD j undef)) → (∀ j c, b[j]? = some c → RelV g c (ys.getD j undef)) →
    ((ys.zip xs).all fun (x, y) => Instr.sameBits n x y) = true ∧ a.length = b.length
  | ks, [], [], xs, ys, h, hx, hy, _, _ => by
    have : xs = [] := List.eq_nil_of_length_eq_zero hx
    subst this
    simp
  | [], x :: a, b, xs, ys, h, hx, hy, _, _ => by simp [eqFs] at h
  | [], [], y :: b, xs, ys, h, hx, hy, _, _ => by simp [eqFs] at h
  | k :: ks, [], y :: b, xs, ys, h, hx, hy, _, _ => by simp [eqFs] at h
  | k :: ks, x :: a, [], xs, ys, h, hx, hy, _, _ => by simp [eqFs] at h
  | k :: ks, x :: a, y :: b, xs, ys, h, hx, hy, ra, rb => by
    cases xs with
    | nil => simp at hx
    | cons vx xs =>
      cases ys with
      | nil => simp at hy
      | cons vy ys =>
        simp only [eqFs] at h
        split at h
        · rename_i q q2 h1 h2
          simp only [Option.some.injEq, Bool.and_eq_true] at h
          obtain ⟨rfl, rfl⟩ := h
          obtain ⟨i1, i2⟩ := sameBitsFs n ks a b xs ys h2 (by simpa using hx) (by simpa using hy) (fun j c hj => by simpa using ra (j + 1) c (by simpa using hj)) (fun j c hj => by simpa using rb (j + 1) c (by simpa using hj))
          refine ⟨?_, by simp [i2]⟩
          simp only [List.zip_cons_cons, List.all_cons, Bool.and_eq_true]
          exact ⟨sameBits1 n (by simpa using ra 0 x rfl) (by simpa using rb 0 y rfl) h1, i1⟩
        · cases h
theorem run_checkFs {xs : Array Value} (ck : TypeId → Value → Sem Unit) : ∀ (fs : List Field) (ks : List K1) (o : Nat), matchF P o fs ks = true → o + fs.length ≤ xs.size → (∀ (k : K1) t d v, P.underlying t = some d → k.fits d = true → (ck t v).run P w = .ok () w) →
    ((forIn fs PUnit.unit fun f _ => if f.name ≠ "_" then do
        let v ← part f.type xs f.offset
        ck f.type v
        pure (ForInStep.yield PUnit.unit)
      else pure (ForInStep.yield PUnit.unit)) : Sem PUnit).run P w = .ok PUnit.unit w
  | [], ks, o, hm, hl, hck => by simp
  | f :: fs, ks, o, hm, hl, hck => by
    cases ks with
    | nil => simp [matchF] at hm
    | cons k r =>
      simp only [matchF, Bool.and_eq_true, decide_eq_true_eq] at hm
      obtain ⟨⟨⟨h1, h2⟩, h3⟩, h4⟩ := hm
      split at h3
      · rename_i d hu
        have hox : f.offset < xs.size := by simp at hl; omega
        have ih := run_checkFs (xs := xs) ck fs r (o + 1) h4 (by simp at hl; omega) hck
        simp only [List.forIn_cons, Sem.run_bind, if_pos h1, run_part1 hu h3 hox, Result.andThen_ok, hck k _ _ _ hu h3, Sem.run_pure]
        exact ih
      · cases h3
theorem run_checkRec {t : TypeId} {ks : List K1} (hf : recFits P t ks = true) {a : List AV} {v : Value} (hx : RelV g (.agg a) v) (hl : a.length = ks.length) (e : Bool) (n : Nat) : (Instr.checkKey e (n + 2) t v).run P w = .ok () w := by
  unfold recFits at hf
  split at hf
  · rename_i fs hu
    simp only [Bool.and_eq_true, Bool.not_eq_true'] at hf
    have hfl : ∀ (l : List Field) (ks : List K1) (o : Nat), matchF P o l ks = true → l.length = ks.length := by
      intro l
      induction l with
      | nil => intro ks o h; cases ks <;> simp [matchF] at h ⊢
      | cons f l ih =>
        intro ks o h
        cases ks with
        | nil => simp [matchF] at h
        | cons k r => simp only [matchF, Bool.and_eq_true] at h; simp [ih r _ h.2]
    have := hfl _ _ _ hf.2
    cases hx with
    | agg hs hc h1 =>
      rename_i arr
      have hck : ∀ (k : K1) t d v, P.underlying t = some d → k.fits d = true → (Instr.checkKey e (n + 1) t v).run P w = .ok () w := fun k t d v hu h3 => by
        cases k <;> cases d <;> simp [K1.fits] at h3 <;> cases v <;> simp [Instr.checkKey, run_underlying hu]
      have := run_checkFs (P := P) (w := w) (xs := arr) (fun t v => Instr.checkKey e (n + 1) t v) fs.toList ks 0 hf.2 (by omega) hck
      generalize hm : n + 1 = m at this hck
      rw [show n + 2 = m + 1 by omega]
      simp only [Instr.checkKey, Sem.run_bind, run_underlying hu, Result.andThen_ok]
      rw [← Array.forIn_toList, this]
      rfl
  · cases hf
theorem findAsk_rel {kt : TypeId} {ks : List K1} (hf : recFits P kt ks = true) {k : AV} {vk : Value} (hk : RelV g k vk) : ∀ (es : List (AV × AV)) (entries : List MapEntry) (i : Nat) (r : Option (Nat × AV)),
    entries.length = es.length → (∀ (j : Nat) (a b : AV), es[j]? = some (a, b) → ∃ e : MapEntry, entries[j]? = some e ∧ RelV g a e.key ∧ RelV g b e.val) → aFind (.row ks) k es i = some r →
    (r = none ∧ (Instr.findAsking kt vk entries i).run P w = .ok none w) ∨ ∃ n v u, r = some (n, v) ∧ (Instr.findAsking kt vk entries i).run P w = .ok (some (n, u)) w ∧ RelV g v u ∧ i ≤ n ∧ ∃ e : MapEntry, entries[n - i]? = some e ∧ Instr.sameBits 10000 e.key vk = true ∧ e.val = u := by
  intro es
  induction es with
  | nil =>
    intro entries i r hl he hfd
    have : entries = [] := List.eq_nil_of_length_eq_zero (by simpa using hl)
    subst this
    simp only [aFind] at hfd
    split at hfd
    · cases hfd
      exact .inl ⟨rfl, rfl⟩
    · cases hfd
  | cons q rest ih =>
    intro entries i r hl he hfd
    obtain ⟨k', v⟩ := q
    cases entries with
    | nil => simp at hl
    | cons e0 erest =>
      obtain ⟨e, he0, hka, hva⟩ := he 0 k' v rfl
      simp at he0
      subst he0
      have hag : ∀ c, keyEq (.row ks) k k' = some c → (Op.equal kt vk e0.key).run P w = .ok c w ∧ (c = true → Instr.sameBits 10000 e0.key vk = true) := by
        intro c hc
        cases k with
        | agg a =>
          cases k' with
          | agg b =>
            refine ⟨run_equalRec hf 9998 hk hka hc, fun hct => ?_⟩
            subst hct
            generalize e0.key = kv at hka
            cases hk with
            | agg hs hc1 h1 =>
              rename_i xs
              cases hka with
              | agg hs' hc1' h1' =>
                rename_i ys
                obtain ⟨i1, i2⟩ := sameBitsFs 9999 ks a b xs.toList ys.toList hc (by simpa using hs) (by simpa using hs') (fun j c hj => by simpa using hc1 j c hj) (fun j c hj => by simpa using hc1' j c hj)
                simp only [Instr.sameBits, Bool.and_eq_true, beq_iff_eq]
                exact ⟨by omega, i1⟩
          | _ => simp [keyEq] at hc
        | _ => simp [keyEq] at hc
      simp only [aFind] at hfd
      split at hfd
      · rename_i hq
        cases hfd
        obtain ⟨h1, h2⟩ := hag _ hq
        refine .inr ⟨i, v, e0.val, rfl, ?_, hva, Nat.le_refl _, e0, by simp, h2 rfl, rfl⟩
        simp [Instr.findAsking, h1]
      · rename_i hq
        obtain ⟨h1, -⟩ := hag _ hq
        rcases ih erest (i + 1) r (by simpa using hl) (fun j a b hj => by
          obtain ⟨e, x, y⟩ := he (j + 1) a b (by simpa using hj)
          exact ⟨e, by simpa using x, y⟩) hfd with ⟨h3, h2⟩ | ⟨n, v', u, h3, h2, h4, h5, e, h6, h7⟩
        · exact .inl ⟨h3, by simp [Instr.findAsking, h1, h2]⟩
        · refine .inr ⟨n, v', u, h3, by simp [Instr.findAsking, h1, h2], h4, by omega, e, ?_, h7⟩
          rw [show n - i = (n - (i + 1)) + 1 from by omega]
          simpa using h6
      · cases hfd
theorem aFind_ok {ks : List K1} {k : AV} {es : List (AV × AV)} {i : Nat} {r : Option (Nat × AV)} (h : aFind (.row ks) k es i = some r) : ∃ a, k = .agg a ∧ a.length = ks.length := by
  cases es with
  | nil =>
    simp only [aFind] at h
    split at h
    · rename_i hk
      cases k <;> simp [keyOK] at hk
      exact ⟨_, rfl, hk⟩
    · cases h
  | cons q rest =>
    obtain ⟨k', v⟩ := q
    simp only [aFind] at h
    have : ∀ c, keyEq (.row ks) k k' = some c → ∃ a, k = .agg a ∧ a.length = ks.length := by
      intro c hc
      cases k with
      | agg a =>
        cases k' with
        | agg b => exact ⟨a, rfl, (eqFs_len hc).1⟩
        | _ => simp [keyEq] at hc
      | _ => simp [keyEq] at hc
    split at h
    · rename_i hq; exact this _ hq
    · rename_i hq; exact this _ hq
    · cases h
theorem suits_check {kd : KK} {kt : TypeId} (hs : kd.suits P kt) {k : AV} {vk : Value} (hk : RelV g k vk) {es : List (AV × AV)} {r : Option (Nat × AV)} (hf : aFind kd k es 0 = some r) (b : Bool) : (Instr.checkKey b 10000 kt vk).run P w = .ok () w := by
  rcases hs with ⟨d, hu, hd⟩ | ⟨ks, rfl, hr⟩
  · exact run_checkKey hu hd 9999 b
  · obtain ⟨a, rfl, hl⟩ := aFind_ok hf
    exact run_checkRec hr hk hl b 9998
theorem sameBits_of {d : TypeDesc} {kd : KK} (hd : kd.fits d = true) {a b : Value} (n : Nat) (h : Instr.sameNow d b a = some true) : Instr.sameBits n a b = true := by
  cases d <;> cases kd <;> simp [KK.fits] at hd <;> cases a <;> cases b <;> simp [Instr.sameNow, Instr.sameBits] at h ⊢
  all_goals first | (exact ⟨h.1.symm, h.2.symm⟩) | (exact h.symm) | (rw [beq_toListBytes, toList_beq] at h ⊢; simp at h ⊢; exact h.symm)
theorem find_rel {kd : KK} {kt : TypeId} (hs : kd.suits P kt) {k : AV} {vk : Value} (hk : RelV g k vk) {es : List (AV × AV)} {entries : List MapEntry} {r : Option (Nat × AV)}
    (hl : entries.length = es.length) (he : ∀ (j : Nat) (a b : AV), es[j]? = some (a, b) → ∃ e : MapEntry, entries[j]? = some e ∧ RelV g a e.key ∧ RelV g b e.val) (hf : aFind kd k es 0 = some r) :
    (r = none ∧ (Instr.findKey kt vk entries).run P w = .ok none w) ∨ ∃ n v u, r = some (n, v) ∧ (Instr.findKey kt vk entries).run P w = .ok (some (n, u)) w ∧ RelV g v u ∧ ∃ e : MapEntry, entries[n]? = some e ∧ Instr.sameBits 10000 e.key vk = true ∧ e.val = u := by
  rcases hs with ⟨d, hu, hd⟩ | ⟨ks, rfl, hr⟩
  · rcases findNow_rel hd hk es entries 0 r hl he hf with ⟨rfl, hn⟩ | ⟨n, v, u, rfl, hn, hrel, _, e, h5, h6, h7⟩
    · exact .inl ⟨rfl, by simp [Instr.findKey, run_underlying hu, hn]⟩
    · exact .inr ⟨n, v, u, rfl, by simp [Instr.findKey, run_underlying hu, hn], hrel, e, by simpa using h5, sameBits_of hd 10000 h6, h7⟩
  · have hu : ∃ fs, P.underlying kt = some (.struct fs) := by
      unfold recFits at hr
      split at hr
      · rename_i fs hu; exact ⟨fs, hu⟩
      · cases hr
    obtain ⟨fs, hu⟩ := hu
    have hasked := findAsk_rel (w := w) hr hk es entries 0 r hl he hf
    cases entries with
    | nil =>
      rcases hasked with ⟨rfl, _⟩ | ⟨n, v, u, rfl, h1, _⟩
      · exact .inl ⟨rfl, by simp [Instr.findKey, run_underlying hu, Instr.findNow]⟩
      · simp [Instr.findAsking] at h1
    | cons e0 erest =>
      have hno : Instr.findNow (.struct fs) vk (e0 :: erest) 0 = none := by simp [Instr.findNow, Instr.sameNow]
      rcases hasked with ⟨rfl, h1⟩ | ⟨n, v, u, rfl, h1, h2, _, e, h3, h4, h5⟩
      · exact .inl ⟨rfl, by simp [Instr.findKey, run_underlying hu, hno, h1]⟩
      · exact .inr ⟨n, v, u, rfl, by simp [Instr.findKey, run_underlying hu, hno, h1], h2, e, by simpa using h3, h4, h5⟩
theorem run_getMap {r : Nat} {es : Array MapEntry} {clock : Nat} (hr : w.heap[r]? = some (.map es clock)) : (getObj r).run P w = .ok (.map es clock) w := by
  simp [getObj, Sem.run, hr]
theorem run_setMap {r : Nat} {es : Array MapEntry} {clock : Nat} (hr : w.heap[r]? = some (.map es clock)) (o : Obj) : (setObj r o).run P w = .ok () { w with heap := w.heap.setIfInBounds r o } := by
  simp [setObj, Sem.run, hr]

theorem op_makeMap (h : SR B w0 σ g w) {t : TypeId} : OpOK P B w0 g w (do pure (.value (← Instr.makeMap t none))) (.map σ.next) (σ.push (.map [])) := by
  refine OpOK.value' (v := .map (some w.heap.size)) (w' := w.alloc (.map #[] 0)) (by simp [Instr.makeMap]) (.take g ⟨0, w.heap.size, 0, 0⟩)
    (h.allocOwned _ _ ⟨0, w.heap.size, 0, 0⟩ rfl ⟨rfl, #[], 0, heap_alloc_new w _, rfl, by simp⟩) (.map (by simp [Ghost.take, h.next]) (fun p hp _ => ?_) ⟨_, rfl⟩)
  simp [Ghost.take, h.next] at hp
  subst hp
  rfl

theorem op_lookup (h : SR B w0 σ g w) {t kt et : TypeId} {kd : KK} (hu : P.underlying t = some (.map kt et)) (hd : kd.suits P kt) {i : TypeInfo} {z : Value} (hi : P.info? et = some i) (hz : i.zero = some z)
    {za : AV} (hza : RelV g za z) {id : Nat} {vm : Value} (hm : RelV g (.map id) vm) {es : List (AV × AV)} (ho : σ.get id = some (.map es)) {k : AV} {vk : Value} (hkv : RelV g k vk) {r : Option (Nat × AV)} (hf : aFind kd k es 0 = some r) (ok : Bool) :
    OpOK P B w0 g w (do pure (.value (← Instr.lookup t vm vk ok))) (if ok then .tuple [findVal za r, .bool r.isSome] else findVal za r) σ := by
  obtain ⟨p, hp, hv0, entries, clock, h2, h3, h4⟩ := h.objs id _ ho
  cases hm with
  | map hid hmm h1 =>
    have := hmm p hp hv0
    subst this
    have hfr := find_rel (w := w) hd hkv (entries := entries.toList) (by simpa using h3) (fun j a b hj => by obtain ⟨e, x, y⟩ := h4 j a b hj; exact ⟨e, by simpa using x, y⟩) hf
    have hck : ∀ b, (Instr.checkKey b 10000 kt vk).run P w = .ok () w := fun b => suits_check hd hkv hf b
    have hfin : ∀ u : Value, ∀ a : AV, ∀ c : Bool, RelV g a u → RelV g (if ok then .tuple [a, .bool c] else a) (if ok then .tuple #[u, .bool c] else u) := by
      intro u a c hau
      cases ok
      · exact hau
      · refine .tuple rfl (fun j x hj => ?_)
        match j, hj with
        | 0, hj => simp at hj; subst hj; simpa using hau
        | 1, hj => simp at hj; subst hj; simpa using RelV.bool c
        | j + 2, hj => simp at hj
    rcases hfr with ⟨rfl, hn⟩ | ⟨n, v, u, rfl, hn, hrel, _⟩
    · refine OpOK.value h (v := if ok then .tuple #[z, .bool false] else z) ?_ (hfin z za false hza)
      simp [Instr.lookup, run_underlying hu, run_getMap h2, hck, hn, zeroValue, typeInfo, hi, hz]
    · refine OpOK.value h (v := if ok then .tuple #[u, .bool true] else u) ?_ (hfin u v true hrel)
      simp [Instr.lookup, run_underlying hu, run_getMap h2, hck, hn]

theorem heap_setObj {r : Nat} {o x : Obj} (hr : w.heap[r]? = some x) : (w.heap.setIfInBounds r o)[r]? = some o := by
  have := (Array.getElem?_eq_some_iff.1 hr).1
  simp [this]

theorem op_mapset (h : SR B w0 σ g w) {t kt et : TypeId} {kd : KK} (hu : P.underlying t = some (.map kt et)) (hd : kd.suits P kt)
    {id : Nat} {vm : Value} (hm : RelV g (.map id) vm) {es : List (AV × AV)} (ho : σ.get id = some (.map es)) {k x : AV} {vk vx : Value} (hkv : RelV g k vk) (hxv : RelV g x vx) {r : Option (Nat × AV)} (hf : aFind kd k es 0 = some r) :
    OpOK P B w0 g w (do Instr.mapUpdate t vm vk vx; pure .skip) .junk (σ.upd id (.map (mapPut es k x r))) := by
  obtain ⟨p, hp, hv0, entries, clock, h2, h3, h4⟩ := h.objs id _ ho
  cases hm with
  | map hid hmm h1 =>
    have := hmm p hp hv0
    subst this
    have hfr := find_rel (w := w) hd hkv (entries := entries.toList) (by simpa using h3) (fun j a b hj => by obtain ⟨e, x, y⟩ := h4 j a b hj; exact ⟨e, by simpa using x, y⟩) hf
    have hck : ∀ b, (Instr.checkKey b 10000 kt vk).run P w = .ok () w := fun b => suits_check hd hkv hf b
    have hwr : ∀ (es' : List (AV × AV)) (entries' : Array MapEntry) (clock' : Nat), entries'.size = es'.length →
        (∀ (i : Nat) (k v : AV), es'[i]? = some (k, v) → ∃ e : MapEntry, entries'[i]? = some e ∧ RelV g k e.key ∧ RelV g v e.val) →
        SR B w0 (σ.upd id (.map es')) g { w with heap := w.heap.setIfInBounds p.blk (.map entries' clock') } := by
      intro es' entries' clock' hl hall
      refine h.write hp (by simp) rfl rfl rfl (fun j hj hne => ?_) ⟨hv0, entries', clock', heap_setObj h2, hl, hall⟩
      simp [Array.getElem?_setIfInBounds, Ne.symm hne]
    rcases hfr with ⟨rfl, hn⟩ | ⟨n, v, u, rfl, hn, hrel, e, he1, hsb, he3⟩
    · simp only [mapPut]
      refine OpOK.skip (w' := { w with heap := w.heap.setIfInBounds p.blk (.map (entries.push { key := vk, val := vx, born := clock }) (clock + 1)) }) ?_ (.refl g)
        (hwr _ _ _ (by simp [h3]) (fun i a b hi => ?_))
      · simp [Instr.mapUpdate, run_underlying hu, run_getMap h2, hck, hn, run_setMap h2]
      · by_cases hlt : i < es.length
        · rw [List.getElem?_append_left hlt] at hi
          obtain ⟨e, x1, x2⟩ := h4 i a b hi
          exact ⟨e, by rw [Array.getElem?_push_lt (by omega)]; rw [← x1, Array.getElem?_eq_getElem (by omega)], x2⟩
        · have : i = es.length := by
            rcases Nat.lt_or_ge i (es.length + 1) with h' | h'
            · omega
            · rw [List.getElem?_eq_none (by simp; omega)] at hi; cases hi
          subst this
          simp at hi
          obtain ⟨rfl, rfl⟩ := hi
          exact ⟨{ key := vk, val := vx, born := clock }, by rw [← h3]; simp, hkv, hxv⟩
    · simp only [mapPut]
      simp only [Array.getElem?_toList] at he1
      refine OpOK.skip (w' := { w with heap := w.heap.setIfInBounds p.blk (.map (entries.modify n fun e => { e with key := vk, val := vx }) clock) }) ?_ (.refl g)
        (hwr _ _ _ (by simp [h3]) (fun i a b hi => ?_))
      · have hlt : n < entries.size := (Array.getElem?_eq_some_iff.1 he1).1
        have he1' : entries[n] = e := (Array.getElem?_eq_some_iff.1 he1).2
        simp [Instr.mapUpdate, run_underlying hu, run_getMap h2, hck, hn, run_setMap h2, Instr.keyThatStays, hlt, he1', hsb]
      · by_cases hin : i = n
        · subst hin
          have hlt : i < es.length := by have := (Array.getElem?_eq_some_iff.1 he1).1; omega
          rw [List.getElem?_set_self hlt] at hi
          cases hi
          refine ⟨_, by rw [Array.getElem?_modify, if_pos rfl, he1]; rfl, hkv, hxv⟩
        · rw [List.getElem?_set_ne (Ne.symm hin)] at hi
          obtain ⟨e, x1, x2⟩ := h4 i a b hi
          exact ⟨e, by rw [Array.getElem?_modify, if_neg (Ne.symm hin)]; exact x1, x2⟩

/-- A map's entries with one taken away. -/
def mapDel (es : List (AV × AV)) : Option (Nat × AV) → List (AV × AV)
  | some (n, _) => es.eraseIdx n
  | none => es
theorem op_mapdel (h : SR B w0 σ g w) {t t2 ty kt et : TypeId} {kd : KK} (hu : P.underlying t = some (.map kt et)) (hd : kd.suits P kt)
    {id : Nat} {vm : Value} (hm : RelV g (.map id) vm) {es : List (AV × AV)} (ho : σ.get id = some (.map es)) {k : AV} {vk : Value} (hkv : RelV g k vk) {r : Option (Nat × AV)} (hf : aFind kd k es 0 = some r) :
    OpOK P B w0 g w (do pure (.value (← Builtin.delete_ #[t, t2] ty #[vm, vk]))) (.tuple []) (σ.upd id (.map (mapDel es r))) := by
  obtain ⟨p, hp, hv0, entries, clock, h2, h3, h4⟩ := h.objs id _ ho
  cases hm with
  | map hid hmm h1 =>
    have := hmm p hp hv0
    subst this
    have hfr := find_rel (w := w) hd hkv (entries := entries.toList) (by simpa using h3) (fun j a b hj => by obtain ⟨e, x, y⟩ := h4 j a b hj; exact ⟨e, by simpa using x, y⟩) hf
    have hck : ∀ b, (Instr.checkKey b 10000 kt vk).run P w = .ok () w := fun b => suits_check hd hkv hf b
    have hwr : ∀ (es' : List (AV × AV)) (entries' : Array MapEntry) (clock' : Nat), entries'.size = es'.length →
        (∀ (i : Nat) (k v : AV), es'[i]? = some (k, v) → ∃ e : MapEntry, entries'[i]? = some e ∧ RelV g k e.key ∧ RelV g v e.val) →
        SR B w0 (σ.upd id (.map es')) g { w with heap := w.heap.setIfInBounds p.blk (.map entries' clock') } := by
      intro es' entries' clock' hl hall
      refine h.write hp (by simp) rfl rfl rfl (fun j hj hne => ?_) ⟨hv0, entries', clock', heap_setObj h2, hl, hall⟩
      simp [Array.getElem?_setIfInBounds, Ne.symm hne]
    rcases hfr with ⟨rfl, hn⟩ | ⟨n, v, u, rfl, hn, hrel, e, he1, hsb, he3⟩
    · simp only [mapDel]
      refine OpOK.value' (v := .tuple #[]) (w' := { w with heap := w.heap.setIfInBounds p.blk (.map entries clock) }) ?_ (.refl g) (hwr _ _ _ h3 h4) (.tuple rfl (by simp))
      simp [Builtin.delete_, run_underlying hu, run_getMap h2, hck, hn, run_setMap h2]
    · simp only [mapDel]
      have hlt : n < entries.size := by simp only [Array.getElem?_toList] at he1; exact (Array.getElem?_eq_some_iff.1 he1).1
      have htl : (entries.eraseIdxIfInBounds n).toList = entries.toList.eraseIdx n := by
        rw [Array.eraseIdxIfInBounds, dif_pos hlt, Array.toList_eraseIdx]
      refine OpOK.value' (v := .tuple #[]) (w' := { w with heap := w.heap.setIfInBounds p.blk (.map (entries.eraseIdxIfInBounds n) clock) }) ?_ (.refl g) (hwr _ _ _ ?_ (fun i a b hi => ?_)) (.tuple rfl (by simp))
      · simp [Builtin.delete_, run_underlying hu, run_getMap h2, hck, hn, run_setMap h2]
      · rw [← Array.length_toList, htl, List.length_eraseIdx, List.length_eraseIdx, Array.length_toList, h3]
      · rw [← Array.getElem?_toList, htl]
        rw [List.getElem?_eraseIdx] at hi ⊢
        split at hi
        · rename_i hin
          obtain ⟨e, x, y⟩ := h4 i a b hi
          exact ⟨e, by rw [if_pos hin]; simpa using x, y⟩
        · rename_i hin
          obtain ⟨e, x, y⟩ := h4 (i + 1) a b hi
          exact ⟨e, by rw [if_neg hin]; simpa using x, y⟩
theorem op_len_map (h : SR B w0 σ g w) {t ty kt et : TypeId} (hu : P.underlying t = some (.map kt et)) {id : Nat} {v : Value} (hx : RelV g (.map id) v) {es : List (AV × AV)} (ho : σ.get id = some (.map es)) :
    OpOK P B w0 g w (do pure (.value (← Builtin.len_ #[t] ty #[v]))) (.int .i64 es.length) σ := by
  obtain ⟨p, hp, hv0, entries, clock, h2, h3, h4⟩ := h.objs id _ ho
  cases hx with
  | map hid hmm h1 =>
    have := hmm p hp hv0
    subst this
    refine OpOK.value h (v := .int .i64 es.length) ?_ (.int _ _)
    simp [Builtin.len_, run_underlying hu, run_getMap h2, goInt, h3]

/-! ### Bytes -/
def bytesOf : List (List AV) → Option (List Int)
  | [] => some []
  | [.int .u8 n] :: r => match bytesOf r with | some l => some (n :: l) | none => none
  | _ => none
def bytesStr (ns : List Int) : ByteArray := ns.foldl (fun r n => r.push (UInt8.ofNat n.toNat)) ByteArray.empty
theorem bytesStr_size (ns : List Int) : (bytesStr ns).size = ns.length := by
  have : ∀ (ns : List Int) (s : ByteArray), (ns.foldl (fun r n => r.push (UInt8.ofNat n.toNat)) s).size = s.size + ns.length := by
    intro ns
    induction ns with
    | nil => intro s; simp
    | cons n ns ih => intro s; simp only [List.foldl_cons, ih, ByteArray.size_push, List.length_cons]; omega
  have h := this ns ByteArray.empty
  simpa [bytesStr] using h
theorem bytesOf_news : ∀ {es : List (List AV)} {news : List Value} {ns : List Int}, ElemsRel g 1 es news → bytesOf es = some ns → news = ns.map (Value.int .u8) ∧ ns.length = es.length := by
  intro es
  induction es with
  | nil =>
    intro news ns hr h
    simp [bytesOf] at h
    subst h
    have := hr.1
    simp at this
    subst this
    exact ⟨rfl, rfl⟩
  | cons e es ih =>
    intro news ns hr h
    unfold bytesOf at h
    split at h
    · rename_i heq; cases heq
    · rename_i n r heq
      cases heq
      split at h
      · rename_i l hl
        cases h
        obtain ⟨h1, h2, h3⟩ := hr
        cases news with
        | nil => simp at h1
        | cons v news =>
          have hv := (h3 0 0 _ _ rfl rfl).1
          simp at hv
          cases hv
          obtain ⟨i1, i2⟩ := ih (news := news) ⟨by simp at h1 ⊢; omega, fun e he => h2 e (by simp [he]), fun i j e c hi hj => by
            have hj0 : j < 1 := by have := (List.getElem?_eq_some_iff.mp hj).1; have := h2 e (List.mem_cons_of_mem _ (List.mem_of_getElem? hi)); omega
            have := h3 (i + 1) j e c (by simpa using hi) hj
            rw [show (i + 1) * 1 + j = (i * 1 + j) + 1 by omega] at this
            simpa using this⟩ hl
          exact ⟨by rw [i1]; rfl, by simp [i2]⟩
      · cases h
    · cases h
theorem op_bytes (h : SR B w0 σ g w) {src dst e : TypeId} (hs : P.underlying src = some (.slice e)) (he : P.underlying e = some (.int .u8)) (hd : P.underlying dst = some .string) {x : AV} {v : Value} (hx : RelV g x v)
    {es : List (List AV)} (hes : elemsOf σ 1 x = some es) (h1 : ∀ q, q ∈ es → q.length = 1) {ns : List Int} (hb : bytesOf es = some ns) : OpOK P B w0 g w (do pure (.value (← convert src dst v))) (.str (bytesStr ns)) σ := by
  obtain ⟨ao, c, news, rfl, hrel, hnone, hml, hcell⟩ := slice_src h hx hes h1
  obtain ⟨rfl, hl⟩ := bytesOf_news hrel hb
  refine OpOK.value h (v := .string (bytesStr ns)) ?_ (.str _ (by rw [bytesStr_size]; omega))
  rw [run_convert_bytes_string w src dst e ao _ _ hs he hd]
  cases ao with
  | none =>
    have := hnone rfl
    subst this
    simp [bytesOf] at hb
    subst hb
    simp [Conv.bytesToString]
    rfl
  | some ad =>
    have hld : (loadCells ad es.length).run P w = .ok (ns.map (Value.int .u8)).toArray w := by
      have := run_loadCells_list (P := P) w ad (ns.map (Value.int .u8)) (fun j v hv => hcell ad rfl j v hv)
      simpa [hl] using this
    rw [run_bytesToString w ad es.length c ns hld]
    rfl
end
end Go.AL
