/- The abstract layer, part 6: the resolved operations, what they come to, and that memory follows them. -/
import Derived.Test.YtjjbjibbjbbeaaaAL5
set_option linter.unusedVariables false
set_option linter.unusedSimpArgs false
namespace Go.AL
open Go.RowKit

/-- An operand: a slot, or a constant. -/
inductive AX where
  | t (i : Nat)
  | c (v : AV)
def AX.ev (tm : Nat → AV) : AX → AV
  | .t i => tm i
  | .c v => v

inductive LK where
  | str | slice | map
  deriving DecidableEq

/-- A resolved operation. -/
inductive AOp where
  | move (x : AX)
  | pick (c a b : AX)
  | new (ty : Nat) (x : AX)
  | build (zero : List AV) (parts : List (Nat × Nat × AX))
  | lit (own : Bool) (ty sz : Nat) (xs : List AX)
  | load (agg : Option Nat) (x : AX)
  | store (sz : Nat) (a x : AX)
  | nilck (x : AX)
  | bin (kd : KK) (op : BinOp) (x y : AX)
  | nileq (k : NK) (neg : Bool) (x y : AX)
  | not (x : AX)
  | neg (x : AX)
  | conv (k : IntKind) (x : AX)
  | same (x : AX)
  | mkfn (f : Fn) (first captured : List AX)
  | mkmap
  | mkslice (ty sz bytes : Nat) (zero : List AV) (l c : AX)
  | cut (k : LK) (sz : Nat) (x : AX) (lo hi : Option AX)
  | faddr (off : Nat) (x : AX)
  | field (off : Nat) (agg : Option Nat) (x : AX)
  | iaddr (sz : Nat) (x i : AX)
  | index (x i : AX)
  | lookup (kd : KK) (zero : AV) (ok : Bool) (m k : AX)
  | mapset (kd : KK) (m k x : AX)
  | extract (x : AX) (i : Nat)
  | len (k : LK) (x : AX)
  | append (ty sz bytes : Nat) (s x : AX)
  | min2 (x y : AX)
  | bstr (x : AX)
  | max2 (x y : AX)
  | mapdel (kd : KK) (m k : AX)
  | call (f : FuncId) (args : List AX)
  | callv (f : AX) (args : List AX)

def litEs (sz : Nat) : List AV → Option (List (List AV))
  | [] => some []
  | v :: r =>
    match v.cellsOf with
    | some cs => if cs.length = sz then (match litEs sz r with | some es => some (cs :: es) | none => none) else none
    | none => none

def bound (dflt : Int) : Option AV → Option Int
  | none => some dflt
  | some (.int _ n) => some n
  | _ => none

/-- What a resolved operation comes to, a call excepted. -/
def AOp.eff (op : AOp) (tm : Nat → AV) (σ : Store) : Option (AV × Store) :=
  match op with
  | .move x => some (x.ev tm, σ)
  | .pick c a b => match c.ev tm with | .bool t => some (if t then a.ev tm else b.ev tm, σ) | _ => none
  | .new ty x => match (x.ev tm).cellsOf with | some cs => some (.ptr σ.next 0 0 0, σ.push (.cells ty 0 cs.length [cs])) | none => none
  | .build zc parts => match aFill zc (parts.map fun p => (p.1, p.2.1, p.2.2.ev tm)) with | some r => some (.agg r, σ) | none => none
  | .lit own ty sz xs =>
    match litEs sz (xs.map (·.ev tm)) with
    | some es => if own then some (.own σ.next 0 sz 0 es.length, σ.push (.cells ty 0 sz es)) else some (.list es, σ)
    | none => none
  | .load agg x =>
    match x.ev tm with
    | .ptr id ver k off =>
      match σ.get id with
      | some (.cells _ v _ es) => if v = ver then (match es[k]? with | some e => (match aLoad agg e off with | some r => some (r, σ) | none => none) | none => none) else none
      | _ => none
    | .rptr cs off => match aLoad agg cs off with | some r => some (r, σ) | none => none
    | _ => none
  | .store sz a x =>
    match a.ev tm with
    | .ptr id ver k off =>
      match (x.ev tm).cellsOf with
      | some cs =>
        match σ.get id with
        | some (.cells ty v s es) => if v = ver ∧ cs.length = sz then (match es[k]? with | some e => if off + cs.length ≤ e.length then some (.junk, σ.upd id (.cells ty ver s (es.set k (aPut e off cs)))) else none | none => none) else none
        | _ => none
      | none => none
    | _ => none
  | .nilck x => match x.ev tm with | .ptr a b c d => some (.ptr a b c d, σ) | .rptr a b => some (.rptr a b, σ) | .fn (.func f) a b => some (.fn (.func f) a b, σ) | _ => none
  | .bin kd op x y => match aBin kd op (x.ev tm) (y.ev tm) with | some r => some (r, σ) | none => none
  | .nileq k ng x y => match aNilEq k ng (x.ev tm) (y.ev tm) with | some r => some (r, σ) | none => none
  | .not x => match x.ev tm with | .bool b => some (.bool (!b), σ) | _ => none
  | .neg x => match x.ev tm with | .int k n => some (.int k (k.wrap (0 - n)), σ) | _ => none
  | .conv k x => match x.ev tm with | .int _ n => some (.int k (k.wrap n), σ) | _ => none
  | .same x => match x.ev tm with | .str s => some (.str s, σ) | _ => none
  | .mkfn f first captured => some (.fn f (first.map (·.ev tm)) (captured.map (·.ev tm)), σ)
  | .mkmap => some (.map σ.next, σ.push (.map []))
  | .mkslice ty sz bytes zc l c =>
    match l.ev tm, c.ev tm with
    | .int _ l, .int _ c => if 0 ≤ l ∧ l ≤ c ∧ (bytes : Int) * c ≤ 281474976710656 ∧ c ≤ 9223372036854775807 then some (.own σ.next 0 sz 0 l.toNat, σ.push (.cells ty 0 sz (List.replicate l.toNat zc))) else none
    | _, _ => none
  | .cut k sz x lo hi =>
    match k, x.ev tm with
    | .str, .str s =>
      match bound 0 (lo.map (·.ev tm)), bound s.size (hi.map (·.ev tm)) with
      | some l, some h => if 0 ≤ l ∧ l ≤ h ∧ h ≤ s.size then some (.str (s.extract l.toNat h.toNat), σ) else none
      | _, _ => none
    | .slice, .list es =>
      match bound 0 (lo.map (·.ev tm)), bound es.length (hi.map (·.ev tm)) with
      | some l, some h => if 0 ≤ l ∧ l ≤ h ∧ h ≤ es.length ∧ (∀ q, q ∈ es → q.length = sz) then some (.list ((es.take h.toNat).drop l.toNat), σ) else none
      | _, _ => none
    | .slice, .nils =>
      match bound 0 (lo.map (·.ev tm)), bound 0 (hi.map (·.ev tm)) with
      | some l, some h => if l = 0 ∧ h = 0 then some (.nils, σ) else none
      | _, _ => none
    | .slice, .own id ver s off ln =>
      match bound 0 (lo.map (·.ev tm)), bound ln (hi.map (·.ev tm)) with
      | some l, some h =>
        match σ.get id with
        | some (.cells _ v _ _) => if v = ver ∧ s = sz ∧ 0 ≤ l ∧ l ≤ h ∧ h ≤ ln then some (.own id ver s (off + l.toNat) (h.toNat - l.toNat), σ) else none
        | _ => none
      | _, _ => none
    | _, _ => none
  | .faddr off x =>
    match x.ev tm with
    | .ptr id ver k o => match σ.get id with | some (.cells _ v _ _) => if v = ver then some (.ptr id ver k (o + off), σ) else none | _ => none
    | .rptr cs o => some (.rptr cs (o + off), σ)
    | _ => none
  | .field off agg x => match x.ev tm with | .agg cs => (match aLoad agg cs off with | some r => some (r, σ) | none => none) | _ => none
  | .iaddr sz x i =>
    match i.ev tm with
    | .int _ n =>
      match x.ev tm with
      | .list es => if 0 ≤ n then (match es[n.toNat]? with | some c => if c.length = sz then some (.rptr c 0, σ) else none | none => none) else none
      | .own id ver s off ln => match σ.get id with | some (.cells _ v _ _) => if v = ver ∧ s = sz ∧ 0 ≤ n ∧ n < ln then some (.ptr id ver (off + n.toNat) 0, σ) else none | _ => none
      | _ => none
    | _ => none
  | .index x i =>
    match x.ev tm, i.ev tm with
    | .str s, .int _ n => if 0 ≤ n then (match s.data.toList[n.toNat]? with | some b => some (.int .u8 b.toNat, σ) | none => none) else none
    | _, _ => none
  | .lookup kd za ok m k =>
    match m.ev tm with
    | .map id =>
      match σ.get id with
      | some (.map es) =>
        match aFind kd (k.ev tm) es 0 with
        | some r => some (if ok then .tuple [findVal za r, .bool r.isSome] else findVal za r, σ)
        | none => none
      | _ => none
    | _ => none
  | .mapset kd m k x =>
    match m.ev tm with
    | .map id =>
      match σ.get id with
      | some (.map es) =>
        match aFind kd (k.ev tm) es 0 with
        | some r => some (.junk, σ.upd id (.map (mapPut es (k.ev tm) (x.ev tm) r)))
        | none => none
      | _ => none
    | _ => none
  | .extract x i => match x.ev tm with | .tuple vs => (match vs[i]? with | some r => some (r, σ) | none => none) | _ => none
  | .len k x =>
    match k, x.ev tm with
    | .str, .str s => some (.int .i64 s.size, σ)
    | .slice, .list es => some (.int .i64 es.length, σ)
    | .slice, .nils => some (.int .i64 0, σ)
    | .slice, .own _ _ _ _ ln => some (.int .i64 ln, σ)
    | .map, .map id => match σ.get id with | some (.map es) => some (.int .i64 es.length, σ) | _ => none
    | _, _ => none
  | .append ty sz bytes s x =>
    match elemsOf σ sz (x.ev tm) with
    | some es =>
      match s.ev tm with
      | .nils => if (∀ q, q ∈ es → q.length = sz) ∧ es.length * bytes ≤ 140737488355328 then some (if es = [] then .nils else .own σ.next 0 sz 0 es.length, if es = [] then σ else σ.push (.cells ty 0 sz es)) else none
      | .own id ver s off ln =>
        match σ.get id with
        | some (.cells t v z es0) => if (v = ver ∧ s = sz ∧ off = 0 ∧ t = ty ∧ z = sz ∧ ln ≤ es0.length) ∧ (∀ q, q ∈ es → q.length = sz) ∧ (ln + es.length) * bytes ≤ 140737488355328 ∧ ln + es.length ≤ maxLen then
            some (.own id (ver + 1) sz 0 (ln + es.length), σ.upd id (.cells ty (ver + 1) sz (es0.take ln ++ es))) else none
        | _ => none
      | _ => none
    | none => none
  | .bstr x =>
    match elemsOf σ 1 (x.ev tm) with
    | some es => if ∀ q, q ∈ es → q.length = 1 then (match bytesOf es with | some ns => some (.str (bytesStr ns), σ) | none => none) else none
    | none => none
  | .mapdel kd m k =>
    match m.ev tm with
    | .map id =>
      match σ.get id with
      | some (.map es) =>
        match aFind kd (k.ev tm) es 0 with
        | some r => some (.tuple [], σ.upd id (.map (mapDel es r)))
        | none => none
      | _ => none
    | _ => none
  | .max2 x y => match x.ev tm, y.ev tm with | .int k a, .int _ b => some (.int k (if a < b then b else a), σ) | _, _ => none
  | .min2 x y => match x.ev tm, y.ev tm with | .int k a, .int _ b => some (.int k (if b < a then b else a), σ) | _, _ => none
  | .call _ _ => none
  | .callv _ _ => none

/-! ### Resolving -/
def absScalar : Value → Option AV
  | .bool b => some (.bool b)
  | .int k n => some (.int k n)
  | .string s => if s.size ≤ maxLen then some (.str s) else none
  | .pointer none => some .nilp
  | .slice none 0 0 => some .nils
  | .map none => some .nilm
  | .nilFunc => some .nilf
  | _ => none
def absScalars : List Value → Option (List AV)
  | [] => some []
  | v :: r => match absScalar v, absScalars r with | some a, some l => some (a :: l) | _, _ => none
def absConst : Value → Option AV
  | .agg cs => match absScalars cs.toList with | some l => some (.agg l) | none => none
  | v => absScalar v
def absX : Operand → Option AX
  | .tmp t => some (.t t)
  | .const v => match absConst v with | some a => some (.c a) | none => none
  | .func f => some (.c (.fn (.func f) [] []))
  | .global _ => none
def absXs : List Operand → Option (List AX)
  | [] => some []
  | o :: r => match absX o, absXs r with | some a, some l => some (a :: l) | _, _ => none

theorem absScalar_rel {g : Ghost} {v : Value} {a : AV} (h : absScalar v = some a) : RelV g a v ∧ a.isCell = true := by
  unfold absScalar at h
  split at h
  case h_3 s =>
    split at h
    · rename_i hs; cases h; exact ⟨.str _ hs, rfl⟩
    · cases h
  all_goals first | (cases h; exact ⟨by constructor, rfl⟩) | (cases h; done)
theorem absScalars_rel {g : Ghost} : ∀ {vs : List Value} {l : List AV}, absScalars vs = some l → CellsRel g l vs := by
  intro vs
  induction vs with
  | nil => intro l h; simp [absScalars] at h; subst h; exact ⟨rfl, by simp⟩
  | cons v r ih =>
    intro l h
    simp only [absScalars] at h
    split at h
    · rename_i a l' ha hl'
      cases h
      have h1 := absScalar_rel (g := g) ha
      have h2 := ih hl'
      refine ⟨by simp [h2.1], fun j c hj => ?_⟩
      match j, hj with
      | 0, hj => simp at hj; subst hj; exact ⟨by simpa using h1.1, by simpa using h1.1.one h1.2⟩
      | j + 1, hj => have := h2.2 j c (by simpa using hj); simpa using this
    · cases h
theorem absConst_rel {g : Ghost} {v : Value} {a : AV} (h : absConst v = some a) : RelV g a v := by
  unfold absConst at h
  split at h
  · rename_i cs
    split at h
    · rename_i l hl
      cases h
      have := RelV.ofCells (absScalars_rel (g := g) hl)
      simpa using this
    · cases h
  · exact (absScalar_rel h).1

/-- The temporaries read as some abstract values. -/
def RelT (g : Ghost) (n : Nat) (tm : Nat → AV) (a : Act) : Prop := a.tmps.size = n ∧ a.defers = [] ∧ ∀ i, RelV g (tm i) (a.tmps.getD i undef)
theorem RelT.ext {g g' : Ghost} (he : Ext g g') {n : Nat} {tm : Nat → AV} {a : Act} (h : RelT g n tm a) : RelT g' n tm a := ⟨h.1, h.2.1, fun i => (h.2.2 i).ext he⟩

theorem absX_rel {g : Ghost} {n : Nat} {tm : Nat → AV} {a : Act} (h : RelT g n tm a) {o : Operand} {x : AX} (hx : absX o = some x) : RelV g (x.ev tm) (a.eval o) := by
  cases o with
  | tmp t => simp [absX] at hx; subst hx; exact h.2.2 t
  | const v =>
    simp only [absX] at hx
    split at hx
    · rename_i a' ha; cases hx; exact absConst_rel ha
    · cases hx
  | global gg => simp [absX] at hx
  | func f => simp [absX] at hx; subst hx; exact .fn rfl rfl (by simp) (by simp)
theorem absXs_rel {g : Ghost} {n : Nat} {tm : Nat → AV} {a : Act} (h : RelT g n tm a) : ∀ {os : List Operand} {xs : List AX}, absXs os = some xs →
    os.length = xs.length ∧ ∀ (j : Nat) (x : AX), xs[j]? = some x → RelV g (x.ev tm) ((os.map a.eval).getD j undef) := by
  intro os
  induction os with
  | nil => intro xs hx; simp [absXs] at hx; subst hx; simp
  | cons o r ih =>
    intro xs hx
    simp only [absXs] at hx
    split at hx
    · rename_i x l h1 h2
      cases hx
      obtain ⟨i1, i2⟩ := ih h2
      refine ⟨by simp [i1], fun j y hj => ?_⟩
      match j, hj with
      | 0, hj => simp at hj; subst hj; simpa using absX_rel h h1
      | j + 1, hj => have := i2 j y (by simpa using hj); simpa using this
    · cases hx

def KK.of : TypeDesc → Option KK
  | .int _ => some .int
  | .string => some .str
  | .bool => some .bool
  | _ => none
theorem KK.of_fits {d : TypeDesc} {k : KK} (h : KK.of d = some k) : k.fits d = true := by
  unfold KK.of at h; split at h <;> first | (cases h; rfl) | (cases h; done)
def NK.of : TypeDesc → Option NK
  | .pointer _ => some .ptr
  | .slice _ => some .slice
  | .map _ _ => some .map
  | .func _ _ _ => some .func
  | _ => none
theorem NK.of_fits {d : TypeDesc} {k : NK} (h : NK.of d = some k) : k.fits d = true := by
  unfold NK.of at h; split at h <;> first | (cases h; rfl) | (cases h; done)

/-- The element type of a slice type, its cells, its bytes, its zero. -/
def sliceInfo (P : Program) (t : TypeId) : Option (TypeId × TypeInfo × Value) :=
  match P.underlying t with
  | some (.slice e) => match P.info? e with | some i => (match i.zero with | some z => if z.cells.size = i.size ∧ 0 < i.size then some (e, i, z) else none | none => none) | none => none
  | _ => none
theorem sliceInfo_some {P : Program} {t e : TypeId} {i : TypeInfo} {z : Value} (h : sliceInfo P t = some (e, i, z)) : P.underlying t = some (.slice e) ∧ P.info? e = some i ∧ i.zero = some z ∧ z.cells.size = i.size ∧ 0 < i.size := by
  unfold sliceInfo at h
  split at h
  · rename_i e' hu
    split at h
    · rename_i i' hi
      split at h
      · rename_i z' hz
        split at h
        · rename_i hc; cases h; exact ⟨hu, hi, hz, hc.1, hc.2⟩
        · cases h
      · cases h
    · cases h
  · cases h
def aggOf (P : Program) (t : TypeId) : Option (Option Nat × TypeDesc × TypeInfo) :=
  match P.underlying t, P.info? t with
  | some d, some i => some (if aggD d then some i.size else none, d, i)
  | _, _ => none
theorem aggOf_some {P : Program} {t : TypeId} {agg : Option Nat} {d : TypeDesc} {i : TypeInfo} (h : aggOf P t = some (agg, d, i)) : P.underlying t = some d ∧ P.info? t = some i ∧ agg = if aggD d then some i.size else none := by
  unfold aggOf at h
  split at h
  · rename_i d' i' h1 h2; cases h; exact ⟨h1, h2, rfl⟩
  · cases h
def fieldOf (P : Program) (t : TypeId) (n : Nat) : Option Field :=
  match P.underlying t with
  | some (.struct fs) => fs[n]?
  | _ => none
theorem fieldOf_some {P : Program} {t : TypeId} {n : Nat} {f : Field} (h : fieldOf P t n = some f) : ∃ fs, P.underlying t = some (.struct fs) ∧ fs[n]? = some f := by
  unfold fieldOf at h
  split at h
  · rename_i fs hu; exact ⟨fs, hu, h⟩
  · cases h
def zeroOf (P : Program) (t : TypeId) : Option (TypeInfo × Value × AV) :=
  match P.info? t with
  | some i => match i.zero with | some z => (match absConst z with | some a => some (i, z, a) | none => none) | none => none
  | none => none
theorem zeroOf_some {P : Program} {t : TypeId} {i : TypeInfo} {z : Value} {a : AV} (h : zeroOf P t = some (i, z, a)) : P.info? t = some i ∧ i.zero = some z ∧ absConst z = some a := by
  unfold zeroOf at h
  split at h
  · rename_i i' hi
    split at h
    · rename_i z' hz
      split at h
      · rename_i a' ha; cases h; exact ⟨hi, hz, ha⟩
      · cases h
    · cases h
  · cases h
def K1.of : TypeDesc → Option K1
  | .int _ => some .int
  | .string => some .str
  | .bool => some .bool
  | _ => none
def k1s (P : Program) : List Field → Option (List K1)
  | [] => some []
  | f :: l => match P.underlying f.type with | some d => (match K1.of d, k1s P l with | some k, some r => some (k :: r) | _, _ => none) | none => none
/-- The kinds of a struct's fields, if these are plain. -/
def rowKK (P : Program) (t : TypeId) : Option (List K1) :=
  match P.underlying t with
  | some (.struct fs) => match k1s P fs.toList with | some ks => if recFits P t ks = true then some ks else none | none => none
  | _ => none
theorem rowKK_some {P : Program} {t : TypeId} {ks : List K1} (h : rowKK P t = some ks) : recFits P t ks = true := by
  unfold rowKK at h
  split at h
  · split at h
    · split at h
      · rename_i hr; cases h; exact hr
      · cases h
    · cases h
  · cases h
def kkOf (P : Program) (t : TypeId) : Option KK :=
  match P.underlying t with
  | some d => match KK.of d with | some k => some k | none => (match rowKK P t with | some ks => some (.row ks) | none => none)
  | none => none
theorem kkOf_some {P : Program} {t : TypeId} {k : KK} (h : kkOf P t = some k) : k.suits P t := by
  unfold kkOf at h
  split at h
  · rename_i d hd
    split at h
    · rename_i k' hk; cases h; exact .inl ⟨d, hd, KK.of_fits hk⟩
    · split at h
      · rename_i ks hr; cases h; exact .inr ⟨ks, rfl, rowKK_some hr⟩
      · cases h
  · cases h
def mapInfo (P : Program) (t : TypeId) : Option (TypeId × TypeId × KK) :=
  match P.underlying t with
  | some (.map kt et) => match kkOf P kt with | some k => some (kt, et, k) | none => none
  | _ => none
theorem mapInfo_some {P : Program} {t kt et : TypeId} {k : KK} (h : mapInfo P t = some (kt, et, k)) : P.underlying t = some (.map kt et) ∧ k.suits P kt := by
  unfold mapInfo at h
  split at h
  · rename_i kt' et' hu
    split at h
    · rename_i k' hk; cases h; exact ⟨hu, kkOf_some hk⟩
    · cases h
  · cases h
def places (P : Program) : List Field → Option (List (Nat × Nat))
  | [] => some []
  | f :: r => match P.info? f.type, places P r with | some i, some l => some ((f.offset, i.size) :: l) | _, _ => none
theorem places_some {P : Program} : ∀ {fs : List Field} {l : List (Nat × Nat)}, places P fs = some l → ∀ w : World, (fs.mapM fun f => (Prod.mk f.offset <$> sizeOf f.type : Sem (Nat × Nat))).run P w = .ok l w := by
  intro fs
  induction fs with
  | nil => intro l h w; simp [places] at h; subst h; rfl
  | cons f r ih =>
    intro l h w
    simp only [places] at h
    split at h
    · rename_i i l' hi hl
      cases h
      simp [List.mapM_cons, run_sizeOf' hi, ih hl w]
    · cases h
def absParts (pl : List (Nat × Nat)) : List (Nat × Operand) → Option (List (Nat × Nat × AX))
  | [] => some []
  | (k, o) :: r => match pl[k]?, absX o, absParts pl r with | some p, some x, some l => some ((p.1, p.2, x) :: l) | _, _, _ => none
theorem absParts_some {g : Ghost} {n : Nat} {tm : Nat → AV} {a : Act} (h : RelT g n tm a) {pl : List (Nat × Nat)} : ∀ {parts : List (Nat × Operand)} {l : List (Nat × Nat × AX)}, absParts pl parts = some l →
    parts.length = l.length ∧ ∀ (k : Nat) (q : Nat × Operand) (o : Nat × Nat × AX), parts[k]? = some q → l[k]? = some o → pl[q.1]? = some (o.1, o.2.1) ∧ RelV g (o.2.2.ev tm) (a.eval q.2) := by
  intro parts
  induction parts with
  | nil => intro l hl; simp [absParts] at hl; subst hl; simp
  | cons q r ih =>
    intro l hl
    obtain ⟨k, o⟩ := q
    simp only [absParts] at hl
    split at hl
    · rename_i p x l' h1 h2 h3
      cases hl
      obtain ⟨i1, i2⟩ := ih h3
      refine ⟨by simp [i1], fun j q o' hq ho => ?_⟩
      match j, hq, ho with
      | 0, hq, ho => simp at hq ho; subst hq; subst ho; exact ⟨h1, absX_rel h h2⟩
      | j + 1, hq, ho => exact i2 j q o' (by simpa using hq) (by simpa using ho)
    · cases hl

def absOX : Option Operand → Option (Option AX)
  | none => some none
  | some o => match absX o with | some x => some (some x) | none => none

def ownB (own : List Nat) : Option Nat → Bool
  | some d => own.contains d
  | none => false

/-- The resolved operation of an operation; own: the slots whose literals are owned. -/
def resolveOp (P : Program) (own : List Nat) (dst : Option Nat) (op : Op) : Option AOp :=
  match op with
  | .move x => match absX x with | some x => some (.move x) | none => none
  | .assign x => match absX x with | some x => some (.move x) | none => none
  | .pick c a b => match absX c, absX a, absX b with | some c, some a, some b => some (.pick c a b) | _, _, _ => none
  | .alloc e => match zeroOf P e with | some (_, _, za) => some (.new e (.c za)) | none => none
  | .box e x => match absX x with | some x => some (.new e x) | none => none
  | .build t parts =>
    match zeroOf P t, P.underlying t with
    | some (_, _, za), some (.struct fs) =>
      match za.cellsOf, places P fs.toList with
      | some zc, some pl => match absParts pl parts.toList with | some l => some (.build zc l) | none => none
      | _, _ => none
    | _, _ => none
  | .buildSlice t len parts =>
    match sliceInfo P t with
    | some (e, i, _) =>
      if parts.size = len ∧ len * i.size ≤ 16777216 ∧ len ≤ 16777216 ∧ parts.toList.map (·.1) = List.range len then
        match absXs (parts.toList.map (·.2)) with | some xs => some (.lit (ownB own dst) e i.size xs) | none => none
      else none
    | none => none
  | .load t a => match aggOf P t, absX a with | some (agg, _, _), some a => some (.load agg a) | _, _ => none
  | .store t a x => match P.info? t, absX a, absX x with | some i, some a, some x => some (.store i.size a x) | _, _, _ => none
  | .nilCheck x => match absX x with | some x => some (.nilck x) | none => none
  | .binOp op t x y _ =>
    match P.underlying t, absX x, absX y with
    | some d, some x, some y =>
      match KK.of d with
      | some k => some (.bin k op x y)
      | none =>
        match NK.of d, op with
        | some k, .eql => some (.nileq k false x y)
        | some k, .neq => some (.nileq k true x y)
        | none, .eql => match rowKK P t with | some ks => some (.bin (.row ks) .eql x y) | none => none
        | none, .neq => match rowKK P t with | some ks => some (.bin (.row ks) .neq x y) | none => none
        | _, _ => none
    | _, _, _ => none
  | .unOp op _ x =>
    match op, absX x with
    | .not, some x => some (.not x)
    | .neg, some x => some (.neg x)
    | _, _ => none
  | .convert src dst x =>
    match P.underlying src, P.underlying dst, absX x with
    | some (.int _), some (.int k), some x => some (.conv k x)
    | some .string, some .string, some x => some (.same x)
    | some (.slice e), some .string, some x => match P.underlying e with | some (.int .u8) => some (.bstr x) | _ => none
    | _, _, _ => none
  | .makeFunc fn first captured => match absXs first.toList, absXs captured.toList with | some a, some b => some (.mkfn fn a b) | _, _ => none
  | .makeMap _ none => some .mkmap
  | .makeSlice t l c =>
    match sliceInfo P t, absX l, absX c with
    | some (e, i, z), some l, some c => match absConst z with | some za => (match za.cellsOf with | some zc => some (.mkslice e i.size i.bytes zc l c) | none => none) | none => none
    | _, _, _ => none
  | .slice t x lo hi none =>
    match absX x, absOX lo, absOX hi with
    | some x, some lo, some hi =>
      match P.underlying t with
      | some .string => some (.cut .str 1 x lo hi)
      | _ => match sliceInfo P t with | some (_, i, _) => some (.cut .slice i.size x lo hi) | none => none
    | _, _, _ => none
  | .fieldAddr t x n =>
    match fieldOf P t n, absX x with
    | some f, some x => match P.info? f.type with | some i => if i.size ≠ 0 then some (.faddr f.offset x) else none | none => none
    | _, _ => none
  | .field t x n =>
    match fieldOf P t n, absX x with
    | some f, some x => match aggOf P f.type with | some (agg, _, _) => some (.field f.offset agg x) | none => none
    | _, _ => none
  | .indexAddr t x ix => match sliceInfo P t, absX x, absX ix with | some (_, i, _), some x, some ix => some (.iaddr i.size x ix) | _, _, _ => none
  | .index t x ix => match P.underlying t, absX x, absX ix with | some .string, some x, some ix => some (.index x ix) | _, _, _ => none
  | .lookup t m k ok =>
    match mapInfo P t, absX m, absX k with
    | some (_, et, kd), some m, some k => match zeroOf P et with | some (_, _, za) => some (.lookup kd za ok m k) | none => none
    | _, _, _ => none
  | .mapUpdate t m k x => match mapInfo P t, absX m, absX k, absX x with | some (_, _, kd), some m, some k, some x => some (.mapset kd m k x) | _, _, _, _ => none
  | .insert t m k x => match mapInfo P t, absX m, absX k, absX x with | some (_, _, kd), some m, some k, some x => some (.mapset kd m k x) | _, _, _, _ => none
  | .extract x i => match absX x with | some x => some (.extract x i) | none => none
  | .call { callee := .builtin .len, args, argTypes } =>
    match args.toList, argTypes.toList with
    | [x], [t] =>
      match absX x, P.underlying t with
      | some x, some .string => some (.len .str x)
      | some x, some (.slice _) => some (.len .slice x)
      | some x, some (.map _ _) => some (.len .map x)
      | _, _ => none
    | _, _ => none
  | .call { callee := .builtin .append, args, argTypes } =>
    match args.toList, argTypes.toList with
    | [s, x], [t, t'] =>
      if t = t' then
        match sliceInfo P t, absX s, absX x with
        | some (e, i, _), some s, some x => some (.append e i.size i.bytes s x)
        | _, _, _ => none
      else none
    | _, _ => none
  | .call { callee := .builtin .min, args, argTypes } =>
    match args.toList with
    | [x, y] => match absX x, absX y with | some x, some y => some (.min2 x y) | _, _ => none
    | _ => none
  | .call { callee := .builtin .max, args, argTypes } =>
    match args.toList with
    | [x, y] => match absX x, absX y with | some x, some y => some (.max2 x y) | _, _ => none
    | _ => none
  | .call { callee := .builtin .delete, args, argTypes } =>
    match args.toList, argTypes.toList with
    | [m, k], [t, t'] => match mapInfo P t, absX m, absX k with | some (_, _, kd), some m, some k => some (.mapdel kd m k) | _, _, _ => none
    | _, _ => none
  | .call { callee := .value (.func f), args, argTypes } => match absXs args.toList with | some xs => some (.call f xs) | none => none
  | .call { callee := .value f, args, argTypes } => match absX f, absXs args.toList with | some f, some xs => some (.callv f xs) | _, _ => none
  | _ => none
end Go.AL
