/-
  The symbolic machine (values, heaps, code) and that what it loads is what the real run loads.
-/
import Derived.WalkKit
import Derived.RangeFuncLeaves
import Derived.OrdersIn
import Derived.Deep.MidRow
import Derived.Laws.CopyRow
import Derived.Laws.AppendOwn
import Derived.Orders
/- A symbolic machine for the model's machine: values, blocks with names, what they stand for. -/
namespace Go.SX
open Go

mutual
/-- a symbolic value. Names: places in the symbolic heap. -/
inductive SV where
  | any
  | raw (v : Value)
  | ptr (n off : Nat)
  | ep (n off i w fo : Nat)
  | sl (n off i w len cap : Nat)
  | rep (v : Value) (i w fo : Nat)
  | agg (cs : SC)
  | tup (cs : SC)
  | ifc (t : Nat) (v : SV)
  | fn (f : Fn) (first cap : SC)
  | yl (n : Nat)
  | mp (n : Nat)
  | ze
/-- chunks of cells: how many cells, and what they hold -/
inductive SC where
  | nil
  | cons (k : Nat) (v : SV) (r : SC)
end

instance : Inhabited SV := ⟨.any⟩
instance : Inhabited SC := ⟨.nil⟩

/-- temporaries -/
inductive Tm where
  | nil
  | cons (t : Nat) (v : SV) (r : Tm)

def Tm.get : Tm → Nat → SV
  | .nil, _ => .any
  | .cons t v r, k => match Nat.beq t k with | true => v | false => r.get k

def Tm.put : Tm → Nat → SV → Tm
  | .nil, k, x => .cons k x .nil
  | .cons t v r, k, x => match Nat.blt t k with
    | true => .cons t v (r.put k x)
    | false => match Nat.beq t k with
      | true => .cons t x r
      | false => .cons k x (.cons t v r)

def Tm.keep (m : Nat) : Tm → Tm
  | .nil => .nil
  | .cons t v r => match Nat.testBit m t with | true => .cons t v (r.keep m) | false => r.keep m

theorem beqF {a b : Nat} (h : a ≠ b) : Nat.beq a b = false := by
  cases hb : Nat.beq a b with
  | false => rfl
  | true => exact absurd (Nat.eq_of_beq_eq_true hb) h
theorem beqT (a : Nat) : Nat.beq a a = true := Nat.beq_refl a

theorem bltT {a b : Nat} (h : a < b) : Nat.blt a b = true := by rw [Nat.blt_eq]; exact h
theorem bltL {a b : Nat} (h : Nat.blt a b = true) : a < b := by rw [Nat.blt_eq] at h; exact h
theorem Tm.get_put (tm : Tm) (k : Nat) (x : SV) (j : Nat) : (tm.put k x).get j = if k = j then x else tm.get j := by
  induction tm with
  | nil =>
    simp only [Tm.put, Tm.get]
    by_cases h : k = j
    · subst h; simp
    · simp [beqF h, h]
  | cons t v r ih =>
    simp only [Tm.put]
    cases hb : Nat.blt t k with
    | true =>
      have hlt : t < k := bltL hb
      simp only [Tm.get]
      by_cases h2 : t = j
      · subst h2; rw [if_neg (by omega)]; simp
      · simp only [beqF h2]; exact ih
    | false =>
      by_cases h : t = k
      · subst h; simp only [beqT, Tm.get]
        by_cases h2 : t = j
        · subst h2; simp
        · simp [beqF h2, h2]
      · simp only [beqF h, Tm.get]
        by_cases h2 : k = j
        · subst h2; simp
        · simp [beqF h2, h2]

theorem Tm.put_comm (tm : Tm) {k j : Nat} (x y : SV) (h : k < j) : (tm.put k x).put j y = (tm.put j y).put k x := by
  induction tm with
  | nil =>
    have h1 : Nat.blt k j = true := bltT h
    have h2 : Nat.blt j k = false := by
      cases hb : Nat.blt j k with
      | false => rfl
      | true => exact absurd (bltL hb) (by omega)
    simp [Tm.put, h1, h2, beqF (show j ≠ k by omega)]
  | cons t v r ih =>
    have blt_f : ∀ {a b : Nat}, b ≤ a → Nat.blt a b = false := by
      intro a b hle
      cases hb : Nat.blt a b with
      | false => rfl
      | true => exact absurd (bltL hb) (by omega)
    have blt_t : ∀ {a b : Nat}, a < b → Nat.blt a b = true := fun h => bltT h
    rcases Nat.lt_trichotomy t k with h1 | h1 | h1
    · simp [Tm.put, blt_t h1, blt_t (show t < j by omega), ih]
    · subst h1
      simp [Tm.put, blt_f (Nat.le_refl t), blt_t h]
    · rcases Nat.lt_trichotomy t j with h2 | h2 | h2
      · simp [Tm.put, blt_f (show k ≤ t by omega), beqF (show t ≠ k by omega), blt_t h, blt_t h2]
      · subst h2
        simp [Tm.put, blt_f (show k ≤ t by omega), beqF (show t ≠ k by omega), blt_t h, blt_f (Nat.le_refl t)]
      · simp [Tm.put, blt_f (show k ≤ t by omega), beqF (show t ≠ k by omega), blt_t h, blt_f (show j ≤ t by omega), beqF (show t ≠ j by omega), blt_f (show k ≤ j by omega), beqF (show j ≠ k by omega)]

theorem Tm.get_keep (m : Nat) (tm : Tm) (j : Nat) : (tm.keep m).get j = tm.get j ∨ (tm.keep m).get j = .any := by
  induction tm with
  | nil => exact .inl rfl
  | cons t v r ih =>
    simp only [Tm.keep]
    cases ht : Nat.testBit m t with
    | true =>
      simp only [Tm.get]
      cases hb : Nat.beq t j
      · exact ih
      · exact .inl rfl
    | false =>
      simp only [Tm.get]
      cases hb : Nat.beq t j
      · exact ih
      · have : t = j := Nat.eq_of_beq_eq_true hb
        subst this
        right
        clear ih
        induction r with
        | nil => rfl
        | cons u x r ih =>
          simp only [Tm.keep]
          cases hu : Nat.testBit m u with
          | true =>
            simp only [Tm.get]
            cases hb : Nat.beq u t with
            | false => exact ih
            | true => have : u = t := Nat.eq_of_beq_eq_true hb
                      subst this; rw [hu] at ht; cases ht
          | false => exact ih

/-- a real block that a name stands for -/
inductive Blk where
  | absent
  | at (b base sz : Nat)

abbrev RO := Nat → Option Obj

/-- one cell's value -/
def scal : Value → Bool
  | .agg _ => false
  | .tuple _ => false
  | _ => true

mutual
inductive DV (T : List Blk) : SV → Value → Prop
  | any (v) : DV T .any v
  | raw (v) : DV T (.raw v) v
  | ptr {n off b base sz} : T[n]? = some (.at b base sz) → DV T (.ptr n off) (.pointer (some ⟨b, base + off, none⟩))
  | ep {n off i w fo b base sz} : T[n]? = some (.at b base sz) → DV T (.ep n off i w fo) (.pointer (some ⟨b, base + off + i * w + fo, none⟩))
  | sl {n off i w len cap b base sz} : T[n]? = some (.at b base sz) → len ≤ cap → base + off + i * w + cap * w ≤ sz →
      DV T (.sl n off i w len cap) (.slice (some ⟨b, base + off + i * w, none⟩) len cap)
  | sl0 {n off i w b base sz o} : T[n]? = some (.at b base sz) → DV T (.sl n off i w 0 0) (.slice (some ⟨b, o, none⟩) 0 0)
  | slnil {n off i w x} : T[n]? = some .absent → DV T (.sl n off i w 0 0) (.slice x 0 0)
  | ze {x} : DV T .ze (.slice x 0 0)
  | rep {v i w fo k o len cap} : v = .slice (some ⟨k, o, none⟩) len cap → DV T (.rep v i w fo) (.pointer (some ⟨k, o + i * w + fo, none⟩))
  | agg {cs : SC} {arr : Array Value} : DC T cs arr.toList → DV T (.agg cs) (.agg arr)
  | tup {cs : SC} {arr : Array Value} : DL T cs arr.toList → DV T (.tup cs) (.tuple arr)
  | ifc {t s v} : DV T s v → DV T (.ifc t s) (.iface t v)
  | fn {f : Fn} {a b : SC} {x y : Array Value} : DL T a x.toList → DL T b y.toList → DV T (.fn f a b) (.func f x y)
  | yl {n b base sz} : T[n]? = some (.at b base sz) → DV T (.yl n) (.func (.yield b) #[] #[])
  | mp {n b base sz} : T[n]? = some (.at b base sz) → DV T (.mp n) (.map (some b))
/-- chunks of cells -/
inductive DC (T : List Blk) : SC → List Value → Prop
  | nil : DC T .nil []
  | one {s x r l} : DV T s x → scal x = true → DC T r l → DC T (.cons 1 s r) (x :: l)
  | many {k s arr r l} : k ≠ 1 → DV T s (.agg arr) → arr.size = k → (∀ x ∈ arr.toList, scal x = true) → DC T r l → DC T (.cons k s r) (arr.toList ++ l)
/-- a row of values, whatever their widths -/
inductive DL (T : List Blk) : SC → List Value → Prop
  | nil : DL T .nil []
  | cons {k s x r l} : DV T s x → DL T r l → DL T (.cons k s r) (x :: l)
end

/-- names kept, more names: what a value stands for stays. -/
theorem ext_get {T L : List Blk} {n : Nat} {b : Blk} (h : T[n]? = some b) : (T ++ L)[n]? = some b := by
  rw [List.getElem?_append_left (List.getElem?_eq_some_iff.1 h).1]; exact h

mutual
theorem DV.ext {T : List Blk} (L : List Blk) : ∀ {s : SV} {v : Value}, DV T s v → DV (T ++ L) s v
  | _, _, .any v => .any v
  | _, _, .raw v => .raw v
  | _, _, .ptr h => .ptr (ext_get h)
  | _, _, .ep h => .ep (ext_get h)
  | _, _, .sl h a b => .sl (ext_get h) a b
  | _, _, .sl0 h => .sl0 (ext_get h)
  | _, _, .slnil h => .slnil (ext_get h)
  | _, _, .ze => .ze
  | _, _, .rep h => .rep h
  | _, _, .agg h => .agg (DC.ext L h)
  | _, _, .tup h => .tup (DL.ext L h)
  | _, _, .ifc h => .ifc (DV.ext L h)
  | _, _, .fn a b => .fn (DL.ext L a) (DL.ext L b)
  | _, _, .yl h => .yl (ext_get h)
  | _, _, .mp h => .mp (ext_get h)
theorem DC.ext {T : List Blk} (L : List Blk) : ∀ {s : SC} {l : List Value}, DC T s l → DC (T ++ L) s l
  | _, _, .nil => .nil
  | _, _, .one a b c => .one (DV.ext L a) b (DC.ext L c)
  | _, _, .many a b c d e => .many a (DV.ext L b) c d (DC.ext L e)
theorem DL.ext {T : List Blk} (L : List Blk) : ∀ {s : SC} {l : List Value}, DL T s l → DL (T ++ L) s l
  | _, _, .nil => .nil
  | _, _, .cons a b => .cons (DV.ext L a) (DL.ext L b)
end

theorem DC.scal {T : List Blk} : ∀ {s : SC} {l : List Value}, DC T s l → ∀ x ∈ l, scal x = true
  | _, _, .nil => by simp
  | _, _, .one _ b c => by intro x hx; cases hx with | head => exact b | tail _ h => exact DC.scal c x h
  | _, _, .many _ _ _ d e => by
    intro x hx
    rcases List.mem_append.1 hx with h | h
    · exact d x h
    · exact DC.scal e x h

def SC.width : SC → Nat
  | .nil => 0
  | .cons k _ r => k + r.width

theorem DC.length {T : List Blk} : ∀ {s : SC} {l : List Value}, DC T s l → l.length = s.width
  | _, _, .nil => rfl
  | _, _, .one _ _ c => by simp [SC.width, DC.length c]; omega
  | _, _, .many _ _ hc _ e => by simp [SC.width, DC.length e, hc]

/-! ### the code, resolved -/

/-- how a type's value lies in memory: one cell, or n cells in chunks of these widths -/
inductive AK where
  | sc
  | ag (n : Nat) (ws : List Nat)

inductive EQK where
  | scal
  | bool
  | err
  | arr
  | ptr
  | other

inductive CVK where
  | int (k : IntKind)
  | s2b (e : Nat)
  | b2s
  | same

inductive SLK where
  | str
  | sl (w : Nat)
  | arr (n w : Nat)

inductive IAK where
  | sl (w : Nat)
  | arr (n w : Nat) (flat : Bool)

inductive IXK where
  | str
  | arr (n : Nat) (k : AK) (w : Nat)

inductive BIK where
  | lenS | lenSl | lenA (n : Nat) | lenM
  | capS
  | app (w e by_ : Nat)
  | appS (w e by_ : Nat)
  | copy (w : Nat)
  | min | max
  | clearM
  | del (mt : Nat)
  | other

inductive OpK where
  | mov (x : Operand)
  | pck (c a b : Operand)
  | alc (z : SC) (e : Nat)
  | box (k : AK) (e : Nat) (x : Operand)
  | bld (z : SC) (ps : List (Nat × AK × Operand))
  | bsl (e : Nat) (k : AK) (n : Nat) (z : Value) (ps : List (Nat × Operand))
  | ld (k : AK) (a : Operand)
  | st (k : AK) (a x : Operand)
  | nck (x : Operand)
  | bin (op : BinOp) (e : EQK) (t : Nat) (x y : Operand)
  | un (op : UnOp) (x : Operand)
  | cvt (k : CVK) (x : Operand)
  | mki (t : Nat) (x : Operand)
  | mkf (f : Fn) (first cap : List Operand)
  | mkm
  | mks (e w by_ : Nat) (z : Value) (l c : Operand)
  | slc (k : SLK) (x : Operand) (lo hi mx : Option Operand)
  | fad (off : Nat) (x : Operand)
  | fld (off : Nat) (k : AK) (x : Operand)
  | iad (k : IAK) (x i : Operand)
  | idx (k : IXK) (x i : Operand)
  | ext (x : Operand) (i : Nat)
  | cal (f : Operand) (args : List Operand)
  | blt (b : BIK) (args : List Operand)
  | oth

structure IO_ where
  dst : Option Nat
  op : OpK
  g : Option (Nat × Bool)

inductive IC where
  | skip
  | seq (a b : IC)
  | reg (id : Nat) (ops : List IO_)
  | draw (id : Nat) (ops : List IO_) (aft : List (List Nat))
  | cnd (c : Operand) (a b : IC)
  | block (id : Nat) (c : IC)
  | loop (m : Nat) (c : IC)
  | rng (f : Operand) (ps : List Nat) (assign body : IC)
  | exit (id : Nat)
  | ret
  | keep (m : Nat) (c : IC)

inductive RV where
  | t (t : Nat)
  | c (a : Nat) (k : AK)

structure IF_ where
  nt : Nat
  body : IC
  res : List RV

end Go.SX

/- The symbolic machine: objects, states, the code's translation, what a state stands for. -/
namespace Go.SX
open Go

/-! ### translation -/
def isAg (P : Program) (t : TypeId) : Bool :=
  match P.underlying t with
  | some (.struct _) | some (.array _ _) => true
  | _ => false

def layout (P : Program) : Nat → TypeId → List Nat
  | 0, _ => [1]
  | n + 1, t =>
    match P.underlying t with
    | some (.struct fs) => fs.toList.flatMap fun f => layout P n f.type
    | some (.array k e) => if isAg P e then (List.replicate k (layout P n e)).flatten else if k = 0 then [] else [k]
    | _ => [1]

def trAK (P : Program) (t : TypeId) : Option AK :=
  match P.info? t, P.underlying t with
  | some i, some d => match d with
    | .struct _ | .array _ _ => some (.ag i.size (layout P 12 t))
    | _ => if i.size = 1 then some .sc else none
  | _, _ => none

def mkSC : List Nat → List Value → Option SC
  | [], [] => some .nil
  | [], _ :: _ => none
  | 1 :: ws, x :: l => if scal x then (mkSC ws l).map (.cons 1 (.raw x)) else none
  | w :: ws, l =>
    if w ≤ l.length && w != 1 && (l.take w).all scal then (mkSC ws (l.drop w)).map (.cons w (.raw (.agg (l.take w).toArray))) else none

def zeroSC (P : Program) (t : TypeId) : Option SC := do
  let i ← P.info? t
  let z ← i.zero
  mkSC (if isAg P t then layout P 12 t else [1]) z.cells.toList

def eqk (P : Program) (t : TypeId) : EQK :=
  match P.underlying t with
  | some .bool => .bool
  | some (.int _) | some .string => .scal
  | some (.interface _) => .err
  | some (.array _ e) => (match P.underlying e with | some (.int _) => if P.eqGuardType P.depth t then .other else .arr | _ => .other)
  | some (.pointer _) => .ptr
  | _ => .other

def trBI (P : Program) (b : Builtin) (ts : Array TypeId) : BIK :=
  match b, (ts[0]?).bind P.underlying, (ts[1]?).bind P.underlying with
  | .len, some .string, _ => .lenS
  | .len, some (.slice _), _ => .lenSl
  | .len, some (.array n _), _ => .lenA n
  | .len, some (.map _ _), _ => .lenM
  | .cap, some (.slice _), _ => .capS
  | .append, some (.slice e), some (.slice _) => (match P.info? e with | some i => (match i.zero with | some z => if z.cells.size = i.size ∧ ts.size = 2 then .app i.size e i.bytes else .other | none => .other) | none => .other)
  | .append, some (.slice e), some .string => (match P.info? e with | some i => (match i.zero with | some z => if z.cells.size = i.size ∧ ts.size = 2 then .appS i.size e i.bytes else .other | none => .other) | none => .other)
  | .copy, some (.slice e), some (.slice _) => (match P.info? e with | some i => .copy i.size | none => .other)
  | .min, _, _ => .min
  | .max, _, _ => .max
  | .clear, some (.map _ _), _ => .clearM
  | .delete, some (.map k _), _ => .del k
  | _, _, _ => .other

def trK (P : Program) (o : Op) : OpK :=
  match o with
  | .move x | .assign x => .mov x
  | .pick c a b => .pck c a b
  | .alloc e => (match zeroSC P e with | some z => .alc z e | none => .oth)
  | .box e v => (match trAK P e with | some k => .box k e v | none => .oth)
  | .build t ps =>
    (match zeroSC P t, P.underlying t with
     | some z, some (.struct fs) => (match ps.toList.mapM (fun (i, x) => (fs[i]?).bind fun f => (trAK P f.type).map fun k => (f.offset, k, x)), fs.toList.mapM (fun f => (P.info? f.type).map fun i => (f.offset, i.size)) with | some l, some _ => .bld z l | _, _ => .oth)
     | some z, some (.array _ e) => (match P.info? e, trAK P e with | some i, some k => .bld z (ps.toList.map fun (j, x) => (j * i.size, k, x)) | _, _ => .oth)
     | _, _ => .oth)
  | .buildSlice t n ps =>
    (match P.underlying t with
     | some (.slice e) => (match P.info? e, trAK P e with
       | some i, some k => (match i.zero with | some z => if n * i.size ≤ 2 ^ 24 then .bsl e k n z ps.toList else .oth | none => .oth)
       | _, _ => .oth)
     | _ => .oth)
  | .load t a => (match trAK P t with | some k => .ld k a | none => .oth)
  | .store t a v => (match trAK P t with | some k => .st k a v | none => .oth)
  | .nilCheck x => .nck x
  | .binOp op t x y _ => .bin op (eqk P t) t x y
  | .unOp op _ x => .un op x
  | .convert s d x =>
    (match P.underlying s, P.underlying d with
     | some (.int _), some (.int k) => .cvt (.int k) x
     | some .string, some (.slice e) => (match P.underlying e with | some (.int .u8) => .cvt (.s2b e) x | _ => .oth)
     | some (.slice e), some .string => (match P.underlying e with | some (.int .u8) => .cvt .b2s x | _ => .oth)
     | some .string, some .string => .cvt .same x
     | _, _ => .oth)
  | .makeInterface t x => (match P.underlying t with | some (.interface _) => .oth | some _ => .mki t x | none => .oth)
  | .makeFunc f a c => .mkf f a.toList c.toList
  | .makeMap _ none => .mkm
  | .makeSlice t l c =>
    (match P.underlying t with
     | some (.slice e) => (match P.info? e with
       | some i => (match i.zero with | some z => .mks e i.size i.bytes z l c | none => .oth)
       | none => .oth)
     | _ => .oth)
  | .slice t x lo hi mx =>
    (match P.underlying t with
     | some .string => .slc .str x lo hi mx
     | some (.slice e) => (match P.info? e with | some i => .slc (.sl i.size) x lo hi mx | none => .oth)
     | some (.array n e) => (match P.info? e with | some i => .slc (.arr n i.size) x lo hi mx | none => .oth)
     | _ => .oth)
  | .fieldAddr t x f => (match P.underlying t with | some (.struct fs) => (match fs[f]? with | some y => (match P.info? y.type with | some i => if i.size ≠ 0 then .fad y.offset x else .oth | none => .oth) | none => .oth) | _ => .oth)
  | .field t x f => (match P.underlying t with | some (.struct fs) => (match fs[f]? with | some y => (match trAK P y.type with | some k => .fld y.offset k x | none => .oth) | none => .oth) | _ => .oth)
  | .indexAddr t x i =>
    (match P.underlying t with
     | some (.slice e) => (match P.info? e with | some j => .iad (.sl j.size) x i | none => .oth)
     | some (.array n e) => (match P.info? e with | some j => .iad (.arr n j.size (!isAg P e)) x i | none => .oth)
     | _ => .oth)
  | .index t x i =>
    (match P.underlying t with
     | some .string => .idx .str x i
     | some (.array n e) => (match trAK P e, P.info? e with | some k, some j => .idx (.arr n k j.size) x i | _, _ => .oth)
     | _ => .oth)
  | .extract x i => .ext x i
  | .call c =>
    (match c.callee with
     | .value f => .cal f c.args.toList
     | .builtin b => .blt (trBI P b c.argTypes) c.args.toList
     | .invoke _ _ => .oth)
  | _ => .oth

def trO (P : Program) (nt : Nat) (ops : Array Oper) (o : Oper) : Option IO_ :=
  match o.dst with
  | some d => if d < nt then
      (match o.guard with
       | none => some ⟨some d, trK P o.op, none⟩
       | some (j, want) => ((ops[j]?).bind (·.dst)).map fun t => ⟨some d, trK P o.op, some (t, want)⟩)
    else none
  | none =>
      (match o.guard with
       | none => some ⟨none, trK P o.op, none⟩
       | some (j, want) => ((ops[j]?).bind (·.dst)).map fun t => ⟨none, trK P o.op, some (t, want)⟩)

/-- temporaries that are read, as a mask (for 'keep' alone: nothing rests on it) -/
def useX : Operand → Nat
  | .tmp t => 1 <<< t
  | _ => 0
def useOps (ops : Array Oper) : Nat :=
  ops.foldl (fun m o => o.op.operands.foldl (fun m x => m ||| useX x) (match o.guard with | some (j, _) => m ||| (match (ops[j]?).bind (·.dst) with | some t => 1 <<< t | none => 0) | none => m)) 0
def useC : Code → Nat
  | .region _ ops _ => useOps ops
  | .seq a b => useC a ||| useC b
  | .cond c a b => useX c ||| useC a ||| useC b
  | .block _ c | .loop c | .scope c => useC c
  | .rangeFunc f _ a b => useX f ||| useC a ||| useC b
  | _ => 0

def trAft (ops : Array Oper) : List (List Nat) := ops.toList.map fun o => (o.after.toList.filter (Region.binds .any)).map (·.on)

/-- what is asked of a region that draws its order -/
def drStatic (ops : Array Oper) : Bool :=
  ops.toList.all (fun o => match o.op with | .select _ _ | .defer _ => false | _ => true) &&
  (List.range ops.size).all fun i => (List.range ops.size).all fun j => i == j ||
    (match ops[i]?, ops[j]? with
     | some x, some y => (y.after.any fun e => Region.binds .any e && e.on == i) || (x.after.any fun e => Region.binds .any e && e.on == j) || x.apart ops y
     | _, _ => false)

def trC (P : Program) (nt : Nat) (later : Nat) : Code → Option IC
  | .skip => some .skip
  | .region id ops d => if d && !drStatic ops then none else (ops.toList.mapM (trO P nt ops)).map fun l => if d then .draw id l (trAft ops) else .reg id l
  | .seq a b => do
    let m := useC b ||| later
    let a ← trC P nt m a
    let b ← trC P nt later b
    some (.seq a (.keep m b))
  | .cond c a b => do
    let a ← trC P nt later a
    let b ← trC P nt later b
    some (.cnd c a b)
  | .block id c => (trC P nt later c).map (.block id)
  | .loop c => (trC P nt (useC c ||| later) c).map (.loop (useC c ||| later))
  | .rangeFunc f ps a b => do
    let m := useC a ||| useC b ||| later
    let a ← trC P nt m a
    let b ← trC P nt m b
    if ps.all (· < nt) then some (.rng f ps.toList a b) else none
  | .exit id => some (.exit id)
  | .ret => some .ret
  | _ => none

def trF (P : Program) (fn : Func) : Option IF_ := do
  let body ← fn.body
  let m := fn.results.foldl (fun m r => match r with | .tmp t => m ||| (1 <<< t) | .cell a _ => m ||| (1 <<< a)) 0
  let b ← trC P fn.ntmps m body
  let rs ← fn.results.toList.mapM fun r => match r with | .tmp t => some (RV.t t) | .cell a t => (trAK P t).map (RV.c a)
  some ⟨fn.ntmps, b, rs⟩

/-! ### objects and states -/
inductive Xit where
  | normal
  | exit (id : Nat)
  | ret

structure SLoop where
  st : LoopState
  pend : Option Xit
  nt : Nat
  tm : Tm
  ps : List Nat
  asg : IC
  body : IC
  dfr : Nat

inductive SObj where
  | dead
  | cells (cs : SC) (e : Nat)
  | buf (es : List Value) (w e : Nat)
  | mapo (es : Array MapEntry) (clock : Nat)
  | loop (l : SLoop)
  | dfr

structure St where
  ro : RO
  heap : List SObj
  tm : Tm
  nt : Nat
  dfr : List Nat
  rnd : Option Nat
  bs : Nat

def Xit.code : Xit → Option Code
  | .normal => none
  | .exit id => some (.exit id)
  | .ret => some .ret

def Xit.real : Xit → Exit
  | .normal => .normal
  | .exit id => .exit id
  | .ret => .ret

def vcells (v : Value) : List Value := v.cells.toList

def DT (T : List Blk) (tm : Tm) (tmps : Array Value) : Prop := ∀ t, DV T (tm.get t) (tmps.getD t undef)

/-- the record of a range over a function -/
structure DLoop (P : Program) (T : List Blk) (l : SLoop) (r : Loop) : Prop where
  st : r.state = l.st
  pend : r.pending = l.pend.bind Xit.code
  nt : r.tmps.size = l.nt
  tm : DT T l.tm r.tmps
  ps : r.params.toList = l.ps
  psl : ∀ p ∈ l.ps, p < l.nt
  asg : ∃ m, trC P l.nt m r.assign = some l.asg
  body : ∃ m, trC P l.nt m r.body = some l.body
  dfr : ∃ base sz, T[l.dfr]? = some (.at r.defers base sz)

/-- an element of a buffer, of w cells -/
def EOk (w : Nat) (v : Value) : Prop := (w = 1 → scal v = true) ∧ (w ≠ 1 → ∃ arr, v = .agg arr ∧ arr.size = w ∧ ∀ x ∈ arr.toList, scal x = true)

/-- what a name's object asks of the real heap -/
def DO (P : Program) (w : World) (T : List Blk) (n : Nat) : SObj → Prop
  | .dead => True
  | .cells cs e => ∃ b arr, T[n]? = some (.at b 0 arr.size) ∧ w.heap[b]? = some (.cells arr e (0, 0)) ∧ DC T cs arr.toList
  | .buf es wd e => (T[n]? = some .absent ∧ es = []) ∨
      ∃ b base arr post pre, T[n]? = some (.at b base arr.size) ∧ w.heap[b]? = some (.cells arr e (0, 0)) ∧
        arr.toList = pre ++ (es.flatMap vcells ++ post) ∧ pre.length = base ∧ (∀ v ∈ es, EOk wd v)
  | .mapo es clk => ∃ b sz, T[n]? = some (.at b 0 sz) ∧ w.heap[b]? = some (.map es clk)
  | .loop l => ∃ b sz r, T[n]? = some (.at b 0 sz) ∧ w.heap[b]? = some (.loop r) ∧ DLoop P T l r
  | .dfr => ∃ b sz, T[n]? = some (.at b 0 sz) ∧ w.heap[b]? = some (.deferred (some []))

/-- a slice of memory that only is read: its elements -/
def ROSl (R : RO) (v : Value) (es : List Value) (wd : Nat) : Prop :=
  (∃ k o cap arr e fr pre post, v = .slice (some ⟨k, o, none⟩) es.length cap ∧ es.length ≤ cap ∧ R k = some (.cells arr e fr) ∧
    arr.toList = pre ++ (es.flatMap vcells ++ post) ∧ pre.length = o ∧ ∀ v ∈ es, EOk wd v) ∨ (es = [] ∧ ∃ q, v = .slice q 0 0)

def SObj.live : SObj → Bool
  | .dead => false
  | _ => true

def Live (H : List SObj) (n : Nat) : Prop := ∃ o, H[n]? = some o ∧ o.live = true

structure DH (P : Program) (w : World) (R : RO) (T : List Blk) (H : List SObj) : Prop where
  len : T.length = H.length
  obj : ∀ (n : Nat) (o : SObj), H[n]? = some o → DO P w T n o
  dis : ∀ (n m b bs sz bs' sz' : Nat), T[n]? = some (Blk.at b bs sz) → T[m]? = some (Blk.at b bs' sz') → Live H n → Live H m → n = m
  lt : ∀ (n b bs sz : Nat), T[n]? = some (Blk.at b bs sz) → b < w.heap.size
  ro : ∀ (k : Nat) (o : Obj), R k = some o → w.heap[k]? = some o
  rod : ∀ (k : Nat) (o : Obj) (n bs sz : Nat), R k = some o → T[n]? = some (Blk.at k bs sz) → Live H n → False

structure Cx where
  w0 : World
  T0 : List Blk
  R0 : RO

def OwnB (T : List Blk) (k : Nat) : Prop := ∃ n bs sz : Nat, T[n]? = some (Blk.at k bs sz)

/-- how a world has grown since a call began -/
structure Rel (c : Cx) (w : World) (T : List Blk) : Prop where
  os : w.os = c.w0.os
  tape : w.tape = c.w0.tape
  output : w.output = c.w0.output
  size : c.w0.heap.size ≤ w.heap.size
  block : ∀ k, k < c.w0.heap.size → ¬ OwnB c.T0 k → w.heap[k]? = c.w0.heap[k]?
  pre : ∃ L, T = c.T0 ++ L
  own : ∀ k, OwnB T k → OwnB c.T0 k ∨ c.w0.heap.size ≤ k

/-- how the part of the heap that only is read has grown -/
structure RG (R R' : RO) (w : World) (T : List Blk) : Prop where
  sub : ∀ k o, R k = some o → R' k = some o
  new : ∀ k o, R' k = some o → R k = some o ∨ OwnB T k ∨ w.heap.size ≤ k

theorem RG.refl (R : RO) (w : World) (T : List Blk) : RG R R w T := ⟨fun _ _ h => h, fun _ _ h => .inl h⟩

def FW (F : Fence) (T : List Blk) : Option Nat → Prop
  | none => F = Fence.wide
  | some n => ∃ b bs sz : Nat, T[n]? = some (Blk.at b bs sz) ∧ F = Fence.wide.inRound b

inductive DD (T : List Blk) : List Nat → List Deferred → Prop
  | nil : DD T [] []
  | cons {n b bs sz ns ds} : T[n]? = some (.at b bs sz) → DD T ns ds → DD T (n :: ns) ({ target := .collected b, args := #[] } :: ds)

structure Den (P : Program) (c : Cx) (F : Fence) (s : St) (a : Act) (w : World) (T : List Blk) : Prop where
  rel : Rel c w T
  dh : DH P w s.ro T s.heap
  rg : RG c.R0 s.ro c.w0 c.T0
  tm : DT T s.tm a.tmps
  nt : a.tmps.size = s.nt
  dfr : DD T s.dfr a.defers
  fw : FW F T s.rnd
  bs : c.T0.length ≤ s.bs

end Go.SX

/- The symbolic machine: one operation's condition. -/
namespace Go.SX
open Go

def ev (tm : Tm) : Operand → SV
  | .tmp t => tm.get t
  | .const v => .raw v
  | .global g => .raw (.pointer (some ⟨g, 0, none⟩))
  | .func f => .fn (.func f) .nil .nil

/-! ### chunks -/
def SC.drop : SC → Nat → Option SC
  | s, 0 => some s
  | .nil, _ + 1 => none
  | .cons k _ r, n + 1 => match Nat.ble k (n + 1) with | true => r.drop (n + 1 - k) | false => none

def SC.take : SC → Nat → Option SC
  | _, 0 => some .nil
  | .nil, _ + 1 => none
  | .cons k v r, n + 1 => match Nat.ble k (n + 1) with | true => (match r.take (n + 1 - k) with | some s => some (.cons k v s) | none => none) | false => none

def SC.app : SC → SC → SC
  | .nil, s => s
  | .cons k v r, s => .cons k v (r.app s)

def cellAt : Value → Nat → Value
  | .agg a, i => a.getD i undef
  | _, _ => undef

def subAgg : Value → Nat → Nat → Value
  | .agg a, i, n => .agg (a.extract i (i + n))
  | _, _, _ => undef

/-- a value of n cells -/
def AggOk (v : Value) (n : Nat) : Prop := ∃ a, v = .agg a ∧ a.size = n ∧ ∀ x ∈ a.toList, scal x = true

def SC.sub : SC → Nat → Option SV
  | .nil, _ => none
  | .cons k v r, n => match Nat.ble k n with
    | true => r.sub (n - k)
    | false => match k with
      | 1 => some v
      | _ => match v with
        | .raw x => some (.raw (cellAt x n))
        | _ => none

def ldC (k : AK) (s : SC) (off : Nat) : Option SV :=
  match k with
  | .sc => s.sub off
  | .ag n _ => match s.drop off with
    | some r => match r with
      | .cons w v _ => match Nat.beq w n, Nat.beq n 1 with
        | true, false => some v
        | _, _ => (match r.take n with | some t => some (.agg t) | none => none)
      | .nil => (match n with | 0 => some (.agg .nil) | _ => none)
    | none => none

def svScal : SV → Bool
  | .any | .agg _ | .tup _ => false
  | .raw v => scal v
  | _ => true

def ofRaw : List Nat → Value → Nat → SC
  | [], _, _ => .nil
  | w :: ws, v, o => match w with
    | 1 => .cons 1 (.raw (cellAt v o)) (ofRaw ws v (o + 1))
    | _ => .cons w (.raw (subAgg v o w)) (ofRaw ws v (o + w))

inductive Rq (p : Unit → Prop) (K : Unit → Prop) : Prop
  | mk (h : p ()) (k : K ()) : Rq p K

/-- the chunks of a value that is stored -/
def chunks (n : Nat) (ws : List Nat) (x : SV) (K : SC → Prop) : Prop :=
  match x with
  | .agg cs => match Nat.beq cs.width n with
    | true => K cs
    | false => False
  | .raw v => match ws with
    | [_] => Rq (fun _ => AggOk v n ∧ n ≠ 1) fun _ => K (.cons n (.raw v) .nil)
    | _ => Rq (fun _ => AggOk v n ∧ ws.sum = n ∧ ws.all (· != 0)) fun _ => K (ofRaw ws v 0)
  | _ => False

def stC (k : AK) (s : SC) (off : Nat) (x : SV) (K : SC → Prop) : Prop :=
  match s.take off, s.drop off with
  | some a, some r => match k with
    | .sc => match r with
      | .cons w _ r => match Nat.beq w 1, svScal x with
        | true, true => K (a.app (.cons 1 x r))
        | _, _ => False
      | .nil => False
    | .ag n ws => match r.drop n with
      | some r => chunks n ws x fun cs => K (a.app (cs.app r))
      | none => False
  | _, _ => False

def hget : List SObj → Nat → SObj
  | [], _ => .dead
  | o :: _, 0 => o
  | _ :: r, n + 1 => hget r n

def hset : List SObj → Nat → SObj → List SObj
  | [], _, _ => []
  | _ :: r, 0, x => x :: r
  | o :: r, n + 1, x => o :: hset r n x

def hpush : List SObj → SObj → List SObj
  | [], x => [x]
  | o :: r, x => o :: hpush r x

def hlen : List SObj → Nat
  | [] => 0
  | _ :: r => hlen r + 1

/-! ### places where the reckoning stops -/
/-- an int that is reckoned -/
inductive Ar (k : IntKind) (x : Unit → Int) (K : Int → Prop) : Prop
  | mk (h : ∀ c, c = k.wrap (x ()) → K c) : Ar k x K
/-- a number that is reckoned -/
inductive Nw {α : Type} (x : Unit → α) (K : α → Prop) : Prop
  | mk (h : ∀ c, c = x () → K c) : Nw x K
/-- a Nat as an Int, under a name that the tactic 'cbv' leaves as it is -/
def zN (n : Nat) : Int := n
/-- a length -/
inductive NwZ (x : Unit → Nat) (K : Int → Prop) : Prop
  | mk (h : ∀ c : Int, c = zN (x ()) → K c) : NwZ x K
/-- a test -/
inductive Cm (p : Unit → Prop) (K : Bool → Prop) : Prop
  | mk (h : ∀ b, (b = true ↔ p ()) → K b) : Cm p K
/-- an index: i0 + i, within len -/
inductive Ix (i0 : Nat) (i : Int) (len : Unit → Nat) (K : Nat → Prop) : Prop
  | mk (h0 : 0 ≤ i) (h1 : i < len ()) (h : ∀ j : Nat, j = i0 + i.toNat → K j) : Ix i0 i len K
/-- a load from memory that only is read -/
inductive LdR (R : RO) (a : Addr) (k : AK) (K : SV → Prop) : Prop
  | sc {arr e fr v} (hk : k = .sc) (hs : a.spot = none) (h : R a.block = some (.cells arr e fr)) (hv : arr[a.off]? = some v) (hK : K (.raw v)) : LdR R a k K
  | ag {n ws arr e fr} (hk : k = .ag n ws) (hs : a.spot = none) (h : R a.block = some (.cells arr e fr)) (hv : a.off + n ≤ arr.size) (hK : K (.raw (.agg (arr.extract a.off (a.off + n))))) : LdR R a k K
inductive W (p : Prop) : Prop
  | mk (h : p) : W p

def part (k : AK) (v : Value) (w fo : Nat) : Option Value :=
  match k with
  | .sc => match w with
    | 1 => match fo with | 0 => some v | _ => none
    | _ => match Nat.blt fo w with | true => some (cellAt v fo) | false => none
  | .ag n _ => match w with
    | 1 => none
    | _ => match Nat.beq n w, fo with
      | true, 0 => some v
      | _, _ => match Nat.ble (fo + n) w with | true => some (subAgg v fo n) | false => none

/-- an element of a buffer, or a part of it -/
inductive LdE (es : List Value) (i : Nat) (k : AK) (w fo : Nat) (K : Value → Prop) : Prop
  | mk (v x : Value) (h : es[i]? = some v) (hx : part k v w fo = some x) (hK : K x) : LdE es i k w fo K

/-- an element of a slice that only is read, or a part of it -/
inductive LdP (R : RO) (v : Value) (i : Nat) (k : AK) (w fo : Nat) (K : SV → Prop) : Prop
  | mk (es : List Value) (x y : Value) (h : ROSl R v es w) (he : es[i]? = some x) (hp : part k x w fo = some y) (hK : K (.raw y)) : LdP R v i k w fo K

def vcLd (k : AK) (R : RO) (H : List SObj) (a : SV) (K : SV → Prop) : Prop :=
  match a with
  | .raw v => match v with
    | .pointer (some a) => LdR R a k K
    | _ => False
  | .ptr n off => match hget H n with
    | .cells cs _ => match ldC k cs off with
      | some v => K v
      | none => False
    | _ => False
  | .ep n off i w fo => match hget H n with
    | .buf es w' _ => match Nat.beq w w', Nat.beq off 0 with
      | true, true => LdE es i k w fo fun x => K (.raw x)
      | _, _ => False
    | .cells cs _ => match cs.drop off with
      | some (.cons m (.raw v) _) => match Nat.beq w 1, Nat.beq m 1, Nat.beq fo 0, k with
        | true, false, true, .sc => Rq (fun _ => i < m) fun _ => Nw (fun _ => cellAt v i) fun x => K (.raw x)
        | _, _, _, _ => False
      | _ => False
    | _ => False
  | .rep v i w fo => LdP R v i k w fo K
  | _ => False

/-! ### soundness: chunks -/
theorem DC.drop {T : List Blk} : ∀ {s : SC} {l : List Value} {n : Nat} {r : SC}, DC T s l → s.drop n = some r → DC T r (l.drop n) ∧ n ≤ l.length
  | s, l, 0, r, h, hd => by
    have : r = s := by cases s <;> simp [SC.drop] at hd <;> exact hd.symm
    subst this; simpa using h
  | .nil, _, n + 1, _, _, hd => by simp [SC.drop] at hd
  | .cons k v q, l, n + 1, r, h, hd => by
    simp only [SC.drop] at hd
    cases hb : Nat.ble k (n + 1) with
    | false => rw [hb] at hd; simp at hd
    | true =>
      rw [hb] at hd
      have hle := Nat.le_of_ble_eq_true hb
      cases h with
      | one a b c =>
        have := DC.drop c hd
        refine ⟨?_, ?_⟩
        · simpa using this.1
        · have := this.2; simp; omega
      | many a b c d e =>
        rename_i arr l'
        have := DC.drop e hd
        have hl : arr.toList.length = k := by simpa using c
        refine ⟨?_, ?_⟩
        · rw [List.drop_append, hl, List.drop_eq_nil_of_le (by omega)]; simpa using this.1
        · have := this.2; simp [c]; omega

theorem DC.take {T : List Blk} : ∀ {s : SC} {l : List Value} {n : Nat} {r : SC}, DC T s l → s.take n = some r → DC T r (l.take n) ∧ n ≤ l.length
  | s, l, 0, r, h, hd => by
    have : r = .nil := by cases s <;> simp [SC.take] at hd <;> exact hd.symm
    subst this; simpa using DC.nil
  | .nil, _, n + 1, _, _, hd => by simp [SC.take] at hd
  | .cons k v q, l, n + 1, r, h, hd => by
    simp only [SC.take] at hd
    cases hb : Nat.ble k (n + 1) with
    | false => rw [hb] at hd; simp at hd
    | true =>
      rw [hb] at hd
      have hle := Nat.le_of_ble_eq_true hb
      cases hq : q.take (n + 1 - k) with
      | none => rw [hq] at hd; simp at hd
      | some s =>
        rw [hq] at hd
        simp only [Option.some.injEq] at hd
        subst hd
        cases h with
        | one a b c =>
          have := DC.take c hq
          refine ⟨?_, ?_⟩
          · simpa using DC.one a b this.1
          · have := this.2; simp; omega
        | many a b c d e =>
          rename_i arr l'
          have := DC.take e hq
          have hl : arr.toList.length = k := by simpa using c
          refine ⟨?_, ?_⟩
          · rw [List.take_append, hl, List.take_of_length_le (by omega)]; exact DC.many a b c d this.1
          · have := this.2; simp [c]; omega

theorem DC.app {T : List Blk} : ∀ {s r : SC} {l m : List Value}, DC T s l → DC T r m → DC T (s.app r) (l ++ m)
  | _, _, _, _, .nil, h => by simpa [SC.app] using h
  | _, _, _, _, .one a b c, h => by simpa [SC.app] using DC.one a b (DC.app c h)
  | _, _, _, _, .many a b c d e, h => by
    rw [List.append_assoc]
    exact DC.many a b c d (DC.app e h)

theorem DC.sub {T : List Blk} : ∀ {s : SC} {l : List Value} {n : Nat} {x : SV}, DC T s l → s.sub n = some x → ∃ v, l[n]? = some v ∧ DV T x v
  | .nil, _, _, _, _, hd => by simp [SC.sub] at hd
  | .cons k v r, l, n, x, h, hd => by
    simp only [SC.sub] at hd
    cases hb : Nat.ble k n with
    | true =>
      rw [hb] at hd
      have hle := Nat.le_of_ble_eq_true hb
      cases h with
      | one a b c =>
        obtain ⟨y, h1, h2⟩ := DC.sub c hd
        refine ⟨y, ?_, h2⟩
        rw [List.getElem?_cons]
        rw [if_neg (by omega)]; exact h1
      | many a b c d e =>
        rename_i arr l'
        obtain ⟨y, h1, h2⟩ := DC.sub e hd
        have hl : arr.toList.length = k := by simpa using c
        exact ⟨y, by rw [List.getElem?_append_right (by omega), hl]; exact h1, h2⟩
    | false =>
      rw [hb] at hd
      have hlt : n < k := by
        rcases Nat.lt_or_ge n k with h | h
        · exact h
        · rw [Nat.ble_eq_true_of_le h] at hb; cases hb
      cases h with
      | one a b c =>
        have : n = 0 := by omega
        subst this
        simp at hd
        subst hd
        exact ⟨_, by simp, a⟩
      | many a b c d e =>
        rename_i arr l'
        simp only at hd
        cases v with
        | raw y =>
          simp at hd
          subst hd
          cases b
          refine ⟨arr[n]'(by omega), ?_, ?_⟩
          · rw [List.getElem?_append_left (by simp; omega)]; simp [c, hlt]
          · have : cellAt (.agg arr) n = arr[n]'(by omega) := by simp [cellAt, Array.getD, c, hlt]
            rw [this]; exact .raw _
        | _ => simp at hd

end Go.SX

/- The symbolic machine: operations that touch no memory. -/
namespace Go.SX
open Go

def evs (tm : Tm) : List Operand → List SV
  | [] => []
  | x :: r => ev tm x :: evs tm r

def toSC : List SV → SC
  | [] => .nil
  | x :: r => .cons 1 x (toSC r)

def SC.nth : SC → Nat → Option SV
  | .nil, _ => none
  | .cons _ v _, 0 => some v
  | .cons _ _ r, n + 1 => r.nth n

inductive SubS (v : Value) (w lo hi : Nat) : Value → Prop
  | mk {a len cap} (h : v = .slice a len cap) (h1 : lo ≤ hi) (h2 : hi ≤ cap) : SubS v w lo hi (.slice (if cap = lo then a else a.map (·.add (lo * w))) (hi - lo) (cap - lo))

def bitsV (op : BinOp) (k : IntKind) (a b : Int) : Int :=
  k.wrap (match op with
    | .and => (BitVec.ofInt k.bits a &&& BitVec.ofInt k.bits b).toNat
    | .or => (BitVec.ofInt k.bits a ||| BitVec.ofInt k.bits b).toNat
    | .xor => (BitVec.ofInt k.bits a ^^^ BitVec.ofInt k.bits b).toNat
    | _ => (BitVec.ofInt k.bits a &&& ~~~ BitVec.ofInt k.bits b).toNat)

/-- a bit operation -/
inductive Bt (op : BinOp) (k : IntKind) (a b : Int) (K : Int → Prop) : Prop
  | mk (h : ∀ c, c = bitsV op k a b → K c) : Bt op k a b K

/-- a number that is no less than 0 -/
inductive Nn (x : Int) (K : Nat → Prop) : Prop
  | mk (h : ∀ c : Nat, c = x.toNat → K c) : Nn x K
/-- a part of a slice -/
inductive Sb (v : Value) (w lo hi : Nat) (K : Value → Prop) : Prop
  | mk (h : ∀ v', SubS v w lo hi v' → K v') : Sb v w lo hi K
/-- a string's byte -/
inductive By (s : ByteArray) (j : Nat) (K : Int → Prop) : Prop
  | mk (h : ∀ (c : UInt8) (n : Int), s.data[j]? = some c → n = zN c.toNat → K n) : By s j K

def vcInt (op : BinOp) (k : IntKind) (a b : Int) (K : SV → Prop) : Prop :=
  match op with
  | .add => Ar k (fun _ => a + b) fun c => K (.raw (.int k c))
  | .sub => Ar k (fun _ => a - b) fun c => K (.raw (.int k c))
  | .mul => Ar k (fun _ => a * b) fun c => K (.raw (.int k c))
  | .quo => Rq (fun _ => b ≠ 0) fun _ => Ar k (fun _ => a.tdiv b) fun c => K (.raw (.int k c))
  | .rem => Rq (fun _ => b ≠ 0) fun _ => Nw (fun _ => a.tmod b) fun c => K (.raw (.int k c))
  | .and => Bt .and k a b fun c => K (.raw (.int k c))
  | .or => Bt .or k a b fun c => K (.raw (.int k c))
  | .xor => Bt .xor k a b fun c => K (.raw (.int k c))
  | .andNot => Bt .andNot k a b fun c => K (.raw (.int k c))
  | .eql => Cm (fun _ => a = b) fun c => K (.raw (.bool c))
  | .neq => Cm (fun _ => a ≠ b) fun c => K (.raw (.bool c))
  | .lss => Cm (fun _ => a < b) fun c => K (.raw (.bool c))
  | .leq => Cm (fun _ => a ≤ b) fun c => K (.raw (.bool c))
  | .gtr => Cm (fun _ => a > b) fun c => K (.raw (.bool c))
  | .geq => Cm (fun _ => a ≥ b) fun c => K (.raw (.bool c))
  | _ => False

def keq : IntKind → IntKind → Bool
  | .i8, .i8 | .i16, .i16 | .i32, .i32 | .i64, .i64 | .u8, .u8 | .u16, .u16 | .u32, .u32 | .u64, .u64 => true
  | _, _ => false

theorem keq_eq : ∀ {a b : IntKind}, keq a b = true → a = b := by
  intro a b h; cases a <;> cases b <;> first | rfl | cases h

def vcBin (op : BinOp) (e : EQK) (x y : SV) (K : SV → Prop) : Prop :=
  match x, y with
  | .raw (.int k a), .raw (.int k' b) => match op with
    | .shl => Rq (fun _ => 0 ≤ b) fun _ => Ar k (fun _ => a * 2 ^ (min b.toNat k.bits)) fun c => K (.raw (.int k c))
    | .shr => Rq (fun _ => 0 ≤ b) fun _ => Nw (fun _ => a.fdiv (2 ^ (min b.toNat k.bits))) fun c => K (.raw (.int k c))
    | _ => match keq k k' with
      | true => vcInt op k a b K
      | false => False
  | .raw (.string a), .raw (.string b) => match op with
    | .eql => Cm (fun _ => a = b) fun c => K (.raw (.bool c))
    | .neq => Cm (fun _ => a ≠ b) fun c => K (.raw (.bool c))
    | .add => Rq (fun _ => a.size + b.size ≤ 2 ^ 62) fun _ => Nw (fun _ => a ++ b) fun c => K (.raw (.string c))
    | _ => False
  | .raw (.bool a), .raw (.bool b) => match e, op with
    | .bool, .eql => Cm (fun _ => a = b) fun c => K (.raw (.bool c))
    | .bool, .neq => Cm (fun _ => a ≠ b) fun c => K (.raw (.bool c))
    | _, _ => False
  | .raw (.iface _ _), .raw .nilIface => match e, op with
    | .err, .eql => K (.raw (.bool false))
    | .err, .neq => K (.raw (.bool true))
    | _, _ => False
  | .ptr _ _, .raw (.pointer none) => match e, op with
    | .ptr, .eql => K (.raw (.bool false))
    | .ptr, .neq => K (.raw (.bool true))
    | _, _ => False
  | _, _ => False

/-- 'x == nil', where nil is written -/
def vcNil (op : BinOp) (e : EQK) (x : SV) (y : Operand) (K : SV → Prop) : Prop :=
  match y with
  | .const .nilIface => match x with
    | .raw .nilIface => match e, op with
      | .err, .eql => K (.raw (.bool true))
      | .err, .neq => K (.raw (.bool false))
      | _, _ => False
    | _ => False
  | _ => False

def vcSlB (lo hi : Option SV) (len cap : Nat) (K : Nat → Nat → Prop) : Prop :=
  match hi with
  | none => match lo with
    | none => K 0 len
    | some (.raw (.int _ l)) => Rq (fun _ => 0 ≤ l ∧ l ≤ len) fun _ => Nn l fun l' => K l' len
    | _ => False
  | some (.raw (.int _ h)) => match lo with
    | none => Rq (fun _ => 0 ≤ h ∧ h ≤ cap) fun _ => Nn h fun h' => K 0 h'
    | some (.raw (.int _ l)) => Rq (fun _ => 0 ≤ l ∧ l ≤ h ∧ h ≤ cap) fun _ => Nn l fun l' => Nn h fun h' => K l' h'
    | _ => False
  | _ => False

def oev (tm : Tm) : Option Operand → Option SV
  | none => none
  | some x => some (ev tm x)

def vcPure (o : OpK) (tm : Tm) (K : SV → Prop) : Prop :=
  match o with
  | .mov x => K (ev tm x)
  | .pck c a b => match ev tm c with
    | .raw (.bool t) => match t with
      | true => K (ev tm a)
      | false => K (ev tm b)
    | _ => False
  | .nck x => match ev tm x with
    | .ptr n off => K (.ptr n off)
    | .ep n off i w fo => K (.ep n off i w fo)
    | .rep v i w fo => K (.rep v i w fo)
    | .raw (.pointer (some a)) => K (.raw (.pointer (some a)))
    | .fn f a c => match f with | .func g => K (.fn (.func g) a c) | _ => False
    | _ => False
  | .bin op e _ x y => match e, y with
    | .err, .const .nilIface => match ev tm x with
      | .raw .nilIface => vcNil op e (ev tm x) y K
      | v => vcBin op e v (ev tm y) K
    | _, _ => vcBin op e (ev tm x) (ev tm y) K
  | .un op x => match op, ev tm x with
    | .not, .raw (.bool b) => match b with
      | true => K (.raw (.bool false))
      | false => K (.raw (.bool true))
    | .neg, .raw (.int k n) => Ar k (fun _ => 0 - n) fun c => K (.raw (.int k c))
    | _, _ => False
  | .cvt k x => match k, ev tm x with
    | .int k, .raw (.int _ n) => Ar k (fun _ => n) fun c => K (.raw (.int k c))
    | .same, .raw (.string s) => K (.raw (.string s))
    | _, _ => False
  | .mki t x => match ev tm x with
    | .raw v => K (.raw (.iface t v))
    | v => K (.ifc t v)
  | .mkf f a c => K (.fn f (toSC (evs tm a)) (toSC (evs tm c)))
  | .fad off x => match ev tm x with
    | .ptr n o => K (.ptr n (o + off))
    | .ep n o i w fo => K (.ep n o i w (fo + off))
    | .rep v i w fo => K (.rep v i w (fo + off))
    | _ => False
  | .iad k x i => match k, ev tm x, ev tm i with
    | .sl w, .sl n off i0 w' len _, .raw (.int _ j) => match Nat.beq w w' with
      | true => Ix i0 j (fun _ => len) fun j => K (.ep n off j w 0)
      | false => False
    | .sl w, .raw (.slice q len cap), .raw (.int _ j) => Ix 0 j (fun _ => len) fun j => match q with
      | some ⟨b, o, none⟩ => K (.rep (.slice (some ⟨b, o, none⟩) len cap) j w 0)
      | _ => False
    | .arr m w true, .ptr n off, .raw (.int _ j) => Ix 0 j (fun _ => m) fun j => K (.ep n off j w 0)
    | .arr m w false, .ptr n off, .raw (.int _ (.ofNat j)) => match Nat.blt j m with
      | true => K (.ptr n (off + j * w))
      | false => False
    | _, _, _ => False
  | .idx k x i => match k, ev tm x, ev tm i with
    | .str, .raw (.string s), .raw (.int _ j) => Ix 0 j (fun _ => s.size) fun j => By s j fun n => K (.raw (.int .u8 n))
    | _, _, _ => False
  | .ext x i => match ev tm x with
    | .tup cs => match cs.nth i with
      | some v => K v
      | none => False
    | .raw (.tuple vs) => match vs[i]? with
      | some v => K (.raw v)
      | none => False
    | _ => False
  | .slc k x lo hi mx => match mx with
    | some m => match hi with
      | none => False
      | some _ => match k, ev tm x, ev tm m with
        | .sl w, .raw (.slice a len cap), .raw (.int _ c) => Rq (fun _ => 0 ≤ c ∧ c ≤ cap) fun _ => Nn c fun c => vcSlB (oev tm lo) (oev tm hi) len c fun l h => Sb (.slice a len c) w l h fun v => K (.raw v)
        | _, _, _ => False
    | none => match k, ev tm x with
      | .str, .raw (.string s) => Nw (fun _ => s.size) fun n => vcSlB (oev tm lo) (oev tm hi) n n fun l h => Nw (fun _ => s.extract l h) fun t => K (.raw (.string t))
      | .sl w, .sl n off i w' len cap => match Nat.beq w w' with
        | true => vcSlB (oev tm lo) (oev tm hi) len cap fun l h => Nw (fun _ => i + l) fun i' => Nw (fun _ => h - l) fun len' => Nw (fun _ => cap - l) fun cap' => K (.sl n off i' w len' cap')
        | false => False
      | .sl w, .raw (.slice a len cap) => Rq (fun _ => len ≤ cap) fun _ => vcSlB (oev tm lo) (oev tm hi) len cap fun l h => Sb (.slice a len cap) w l h fun v => K (.raw v)
      | _, _ => False
  | .blt b xs => match b, evs tm xs with
    | .lenS, [.raw (.string s)] => NwZ (fun _ => s.size) fun c => K (.raw (.int .i64 c))
    | .lenSl, [.sl _ _ _ _ len _] => NwZ (fun _ => len) fun c => K (.raw (.int .i64 c))
    | .lenSl, [.raw (.slice _ len _)] => NwZ (fun _ => len) fun c => K (.raw (.int .i64 c))
    | .lenA n, [_] => K (.raw (.int .i64 n))
    | .capS, [.sl _ _ _ _ _ cap] => NwZ (fun _ => cap) fun c => K (.raw (.int .i64 c))
    | .min, [.raw (.int k a), .raw (.int _ b)] => Nw (fun _ => min a b) fun c => K (.raw (.int k c))
    | .max, [.raw (.int k a), .raw (.int _ b)] => Nw (fun _ => max a b) fun c => K (.raw (.int k c))
    | _, _ => False
  | _ => False

/-! ### soundness -/
theorem ev_ok {T : List Blk} {tm : Tm} {a : Act} (h : DT T tm a.tmps) (x : Operand) : DV T (ev tm x) (a.eval x) := by
  cases x with
  | tmp t => exact h t
  | const v => exact .raw v
  | global g => exact .raw _
  | func f => exact .fn (x := #[]) (y := #[]) .nil .nil

theorem evs_ok {T : List Blk} {tm : Tm} {a : Act} (h : DT T tm a.tmps) : ∀ xs : List Operand, DL T (toSC (evs tm xs)) (xs.map a.eval)
  | [] => .nil
  | x :: r => .cons (ev_ok h x) (evs_ok h r)

/-- an operation that reads no memory: its value, in whatever world -/
def PureOk (P : Program) (T : List Blk) (a : Act) (o : Oper) (K : SV → Prop) : Prop :=
  ∃ v sv, (∀ w, (execOp a.eval o).run P w = .ok (.value v) w) ∧ DV T sv v ∧ K sv

theorem raw_inv {T : List Blk} {v v' : Value} (h : DV T (.raw v) v') : v' = v := by cases h; rfl

variable {P : Program} {T : List Blk} {tm : Tm} {a : Act} {o : Oper} {K : SV → Prop}

theorem pure_val (v : Value) (sv : SV) (hr : ∀ w, (execOp a.eval o).run P w = .ok (.value v) w) (hd : DV T sv v) (hK : K sv) : PureOk P T a o K := ⟨v, sv, hr, hd, hK⟩

theorem Ar.go {k : IntKind} {x : Unit → Int} {K : Int → Prop} (h : Ar k x K) : K (k.wrap (x ())) := by cases h with | mk h => exact h _ rfl
theorem Nn.go {x : Int} {K : Nat → Prop} (h : Nn x K) : ∀ c : Nat, (c : Int) = x → K c := by cases h with | mk h => exact fun c hc => h c (by omega)
theorem Sb.go {v : Value} {w lo hi : Nat} {K : Value → Prop} (h : Sb v w lo hi K) : ∀ v', SubS v w lo hi v' → K v' := by cases h with | mk h => exact h
theorem Nw.go {α : Type} {x : Unit → α} {K : α → Prop} (h : Nw x K) : K (x ()) := by cases h with | mk h => exact h _ rfl
theorem NwZ.go {x : Unit → Nat} {K : Int → Prop} (h : NwZ x K) : K (x () : Int) := by cases h with | mk h => exact h _ rfl
theorem Cm.go {p : Unit → Prop} {K : Bool → Prop} (h : Cm p K) (b : Bool) (hb : b = true ↔ p ()) : K b := by cases h with | mk h => exact h b hb

theorem vcInt_ok {op : BinOp} {k : IntKind} {x y : Int} (h : vcInt op k x y K) (hs : op ≠ .shl ∧ op ≠ .shr) :
    ∃ v sv, (∀ w, (binOp op 0 (.int k x) (.int k y)).run P w = .ok v w) ∧ (∀ t, binOp op t (.int k x) (.int k y) = binOp op 0 (.int k x) (.int k y)) ∧ DV T sv v ∧ K sv := by
  cases op <;> simp only [vcInt] at h <;> (try (exact h.elim)) <;> (try (exact absurd rfl hs.1)) <;> (try (exact absurd rfl hs.2))
  case add => exact ⟨_, _, fun w => by simp [binOp, Op.intArith], fun t => rfl, .raw _, h.go⟩
  case sub => exact ⟨_, _, fun w => by simp [binOp, Op.intArith], fun t => rfl, .raw _, h.go⟩
  case mul => exact ⟨_, _, fun w => by simp [binOp, Op.intArith], fun t => rfl, .raw _, h.go⟩
  case quo => cases h with | mk hb h => exact ⟨_, _, fun w => by simp [binOp, Op.intDiv, if_neg hb], fun t => rfl, .raw _, h.go⟩
  case rem => cases h with | mk hb h => exact ⟨_, _, fun w => by simp [binOp, Op.intDiv, if_neg hb], fun t => rfl, .raw _, h.go⟩
  all_goals first
    | (cases h with | mk h => exact ⟨_, _, fun w => by simp only [binOp, ne_eq, not_true_eq_false, if_false, Op.intBits]; rfl, fun t => rfl, .raw _, h _ rfl⟩)
    | exact ⟨_, _, fun w => by simp only [binOp, ne_eq, not_true_eq_false, if_false, Op.intCmp]; rfl, fun t => rfl, .raw _, h.go _ (by simp)⟩

end Go.SX
