/- The abstract logic in which the functions of the program are walked, part 3. No condition. -/
import Derived.Test.YtkpafafiaicfpaaPwB
set_option linter.unusedSimpArgs false
set_option linter.unusedVariables false
set_option linter.unusedSectionVars false
/-! The abstract logic, part C: how the model's operations are written abstractly, and what they do. -/
namespace Go.Pw

/-- The zero cells of a type. -/
def zeroC (P : Program) (t : TypeId) : Option (List Value) :=
  ((P.info? t).bind (·.zero)).bind fun z => if z.cells.toList.all (plainV 6) && z.cells.size == ((P.info? t).map (·.size)).getD 0 then some z.cells.toList else none
def sizeC (P : Program) (t : TypeId) : Option Nat := (P.info? t).map (·.size)
def aggC (P : Program) (t : TypeId) : Option Bool := (P.underlying t).map fun | .struct _ | .array _ _ => true | _ => false

/-- A struct's fields, one behind the other. -/
def tilesG (P : Program) (rec : TypeId → Option (List Bool)) : List Field → Nat → Option (Nat × List Bool)
  | [], o => some (o, [])
  | f :: r, o => if f.name != "_" && f.offset == o then (rec f.type).bind fun ks => (sizeC P f.type).bind fun n => if n = 0 then none else (tilesG P rec r (o + n)).map fun (m, ls) => (m, ks ++ ls) else none

/-- The numbers (true) and bools (false) of which a value of the type is made, if it is of such alone. -/
def flatEq (P : Program) : Nat → TypeId → Option (List Bool)
  | 0, _ => none
  | d + 1, t => match P.underlying t with
    | some .bool => if sizeC P t == some 1 then some [false] else none
    | some (.int _) => if sizeC P t == some 1 then some [true] else none
    | some (.struct fs) => if P.stoodInHeld t then none else (tilesG P (flatEq P d) fs.toList 0).bind fun (n, ks) => if sizeC P t == some n then some ks else none
    | _ => none

def eqKind (P : Program) (op : BinOp) (t : TypeId) : EqK :=
  match op with
  | .eql | .neq => match P.underlying t with
    | some (.slice _) => .nilSlice
    | some .bool => .bools
    | some (.struct _) => if P.eqGuardType P.depth t then .no else ((flatEq P 8 t).map EqK.struct).getD .no
    | _ => .no
  | _ => .no

def places (P : Program) (fs : Array Field) : Option (List (Nat × Nat)) := fs.toList.mapM fun f => (sizeC P f.type).map fun n => (f.offset, n)

def flatCall (P : Program) (c : Call) (argTypes : Array TypeId) : Option (Opc × List Operand) :=
  match c.callee with
  | .value (.func f) => some (.call f, c.args.toList)
  | .value x => some (.callv, x :: c.args.toList)
  | .invoke x name => some (.inv name, x :: c.args.toList)
  | .builtin .len => do
    let t ← argTypes[0]?
    match P.underlying t with
    | some (.slice _) => if c.args.size = 1 then some (.len, c.args.toList) else none
    | some (.array n _) => if c.args.size = 1 then some (.lenA n, c.args.toList) else none
    | _ => none
  | .builtin .append => do
    let t ← argTypes[0]?
    let t2 ← argTypes[1]?
    match P.underlying t, P.underlying t2 with
    | some (.slice e), some (.slice _) => do
      let i ← P.info? e
      let z ← zeroC P e
      if c.args.size = 2 && argTypes.size = 2 then some (.app i.bytes z, c.args.toList) else none
    | _, _ => none
  | .builtin .copy => do
    let t ← argTypes[0]?
    match P.underlying t with
    | some (.slice e) => do
      let n ← sizeC P e
      if c.args.size = 2 then some (.copy n, c.args.toList) else none
    | _ => none
  | .builtin .min => if c.args.size = 0 then none else some (.mm false, c.args.toList)
  | .builtin .max => if c.args.size = 0 then none else some (.mm true, c.args.toList)
  | _ => none

def flatOp (P : Program) : Op → Option (Opc × List Operand)
  | .move x | .assign x => some (.mv, [x])
  | .pick c a b => some (.pick, [c, a, b])
  | .alloc e => (zeroC P e).map fun z => (.alloc z, [])
  | .box _ v => some (.box, [v])
  | .build t parts => do
    let z ← zeroC P t
    match P.underlying t with
    | some (.struct fs) => do
      let pl ← places P fs
      let l ← parts.toList.mapM fun (i, _) => pl[i]?
      some (.build z l, parts.toList.map (·.2))
    | some (.array _ e) => do
      let n ← sizeC P e
      some (.build z (parts.toList.map fun (i, _) => (i * n, n)), parts.toList.map (·.2))
    | _ => none
  | .buildSlice t len parts =>
    match P.underlying t with
    | some (.slice e) => do
      let n ← sizeC P e
      let z ← zeroC P e
      if len * n ≤ 2 ^ 24 then some (.bslice len n (List.replicate len z).flatten (parts.toList.map fun (i, _) => (i * n, n)), parts.toList.map (·.2)) else none
    | _ => none
  | .load t a => do
    let g ← aggC P t
    if g then (sizeC P t).map fun n => (.loadN n, [a]) else some (.load1, [a])
  | .store t a v => (sizeC P t).map fun n => (.store n, [a, v])
  | .nilCheck x => some (.nilCheck, [x])
  | .binOp op t x y _ => some (.bin op (eqKind P op t), [x, y])
  | .unOp op _ x => some (.un op, [x])
  | .convert src dst x =>
    match P.underlying src, P.underlying dst with
    | some (.int _), some (.int k) => some (.conv k, [x])
    | _, _ => none
  | .makeInterface t x =>
    match P.underlying t with
    | some (.interface _) | none => none
    | _ => some (.mkI t, [x])
  | .makeFunc fn first captured => some (.mkF fn first.size, first.toList ++ captured.toList)
  | .makeMap _ none => some (.mkMap, [])
  | .makeSlice t l c =>
    match P.underlying t with
    | some (.slice e) => do
      let i ← P.info? e
      let z ← zeroC P e
      some (.mkSlice i.bytes z, [l, c])
    | _ => none
  | .slice t x lo hi mx =>
    match P.underlying t with
    | some (.slice e) => (sizeC P e).map fun n => (.sl n lo.isSome hi.isSome mx.isSome, x :: (lo.toList ++ hi.toList ++ mx.toList))
    | some (.array k e) => (sizeC P e).map fun n => (.slA k n lo.isSome hi.isSome mx.isSome, x :: (lo.toList ++ hi.toList ++ mx.toList))
    | _ => none
  | .fieldAddr t x i =>
    match P.underlying t with
    | some (.struct fs) => do
      let f ← fs[i]?
      let n ← sizeC P f.type
      if n = 0 then none else some (.fld f.offset, [x])
    | _ => none
  | .field t x i =>
    match P.underlying t with
    | some (.struct fs) => do
      let f ← fs[i]?
      let n ← sizeC P f.type
      let g ← aggC P f.type
      some (.fldV f.offset (if g then some n else none), [x])
    | _ => none
  | .indexAddr t x i =>
    match P.underlying t with
    | some (.slice e) => (sizeC P e).map fun n => (.ixS n, [x, i])
    | some (.array k e) => (sizeC P e).map fun n => (.ixA k n, [x, i])
    | _ => none
  | .index t x i =>
    match P.underlying t with
    | some (.array k e) => do
      let n ← sizeC P e
      let g ← aggC P e
      some (.ix k n g, [x, i])
    | _ => none
  | .lookup t x i ok =>
    match P.underlying t with
    | some (.map k e) => do
      let kd ← P.underlying k
      let inf ← P.info? e
      let z ← inf.zero
      match kd with
      | .int _ => if plainV 6 z then some (.lookup z ok true, [x, i]) else none
      | .bool => if plainV 6 z then some (.lookup z ok false, [x, i]) else none
      | _ => none
    | _ => none
  | .mapUpdate t m k v | .insert t m k v =>
    match P.underlying t with
    | some (.map kt _) =>
      match P.underlying kt with
      | some (.int _) => some (.mapUpd true, [m, k, v])
      | some .bool => some (.mapUpd false, [m, k, v])
      | _ => none
    | _ => none
  | .extract t i => some (.ext i, [t])
  | .call c => flatCall P c c.argTypes
  | .range t x =>
    match P.underlying t with
    | some (.map _ _) => some (.rangeM, [x])
    | _ => none
  | .next x s => if s = true then none else some (.next, [x])
  | .entry x => some (.entry, [x])
  | _ => none

/-! ### What they do -/

def cel (v : Value) : List Value := v.cells.toList
def oneV : Value → Bool
  | .agg _ | .tuple _ => false
  | _ => true

def rdc (h : AH) (b : Nat) : Option (List Value) :=
  match h[b]? with
  | some (.cells _ cs) => some cs
  | some (.row _ cs) => some cs
  | _ => none
def rd1 (h : AH) (a : Addr) : Option Value := if a.spot = none then (rdc h a.block).bind fun cs => cs[a.off]? else none
def rdN (h : AH) (a : Addr) (n : Nat) : Option (List Value) :=
  if a.spot = none then (rdc h a.block).bind fun cs => if a.off + n ≤ cs.length then some ((cs.drop a.off).take n) else none else none
def spl (cs : List Value) (o : Nat) : List Value → List Value
  | [] => cs
  | v :: vs => spl (cs.set o v) (o + 1) vs
def wr (h : AH) (a : Addr) (vs : List Value) : Option AH :=
  match h[a.block]? with
  | some (.cells true cs) => if a.spot = none ∧ a.off + vs.length ≤ cs.length ∧ vs.all oneV = true then some (h.set a.block (.cells true (spl cs a.off vs))) else none
  | some (.row s cs) => if a.spot = none ∧ a.off + vs.length ≤ cs.length ∧ vs.all oneV = true then some (h.set a.block (.row s (spl cs a.off vs))) else none
  | _ => none

/-- A literal's parts, laid over its zero cells. -/
def fillA : List Value → List (Nat × Nat) → List Value → Option (List Value)
  | cs, [], [] => some cs
  | cs, (o, n) :: pl, v :: vs => if (cel v).length = n ∧ o + n ≤ cs.length then fillA (spl cs o (cel v)) pl vs else none
  | _, _, _ => none

def eqCells : List Bool → List Value → List Value → Option Bool
  | [], [], [] => some true
  | true :: ks, .int k a :: r, .int k' b :: s => if k = k' then (eqCells ks r s).map ((a == b) && ·) else none
  | false :: ks, .bool a :: r, .bool b :: s => (eqCells ks r s).map ((a == b) && ·)
  | _, _, _ => none

def bitsA (op : BinOp) (k : IntKind) (x y : Int) : Option Int :=
  let a := BitVec.ofInt k.bits x
  let b := BitVec.ofInt k.bits y
  match op with
  | .and => some (k.wrap (a &&& b).toNat)
  | .or => some (k.wrap (a ||| b).toNat)
  | .xor => some (k.wrap (a ^^^ b).toNat)
  | .andNot => some (k.wrap (a &&& ~~~b).toNat)
  | _ => none

def intA (op : BinOp) (k : IntKind) (a b : Int) : Option Value :=
  match op with
  | .add => some (.int k (k.wrap (a + b)))
  | .sub => some (.int k (k.wrap (a - b)))
  | .mul => some (.int k (k.wrap (a * b)))
  | .quo => if b = 0 then none else some (.int k (k.wrap (a.tdiv b)))
  | .rem => if b = 0 then none else some (.int k (a.tmod b))
  | .eql => some (.bool (a == b))
  | .neq => some (.bool (a != b))
  | .lss => some (.bool (decide (a < b)))
  | .leq => some (.bool (decide (a ≤ b)))
  | .gtr => some (.bool (decide (a > b)))
  | .geq => some (.bool (decide (a ≥ b)))
  | _ => (bitsA op k a b).map (.int k)

def shiftA (op : BinOp) (k : IntKind) (a b : Int) : Option Value :=
  if b < 0 then none else
  match op with
  | .shl => some (.int k (k.wrap (a * 2 ^ min b.toNat k.bits)))
  | .shr => some (.int k (a.fdiv (2 ^ min b.toNat k.bits)))
  | _ => none

def binA (op : BinOp) (eq : EqK) : Value → Value → Option Value
  | .int k a, .int k' b => match op with
    | .shl | .shr => shiftA op k a b
    | _ => if k = k' then intA op k a b else none
  | .bool a, .bool b => match eq, op with
    | .bools, .eql => some (.bool (a == b))
    | .bools, .neq => some (.bool (!(a == b)))
    | _, _ => none
  | .agg x, .agg y => match eq, op with
    | .struct ks, .eql => (eqCells ks x.toList y.toList).map .bool
    | .struct ks, .neq => (eqCells ks x.toList y.toList).map fun b => .bool (!b)
    | _, _ => none
  | .slice a _ _, .slice none _ _ => match eq, op with
    | .nilSlice, .eql => some (.bool a.isNone)
    | .nilSlice, .neq => some (.bool (!a.isNone))
    | _, _ => none
  | _, _ => none

def unA : UnOp → Value → Option Value
  | .neg, .int k n => some (.int k (k.wrap (0 - n)))
  | .not, .bool b => some (.bool !b)
  | _, _ => none

/-- The bounds of a slice expression. -/
def bndA (len cap : Nat) (lo hi mx : Bool) (bs : List Value) : Option (Nat × Nat × Nat) :=
  match lo, hi, mx, bs with
  | false, false, false, [] => some (0, len, cap)
  | true, false, false, [.int _ l] => if 0 ≤ l ∧ l ≤ len then some (l.toNat, len, cap) else none
  | false, true, false, [.int _ h] => if 0 ≤ h ∧ h ≤ cap then some (0, h.toNat, cap) else none
  | true, true, false, [.int _ l, .int _ h] => if 0 ≤ h ∧ h ≤ cap ∧ 0 ≤ l ∧ l ≤ h then some (l.toNat, h.toNat, cap) else none
  | false, true, true, [.int _ h, .int _ m] => if 0 ≤ m ∧ m ≤ cap ∧ 0 ≤ h ∧ h ≤ m then some (0, h.toNat, m.toNat) else none
  | true, true, true, [.int _ l, .int _ h, .int _ m] => if 0 ≤ m ∧ m ≤ cap ∧ 0 ≤ h ∧ h ≤ m ∧ 0 ≤ l ∧ l ≤ h then some (l.toNat, h.toNat, m.toNat) else none
  | _, _, _, _ => none

def mmA (mx : Bool) : Value → List Value → Option Value
  | v, [] => some v
  | .int k x, .int _ y :: r => mmA mx (.int k (if mx then (if y > x then y else x) else (if y < x then y else x))) r
  | _, _ => none

/-- Are keys the same? (int: of a type of numbers; else of bools) -/
def sameK : Bool → Value → Value → Option Bool
  | true, .int j a, .int k b => if j = k then some (a == b) else none
  | false, .bool a, .bool b => some (a == b)
  | _, _, _ => none
/-- The number of the first entry with the key. -/
def findIx (int : Bool) (k : Value) : List (Value × Value) → Option (Option Nat)
  | [] => some none
  | e :: r => (sameK int k e.1).bind fun b => if b then some (some 0) else (findIx int k r).map fun o => o.map (· + 1)
def getK (int : Bool) (k : Value) (es : List (Value × Value)) : Option (Option Value) := (findIx int k es).map fun o => o.bind fun i => es[i]?.map (·.2)
def updK (int : Bool) (k v : Value) (es : List (Value × Value)) : Option (List (Value × Value)) :=
  (findIx int k es).map fun o => match o with
    | none => es ++ [(k, v)]
    | some i => es.set i (k, v)
/-- Is it a key? -/
def keyV : Bool → Value → Bool
  | true, .int _ _ => true
  | false, .bool _ => true
  | _, _ => false

abbrev Step := Value × Option Blk × AH

def lookA (z : Value) (ok : Bool) (r : Option Value) : Value := if ok then .tuple #[r.getD z, .bool r.isSome] else r.getD z

/-- What an operation gives: the value, a new block, what becomes of the old ones. 'b': the number that a new block has. -/
def sem (b : Nat) : Opc → List Value → AH → Option Step
  | .mv, [x], h => some (x, none, h)
  | .pick, [.bool c, x, y], h => some (if c then x else y, none, h)
  | .alloc zs, [], h => some (.pointer (some ⟨b, 0, none⟩), some (.cells true zs), h)
  | .box, [x], h => some (.pointer (some ⟨b, 0, none⟩), some (.cells true (cel x)), h)
  | .build zs pl, xs, h => (fillA zs pl xs).map fun cs => (.agg cs.toArray, none, h)
  | .bslice len esz zs pl, xs, h => (fillA zs pl xs).map fun cs => (.slice (some ⟨b, 0, none⟩) len len, some (.row esz cs), h)
  | .load1, [.pointer (some a)], h => (rd1 h a).map fun v => (v, none, h)
  | .loadN n, [.pointer (some a)], h => (rdN h a n).map fun cs => (.agg cs.toArray, none, h)
  | .store n, [.pointer (some a), v], h => if (cel v).length = n then (wr h a (cel v)).map fun h' => (undef, none, h') else none
  | .nilCheck, [.pointer (some a)], h => some (.pointer (some a), none, h)
  | .nilCheck, [.func (.func f) x y], h => some (.func (.func f) x y, none, h)
  | .nilCheck, [.func (.yield f) x y], h => some (.func (.yield f) x y, none, h)
  | .bin op eq, [x, y], h => (binA op eq x y).map fun v => (v, none, h)
  | .un op, [x], h => (unA op x).map fun v => (v, none, h)
  | .conv k, [.int _ n], h => some (.int k (k.wrap n), none, h)
  | .mkI t, [x], h => some (.iface t x, none, h)
  | .mkF fn n, xs, h => match fn with
    | .yield _ => none
    | fn => some (.func fn (xs.take n).toArray (xs.drop n).toArray, none, h)
  | .mkMap, [], h => some (.map (some b), some (.map []), h)
  | .mkSlice bytes z, [.int _ l, .int _ c], h =>
    if 0 ≤ l ∧ l ≤ c ∧ c * bytes ≤ 2 ^ 40 ∧ c ≤ 2 ^ 40 then some (.slice (some ⟨b, 0, none⟩) l.toNat c.toNat, some (.row z.length (List.replicate c.toNat z).flatten), h) else none
  | .sl esz lo hi mx, .slice a l c :: bs, h => (bndA l c lo hi mx bs).bind fun (i, j, m) =>
    if c = 0 ∨ i < m ∨ mx = true then some (.slice (if m = i then a else a.map (·.add (i * esz))) (j - i) (m - i), none, h) else none
  | .slA n esz lo hi mx, .pointer (some a) :: bs, h => match h[a.block]? with
    | some (.cells _ _) => (bndA n n lo hi mx bs).map fun (i, j, m) => (.slice (some (if m = i then a else a.add (i * esz))) (j - i) (m - i), none, h)
    | _ => none
  | .fld off, [.pointer (some a)], h => some (.pointer (some (a.add off)), none, h)
  | .fldV off n, [.agg cs], h => match n with
    | none => cs[off]?.map fun v => (v, none, h)
    | some n => if off + n ≤ cs.size then some (.agg (cs.extract off (off + n)), none, h) else none
  | .ixS esz, [.slice (some a) l _, .int _ i], h => if 0 ≤ i ∧ i < l then some (.pointer (some (a.add (i.toNat * esz))), none, h) else none
  | .ixA n esz, [.pointer (some a), .int _ i], h => if 0 ≤ i ∧ i < n then some (.pointer (some (a.add (i.toNat * esz))), none, h) else none
  | .ix n esz agg, [.agg cs, .int _ i], h => if 0 ≤ i ∧ i < n then
      (if agg then (if i.toNat * esz + esz ≤ cs.size then some (.agg (cs.extract (i.toNat * esz) (i.toNat * esz + esz)), none, h) else none) else cs[i.toNat * esz]?.map fun v => (v, none, h)) else none
  | .ext i, [.tuple vs], h => vs[i]?.map fun v => (v, none, h)
  | .len, [.slice _ n _], h => some (.int .i64 n, none, h)
  | .lenA n, [_], h => some (.int .i64 n, none, h)
  | .mm mx, v :: vs, h => (mmA mx v vs).map fun v => (v, none, h)
  | .lookup z ok int, [.map none, k], h => if keyV int k then some (lookA z ok none, none, h) else none
  | .lookup z ok int, [.map (some r), k], h => match h[r]? with
    | some (.map es) => if keyV int k then (getK int k es).map fun v => (lookA z ok v, none, h) else none
    | _ => none
  | .mapUpd int, [.map (some r), k, v], h => match h[r]? with
    | some (.map es) => if keyV int k then (updK int k v es).map fun es => (undef, none, h.set r (.map es)) else none
    | _ => none
  | _, _, _ => none

end Go.Pw
