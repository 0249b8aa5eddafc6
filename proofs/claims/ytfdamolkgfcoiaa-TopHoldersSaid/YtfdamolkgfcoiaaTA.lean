/- A small interpreter over trees of values ('E'): the meaning of a Go function as a function of its arguments, no memory in sight. -/
import Derived.WalkKit
import Derived.Orders
set_option autoImplicit false
set_option linter.unusedVariables false
set_option linter.unusedSimpArgs false
namespace Tree
open Go

/-- A value as a tree. 'sl own lab sz xs sp': a slice; its elements, each of sz cells; what is known to lie behind them. -/
inductive LV where
  | bool (b : Bool)
  | int (k : IntKind) (n : Int)
  | str (s : ByteArray)
  | sl (own : Bool) (lab sz : Nat) (xs sp : List (List LV))
  | agg (cs : List LV)
  | tup (vs : List LV)
  | iptr (lab : Nat) (cs : List LV) (off : Nat)
  | laddr (s off : Nat)
  | optr (id off : Nat)
  | nilptr
  | fn (g : Nat) (cap : List LV)
  | nilfn
  | undef
  | mref (id : Nat)
  | nilmap
  | msl (id off len cap sz : Nat)
  deriving Inhabited

inductive Slot where
  | val (v : LV)
  | box (cs : List LV)
  deriving Inhabited

inductive Opd where
  | tmp (t : Nat)
  | const (v : LV)
  | glob (g : Nat)
  deriving Inhabited

inductive TOp where
  | move (x : Opd)
  | assign (x : Opd)
  | pick (c a b : Opd)
  | box (sz : Nat) (x : Opd)
  | new (sz : Nat) (x : Opd)
  | load (agg : Bool) (sz : Nat) (p : Opd)
  | loadB (agg : Bool) (sz : Nat) (p : Opd)
  | loadR (r : Option Nat) (agg : Bool) (sz : Nat) (p : Opd)
  | storeR (r : Option Nat) (sz : Nat) (p x : Opd)
  | idxAgg (agg : Bool) (len sz : Nat) (x i : Opd)
  | strOf (x : Opd)
  | store (sz : Nat) (p x : Opd)
  | nilCheck (x : Opd)
  | bin (ty : Nat) (op : BinOp) (x y : Opd)
  | eqAgg (neg : Bool) (t : Nat) (x y : Opd)
  | un (op : UnOp) (x : Opd)
  | conv (k : IntKind) (x : Opd)
  | convS (x : Opd)
  | faddr (x : Opd) (off : Nat)
  | field (x : Opd) (agg : Bool) (off sz : Nat)
  | idxAddr (x i : Opd) (sz : Nat)
  | idxArr (x i : Opd) (len sz : Nat)
  | idxStr (x i : Opd)
  | build (zero : List LV) (parts : List (Nat × Nat × Opd))
  | buildSlice (n sz : Nat) (zero : List LV) (parts : List (Nat × Opd))
  | len (str : Bool) (x : Opd)
  | append (sz bytes : Nat) (s x : Opd)
  | slice (sz : Nat) (x : Opd) (lo hi : Option Opd)
  | buildM (zero : List LV) (off : Nat) (x : Opd)
  | slice3 (sz : Nat) (x : Opd) (lo : Option Opd) (hi mx : Opd)
  | sliceStr (x : Opd) (lo hi : Option Opd)
  | sliceArr (x : Opd) (len sz : Nat)
  | fail
  | minmax (mx : Bool) (x y : Opd)
  | extract (x : Opd) (i : Nat)
  | makeFunc (g : Nat) (cap : List Opd)
  | mkmap
  | lookup (t : Nat) (zero : LV) (ok : Bool) (x i : Opd)
  | mapSet (t : Nat) (x i v : Opd)
  | mapDel (t : Nat) (x i : Opd)
  | mapEnt (t : Nat) (zero : LV) (x i : Opd)
  | entPut (x s v : Opd)
  | lenMap (x : Opd)
  | mkslice (sz bytes : Nat) (zero : List LV) (n c : Opd)
  | copy (sz : Nat) (x y : Opd)
  | call (ro : Bool) (f : Opd) (args : List Opd) (moved : List Nat)
  deriving Inhabited

structure TOper where
  dst : Option Nat
  op : TOp
  guard : Option (Nat × Bool)
  deriving Inhabited

inductive TCode where
  | skip
  | region (draw : Bool) (ops : List TOper)
  | seq (a b : TCode)
  | cond (c : Opd) (a b : TCode)
  | block (id : Nat) (c : TCode)
  | loop (live : List Nat) (c : TCode)
  | exit (id : Nat)
  | ret
  | fail
  | range (s : Nat) (f : Opd) (live : List Nat)
  deriving Inhabited

inductive RVar where
  | tmp (t : Nat)
  | cell (t : Nat) (agg : Bool) (sz : Nat)
  deriving Inhabited

structure TFn where
  ntmps : Nat
  results : List RVar
  body : TCode
  deriving Inhabited

/-- The number under which yield is called. -/
abbrev YG : Nat := 1000000

def LV.bare1 : LV → LV
  | .sl _ l z xs sp => .sl false l z xs sp
  | v => v
/-- A copy holds no right to append. -/
def LV.bare : LV → LV
  | .sl _ l z xs sp => .sl false l z xs sp
  | .agg cs => .agg (cs.map LV.bare1)
  | v => v
def LV.owns1 : LV → Bool
  | .sl o _ _ _ _ => o
  | _ => false
def LV.ownless : LV → Bool
  | .sl true _ _ _ _ => false
  | .agg cs => cs.all fun c => !c.owns1
  | _ => true
def LV.cells : LV → List LV
  | .agg cs => cs
  | v => [v]
/-- May it lie in a cell of memory? -/
def LV.isCell : LV → Bool
  | .bool _ | .int _ _ | .str _ | .sl .. | .iptr .. | .optr .. | .nilptr | .fn .. | .nilfn | .mref _ | .nilmap | .msl .. => true
  | _ => false
mutual
/-- No address of a slot's box in it. -/
def LV.noL : LV → Bool
  | .laddr _ _ => false
  | .agg cs => LV.noLs cs
  | .tup cs => LV.noLs cs
  | .fn _ cs => LV.noLs cs
  | _ => true
def LV.noLs : List LV → Bool
  | [] => true
  | v :: r => v.noL && LV.noLs r
end
mutual
/-- No object from number n on in it. -/
def LV.noRef (n : Nat) : LV → Bool
  | .optr id _ => decide (id < n)
  | .agg cs => LV.noRefs n cs
  | .tup cs => LV.noRefs n cs
  | .fn _ cs => LV.noRefs n cs
  | .iptr _ cs _ => LV.noRefs n cs
  | .sl _ _ _ xs sp => LV.noRefss n xs && LV.noRefss n sp
  | .mref id => decide (id < n)
  | .msl id _ _ _ _ => decide (id < n)
  | _ => true
def LV.noRefs (n : Nat) : List LV → Bool
  | [] => true
  | v :: r => v.noRef n && LV.noRefs n r
def LV.noRefss (n : Nat) : List (List LV) → Bool
  | [] => true
  | x :: r => LV.noRefs n x && LV.noRefss n r
end

def LV.isLocal : LV → Bool
  | .optr _ _ => false
  | .mref _ => false
  | .msl .. => false
  | _ => true

inductive Root where
  | slot (t : Nat)
  | obj (id : Nat)
  deriving DecidableEq, Inhabited
/-- A place that may hold a right to append: a slot, a cell of a slot's struct or box, a cell of an object. -/
structure Place where
  root : Root
  cell : Option Nat
  deriving DecidableEq, Inhabited

structure St where
  sl : List Slot
  ob : List (List LV)
  al : Nat → Option Place
  deriving Inhabited

def St.operand (gl : Nat → List LV) (st : St) : Opd → Option LV
  | .const v => some v
  | .glob g => some (.iptr 0 (gl g) 0)
  | .tmp t => match st.sl[t]? with
    | some (.val v) => some v.bare
    | some (.box _) => some (.laddr t 0)
    | none => none
def St.operands (gl : Nat → List LV) (st : St) : List Opd → Option (List LV)
  | [] => some []
  | x :: r => (st.operand gl x).bind fun v => (st.operands gl r).map (v :: ·)

/-- What is said of slot d, or leans on it, is forgotten. -/
def St.forget (st : St) (d : Nat) : Nat → Option Place := fun t => if t = d then none else match st.al t with
  | some p => if p.root = .slot d then none else some p
  | none => none
/-- Other slots' addresses of the box that slot d held are no more. -/
def killGo (d : Nat) : List Slot → List Slot
  | [] => []
  | .val (.laddr s o) :: r => (if s = d then .val .undef else .val (.laddr s o)) :: killGo d r
  | x :: r => x :: killGo d r
def St.kill (st : St) (d : Nat) : List Slot :=
  match st.sl[d]? with
  | some (.box _) => killGo d st.sl
  | _ => st.sl
def LV.notOf (d : Nat) : LV → LV
  | .laddr s o => if s = d then .undef else .laddr s o
  | v => v
def St.put (st : St) (dst : Option Nat) (v : LV) : St :=
  match dst with
  | none => st
  | some d => { st with sl := (st.kill d).set d (.val (v.notOf d)), al := st.forget d }
def St.note (st : St) (dst : Option Nat) (p : Place) : St :=
  match dst with
  | none => st
  | some d => if p.root = .slot d then st else { st with al := fun t => if t = d then some p else st.al t }

/-- The value at a place. -/
def St.at (st : St) (p : Place) : Option LV :=
  match p.root, p.cell with
  | .slot t, none => match st.sl[t]? with
    | some (.val v) => some v
    | _ => none
  | .slot t, some i => match st.sl[t]? with
    | some (.val (.agg cs)) => cs[i]?
    | some (.box cs) => cs[i]?
    | _ => none
  | .obj id, some i => match st.ob[id]? with
    | some cs => cs[i]?
    | _ => none
  | .obj _, none => none
/-- The right at a place is given away. -/
def St.strip (st : St) (p : Place) : St :=
  match p.root, p.cell with
  | .slot t, none => match st.sl[t]? with
    | some (.val v) => { st with sl := st.sl.set t (.val v.bare1) }
    | _ => st
  | .slot t, some i => match st.sl[t]? with
    | some (.val (.agg cs)) => { st with sl := st.sl.set t (.val (.agg (cs.modify i LV.bare1))) }
    | some (.box cs) => { st with sl := st.sl.set t (.box (cs.modify i LV.bare1)) }
    | _ => st
  | .obj id, some i => match st.ob[id]? with
    | some cs => { st with ob := st.ob.set id (cs.modify i LV.bare1) }
    | _ => st
  | .obj _, none => st
def Place.may (pb : Nat) (p : Place) : Bool := match p.root with | .slot _ => true | .obj id => decide (pb ≤ id)
/-- Slot t's slice with its right to append, out of the slot itself or out of the place that it was read from. -/
def St.takeTop (st : St) (pb t : Nat) : Option (LV × St) :=
  match st.sl[t]? with
  | some (.val (.sl true l z xs sp)) => some (.sl true l z xs sp, st.strip ⟨.slot t, none⟩)
  | some (.val (.sl false l z xs sp)) =>
    match st.al t with
    | some p =>
      match st.at p with
      | some (.sl true _ z' _ _) => if z' = z ∧ p.may pb = true then some (.sl true l z xs [], st.strip p) else none
      | _ => none
    | none => none
  | _ => none
/-- What a slot holds, its rights with it where there are any. -/
def St.take (gl : Nat → List LV) (st : St) (pb : Nat) : Opd → Option (LV × St)
  | .tmp t => match st.takeTop pb t with
    | some r => some r
    | none => match st.sl[t]? with
      | some (.val v) => some (v, { st with sl := st.sl.set t (.val v.bare) })
      | some (.box _) => some (.laddr t 0, st)
      | none => none
  | x => (st.operand gl x).map (·, st)

def LV.isNilptr : LV → Option Bool
  | .nilptr => some true
  | .optr .. => some false
  | .iptr .. => some false
  | .laddr .. => some false
  | _ => none
def shiftE (op : BinOp) (k : IntKind) (a b : Int) : Option LV := if b < 0 then none else match op with
  | .shl => some (.int k (k.wrap (a * 2 ^ min b.toNat k.bits)))
  | .shr => some (.int k (a.fdiv (2 ^ min b.toNat k.bits)))
  | _ => none
def intE (op : BinOp) (k : IntKind) (a b : Int) : Option LV := match op with
  | .add => some (.int k (k.wrap (a + b)))
  | .sub => some (.int k (k.wrap (a - b)))
  | .mul => some (.int k (k.wrap (a * b)))
  | .quo => if b = 0 then none else some (.int k (k.wrap (a.tdiv b)))
  | .rem => if b = 0 then none else some (.int k (a.tmod b))
  | .and => some (.int k (k.wrap (BitVec.ofInt k.bits a &&& BitVec.ofInt k.bits b).toNat))
  | .or => some (.int k (k.wrap (BitVec.ofInt k.bits a ||| BitVec.ofInt k.bits b).toNat))
  | .xor => some (.int k (k.wrap (BitVec.ofInt k.bits a ^^^ BitVec.ofInt k.bits b).toNat))
  | .shl => shiftE .shl k a b
  | .shr => shiftE .shr k a b
  | .eql => some (.bool (a == b))
  | .neq => some (.bool (a != b))
  | .lss => some (.bool (decide (a < b)))
  | .leq => some (.bool (decide (a ≤ b)))
  | .gtr => some (.bool (decide (a > b)))
  | .geq => some (.bool (decide (a ≥ b)))
  | _ => none
def binE (ty : Nat) (op : BinOp) : LV → LV → Option LV
  | .int k a, .int k' b => if k = k' then intE op k a b else shiftE op k a b
  | .str a, .str b => match op with
    | .add => if a.size + b.size ≤ 9223372036854775807 then some (.str (a ++ b)) else none
    | .eql => some (.bool (a.toList == b.toList))
    | .neq => some (.bool !(a.toList == b.toList))
    | .lss => some (.bool (Op.bytesLess a.toList b.toList))
    | _ => none
  | .bool a, .bool b => if ty = 1 then (match op with
    | .eql => some (.bool (a == b))
    | .neq => some (.bool !(a == b))
    | _ => none) else none
  | x, y => if ty = 2 then (match x.isNilptr, y.isNilptr with
    | some a, some b => if a || b then (match op with
      | .eql => some (.bool (a && b))
      | .neq => some (.bool !(a && b))
      | _ => none) else none
    | _, _ => none) else none
def LV.eq1 : LV → LV → Option Bool
  | .int k a, .int k' b => if k = k' then some (a == b) else none
  | .str a, .str b => some (a.toList == b.toList)
  | .bool a, .bool b => some (a == b)
  | _, _ => none
def LV.eqs : List LV → List LV → Option Bool
  | [], [] => some true
  | x :: xs, y :: ys => (x.eq1 y).bind fun b => (LV.eqs xs ys).map (b && ·)
  | _, _ => none
/-- Of what kinds cells are: 1 whole number, 2 string, 3 bool, by the number's digits to base 4, the last first. -/
def LV.kindOk (c : Nat) : List LV → Bool
  | [] => c == 0
  | .int _ _ :: r => c % 4 == 1 && LV.kindOk (c / 4) r
  | .str _ :: r => c % 4 == 2 && LV.kindOk (c / 4) r
  | .bool _ :: r => c % 4 == 3 && LV.kindOk (c / 4) r
  | _ :: _ => false
def LV.eqsT (t : Nat) (xs ys : List LV) : Option Bool := if LV.kindOk (t / 1000) xs && LV.kindOk (t / 1000) ys then LV.eqs xs ys else none
def unE (op : UnOp) : LV → Option LV
  | .bool b => match op with | .not => some (.bool !b) | _ => none
  | .int k n => match op with | .neg => some (.int k (k.wrap (0 - n))) | _ => none
  | _ => none
def minmaxE (mx : Bool) : LV → LV → Option LV
  | .int k a, .int k' b => if k = k' then some (.int k (if mx then (if a < b then b else a) else (if b < a then b else a))) else none
  | _, _ => none
def partE (agg : Bool) (off sz : Nat) (cs : List LV) : Option LV :=
  if agg then (if off + sz ≤ cs.length then some (.agg ((cs.drop off).take sz)) else none) else cs[off]?
def fillE (zero : List LV) : List (Nat × Nat × LV) → Option (List LV)
  | [] => some zero
  | (off, sz, v) :: r => if v.cells.length = sz ∧ off + sz ≤ zero.length ∧ v.cells.all LV.isCell = true then fillE (zero.take off ++ v.cells ++ zero.drop (off + sz)) r else none
def fillRows (sz : Nat) (rows : List (List LV)) : List (Nat × LV) → Option (List (List LV))
  | [] => some rows
  | (i, v) :: r => if v.cells.length = sz ∧ i < rows.length ∧ v.cells.all LV.isCell = true then fillRows sz (rows.set i (v.cells.map LV.bare1)) r else none
def elems : LV → Option (Nat × List (List LV))
  | .sl _ _ z xs _ => some (z, xs)
  | .str s => some (1, s.data.toList.map fun b => [.int .u8 b.toNat])
  | _ => none
def intOf : LV → Option Int
  | .int _ n => some n
  | _ => none
def isMapC : List LV → Bool
  | .tup _ :: _ => true
  | _ => false
def keyEq (t : Nat) : LV → LV → Option Bool
  | .agg xs, .agg ys => LV.eqsT t xs ys
  | .str a, .str b => if t = 2 then some (a.toList == b.toList) else none
  | _, _ => none
/-- Where a key stands, with what and since when. -/
def findE (t : Nat) (k : LV) : List LV → Nat → Option (Option (Nat × LV × LV × Int))
  | [], _ => some none
  | .tup [k', v, .int .i64 b] :: r, i => (keyEq t k k').bind fun q => if q then some (some (i, k', v, b)) else findE t k r (i + 1)
  | _ :: _, _ => none
def mapLook (t : Nat) (zero : LV) (k : LV) (cs : List LV) : Option (LV × Bool) :=
  match cs with
  | .tup [.int .i64 _] :: es => (findE t k es 0).map fun r => match r with
    | some (_, _, v, _) => (v, true)
    | none => (zero, false)
  | _ => none
def mapPut (t : Nat) (k v : LV) (cs : List LV) : Option (List LV) :=
  match cs with
  | .tup [.int .i64 c] :: es => (findE t k es 0).map fun r => match r with
    | some (i, _, _, b) => .tup [.int .i64 c] :: es.set i (.tup [k, v, .int .i64 b])
    | none => .tup [.int .i64 (c + 1)] :: (es ++ [.tup [k, v, .int .i64 c]])
  | _ => none
def mapOff (t : Nat) (k : LV) (cs : List LV) : Option (List LV) :=
  match cs with
  | .tup [.int .i64 c] :: es => (findE t k es 0).map fun r => match r with
    | some (i, _, _, _) => .tup [.int .i64 c] :: es.eraseIdx i
    | none => .tup [.int .i64 c] :: es
  | _ => none
/-- An entry for a store: what it holds (zero, and laid, where there is none), and since when. -/
def mapEntV (t : Nat) (zero k : LV) (cs : List LV) : Option LV :=
  match cs with
  | .tup [.int .i64 c] :: es => (findE t k es 0).map fun r => match r with
    | some (_, _, v, b) => .tup [v.bare, .int .i64 b]
    | none => .tup [zero.bare, .int .i64 c]
  | _ => none
def mapEntC (t : Nat) (zero k : LV) (cs : List LV) : Option (List LV) :=
  match cs with
  | .tup [.int .i64 c] :: es => (findE t k es 0).map fun r => match r with
    | some (i, _, v, b) => .tup [.int .i64 c] :: es.set i (.tup [k, v, .int .i64 b])
    | none => .tup [.int .i64 (c + 1)] :: (es ++ [.tup [k, zero, .int .i64 c]])
  | _ => none
/-- The entry of a birth. -/
def findB (b : Int) : List LV → Nat → Option (Nat × LV)
  | [], _ => none
  | .tup [k, _, .int .i64 c] :: r, i => if c = b then some (i, k) else findB b r (i + 1)
  | _ :: _, _ => none
def entPutC (b : Int) (u : LV) (cs : List LV) : Option (List LV) :=
  match cs with
  | .tup [.int .i64 c] :: es => (findB b es 0).map fun p => .tup [.int .i64 c] :: es.set p.1 (.tup [p.2, u, .int .i64 b])
  | _ => none
def mapLen (cs : List LV) : Option Nat :=
  match cs with
  | .tup [.int .i64 _] :: es => some es.length
  | _ => none
def boundE : Option LV → Int → Option Int
  | none, d => some d
  | some v, _ => intOf v
/-- A slice of three numbers. -/
def slice3E (sz : Nat) (l : Option LV) (h u : LV) : LV → Option LV
  | .sl _ lab z xs sp => (boundE l 0).bind fun a => (intOf h).bind fun b => (intOf u).bind fun c =>
    if z = sz ∧ 0 ≤ a ∧ a ≤ b ∧ b ≤ c ∧ c ≤ (xs ++ sp).length then some (.sl false lab sz (((xs ++ sp).take b.toNat).drop a.toNat) (((xs ++ sp).take c.toNat).drop b.toNat)) else none
  | _ => none
/-- A struct of zeros but for one cell, a slice with its right. -/
def wrapE (zero : List LV) (off : Nat) : LV → Option LV
  | .sl o l z xs sp => if off < zero.length then some (.agg (zero.set off (.sl o l z xs sp))) else none
  | _ => none
end Tree

set_option autoImplicit false
set_option linter.unusedVariables false
set_option linter.unusedSimpArgs false
namespace Tree
open Go

/-- What the functions are: their code, or what a call of them gives. -/
abbrev Obs := List (List LV)
inductive Entry where
  | code (f : TFn)
  | ext (F : List LV → Obs → Option LV)
structure Env where
  fns : Nat → Option Entry
  gl : Nat → List LV
  lps : Nat → Option (List Nat × TCode × TCode) := fun _ => none
  fx : Nat → Option (List LV → Obs → Nat → Option (LV × Obs)) := fun _ => none

/-- A call: function, arguments, objects, how many of them may not be written. -/
abbrev Ev := Nat → List LV → Obs → Nat → Option (LV × Obs)

def readAt (st : St) (agg : Bool) (sz : Nat) : LV → Option LV
  | .iptr _ cs off => partE agg off sz cs
  | .laddr s off => match st.sl[s]? with
    | some (.box cs) => partE agg off sz cs
    | _ => none
  | .optr id off => match st.ob[id]? with
    | some cs => if isMapC cs then none else partE agg off sz cs
    | none => none
  | _ => none
/-- Where one cell was read, if it may hold a right. -/
def placeAt : LV → Option Place
  | .laddr s off => some ⟨.slot s, some off⟩
  | .optr id off => some ⟨.obj id, some off⟩
  | _ => none
def splice (cs : List LV) (off : Nat) (vs : List LV) : Option (List LV) :=
  if off + vs.length ≤ cs.length then some (cs.take off ++ vs ++ cs.drop (off + vs.length)) else none
def St.dropRoot (st : St) (r : Root) : Nat → Option Place := fun t => match st.al t with
  | some p => if p.root = r then none else some p
  | none => none
def writeAt (st : St) (pb : Nat) (vs : List LV) : LV → Option St
  | .laddr s off => match st.sl[s]? with
    | some (.box cs) => (splice cs off vs).map fun cs' => { st with sl := st.sl.set s (.box cs'), al := st.dropRoot (.slot s) }
    | _ => none
  | .optr id off => if pb ≤ id then match st.ob[id]? with
    | some cs => if isMapC cs then none else (splice cs off vs).map fun cs' => { st with ob := st.ob.set id cs', al := st.dropRoot (.obj id) }
    | none => none
    else none
  | _ => none
def addrE (v : LV) (off : Nat) : Option LV :=
  match v with
  | .iptr l cs o => some (.iptr l cs (o + off))
  | .laddr s o => some (.laddr s (o + off))
  | .optr id o => some (.optr id (o + off))
  | _ => none
/-- A box that a function value has captured stays as it is. -/
def St.freeze (st : St) : LV → Option (LV × St)
  | .laddr s 0 => match st.sl[s]? with
    | some (.box cs) => some (.iptr 0 (cs.map LV.bare1) 0, st.put (some s) (.iptr 0 (cs.map LV.bare1) 0))
    | _ => none
  | v => if v.noL then some (v, st) else none
def freezes (gl : Nat → List LV) (st : St) : List Opd → Option (List LV × St)
  | [] => some ([], st)
  | x :: r => (st.operand gl x).bind fun v => (st.freeze v).bind fun p => (freezes gl p.2 r).map fun q => (p.1 :: q.1, q.2)
def takeArgs (gl : Nat → List LV) (pb : Nat) (moved : List Nat) : Nat → List Opd → St → Option (List LV × St)
  | _, [], st => some ([], st)
  | j, x :: r, st =>
    if moved.contains j then (st.take gl pb x).bind fun p => (takeArgs gl pb moved (j + 1) r p.2).map fun q => (p.1 :: q.1, q.2)
    else (st.operand gl x).bind fun v => (takeArgs gl pb moved (j + 1) r st).map fun q => (v :: q.1, q.2)
def operandO (gl : Nat → List LV) (st : St) : Option Opd → Option (Option LV)
  | none => some none
  | some x => (st.operand gl x).map some

def keyOk (t : Nat) : LV → Bool
  | .agg xs => t != 2 && LV.kindOk (t / 1000) xs
  | .str _ => t == 2
  | _ => false
/-- What a map's object holds becomes something else. -/
def St.remap (st : St) (id : Nat) (cs : List LV) : St := { st with ob := st.ob.set id cs, al := st.dropRoot (.obj id) }
def lookE1 (st : St) (t : Nat) (zero : LV) (k : LV) : LV → Option (LV × Bool)
  | .nilmap => some (zero, false)
  | .mref id => (st.ob[id]?).bind (mapLook t zero k)
  | _ => none
def mapNew (st : St) (pb id : Nat) (f : List LV → Option (List LV)) : Option St :=
  if pb ≤ id then (st.ob[id]?).bind fun cs => (f cs).map fun cs' => st.remap id cs' else none
/-- Rows of an object, or of a slice. -/
def rowsOf (st : St) : LV → Option (Nat × List (List LV))
  | .msl id off len _ sz => (st.ob[id]?).bind fun cs => if isMapC cs then none else if off + len * sz ≤ cs.length then some (sz, (List.range len).map fun i => (cs.drop (off + i * sz)).take sz) else none
  | .sl _ _ z xs _ => some (z, xs)
  | _ => none
/-- Is an address of the frame's box s; or none of the frame's own boxes? -/
def rootOk : Option Nat → LV → Bool
  | none, .laddr _ _ => false
  | none, _ => true
  | some s, .laddr t _ => Nat.beq s t
  | some _, _ => false
/-- Rows of bytes as bytes. -/
def bytesE : List (List LV) → Option (List UInt8)
  | [] => some []
  | [.int .u8 n] :: r => (bytesE r).map (UInt8.ofNat n.toNat :: ·)
  | _ :: _ => none
/-- Only of a slice a place is told. -/
def noteOf (v : LV) (p : Option Place) : Option Place :=
  match v with
  | .sl .. => p
  | _ => none
theorem noteOf_some {v : LV} {p : Option Place} {q : Place} (h : noteOf v p = some q) : p = some q := by
  cases v <;> simp [noteOf] at h <;> exact h
/-- One operation: its value, the state, the place that the value was read from. -/
def valOp (E : Env) (ev : Ev) (pb : Nat) (st : St) (dst : Option Nat) : TOp → Option (LV × St × Option Place)
  | .move x => (st.operand E.gl x).map fun v => (v, st, noteOf v (match x with | .tmp t => some ⟨.slot t, none⟩ | _ => none))
  | .assign x => (st.take E.gl pb x).map fun p => (p.1, p.2, none)
  | .pick c a b => match st.operand E.gl c with
    | some (.bool true) => (st.operand E.gl a).map (·, st, none)
    | some (.bool false) => (st.operand E.gl b).map (·, st, none)
    | _ => none
  | .loadB agg sz p => (st.operand E.gl p).bind fun a => if a.isLocal then (readAt st agg sz a).map fun v => (v.bare, st, noteOf v (if agg then none else placeAt a)) else none
  | .loadR r agg sz p => (st.operand E.gl p).bind fun a => if rootOk r a then (readAt st agg sz a).map fun v => (v.bare, st, none) else none
  | .idxAgg agg len sz x i => match st.operand E.gl x, st.operand E.gl i with
    | some (.agg cs), some (.int _ n) => if 0 ≤ n ∧ n < len then (partE agg (n.toNat * sz) sz cs).map fun v => (v.bare, st, none) else none
    | _, _ => none
  | .strOf x => (st.operand E.gl x).bind fun v => (rowsOf st v).bind fun r => if r.1 = 1 then (bytesE r.2).map fun l => (.str ⟨l.toArray⟩, st, none) else none
  | .load agg sz p => (st.operand E.gl p).bind fun a => (readAt st agg sz a).map fun v => (v.bare, st, noteOf v (if agg then none else placeAt a))
  | .nilCheck x => match st.operand E.gl x with
    | some .nilptr => none
    | some .nilfn => none
    | some .undef => none
    | some v => some (v, st, none)
    | none => none
  | .bin ty op x y => (st.operand E.gl x).bind fun a => (st.operand E.gl y).bind fun b => (binE ty op a b).map (·, st, none)
  | .eqAgg neg t x y => match st.operand E.gl x, st.operand E.gl y with
    | some (.agg xs), some (.agg ys) => (LV.eqsT t xs ys).map fun b => (.bool (if neg then !b else b), st, none)
    | _, _ => none
  | .un op x => (st.operand E.gl x).bind fun a => (unE op a).map (·, st, none)
  | .conv k x => match st.operand E.gl x with
    | some (.int _ n) => some (.int k (k.wrap n), st, none)
    | _ => none
  | .convS x => match st.operand E.gl x with
    | some (.str s) => some (.str s, st, none)
    | _ => none
  | .faddr x off => (st.operand E.gl x).bind fun v => (addrE v off).map (·, st, none)
  | .field x agg off sz => match st.operand E.gl x with
    | some (.agg cs) => (partE agg off sz cs).map fun v => (v.bare, st, none)
    | _ => none
  | .idxAddr x i sz => match st.operand E.gl x, st.operand E.gl i with
    | some (.sl _ l z xs _), some (.int _ n) =>
      if z = sz ∧ 0 ≤ n then (xs[n.toNat]?).map fun cs => (.iptr l cs 0, st, none) else none
    | some (.msl id off len _ z), some (.int _ n) => if z = sz ∧ 0 ≤ n ∧ n < len then some (.optr id (off + n.toNat * sz), st, none) else none
    | _, _ => none
  | .idxArr x i len sz => (st.operand E.gl x).bind fun v => match st.operand E.gl i with
    | some (.int _ n) => if 0 ≤ n ∧ n < len then (addrE v (n.toNat * sz)).map (·, st, none) else none
    | _ => none
  | .idxStr x i => match st.operand E.gl x, st.operand E.gl i with
    | some (.str s), some (.int _ n) => if 0 ≤ n then (s.data.toList[n.toNat]?).map fun b => (.int .u8 b.toNat, st, none) else none
    | _, _ => none
  | .build zero parts => (st.operands E.gl (parts.map (·.2.2))).bind fun vs => (fillE zero ((parts.map fun p => (p.1, p.2.1)).zipWith (fun p v => (p.1, p.2, v)) vs)).bind fun cs => if cs.all LV.isCell then some (.agg cs, st, none) else none
  | .buildSlice n sz zero parts => (st.operands E.gl (parts.map (·.2))).bind fun vs =>
    (fillRows sz (List.replicate n zero) ((parts.map (·.1)).zip vs)).bind fun xs => if xs.all (fun x => x.all LV.isCell) then some (.sl true 0 sz xs [], st, none) else none
  | .len str x => match st.operand E.gl x with
    | some (.sl _ _ _ xs _) => if str then none else some (.int .i64 xs.length, st, none)
    | some (.msl _ _ n _ _) => if str then none else some (.int .i64 n, st, none)
    | some (.str s) => if str then some (.int .i64 s.size, st, none) else none
    | _ => none
  | .append sz bytes s x => match s with
    | .tmp t => (st.takeTop pb t).bind fun p => match p.1 with
      | .sl _ 0 z xs [] => (st.operand E.gl x).bind fun y => (elems y).bind fun e =>
        if z = sz ∧ (e.1 = sz ∨ e.2 = []) ∧ (xs.length + e.2.length) * bytes ≤ 140737488355328 then some (.sl true 0 sz (xs ++ e.2) [], p.2, none) else none
      | _ => none
    | .const (.sl true 0 z [] []) => (st.operand E.gl x).bind fun y => (elems y).bind fun e =>
        if z = sz ∧ (e.1 = sz ∨ e.2 = []) ∧ e.2.length * bytes ≤ 140737488355328 then some (.sl true 0 sz e.2 [], st, none) else none
    | _ => none
  | .slice sz x lo hi => (operandO E.gl st lo).bind fun l => (operandO E.gl st hi).bind fun h => match st.operand E.gl x with
    | some (.sl _ lab z xs sp) => (boundE l 0).bind fun a => (boundE h xs.length).bind fun b =>
      if z = sz ∧ 0 ≤ a ∧ a ≤ b ∧ b ≤ (xs ++ sp).length then
        some (.sl false lab sz (((xs ++ sp).take b.toNat).drop a.toNat) ((xs ++ sp).drop b.toNat), st, match x, hi with | .tmp t, none => st.al t | _, _ => none)
      else none
    | some (.msl id off len cap z) => (boundE l 0).bind fun a => (boundE h len).bind fun b =>
      if z = sz ∧ 0 ≤ a ∧ a ≤ b ∧ b ≤ cap then some (.msl id (if cap = a.toNat then off else off + a.toNat * sz) (b.toNat - a.toNat) (cap - a.toNat) sz, st, none) else none
    | _ => none
  | .buildM zero off x => (st.take E.gl pb x).bind fun p => (wrapE zero off p.1).map fun v => (v, p.2, none)
  | .slice3 sz x lo hi mx => (operandO E.gl st lo).bind fun l => (st.operand E.gl hi).bind fun h => (st.operand E.gl mx).bind fun u => (st.operand E.gl x).bind fun v => (slice3E sz l h u v).map (·, st, none)
  | .sliceStr x lo hi => (operandO E.gl st lo).bind fun l => (operandO E.gl st hi).bind fun h => match st.operand E.gl x with
    | some (.str s) => (boundE l 0).bind fun a => (boundE h s.size).bind fun b =>
      if 0 ≤ a ∧ a ≤ b ∧ b ≤ s.size then some (.str (s.extract a.toNat b.toNat), st, none) else none
    | _ => none
  | .fail => none
  | .mkmap => some (.mref st.ob.length, { st with ob := st.ob ++ [[.tup [.int .i64 0]]] }, none)
  | .lookup t zero ok x i => (st.operand E.gl x).bind fun mp => (st.operand E.gl i).bind fun k => if keyOk t k then
      (lookE1 st t zero k mp).map fun r => (if ok then .tup [r.1.bare, .bool r.2] else r.1.bare, st, none) else none
  | .mapSet t x i v => (st.operand E.gl x).bind fun mp => (st.operand E.gl i).bind fun k => (st.operand E.gl v).bind fun u =>
    if keyOk t k && u.cells.all LV.isCell then (match mp with
      | .mref id => (mapNew st pb id (mapPut t k u)).map fun st => (.undef, st, none)
      | _ => none) else none
  | .mapDel t x i => (st.operand E.gl x).bind fun mp => (st.operand E.gl i).bind fun k => if keyOk t k then (match mp with
      | .mref id => (mapNew st pb id (mapOff t k)).map fun st => (.tup [], st, none)
      | .nilmap => some (.tup [], st, none)
      | _ => none) else none
  | .mapEnt t zero x i => (st.operand E.gl x).bind fun mp => (st.operand E.gl i).bind fun k => if keyOk t k && zero.cells.all LV.isCell then (match mp with
      | .mref id => ((st.ob[id]?).bind (mapEntV t zero k)).bind fun v => (mapNew st pb id (mapEntC t zero k)).map fun st => (v, st, none)
      | _ => none) else none
  | .entPut x s v => (st.operand E.gl x).bind fun mp => (st.operand E.gl s).bind fun b => (st.operand E.gl v).bind fun u =>
    if u.cells.all LV.isCell then (match mp, b with
      | .mref id, .int .i64 b => (mapNew st pb id (entPutC b u)).map fun st => (.undef, st, none)
      | _, _ => none) else none
  | .lenMap x => match st.operand E.gl x with
    | some .nilmap => some (.int .i64 0, st, none)
    | some (.mref id) => ((st.ob[id]?).bind mapLen).map fun (n : Nat) => (.int .i64 n, st, none)
    | _ => none
  | .mkslice sz bytes zero n c => (st.operand E.gl n).bind fun n => (st.operand E.gl c).bind fun c => match n, c with
    | .int _ n, .int _ c => if 0 ≤ n ∧ n ≤ c ∧ c * bytes ≤ 140737488355328 ∧ zero.length = sz ∧ zero.all LV.isCell then
        some (.msl st.ob.length 0 n.toNat c.toNat sz, { st with ob := st.ob ++ [(List.replicate c.toNat zero).flatten] }, none) else none
    | _, _ => none
  | .copy sz x y => (st.operand E.gl x).bind fun d => (st.operand E.gl y).bind fun s => (rowsOf st s).bind fun r => match d with
    | .msl id off len _ z => if z = sz ∧ (r.1 = sz ∨ r.2 = []) ∧ pb ≤ id then
        (writeAt st pb ((r.2.take len).flatten.map LV.bare1) (.optr id off)).map fun st => (.int .i64 (min len r.2.length : Nat), st, none) else none
    | _ => none
  | .sliceArr x len sz => match st.operand E.gl x with
    | some (.iptr l cs 0) => if cs.length = len * sz then some (.sl false l sz ((List.range len).map fun i => (cs.drop (i * sz)).take sz) [], st, none) else none
    | _ => none
  | .minmax mx x y => (st.operand E.gl x).bind fun a => (st.operand E.gl y).bind fun b => (minmaxE mx a b).map (·, st, none)
  | .extract x i => match x with
    | .tmp t => match st.sl[t]? with
      | some (.val (.tup vs)) => (vs[i]?).map fun v => (v.bare, st, none)
      | _ => none
    | _ => none
  | .makeFunc g cap => (freezes E.gl st cap).map fun p => (.fn g p.1, p.2, none)
  | .box sz x => (st.take E.gl pb x).bind fun p =>
    if p.1.cells.length = sz ∧ p.1.cells.all LV.isCell then some (p.1, p.2, none) else none
  | .new sz x => (st.take E.gl pb x).bind fun p =>
    if p.1.cells.length = sz ∧ p.1.cells.all LV.isCell then some (.optr p.2.ob.length 0, { p.2 with ob := p.2.ob ++ [p.1.cells] }, none) else none
  | .store sz p x => (st.operand E.gl p).bind fun a => (st.take E.gl pb x).bind fun q =>
    if q.1.cells.length = sz ∧ q.1.cells.all LV.isCell then (writeAt q.2 pb q.1.cells a).map fun st' => (.undef, st', none) else none
  | .storeR r sz p x => (st.operand E.gl p).bind fun a => if rootOk r a then (st.take E.gl pb x).bind fun q =>
    if q.1.cells.length = sz ∧ q.1.cells.all LV.isCell then (writeAt q.2 pb q.1.cells a).map fun st' => (.undef, st', none) else none else none
  | .call ro f args moved => match st.operand E.gl f with
    | some (.fn g cap) => (takeArgs E.gl pb moved 0 args st).bind fun p =>
      if LV.noLs p.1 && LV.noLs cap && cap.all LV.ownless then
        if ro then (ev g (p.1 ++ cap) p.2.ob (max pb p.2.ob.length)).bind fun r => if r.1.noRef p.2.ob.length then some (r.1, p.2, none) else none
        else (ev g (p.1 ++ cap) p.2.ob pb).map fun r => (r.1, { p.2 with ob := r.2, al := fun t => match p.2.al t with | some ⟨.slot s, c⟩ => some ⟨.slot s, c⟩ | _ => none }, none)
      else none
    | _ => none

def TOp.isBox : TOp → Bool
  | .box .. => true
  | _ => false
def guardE (st : St) : Option (Nat × Bool) → Option Bool
  | none => some true
  | some (t, b) => match st.sl[t]? with
    | some (.val (.bool c)) => some (c == b)
    | some (.val (.tup [])) => some false
    | _ => none
/-- What an operation's value makes of the state. -/
def doneE (o : TOper) (r : LV × St × Option Place) : St :=
  match o.op.isBox, o.dst with
  | true, some d => { r.2.1 with sl := (r.2.1.kill d).set d (.box r.1.cells), al := r.2.1.forget d }
  | true, none => r.2.1
  | false, dst => match r.2.2 with
    | none => r.2.1.put dst r.1
    | some p => (r.2.1.put dst r.1).note dst p
/-- An operation whose turn it is. -/
def stepOp (E : Env) (ev : Ev) (pb : Nat) (o : TOper) (st : St) : Option St :=
  match guardE st o.guard with
  | some true => (valOp E ev pb st o.dst o.op).map (doneE o)
  | some false => some (st.put o.dst (.tup []))
  | none => none
def runOps (E : Env) (ev : Ev) (pb : Nat) : List TOper → St → Option St
  | [], st => some st
  | o :: r, st => (stepOp E ev pb o st).bind (runOps E ev pb r)

/-- No operation of a drawn region writes over a box. -/
def dstsOk (st : St) (ops : List TOper) : Bool := ops.all fun o => match o.dst with
  | none => true
  | some d => match st.sl[d]? with
    | some (.val _) => true
    | _ => false

inductive Ex where
  | normal
  | exit (id : Nat)
  | ret
  deriving DecidableEq, Inhabited

/-- Only what lives on is kept. -/
def keepGo (live : List Nat) : Nat → List Slot → List Slot
  | _, [] => []
  | t, x :: r => (if live.contains t then (match x with | .val (.laddr _ _) => .val .undef | _ => x) else .val .undef) :: keepGo live (t + 1) r
def St.keep (live : List Nat) (st : St) : St := { st with sl := keepGo live 0 st.sl, al := fun _ => none }

def resultE (st : St) : RVar → Option LV
  | .tmp t => match st.sl[t]? with
    | some (.val v) => some v
    | _ => none
  | .cell t agg sz => match st.sl[t]? with
    | some (.box cs) => if agg then (partE agg 0 sz cs).map LV.bare else partE agg 0 sz cs
    | some (.val (.iptr _ cs 0)) => (partE agg 0 sz cs).map LV.bare
    | some (.val (.optr id 0)) => (st.ob[id]?).bind fun cs => if isMapC cs then none else (partE agg 0 sz cs).map LV.bare
    | _ => none
def resultsE (st : St) : List RVar → Option (List LV)
  | [] => some []
  | x :: r => (resultE st x).bind fun v => (resultsE st r).map (v :: ·)
def tupE : List LV → LV
  | [v] => v
  | vs => .tup (vs.map LV.bare)

def snapGo (live : List Nat) : Nat → List Slot → List LV
  | _, [] => []
  | t, x :: r => (if live.contains t then (match x with | .val (.laddr _ _) => .undef | .val v => v.bare | .box _ => .undef) else .undef) :: snapGo live (t + 1) r
def loopObj (s : Nat) (z : Int) (snap : List LV) : List LV := [.tup [.int .i64 s, .int .i64 z], .tup snap]
def getLoopE : List LV → Option (Nat × Int × List LV)
  | [.tup [.int .i64 s, .int .i64 z], .tup snap] => some (s.toNat, z, snap)
  | _ => none
def exOf (z : Int) : Option Ex := if z = 0 then some .normal else if z = 1 then some .ret else if 2 ≤ z then some (.exit (z.toNat - 2)) else none
def zOf : Ex → Int
  | .normal => 0
  | .ret => 1
  | .exit i => (i : Int) + 2
def Ex.isNormal : Ex → Bool
  | .normal => true
  | _ => false
def setPs : List Nat → List LV → List Slot → List Slot
  | p :: ps, v :: vs, sl => setPs ps vs (sl.set p (.val v))
  | _, _, sl => sl
def splitLast : List LV → Option (List LV × LV)
  | [] => none
  | [v] => some ([], v)
  | v :: r => (splitLast r).map fun q => (v :: q.1, q.2)
theorem splitLast_app : ∀ (xs : List LV) (v : LV), splitLast (xs ++ [v]) = some (xs, v)
  | [], v => rfl
  | [x], v => rfl
  | x :: y :: r, v => by
    show (splitLast (y :: r ++ [v])).map _ = _
    rw [splitLast_app (y :: r) v]; rfl
/-- The loop whose yield is called: its number, its site, what the rounds find. -/
def yieldTo (E : Env) (args : List LV) (ob : Obs) (pb : Nat) : Option (List LV × Nat × List LV × (List Nat × TCode × TCode)) :=
  (splitLast args).bind fun q => match q.2 with
    | .optr id 0 => if pb ≤ id then (ob[id]?).bind fun cs => (getLoopE cs).bind fun l => if l.2.1 = 0 then
        (E.lps l.1).bind fun c => if q.1.length = c.1.length ∧ q.1.all LV.ownless = true ∧ l.2.2.all LV.ownless = true then some (q.1, id, l.2.2, c) else none
      else none else none
    | _ => none
/-- The loop's state is written anew. -/
def loopTo (st : St) (id : Nat) (z : Int) : Option St :=
  (st.ob[id]?).bind fun cs => (getLoopE cs).map fun l => { st with ob := st.ob.set id (loopObj l.1 z l.2.2), al := fun _ => none }
def readyE (st : St) (id : Nat) : Bool := match (st.ob[id]?).bind getLoopE with
  | some l => l.2.1 == 0
  | none => false

mutual
def run (E : Env) : Nat → Nat → TCode → St → Option (Ex × St)
  | 0, _, _, _ => none
  | n + 1, pb, .skip, st => some (.normal, st)
  | n + 1, pb, .region d ops, st => if d && !dstsOk st ops then none else (runOps E (call E n) pb ops { st with al := fun _ => none }).map fun st => (.normal, { st with al := fun _ => none })
  | n + 1, pb, .seq a b, st => (run E n pb a st).bind fun r => match r.1 with
    | .normal => run E n pb b r.2
    | _ => some r
  | n + 1, pb, .cond c a b, st => match st.operand E.gl c with
    | some (.bool true) => run E n pb a st
    | some (.bool false) => run E n pb b st
    | _ => none
  | n + 1, pb, .block id c, st => (run E n pb c st).map fun r => match r.1 with
    | .exit j => if j = id then (.normal, r.2) else r
    | _ => r
  | n + 1, pb, .loop live c, st => (run E n pb c (st.keep live)).bind fun r => match r.1 with
    | .normal => run E n pb (.loop live c) r.2
    | _ => some r
  | n + 1, pb, .exit id, st => some (.exit id, st)
  | n + 1, pb, .ret, st => some (.ret, st)
  | n + 1, pb, .fail, st => none
  | n + 1, pb, .range s f live, st => match st.operand E.gl f with
    | some (.fn g cap) => if LV.noLs cap && cap.all LV.ownless && !(g == YG) && decide (pb ≤ st.ob.length) then
        (call E n g (.fn YG [.optr st.ob.length 0] :: cap) (st.ob ++ [loopObj s 0 (snapGo live 0 st.sl)]) pb).bind fun r =>
          (r.2[st.ob.length]?).bind fun cs => (getLoopE cs).bind fun q => (exOf q.2.1).bind fun ex =>
            (loopTo { st with ob := r.2 } st.ob.length (-2)).map fun st => (ex, st)
      else none
    | _ => none
def call (E : Env) : Nat → Ev
  | 0, _, _, _, _ => none
  | n + 1, g, args, ob, pb => match E.fns g with
    | none => if g == YG then (yieldTo E args ob pb).bind fun y =>
        (run E n pb y.2.2.2.2.1 { sl := setPs y.2.2.2.1 y.1 (y.2.2.1.map .val), ob, al := fun _ => none }).bind fun r1 =>
          if r1.1.isNormal && readyE r1.2 y.2.1 then (loopTo r1.2 y.2.1 (-1)).bind fun st1 => (run E n pb y.2.2.2.2.2 st1).bind fun r2 =>
            (loopTo r2.2 y.2.1 (zOf r2.1)).map fun st2 => (.bool r2.1.isNormal, st2.ob)
          else none
      else (E.fx g).bind fun F => F args ob pb
    | some (.ext F) => (F args ob).map (·, ob)
    | some (.code f) =>
      (run E n pb f.body { sl := args.map .val ++ List.replicate (f.ntmps - args.length) (.val .undef), ob, al := fun _ => none }).bind fun r => match r.1 with
        | .exit _ => none
        | _ => (resultsE r.2 f.results).bind fun vs => if LV.noLs vs then some (tupE vs, r.2.ob) else none
end
end Tree

set_option autoImplicit false
set_option linter.unusedVariables false
set_option linter.unusedSimpArgs false
namespace Tree
open Go

def isNilSlice : Value → Bool
  | .slice none 0 0 => true
  | _ => false
mutual
/-- A constant value and its tree. -/
def constOk (c : LV) (v : Value) : Bool :=
  match c with
  | .bool a => (match v with | .bool b => a == b | _ => false)
  | .int k a => (match v with | .int k' b => k == k' && a == b | _ => false)
  | .str a => (match v with | .string b => a.data.toList == b.data.toList | _ => false)
  | .sl _ l _ xs sp => isNilSlice v && l == 0 && xs.isEmpty && sp.isEmpty
  | .nilptr => (match v with | .pointer none => true | _ => false)
  | .nilfn => (match v with | .nilFunc => true | _ => false)
  | .nilmap => (match v with | .map none => true | _ => false)
  | .agg cs => (match v with | .agg vs => constsOk cs vs.toList | _ => false)
  | _ => false
def constsOk (cs : List LV) (vs : List Value) : Bool :=
  match cs with
  | [] => (match vs with | [] => true | _ => false)
  | c :: cs => (match vs with | v :: vs => constOk c v && constsOk cs vs | _ => false)
end
structure Tab where
  P : Program
  nu : List (Nat × Nat)
  eqT : List (Nat × TypeId)
  glT : List (Nat × Nat)
  lps : Nat → Option (List Nat × TCode × TCode) := fun _ => none
  ifs : List Nat := []
def Tab.fn (T : Tab) (f : FuncId) : Option Nat := (T.nu.find? (fun e => e.1 == f)).map (·.2)

def chkOpd (T : Tab) : Operand → Opd → Bool
  | .tmp t, .tmp u => t == u
  | .const v, .const c => constOk c v
  | .global g, .glob h => T.glT.contains (g, h)
  | .func f, .const (.fn g []) => T.fn f == some g
  | _, _ => false
def chkOpds (T : Tab) : List Operand → List Opd → Bool
  | [], [] => true
  | x :: xs, y :: ys => chkOpd T x y && chkOpds T xs ys
  | _, _ => false
def chkOpdO (T : Tab) : Option Operand → Option Opd → Bool
  | none, none => true
  | some x, some y => chkOpd T x y
  | _, _ => false
def isAggB (P : Program) (t : TypeId) : Option Bool :=
  match P.underlying t with
  | some (.struct _) | some (.array _ _) => some true
  | some _ => some false
  | none => none
def sizeB (P : Program) (t : TypeId) : Option Nat := (P.info? t).map (·.size)
/-- Of what type the operands of an operation of two are: 1: bools, 2: pointers, else whole numbers or strings. -/
def binT (P : Program) (t : TypeId) (ty : Nat) : Bool :=
  match ty with
  | 1 => (match P.underlying t with | some .bool => true | _ => false)
  | 2 => (match P.underlying t with | some (.pointer _) => true | _ => false)
  | _ => true
def chkParts (P : Program) (T : Tab) (fs : Array Field) : List (Nat × Operand) → List (Nat × Nat × Opd) → Bool
  | [], [] => true
  | (i, x) :: r, (off, sz, y) :: q => (match fs[i]? with
    | some f => f.offset == off && sizeB P f.type == some sz
    | none => false) && chkOpd T x y && chkParts P T fs r q
  | _, _ => false
def chkPartsA (T : Tab) (es : Nat) : List (Nat × Operand) → List (Nat × Nat × Opd) → Bool
  | [], [] => true
  | (i, x) :: r, (off, sz, y) :: q => i * es == off && es == sz && chkOpd T x y && chkPartsA T es r q
  | _, _ => false
def chkRows (T : Tab) : List (Nat × Operand) → List (Nat × Opd) → Bool
  | [], [] => true
  | (i, x) :: r, (j, y) :: q => i == j && chkOpd T x y && chkRows T r q
  | _, _ => false
def chkZero (P : Program) (t : TypeId) (z : List LV) : Bool :=
  match P.info? t with
  | some i => match i.zero with
    | some v => constsOk z v.cells.toList && z.length == i.size
    | none => false
  | none => false

def chkElem (P : Program) (el : TypeId) (sz bytes : Nat) : Bool :=
  match P.info? el with
  | some i => i.size == sz && i.bytes == bytes && sz != 0 && bytes != 0 && (match i.zero with | some v => v.cells.size == sz && v.cells.all (·.oneCell') | none => false)
  | none => false
def chkInit (P : Program) (t : TypeId) (z : LV) : Bool :=
  match P.info? t with
  | some i => match i.zero with
    | some v => constOk z v
    | none => false
  | none => false

/-- The kind of a map's keys: 2: strings; else a struct's kind. -/
def chkKey (T : Tab) (t : Nat) (e : TypeId) : Bool :=
  if t = 2 then (match T.P.underlying e with | some .string => true | _ => false) else T.eqT.contains (t, e)
/-- The row of zeros that makeSlice lays. -/
def chkZeros (P : Program) (el : TypeId) (z : List LV) (sz bytes : Nat) : Bool :=
  match P.info? el with
  | some i => i.size == sz && i.bytes == bytes && sz != 0 && bytes != 0 && (match i.zero with | some v => constsOk z v.cells.toList && z.length == v.cells.size && v.cells.size == sz && v.cells.all (·.oneCell') | none => false)
  | none => false

def chkOp0 (T : Tab) (o : Oper) (t : TOp) : Bool :=
  let P := T.P
  match o.op, t with
  | .move x, .move y => chkOpd T x y
  | .assign x, .assign y => chkOpd T x y
  | .assign x, .move y => chkOpd T x y
  | .pick c a b, .pick c' a' b' => chkOpd T c c' && chkOpd T a a' && chkOpd T b b'
  | .alloc e, .box sz (.const z) => chkInit P e z && o.dst.isSome
  | .alloc e, .new sz (.const z) => chkInit P e z
  | .box e x, .box sz y => chkOpd T x y && sizeB P e == some sz && o.dst.isSome
  | .box e x, .new sz y => chkOpd T x y && sizeB P e == some sz
  | .load e p, .load agg sz q => chkOpd T p q && isAggB P e == some agg && sizeB P e == some sz && (agg || sz == 1)
  | .load e p, .loadB agg sz q => chkOpd T p q && isAggB P e == some agg && sizeB P e == some sz && (agg || sz == 1)
  | .load e p, .loadR _ agg sz q => chkOpd T p q && isAggB P e == some agg && sizeB P e == some sz && (agg || sz == 1)
  | .store e p x, .storeR _ sz q y => chkOpd T p q && chkOpd T x y && sizeB P e == some sz && o.dst.isNone
  | .store e p x, .store sz q y => chkOpd T p q && chkOpd T x y && sizeB P e == some sz && o.dst.isNone
  | .nilCheck x, .nilCheck y => chkOpd T x y
  | .binOp op e x y _, .bin ty op' x' y' => op == op' && binT P e ty && chkOpd T x x' && chkOpd T y y'
  | .binOp op e x y _, .eqAgg neg e' x' y' => T.eqT.contains (e', e) && chkOpd T x x' && chkOpd T y y' && (if neg then op == .neq else op == .eql)
  | .unOp op _ x, .un op' x' => op == op' && chkOpd T x x'
  | .convert src dst x, .conv k x' => chkOpd T x x' && (match P.underlying src, P.underlying dst with
    | some (.int _), some (.int k') => k == k'
    | _, _ => false)
  | .convert src dst x, .convS x' => chkOpd T x x' && (match P.underlying src, P.underlying dst with
    | some .string, some .string => true
    | _, _ => false)
  | .convert src dst x, .strOf x' => chkOpd T x x' && (match P.underlying src, P.underlying dst with
    | some (.slice e), some .string => (match P.underlying e with | some (.int .u8) => sizeB P e == some 1 | _ => false)
    | _, _ => false)
  | .fieldAddr s x f, .faddr y off => chkOpd T x y && (match P.underlying s with
    | some (.struct fs) => (match fs[f]? with
      | some fd => fd.offset == off && (match sizeB P fd.type with | some n => n != 0 | none => false)
      | none => false)
    | _ => false)
  | .field s x f, .field y agg off sz => chkOpd T x y && (match P.underlying s with
    | some (.struct fs) => (match fs[f]? with
      | some fd => fd.offset == off && isAggB P fd.type == some agg && sizeB P fd.type == some sz
      | none => false)
    | _ => false)
  | .indexAddr s x i, .idxAddr y j sz => chkOpd T x y && chkOpd T i j && (match P.underlying s with
    | some (.slice e) => sizeB P e == some sz
    | _ => false)
  | .indexAddr s x i, .idxArr y j len sz => chkOpd T x y && chkOpd T i j && (match P.underlying s with
    | some (.array n e) => n == len && sizeB P e == some sz
    | _ => false)
  | .index s x i, .idxStr y j => chkOpd T x y && chkOpd T i j && (match P.underlying s with
    | some .string => true
    | _ => false)
  | .index s x i, .idxAgg agg n sz y j => chkOpd T x y && chkOpd T i j && (match P.underlying s with
    | some (.array n' e) => n' == n && isAggB P e == some agg && sizeB P e == some sz
    | _ => false)
  | .build s parts, .build zero parts' => chkZero P s zero && (match P.underlying s with
    | some (.struct fs) => fs.all (fun f => (sizeB P f.type).isSome) && chkParts P T fs parts.toList parts'
    | some (.array _ e) => (match sizeB P e with | some es => chkPartsA T es parts.toList parts' | none => false)
    | _ => false)
  | .build s parts, .buildM zero off y => chkZero P s zero && (match P.underlying s, parts.toList with
    | some (.struct fs), [(i, x)] => fs.all (fun f => (sizeB P f.type).isSome) && chkOpd T x y && (match fs[i]? with
      | some f => f.offset == off && sizeB P f.type == some 1
      | none => false)
    | _, _ => false)
  | .buildSlice s n parts, .buildSlice n' sz zero parts' => n == n' && n * sz ≤ 16777216 && (match P.underlying s with
    | some (.slice e) => sizeB P e == some sz && sz != 0 && chkZero P e zero && chkRows T parts.toList parts'
    | _ => false)
  | .slice s x lo hi mx, .slice sz y lo' hi' => chkOpd T x y && chkOpdO T lo lo' && chkOpdO T hi hi' && mx.isNone && (match P.underlying s with
    | some (.slice e) => sizeB P e == some sz
    | _ => false)
  | .slice s x lo hi mx, .slice3 sz y lo' hi' mx' => chkOpd T x y && chkOpdO T lo lo' && chkOpdO T hi (some hi') && chkOpdO T mx (some mx') && (match P.underlying s with
    | some (.slice e) => sizeB P e == some sz
    | _ => false)
  | .slice s x lo hi mx, .sliceStr y lo' hi' => chkOpd T x y && chkOpdO T lo lo' && chkOpdO T hi hi' && mx.isNone && (match P.underlying s with
    | some .string => true
    | _ => false)
  | .slice s x lo hi mx, .sliceArr y n sz => chkOpd T x y && lo.isNone && hi.isNone && mx.isNone && (match P.underlying s with
    | some (.array n' e) => n' == n && sizeB P e == some sz && sz != 0 && n != 0 && decide (n ≤ maxLen)
    | _ => false)
  | .extract x i, .extract y j => i == j && chkOpd T x y
  | .makeMap _ none, .mkmap => true
  | .lookup t x i ok, .lookup kt zero ok' y j => ok == ok' && chkOpd T x y && chkOpd T i j && (match P.underlying t with
    | some (.map k e) => chkKey T kt k && chkInit P e zero
    | _ => false)
  | .mapUpdate t x i v, .mapSet kt y j u => o.dst.isNone && chkOpd T x y && chkOpd T i j && chkOpd T v u && (match P.underlying t with
    | some (.map k _) => chkKey T kt k
    | _ => false)
  | .insert t x i v, .mapSet kt y j u => o.dst.isNone && chkOpd T x y && chkOpd T i j && chkOpd T v u && (match P.underlying t with
    | some (.map k _) => chkKey T kt k
    | _ => false)
  | .mapEntry t x i, .mapEnt kt zero y j => chkOpd T x y && chkOpd T i j && (match P.underlying t with
    | some (.map k e) => chkKey T kt k && chkInit P e zero
    | _ => false)
  | .entryStore t x s v, .entPut y b u => o.dst.isNone && chkOpd T x y && chkOpd T s b && chkOpd T v u
  | .makeSlice t n c, .mkslice sz bytes zero n' c' => chkOpd T n n' && chkOpd T c c' && (match P.underlying t with
    | some (.slice el) => chkZeros P el zero sz bytes
    | _ => false)
  | .makeFunc (.func f) first cap, .makeFunc g cap' => T.fn f == some g && first.isEmpty && chkOpds T cap.toList cap'
  | .call c, t => match c.callee, t with
    | .value f, .call _ f' args _ => chkOpd T f f' && chkOpds T c.args.toList args
    | .builtin .len, .len str y => (match c.args.toList, c.argTypes.toList with
      | [x], [e] => chkOpd T x y && (match P.underlying e with | some .string => str | some (.slice _) => !str | _ => false)
      | _, _ => false)
    | .builtin .len, .lenMap y => (match c.args.toList, c.argTypes.toList with
      | [x], [e] => chkOpd T x y && (match P.underlying e with | some (.map _ _) => true | _ => false)
      | _, _ => false)
    | .builtin .delete, .mapDel kt y j => (match c.args.toList, c.argTypes.toList with
      | [x, i], e :: _ => chkOpd T x y && chkOpd T i j && (match P.underlying e with | some (.map k _) => chkKey T kt k | _ => false)
      | _, _ => false)
    | .builtin .copy, .copy sz x y => (match c.args.toList, c.argTypes.toList with
      | [x', y'], e :: _ => chkOpd T x' x && chkOpd T y' y && sz != 0 && (match P.underlying e with | some (.slice el) => sizeB P el == some sz | _ => false)
      | _, _ => false)
    | .builtin .append, .append sz bytes s y => (match c.args.toList, c.argTypes.toList with
      | [s', y'], [e, e'] => chkOpd T s' s && chkOpd T y' y && (match P.underlying e, P.underlying e' with
        | some (.slice el), some (.slice _) | some (.slice el), some .string => chkElem P el sz bytes
        | _, _ => false)
      | _, _ => false)
    | .builtin .min, .minmax mx x y => !mx && (match c.args.toList with
      | [x', y'] => chkOpd T x' x && chkOpd T y' y
      | _ => false)
    | .builtin .max, .minmax mx x y => mx && (match c.args.toList with
      | [x', y'] => chkOpd T x' x && chkOpd T y' y
      | _ => false)
    | _, _ => false
  | _, _ => false
def TOp.isFail : TOp → Bool
  | .fail => true
  | _ => false
/-- An operation that is never carried out may be of any kind. -/
def chkOp (T : Tab) (o : Oper) (t : TOp) : Bool := t.isFail || chkOp0 T o t
end Tree

set_option autoImplicit false
set_option linter.unusedVariables false
set_option linter.unusedSimpArgs false
namespace Tree
open Go
def TOp.reads : TOp → List Opd
  | .move x | .assign x | .box _ x | .new _ x | .load _ _ x | .loadB _ _ x | .loadR _ _ _ x | .strOf x | .nilCheck x | .un _ x | .conv _ x | .convS x | .faddr x _ | .field x _ _ _ | .len _ x | .extract x _ | .sliceArr x _ _ | .buildM _ _ x => [x]
  | .fail => []
  | .pick c a b => [c, a, b]
  | .storeR _ _ p x | .idxAgg _ _ _ p x | .store _ p x | .bin _ _ p x | .eqAgg _ _ p x | .idxAddr p x _ | .idxArr p x _ _ | .idxStr p x | .append _ _ p x | .minmax _ p x => [p, x]
  | .build _ ps => ps.map (·.2.2)
  | .buildSlice _ _ _ ps => ps.map (·.2)
  | .slice _ x lo hi | .sliceStr x lo hi => x :: (lo.toList ++ hi.toList)
  | .slice3 _ x lo hi mx => x :: hi :: mx :: lo.toList
  | .makeFunc _ cap => cap
  | .call _ f args _ => f :: args
  | .mkmap => []
  | .lookup _ _ _ x i | .mapEnt _ _ x i | .mapDel _ x i | .mkslice _ _ _ x i | .copy _ x i => [x, i]
  | .mapSet _ x i v | .entPut x i v => [x, i, v]
  | .lenMap x => [x]
/-- It changes nothing but its slot. -/
def TOp.quiet : TOp → Bool
  | .assign _ | .buildM .. | .box .. | .new .. | .store .. | .storeR .. | .append .. | .mkmap | .mapSet .. | .mapDel .. | .mapEnt .. | .entPut .. | .mkslice .. | .copy .. => false
  | .makeFunc _ cap => cap.isEmpty
  | .call ro _ _ moved => ro && moved.isEmpty
  | _ => true
def opdTmp : Opd → Option Nat
  | .tmp t => some t
  | _ => none
def TOper.looks (o : TOper) : List Nat := o.op.reads.filterMap opdTmp ++ (match o.guard with | some (t, _) => [t] | none => [])
/-- It reads slots alone. -/
def TOp.plainS : TOp → Bool
  | .move _ | .pick .. | .nilCheck _ | .bin .. | .eqAgg .. | .un .. | .conv .. | .convS _ | .faddr .. | .field .. | .idxAddr .. | .idxArr .. | .idxStr .. | .idxAgg .. | .build .. | .buildSlice .. | .len .. | .sliceStr .. | .sliceArr .. | .minmax .. | .extract .. | .slice3 .. => true
  | .slice _ _ _ hi => hi.isSome
  | _ => false
def TOp.isLoadB : TOp → Bool
  | .loadB .. => true
  | _ => false
def TOp.isStore : TOp → Bool
  | .store .. => true
  | .storeR .. => true
  | _ => false
def TOp.isFunc : TOp → Bool
  | .makeFunc .. => true
  | _ => false
/-- It changes rights alone. -/
def TOp.isApp : TOp → Bool
  | .append .. | .assign _ => true
  | _ => false
def TOp.isLoad : TOp → Bool
  | .load .. => true
  | _ => false
/-- y may go past x: y reads slots, or the frame's own boxes where x writes none, or memory where x changes rights alone. -/
def goesBy (y x : TOp) : Bool := (y.plainS || (y.isLoadB && !x.isStore && !x.isBox) || (y.isLoad && x.isApp)) && !x.isFunc && !x.quiet
def swapOk (x y : TOp) : Bool := (x.quiet && y.quiet) || goesBy x y || goesBy y x
/-- A new box of a constant. -/
def TOp.isAlloc : TOp → Bool
  | .box _ (.const _) => true
  | _ => false
/-- A new box of a constant may go past it. -/
def TOp.pastA : TOp → Bool
  | .call ro _ _ moved => !ro || !moved.isEmpty
  | x => x.isAlloc
/-- It reads objects, none of the frame's own boxes. -/
def TOp.memR : TOp → Bool
  | .call ro _ _ moved => ro && moved.isEmpty
  | .lookup .. | .lenMap _ => true
  | .loadR none _ _ _ => true
  | _ => false
/-- A call that reads, with moved arguments. -/
def TOp.isMov : TOp → Bool
  | .call ro _ _ moved => ro && !moved.isEmpty
  | _ => false
def sameTmp : Opd → Opd → Bool
  | .tmp a, .tmp b => Nat.beq a b
  | _, _ => false
def isZero64 : LV → Bool
  | .int .i64 0 => true
  | _ => false
/-- What y reads of memory x does not change. -/
def goes2 (y x : TOper) : Bool := match y.op with
  | .loadR (some s) _ _ _ => (x.op.isAlloc && x.dst != some s) || (x.op.isApp || x.op.isMov) || (match x.op with | .storeR none _ _ _ => true | .storeR (some t) _ _ _ => !Nat.beq t s | _ => false)
  | .loadR none _ _ _ => x.op.isAlloc || x.op.isApp || (match x.op with | .storeR (some _) _ _ _ => true | _ => false)
  | .lookup t z ok p i => x.op.isAlloc || (match x.op with | .mapEnt t' z' p' i' => !ok && Nat.beq t t' && isZero64 z && isZero64 z' && sameTmp p p' && sameTmp i i' | _ => false)
  | y => y.memR && x.op.isAlloc
def swapT (x y : TOper) : Bool := swapOk x.op y.op || goes2 x y || goes2 y x || (x.op.isAlloc && y.op.pastA) || (y.op.isAlloc && x.op.pastA)
def edgesOf (ops : Array Oper) (i : Nat) : List Nat :=
  match ops[i]? with
  | some o => (o.after.toList.filter (Region.binds .any)).map (·.on)
  | none => []
/-- For each operation of the first k: all those that go ahead of it, as the bits of a number. -/
def maskOf (p : List Nat) : List Nat → Nat
  | [] => 0
  | e :: r => (2 ^ e ||| p.getD e 0) ||| maskOf p r
def predsUpTo (ops : Array Oper) : Nat → List Nat
  | 0 => []
  | k + 1 => predsUpTo ops k ++ [maskOf (predsUpTo ops k) (edgesOf ops k)]
def apartB (d : Option Nat) (l : List Nat) : Bool := match d with
  | none => true
  | some d => !l.contains d
/-- An operation that has its one place among all others. -/
def barrier (p : List Nat) (n k : Nat) : Bool := (List.range n).all fun j => if j < k then (p.getD k 0).testBit j else j == k || (p.getD j 0).testBit k
def drawPair (ti tk : TOper) (pred bar : Bool) : Bool :=
  (bar || apartB tk.dst ti.looks) && (match tk.dst with | none => true | some d => ti.dst != some d) && (pred || (swapT ti tk && apartB ti.dst tk.looks))
def chkDraw (ops : Array Oper) (ts : List TOper) : Bool :=
  let p := predsUpTo ops ops.size
  ts.length == ops.size && (List.range ops.size).all fun k => match ts[k]? with
    | none => false
    | some tk => apartB tk.dst tk.looks && (edgesOf ops k).all (fun e => decide (e < k)) &&
      (List.range k).all fun i => match ts[i]? with
        | none => false
        | some ti => drawPair ti tk ((p.getD k 0).testBit i) (barrier p ops.size k)
def chkGuard (ops : Array Oper) : Option (Nat × Bool) → Option (Nat × Bool) → Bool
  | none, none => true
  | some (j, b), some (t, b') => b == b' && (ops[j]?).bind (·.dst) == some t
  | _, _ => false
def chkOper (T : Tab) (ops : Array Oper) (o : Oper) (t : TOper) : Bool :=
  t.dst == o.dst && chkGuard ops o.guard t.guard && chkOp T o t.op
def chkOps (T : Tab) (ops : Array Oper) : List Oper → List TOper → Bool
  | [], [] => true
  | o :: os, t :: ts => chkOper T ops o t && chkOps T ops os ts
  | _, _ => false
def chkCode (T : Tab) (rg : Bool) : Code → TCode → Bool
  | _, .fail => true
  | .skip, .skip => true
  | .region _ ops d, .region d' ts => d == d' && chkOps T ops ops.toList ts && (!d || chkDraw ops ts)
  | .seq a b, .seq a' b' => chkCode T rg a a' && chkCode T rg b b'
  | .cond c a b, .cond c' a' b' => chkOpd T c c' && chkCode T rg a a' && chkCode T rg b b'
  | .block i c, .block i' c' => i == i' && chkCode T rg c c'
  | .loop c, .loop _ c' => chkCode T rg c c'
  | .exit i, .exit i' => i == i'
  | .ret, .ret => true
  | .rangeFunc g ps a b, .range s f _ => rg && chkOpd T g f && (match T.lps s with
    | some (ps', ta, tb) => ps.toList == ps' && chkCode T false a ta && chkCode T false b tb
    | none => false)
  | _, _ => false
end Tree

set_option autoImplicit false
set_option linter.unusedVariables false
set_option linter.unusedSimpArgs false
namespace Tree
open Go

/-- What a cell of memory serves for. -/
inductive Kd where
  | other
  | imm (l : Nat)
  | box (t : Nat)
  | obj (id : Nat)
  | tail (p : Place)
  | res (c : Option Nat)
  deriving DecidableEq, Inhabited

structure Mem where
  w : World
  k : Nat → Nat → Kd
  ob : Nat → Nat
  n : Nat

inductive Rep (T : Tab) (m : Mem) : LV → Value → Prop where
  | bool (b : Bool) : Rep T m (.bool b) (.bool b)
  | int (k : IntKind) (n : Int) : Rep T m (.int k n) (.int k n)
  | str (s : ByteArray) : Rep T m (.str s) (.string s)
  | nil (o : Bool) (l z : Nat) : Rep T m (.sl o l z [] []) (.slice none 0 0)
  | emp (o : Bool) (l z : Nat) (a : Addr) : Rep T m (.sl o l z [] []) (.slice (some a) 0 0)
  | sl (o : Bool) (l z : Nat) (xs sp : List (List LV)) (b off cap : Nat) (val : Nat → Nat → Value)
      (hc : (xs ++ sp).length ≤ cap) (hz : ∀ x ∈ xs ++ sp, x.length = z)
      (hm : ∀ i x j lv, (xs ++ sp)[i]? = some x → x[j]? = some lv →
        m.k b (off + i * z + j) = .imm l ∧ m.w.cell? ⟨b, off + i * z + j, none⟩ = some (val i j) ∧ (val i j).oneCell' = true)
      (hr : ∀ i x j lv, (xs ++ sp)[i]? = some x → x[j]? = some lv → Rep T m lv (val i j)) (hM : cap ≤ maxLen) :
      Rep T m (.sl o l z xs sp) (.slice (some ⟨b, off, none⟩) xs.length cap)
  | agg (cs : List LV) (vs : Array Value) (hl : cs.length = vs.size)
      (hr : ∀ i lv, cs[i]? = some lv → Rep T m lv (vs.getD i undef)) : Rep T m (.agg cs) (.agg vs)
  | tup (cs : List LV) (vs : Array Value) (hl : cs.length = vs.size)
      (hr : ∀ i lv, cs[i]? = some lv → Rep T m lv (vs.getD i undef)) : Rep T m (.tup cs) (.tuple vs)
  | iptr (l : Nat) (cs : List LV) (off b base : Nat) (val : Nat → Value)
      (hm : ∀ j lv, cs[j]? = some lv → m.k b (base + j) = .imm l ∧ m.w.cell? ⟨b, base + j, none⟩ = some (val j) ∧ (val j).oneCell' = true)
      (hr : ∀ j lv, cs[j]? = some lv → Rep T m lv (val j)) :
      Rep T m (.iptr l cs off) (.pointer (some ⟨b, base + off, none⟩))
  | optr (id off : Nat) (h : id < m.n) : Rep T m (.optr id off) (.pointer (some ⟨m.ob id, off, none⟩))
  | nilptr : Rep T m .nilptr (.pointer none)
  | fn (g : Nat) (cap : List LV) (f : FuncId) (vs : Array Value) (hf : T.fn f = some g) (hl : cap.length = vs.size)
      (hr : ∀ i lv, cap[i]? = some lv → Rep T m lv (vs.getD i undef)) : Rep T m (.fn g cap) (.func (.func f) #[] vs)
  | nilfn : Rep T m .nilfn .nilFunc
  | undef (v : Value) : Rep T m .undef v
  | mref (id : Nat) (h : id < m.n) : Rep T m (.mref id) (.map (some (m.ob id)))
  | nilmap : Rep T m .nilmap (.map none)
  | yld (id : Nat) (h : id < m.n) : Rep T m (.fn YG [.optr id 0]) (.func (.yield (m.ob id)) #[] #[])
  | msl (id off len cap sz : Nat) (h : id < m.n) (hM : cap ≤ maxLen) (hl : len ≤ cap) : Rep T m (.msl id off len cap sz) (.slice (some ⟨m.ob id, off, none⟩) len cap)

/-- What is fixed in m is so in m'. -/
structure Mem.le (m m' : Mem) : Prop where
  imm : ∀ b o l v, m.w.cell? ⟨b, o, none⟩ = some v → m.k b o = .imm l → m'.k b o = .imm l ∧ m'.w.cell? ⟨b, o, none⟩ = some v
  n : m.n ≤ m'.n
  ob : ∀ id, id < m.n → m'.ob id = m.ob id

theorem Mem.le.refl (m : Mem) : m.le m := ⟨fun _ _ _ _ hc hk => ⟨hk, hc⟩, Nat.le_refl _, fun _ _ => rfl⟩
theorem Mem.le.trans {a b c : Mem} (h : a.le b) (h' : b.le c) : a.le c :=
  ⟨fun b o l v hc hk => let ⟨k1, c1⟩ := h.imm b o l v hc hk; h'.imm b o l v c1 k1, Nat.le_trans h.n h'.n, fun id hi => (h'.ob id (Nat.lt_of_lt_of_le hi h.n)).trans (h.ob id hi)⟩

theorem Rep.mono {T : Tab} {m m' : Mem} (hle : m.le m') {lv : LV} {v : Value} (h : Rep T m lv v) : Rep T m' lv v := by
  induction h with
  | bool b => exact .bool b
  | int k n => exact .int k n
  | str s => exact .str s
  | nil o l z => exact .nil o l z
  | emp o l z a => exact .emp o l z a
  | sl o l z xs sp b off cap val hc hz hm hr hM ih =>
    refine .sl o l z xs sp b off cap val hc hz (fun i x j lv hx hj => ?_) ih hM
    obtain ⟨h1, h2, h3⟩ := hm i x j lv hx hj
    obtain ⟨k1, c1⟩ := hle.imm _ _ _ _ h2 h1
    exact ⟨k1, c1, h3⟩
  | agg cs vs hl hr ih => exact .agg cs vs hl ih
  | tup cs vs hl hr ih => exact .tup cs vs hl ih
  | iptr l cs off b base val hm hr ih =>
    refine .iptr l cs off b base val (fun j lv hj => ?_) ih
    obtain ⟨h1, h2, h3⟩ := hm j lv hj
    obtain ⟨k1, c1⟩ := hle.imm _ _ _ _ h2 h1
    exact ⟨k1, c1, h3⟩
  | optr id off h =>
    have := Rep.optr (T := T) (m := m') id off (Nat.lt_of_lt_of_le h hle.n)
    rwa [hle.ob id h] at this
  | nilptr => exact .nilptr
  | fn g cap f vs hf hl hr ih => exact .fn g cap f vs hf hl ih
  | nilfn => exact .nilfn
  | undef v => exact .undef v
  | mref id h =>
    have := Rep.mref (T := T) (m := m') id (Nat.lt_of_lt_of_le h hle.n)
    rwa [hle.ob id h] at this
  | nilmap => exact .nilmap
  | yld id h =>
    have := Rep.yld (T := T) (m := m') id (Nat.lt_of_lt_of_le h hle.n)
    rwa [hle.ob id h] at this
  | msl id off len cap sz h hM hl =>
    have := Rep.msl (T := T) (m := m') id off len cap sz (Nat.lt_of_lt_of_le h hle.n) hM hl
    rwa [hle.ob id h] at this

theorem Rep.bare1 {T : Tab} {m : Mem} {lv : LV} {v : Value} (h : Rep T m lv v) : Rep T m lv.bare1 v := by
  cases h with
  | nil o l z => exact .nil _ _ _
  | emp o l z a => exact .emp _ _ _ a
  | sl o l z xs sp b off cap val hc hz hm hr hM => exact .sl _ _ _ _ _ _ _ _ val hc hz hm hr hM
  | bool b => exact .bool b
  | int k n => exact .int k n
  | str s => exact .str s
  | agg cs vs hl hr => exact .agg cs vs hl hr
  | tup cs vs hl hr => exact .tup cs vs hl hr
  | iptr l cs off b base val hm hr => exact .iptr _ _ _ _ _ val hm hr
  | optr id off h => exact .optr _ _ h
  | nilptr => exact .nilptr
  | fn g cap f vs hf hl hr => exact .fn _ _ _ _ hf hl hr
  | nilfn => exact .nilfn
  | undef v => exact .undef v
  | mref id h => exact .mref _ h
  | nilmap => exact .nilmap
  | yld id h => exact .yld _ h
  | msl id off len cap sz h hM hl => exact .msl _ _ _ _ _ h hM hl
theorem Rep.bare {T : Tab} {m : Mem} {lv : LV} {v : Value} (h : Rep T m lv v) : Rep T m lv.bare v := by
  cases h with
  | nil o l z => exact .nil _ _ _
  | emp o l z a => exact .emp _ _ _ a
  | sl o l z xs sp b off cap val hc hz hm hr hM => exact .sl _ _ _ _ _ _ _ _ val hc hz hm hr hM
  | bool b => exact .bool b
  | int k n => exact .int k n
  | str s => exact .str s
  | agg cs vs hl hr =>
    refine .agg _ vs (by simpa using hl) (fun i lv hi => ?_)
    rw [List.getElem?_map] at hi
    obtain ⟨c, hc, rfl⟩ := Option.map_eq_some_iff.1 hi
    exact (hr i c hc).bare1
  | tup cs vs hl hr => exact .tup cs vs hl hr
  | iptr l cs off b base val hm hr => exact .iptr _ _ _ _ _ val hm hr
  | optr id off h => exact .optr _ _ h
  | nilptr => exact .nilptr
  | fn g cap f vs hf hl hr => exact .fn _ _ _ _ hf hl hr
  | nilfn => exact .nilfn
  | undef v => exact .undef v
  | mref id h => exact .mref _ h
  | nilmap => exact .nilmap
  | yld id h => exact .yld _ h
  | msl id off len cap sz h hM hl => exact .msl _ _ _ _ _ h hM hl

/-- The spare places of a slice. -/
def tail (z : Nat) (v : Value) (b o : Nat) : Prop :=
  match v with
  | .slice (some a) n cap => b = a.block ∧ a.off + n * z ≤ o ∧ o < a.off + cap * z
  | _ => False
/-- They are there, not frozen, and serve for nothing else. -/
def Tail (m : Mem) (z : Nat) (v : Value) (k : Kd) : Prop :=
  ∀ b o, tail z v b o → m.k b o = k ∧ ∃ vs ty, m.w.heap[b]? = some (.cells vs ty (0, 0)) ∧ o < vs.size

def Block (T : Tab) (m : Mem) (b : Nat) (cs : List LV) (k : Kd) : Prop :=
  ∃ vs ty, m.w.heap[b]? = some (.cells vs ty (0, 0)) ∧ vs.size = cs.length ∧ (∀ o, m.k b o = k) ∧
    ∀ j lv, cs[j]? = some lv → (vs.getD j undef).oneCell' = true ∧ Rep T m lv (vs.getD j undef)

/-- An entry of a map. -/
def EntOk (T : Tab) (m : Mem) (e : LV) (en : MapEntry) : Prop :=
  ∃ kk vv, e = .tup [kk, vv, .int .i64 en.born] ∧ Rep T m kk en.key ∧ Rep T m vv en.val ∧ vv.cells.all LV.isCell = true
def MapB (T : Tab) (m : Mem) (b : Nat) (cs : List LV) (k : Kd) : Prop :=
  ∃ ents c es, m.w.heap[b]? = some (.map ents c) ∧ (∀ o, m.k b o = k) ∧ cs = .tup [.int .i64 c] :: es ∧ es.length = ents.size ∧ ∀ (j : Nat) e, es[j]? = some e → ∃ en, ents[j]? = some en ∧ EntOk T m e en
/-- What a loop's state says of its record. -/
def StOk (z : Int) (r : Loop) : Prop := (z = 0 → r.state = .ready ∧ r.pending = none) ∧ (z = 1 → r.state = .done ∧ r.pending = some .ret) ∧ ∀ i : Nat, z = (i : Int) + 2 → r.state = .done ∧ r.pending = some (.exit i)
/-- A loop's record is of site s. -/
def SiteOk (T : Tab) (s : Nat) (r : Loop) : Prop := ∃ ps ta tb, T.lps s = some (ps, ta, tb) ∧ r.params.toList = ps ∧ chkCode T false r.assign ta = true ∧ chkCode T false r.body tb = true
def SnapOk (T : Tab) (m : Mem) (snap : List LV) (tmps : Array Value) : Prop := tmps.size = snap.length ∧ ∀ (j : Nat) lv, snap[j]? = some lv → Rep T m lv (tmps.getD j undef)
def LoopB (T : Tab) (m : Mem) (b : Nat) (cs : List LV) (k : Kd) : Prop :=
  ∃ (r : Loop) (s : Nat) (z : Int) (snap : List LV), m.w.heap[b]? = some (.loop r) ∧ (∀ o, m.k b o = k) ∧ cs = loopObj s z snap ∧ SiteOk T s r ∧ StOk z r ∧ SnapOk T m snap r.tmps
/-- A block that is no cells: a map, or a loop's record. -/
def MBlock (T : Tab) (m : Mem) (b : Nat) (cs : List LV) (k : Kd) : Prop := MapB T m b cs k ∨ LoopB T m b cs k
def ncO : Obj → Bool
  | .cells .. => false
  | _ => true
/-- An object's block: cells, or a map. -/
def OBlock (T : Tab) (m : Mem) (b : Nat) (cs : List LV) (k : Kd) : Prop := (isMapC cs = false ∧ Block T m b cs k) ∨ MBlock T m b cs k
theorem MBlock.isMap {T : Tab} {m : Mem} {b : Nat} {cs : List LV} {k : Kd} (h : MBlock T m b cs k) : isMapC cs = true := by
  rcases h with ⟨_, _, _, _, _, rfl, _⟩ | ⟨_, _, _, _, _, _, rfl, _⟩ <;> rfl
theorem OBlock.cells {T : Tab} {m : Mem} {b : Nat} {cs : List LV} {k : Kd} (h : OBlock T m b cs k) (hn : isMapC cs = false) : Block T m b cs k := by
  rcases h with h | h
  · exact h.2
  · rw [h.isMap] at hn; cases hn
theorem OBlock.map {T : Tab} {m : Mem} {b : Nat} {cs : List LV} {k : Kd} (h : OBlock T m b cs k) (hn : isMapC cs = true) : MBlock T m b cs k := by
  rcases h with h | h
  · rw [h.1] at hn; cases hn
  · exact h
theorem OBlock.class {T : Tab} {m : Mem} {b : Nat} {cs : List LV} {k : Kd} (h : OBlock T m b cs k) : ∀ o, m.k b o = k := by
  rcases h with ⟨_, h⟩ | h
  · exact h.choose_spec.choose_spec.2.2.1
  · rcases h with ⟨_, _, _, _, h, _⟩ | ⟨_, _, _, _, _, h, _⟩ <;> exact h

/-- The machine's value at a place. -/
def RAt (tmps : Array Value) (m : Mem) (p : Place) (v : Value) : Prop :=
  match p.root, p.cell with
  | .slot t, none => tmps[t]? = some v
  | .slot t, some i => (∃ vs, tmps[t]? = some (.agg vs) ∧ vs[i]? = some v) ∨ (∃ b, tmps[t]? = some (.pointer (some ⟨b, 0, none⟩)) ∧ m.w.cell? ⟨b, i, none⟩ = some v)
  | .obj id, some i => m.w.cell? ⟨m.ob id, i, none⟩ = some v
  | .obj _, none => False

def VRep (T : Tab) (st : St) (tmps : Array Value) (m : Mem) (lv : LV) (v : Value) : Prop :=
  match lv with
  | .laddr s off => ∃ b, tmps[s]? = some (.pointer (some ⟨b, 0, none⟩)) ∧ v = .pointer (some ⟨b, off, none⟩) ∧ ∃ cs, st.sl[s]? = some (.box cs)
  | lv => Rep T m lv v
/-- A place that is an object's, or a cell of a box. -/
def St.real (st : St) (p : Place) : Prop := (∀ id, p.root = .obj id → id < st.ob.length) ∧ ∀ (s i : Nat), p = ⟨.slot s, some i⟩ → ∃ cs, st.sl[s]? = some (.box cs)
def St.alOk (st : St) : Prop := ∀ t p, st.al t = some p → st.real p

structure FR (T : Tab) (st : St) (tmps : Array Value) (m : Mem) : Prop where
  size : tmps.size = st.sl.length
  n : m.n = st.ob.length
  alo : st.alOk
  val : ∀ (t : Nat) (lv : LV), st.sl[t]? = some (Slot.val lv) → ∃ v : Value, tmps[t]? = some v ∧ VRep T st tmps m lv v
  box : ∀ t cs, st.sl[t]? = some (Slot.box cs) → ∃ b, tmps[t]? = some (.pointer (some ⟨b, 0, none⟩)) ∧ Block T m b cs (.box t)
  obj : ∀ id cs, st.ob[id]? = some cs → OBlock T m (m.ob id) cs (.obj id)
  own : ∀ p l z xs sp, st.at p = some (.sl true l z xs sp) → ∃ v, RAt tmps m p v ∧ Tail m z v (.tail p)
  al : ∀ t p, st.al t = some p → ∃ u, RAt tmps m p u ∧ ∀ (o : Bool) (l z : Nat) (xs sp : List (List LV)) (v : Value), st.sl[t]? = some (Slot.val (.sl o l z xs sp)) → tmps[t]? = some v → ∀ b i, tail z v b i → tail z u b i

theorem RAt.unique {tmps : Array Value} {m : Mem} {p : Place} {u v : Value} (h : RAt tmps m p u) (h' : RAt tmps m p v) : u = v := by
  obtain ⟨root, cell⟩ := p
  cases root <;> cases cell <;> simp only [RAt] at h h'
  · rw [h] at h'; exact Option.some.inj h'
  · rcases h with ⟨vs, h1, h2⟩ | ⟨b, h1, h2⟩ <;> rcases h' with ⟨vs', h1', h2'⟩ | ⟨b', h1', h2'⟩
    · rw [h1] at h1'; injection h1' with h1'; injection h1' with h1'; subst h1'; rw [h2] at h2'; exact Option.some.inj h2'
    · rw [h1] at h1'; injection h1' with h1'; cases h1'
    · rw [h1] at h1'; injection h1' with h1'; cases h1'
    · rw [h1] at h1'; injection h1' with h1'; injection h1' with h1'; injection h1' with h1'; injection h1' with h1'; subst h1'; rw [h2] at h2'; exact Option.some.inj h2'
  · rw [h] at h'; exact Option.some.inj h'

/-- What the rest of the run may lean on: what m' makes of m. -/
structure Post (pb : Nat) (m m' : Mem) : Prop where
  os : m'.w.os = m.w.os
  tape : m'.w.tape = m.w.tape
  output : m'.w.output = m.w.output
  size : m.w.heap.size ≤ m'.w.heap.size
  keep : ∀ b, b < m.w.heap.size → (m'.w.heap[b]? = m.w.heap[b]? ∨ (∃ vs vs' ty, m.w.heap[b]? = some (.cells vs ty (0, 0)) ∧ m'.w.heap[b]? = some (.cells vs' ty (0, 0)) ∧ vs'.size = vs.size ∧
    ∀ o, (m.k b o = .other ∨ (∃ l, m.k b o = .imm l) ∨ (∃ id, id < pb ∧ (m.k b o = .obj id ∨ ∃ c, m.k b o = .tail ⟨.obj id, c⟩))) → vs'[o]? = vs[o]?) ∨
    (∃ x x', m.w.heap[b]? = some x ∧ m'.w.heap[b]? = some x' ∧ (ncO x = true ∧ ncO x' = true) ∧ ¬ (m.k b 0 = .other ∨ (∃ l, m.k b 0 = .imm l) ∨ ∃ id, id < pb ∧ m.k b 0 = .obj id)))
  kind : ∀ b o, b < m.w.heap.size → (m.k b o = .other ∨ (∃ l, m.k b o = .imm l) ∨ (∃ id, m.k b o = .obj id) ∨ (∃ id c, id < pb ∧ m.k b o = .tail ⟨.obj id, c⟩)) → m'.k b o = m.k b o
  n : m.n ≤ m'.n
  ob : ∀ id, id < m.n → m'.ob id = m.ob id
  fresh : ∀ id, m.n ≤ id → id < m'.n → m.w.heap.size ≤ m'.ob id
end Tree

set_option autoImplicit false
set_option linter.unusedVariables false
set_option linter.unusedSimpArgs false
namespace Tree
open Go

def Mem.alloc (m : Mem) (o : Obj) (c : Nat → Kd) : Mem :=
  { m with w := m.w.alloc o, k := fun b off => if b = m.w.heap.size then c off else m.k b off }
def Mem.drew (m : Mem) : Mem := { m with w := m.w.drew }
def Mem.ren (m : Mem) (f : Kd → Kd) : Mem := { m with k := fun b o => f (m.k b o) }

theorem nc_cell {w : World} {b o : Nat} {x : Obj} (h : w.heap[b]? = some x) (hn : ncO x = true) : w.cell? ⟨b, o, none⟩ = none := by
  cases x <;> first | (cases hn; done) | simp [World.cell?, h]
theorem cell_lt {w : World} {b o : Nat} {v : Value} (h : w.cell? ⟨b, o, none⟩ = some v) : b < w.heap.size := World.block_lt_of_cell? w _ h
theorem heap_lt {w : World} {b : Nat} {o : Obj} (h : w.heap[b]? = some o) : b < w.heap.size := (Array.getElem?_eq_some_iff.1 h).1
theorem alloc_heap {w : World} {o : Obj} {b : Nat} (h : b < w.heap.size) : (w.alloc o).heap[b]? = w.heap[b]? := by show (w.heap.push o)[b]? = _; rw [Array.getElem?_push, if_neg (by omega)]
theorem alloc_cell {w : World} {o : Obj} {a : Addr} (h : a.block < w.heap.size) : (w.alloc o).cell? a = w.cell? a := World.cell?_alloc_lt _ _ _ h

theorem le_alloc (m : Mem) (o : Obj) (c : Nat → Kd) : m.le (m.alloc o c) := by
  refine ⟨fun b off l v hc hk => ?_, Nat.le_refl _, fun _ _ => rfl⟩
  have hlt := cell_lt hc
  refine ⟨?_, (alloc_cell hlt).trans hc⟩
  show (if b = m.w.heap.size then c off else m.k b off) = _
  rw [if_neg (by omega)]; exact hk
theorem le_drew (m : Mem) : m.le m.drew := ⟨fun _ _ _ _ hc hk => ⟨hk, hc⟩, Nat.le_refl _, fun _ _ => rfl⟩
theorem le_ren (m : Mem) (f : Kd → Kd) (hf : ∀ l, f (.imm l) = .imm l) : m.le (m.ren f) :=
  ⟨fun b o l v hc hk => ⟨by show f (m.k b o) = _; rw [hk, hf], hc⟩, Nat.le_refl _, fun _ _ => rfl⟩

theorem Post.refl (pb : Nat) (m : Mem) : Post pb m m :=
  ⟨rfl, rfl, rfl, Nat.le_refl _, fun _ _ => .inl rfl, fun _ _ _ _ => rfl, Nat.le_refl _, fun _ _ => rfl, fun _ h1 h2 => by omega⟩
theorem Post.trans {pb : Nat} {a b c : Mem} (h : Post pb a b) (h' : Post pb b c) : Post pb a c := by
  refine ⟨h'.os.trans h.os, h'.tape.trans h.tape, h'.output.trans h.output, Nat.le_trans h.size h'.size, fun x hx => ?_, fun x o hx hk => ?_, Nat.le_trans h.n h'.n, fun id hi => (h'.ob id (Nat.lt_of_lt_of_le hi h.n)).trans (h.ob id hi), fun id h1 h2 => ?_⟩
  · have hx' : x < b.w.heap.size := Nat.lt_of_lt_of_le hx h.size
    have hK : ¬ (b.k x 0 = .other ∨ (∃ l, b.k x 0 = .imm l) ∨ ∃ id, id < pb ∧ b.k x 0 = .obj id) → ¬ (a.k x 0 = .other ∨ (∃ l, a.k x 0 = .imm l) ∨ ∃ id, id < pb ∧ a.k x 0 = .obj id) := by
      rintro hn hk
      apply hn
      have := h.kind x 0 hx (by rcases hk with hk | hk | ⟨id, _, hk⟩; exact .inl hk; exact .inr (.inl hk); exact .inr (.inr (.inl ⟨id, hk⟩)))
      rw [this]; exact hk
    rcases h.keep x hx with e1 | ⟨vs, vs1, ty, e1, e2, e3, e4⟩ | ⟨es, es', e1, e2, e5, e3⟩
    · rcases h'.keep x hx' with f1 | ⟨us, us1, ty', f1, f2, f3, f4⟩ | ⟨es, es', f1, f2, f5, f3⟩
      · exact .inl (f1.trans e1)
      · refine .inr (.inl ⟨us, us1, ty', e1 ▸ f1, f2, f3, fun o ho => f4 o ?_⟩)
        have hk := h.kind x o hx (by rcases ho with ho | ho | ⟨id, hi, ho | ⟨c, ho⟩⟩ <;> simp [*])
        rw [hk]; exact ho
      · exact .inr (.inr ⟨es, es', e1 ▸ f1, f2, f5, hK f3⟩)
    · rcases h'.keep x hx' with f1 | ⟨us, us1, ty', f1, f2, f3, f4⟩ | ⟨es, es', f1, f2, f5, f3⟩
      · exact .inr (.inl ⟨vs, vs1, ty, e1, f1.trans e2, e3, e4⟩)
      · rw [e2] at f1; injection f1 with f1; injection f1 with f1 f1'; subst f1; subst f1'
        refine .inr (.inl ⟨vs, us1, ty, e1, f2, f3.trans e3, fun o ho => (f4 o ?_).trans (e4 o ho)⟩)
        have hk := h.kind x o hx (by rcases ho with ho | ho | ⟨id, hi, ho | ⟨c, ho⟩⟩ <;> simp [*])
        rw [hk]; exact ho
      · rw [e2] at f1; injection f1 with f1; subst f1; cases f5.1
    · rcases h'.keep x hx' with f1 | ⟨us, us1, ty', f1, f2, f3, f4⟩ | ⟨gs, gs', f1, f2, f5, f3⟩
      · exact .inr (.inr ⟨es, es', e1, f1.trans e2, e5, e3⟩)
      · rw [e2] at f1; injection f1 with f1; subst f1; cases e5.2
      · exact .inr (.inr ⟨es, gs', e1, f2, ⟨e5.1, f5.2⟩, e3⟩)
  · have hk1 := h.kind x o hx hk
    rw [← hk1] at hk
    exact (h'.kind x o (Nat.lt_of_lt_of_le hx h.size) hk).trans hk1
  · by_cases hb : id < b.n
    · rw [h'.ob id hb]; exact h.fresh id h1 hb
    · exact Nat.le_trans h.size (h'.fresh id (by omega) h2)
theorem Post.alloc (pb : Nat) (m : Mem) (o : Obj) (c : Nat → Kd) : Post pb m (m.alloc o c) := by
  refine ⟨rfl, rfl, rfl, by show _ ≤ (m.w.alloc o).heap.size; simp, fun b hb => .inl (alloc_heap hb), fun b off hb _ => ?_, Nat.le_refl _, fun _ _ => rfl, fun _ h1 h2 => absurd h1 (Nat.not_le.2 h2)⟩
  show (if b = m.w.heap.size then c off else m.k b off) = _
  rw [if_neg (by omega)]
theorem Post.drew (pb : Nat) (m : Mem) : Post pb m m.drew :=
  ⟨rfl, rfl, rfl, Nat.le_refl _, fun _ _ => .inl rfl, fun _ _ _ _ => rfl, Nat.le_refl _, fun _ _ => rfl, fun _ h1 h2 => absurd h1 (Nat.not_le.2 h2)⟩
theorem Post.ren (pb : Nat) (m : Mem) (f : Kd → Kd) (h1 : f .other = .other) (h2 : ∀ l, f (.imm l) = .imm l) (h3 : ∀ i, f (.obj i) = .obj i) (h4 : ∀ id c, id < pb → f (.tail ⟨.obj id, c⟩) = .tail ⟨.obj id, c⟩) : Post pb m (m.ren f) := by
  refine ⟨rfl, rfl, rfl, Nat.le_refl _, fun _ _ => .inl rfl, fun b o _ hk => ?_, Nat.le_refl _, fun _ _ => rfl, fun _ h1 h2 => absurd h1 (Nat.not_le.2 h2)⟩
  show f (m.k b o) = _
  rcases hk with hk | ⟨l, hk⟩ | ⟨i, hk⟩ | ⟨i, c, hi, hk⟩ <;> rw [hk]
  · exact h1
  · exact h2 l
  · exact h3 i
  · exact h4 i c hi

/-- m' holds all that a frame's facts in m lean on. -/
structure Mem.ext (m m' : Mem) : Prop where
  le : m.le m'
  heap : ∀ b, b < m.w.heap.size → m'.w.heap[b]? = m.w.heap[b]?
  kind : ∀ b o, b < m.w.heap.size → m'.k b o = m.k b o
theorem ext_alloc (m : Mem) (o : Obj) (c : Nat → Kd) : m.ext (m.alloc o c) := by
  refine ⟨le_alloc m o c, fun b hb => alloc_heap hb, fun b off hb => ?_⟩
  show (if b = m.w.heap.size then c off else m.k b off) = _
  rw [if_neg (by omega)]
theorem ext_drew (m : Mem) : m.ext m.drew := ⟨le_drew m, fun _ _ => rfl, fun _ _ _ => rfl⟩

theorem Mem.ext.cell {m m' : Mem} (h : m.ext m') {b o : Nat} {v : Value} (hc : m.w.cell? ⟨b, o, none⟩ = some v) : m'.w.cell? ⟨b, o, none⟩ = some v := by
  rw [← hc]; exact World.cell?_of_block (h.heap b (cell_lt hc))
theorem Tail.ext {m m' : Mem} {z : Nat} {v : Value} {k : Kd} (h : Tail m z v k) (he : m.ext m') : Tail m' z v k := by
  intro b o ht
  obtain ⟨hk, vs, ty, hh, ho⟩ := h b o ht
  exact ⟨by rw [he.kind b o (heap_lt hh)]; exact hk, vs, ty, by rw [he.heap b (heap_lt hh)]; exact hh, ho⟩
theorem Tail.ren {m : Mem} {z : Nat} {v : Value} {k : Kd} (h : Tail m z v k) (f : Kd → Kd) : Tail (m.ren f) z v (f k) := by
  intro b o ht
  obtain ⟨hk, r⟩ := h b o ht
  exact ⟨by show f (m.k b o) = _; rw [hk], r⟩
theorem Block.ext {T : Tab} {m m' : Mem} {b : Nat} {cs : List LV} {k : Kd} (h : Block T m b cs k) (he : m.ext m') : Block T m' b cs k := by
  obtain ⟨vs, ty, hh, hs, hk, hr⟩ := h
  exact ⟨vs, ty, by rw [he.heap b (heap_lt hh)]; exact hh, hs, fun o => by rw [he.kind b o (heap_lt hh)]; exact hk o, fun j lv hj => ⟨(hr j lv hj).1, (hr j lv hj).2.mono he.le⟩⟩
theorem Block.ren {T : Tab} {m : Mem} {b : Nat} {cs : List LV} {k : Kd} (h : Block T m b cs k) (f : Kd → Kd) (hf : ∀ l, f (.imm l) = .imm l) (hfk : f k = k) : Block T (m.ren f) b cs k := by
  obtain ⟨vs, ty, hh, hs, hk, hr⟩ := h
  exact ⟨vs, ty, hh, hs, fun o => by show f (m.k b o) = _; rw [hk, hfk], fun j lv hj => ⟨(hr j lv hj).1, (hr j lv hj).2.mono (le_ren m f hf)⟩⟩
theorem EntOk.mono {T : Tab} {m m' : Mem} {e : LV} {en : MapEntry} (h : EntOk T m e en) (hle : m.le m') : EntOk T m' e en := by
  obtain ⟨kk, vv, h1, h2, h3, h4⟩ := h; exact ⟨kk, vv, h1, h2.mono hle, h3.mono hle, h4⟩
theorem MBlock.mono {T : Tab} {m m' : Mem} {b : Nat} {cs : List LV} {k k' : Kd} (h : MBlock T m b cs k) (hh : m'.w.heap[b]? = m.w.heap[b]?) (hk : ∀ o, m'.k b o = k') (hle : m.le m') : MBlock T m' b cs k' := by
  rcases h with ⟨ents, c, es, h1, h2, h3, h4, h5⟩ | ⟨r, s, z, snap, h1, h2, h3, h4, h5, h6⟩
  · exact .inl ⟨ents, c, es, hh.trans h1, hk, h3, h4, fun j e hj => let ⟨en, g1, g2⟩ := h5 j e hj; ⟨en, g1, g2.mono hle⟩⟩
  · exact .inr ⟨r, s, z, snap, hh.trans h1, hk, h3, h4, h5, h6.1, fun j lv hj => (h6.2 j lv hj).mono hle⟩
theorem MBlock.nc {T : Tab} {m : Mem} {b : Nat} {cs : List LV} {k : Kd} (h : MBlock T m b cs k) : ∃ x, m.w.heap[b]? = some x ∧ ncO x = true := by
  rcases h with ⟨_, _, _, h, _⟩ | ⟨_, _, _, _, h, _⟩ <;> exact ⟨_, h, rfl⟩
theorem OBlock.lt {T : Tab} {m : Mem} {b : Nat} {cs : List LV} {k : Kd} (h : OBlock T m b cs k) : b < m.w.heap.size := by
  rcases h with ⟨_, _, _, h, _⟩ | ⟨_, _, _, h, _⟩ | ⟨_, _, _, _, h, _⟩ <;> exact heap_lt h
theorem OBlock.ext {T : Tab} {m m' : Mem} {b : Nat} {cs : List LV} {k : Kd} (h : OBlock T m b cs k) (he : m.ext m') : OBlock T m' b cs k := by
  have hlt := h.lt
  rcases h with ⟨h1, h⟩ | h
  · exact .inl ⟨h1, h.ext he⟩
  · refine .inr (h.mono (he.heap b hlt) (fun o => ?_) he.le)
    rw [he.kind b o hlt]; exact (OBlock.class (.inr h)) o
theorem OBlock.ren {T : Tab} {m : Mem} {b : Nat} {cs : List LV} {k : Kd} (h : OBlock T m b cs k) (f : Kd → Kd) (hf : ∀ l, f (.imm l) = .imm l) (hfk : f k = k) : OBlock T (m.ren f) b cs k := by
  rcases h with ⟨h1, h⟩ | h
  · exact .inl ⟨h1, h.ren f hf hfk⟩
  · refine .inr (h.mono rfl (fun o => ?_) (le_ren m f hf))
    show f (m.k b o) = _
    rw [(OBlock.class (.inr h)) o, hfk]
theorem RAt.ext {tmps : Array Value} {m m' : Mem} {p : Place} {v : Value} (h : RAt tmps m p v) (he : m.ext m') (hob : ∀ id, p.root = .obj id → id < m.n) : RAt tmps m' p v := by
  obtain ⟨root, cell⟩ := p
  cases root <;> cases cell <;> simp only [RAt] at h ⊢
  · exact h
  · rcases h with h | ⟨b, h1, h2⟩
    · exact .inl h
    · exact .inr ⟨b, h1, he.cell h2⟩
  · rename_i id i
    rw [he.le.ob id (hob id rfl)]; exact he.cell h
theorem VRep.mono {T : Tab} {st : St} {tmps : Array Value} {m m' : Mem} {lv : LV} {v : Value} (h : VRep T st tmps m lv v) (hle : m.le m') : VRep T st tmps m' lv v := by
  cases lv <;> first | exact h | exact Rep.mono hle h
theorem VRep.of_rep {T : Tab} {st : St} {tmps : Array Value} {m : Mem} {lv : LV} {v : Value} (h : Rep T m lv v) : VRep T st tmps m lv v := by
  cases lv <;> first | exact h | cases h
theorem VRep.rep {T : Tab} {st : St} {tmps : Array Value} {m : Mem} {lv : LV} {v : Value} (h : VRep T st tmps m lv v) (hl : ∀ s o, lv ≠ .laddr s o) : Rep T m lv v := by
  cases lv <;> first | exact h | skip
  exact (hl _ _ rfl).elim
theorem St.at_lt {st : St} {p : Place} {v : LV} (h : st.at p = some v) : ∀ id, p.root = .obj id → id < st.ob.length := by
  intro id hid
  obtain ⟨root, cell⟩ := p
  subst hid
  cases cell <;> simp only [St.at] at h
  · cases h
  · split at h
    · rename_i cs hcs; exact (List.getElem?_eq_some_iff.1 hcs).1
    · cases h

theorem FR.ext {T : Tab} {st : St} {tmps : Array Value} {m m' : Mem} (h : FR T st tmps m) (he : m.ext m') (hn : m'.n = m.n) : FR T st tmps m' := by
  refine ⟨h.size, hn.trans h.n, h.alo, fun t lv ht => let ⟨v, h1, h2⟩ := h.val t lv ht; ⟨v, h1, h2.mono he.le⟩, fun t cs ht => ?_, fun id cs hi => ?_, fun p l z xs sp hp => ?_, fun t p htp => ?_⟩
  · obtain ⟨b, h1, h2⟩ := h.box t cs ht; exact ⟨b, h1, h2.ext he⟩
  · have := (h.obj id cs hi).ext he
    rwa [← he.le.ob id (by rw [h.n]; exact (List.getElem?_eq_some_iff.1 hi).1)] at this
  · obtain ⟨v, h1, h2⟩ := h.own p l z xs sp hp
    exact ⟨v, h1.ext he (fun id hid => by rw [h.n]; exact St.at_lt hp id hid), h2.ext he⟩
  · obtain ⟨u, h2, h3⟩ := h.al t p htp
    exact ⟨u, h2.ext he (fun id hid => by rw [h.n]; exact (h.alo t p htp).1 id hid), h3⟩
theorem RAt.ren {tmps : Array Value} {m : Mem} {p : Place} {v : Value} (f : Kd → Kd) : RAt tmps (m.ren f) p v ↔ RAt tmps m p v := by
  obtain ⟨root, cell⟩ := p
  cases root <;> cases cell <;> exact Iff.rfl
theorem FR.ren' {T : Tab} {st : St} {tmps : Array Value} {m : Mem} (h : FR T st tmps m) (f : Kd → Kd) (hi : ∀ l, f (.imm l) = .imm l) (hb : ∀ t cs, st.sl[t]? = some (Slot.box cs) → f (.box t) = .box t) (ho : ∀ i, f (.obj i) = .obj i)
    (hp : ∀ p l z xs sp, st.at p = some (.sl true l z xs sp) → f (.tail p) = .tail p) : FR T st tmps (m.ren f) := by
  refine ⟨h.size, h.n, h.alo, fun t lv ht => let ⟨v, h1, h2⟩ := h.val t lv ht; ⟨v, h1, h2.mono (le_ren m f hi)⟩, fun t cs ht => ?_, fun id cs hid => (h.obj id cs hid).ren f hi (ho id), fun p l z xs sp hq => ?_, fun t p htp => ?_⟩
  · obtain ⟨b, h1, h2⟩ := h.box t cs ht; exact ⟨b, h1, h2.ren f hi (hb t cs ht)⟩
  · obtain ⟨v, h1, h2⟩ := h.own p l z xs sp hq
    have := h2.ren f
    rw [hp p l z xs sp hq] at this
    exact ⟨v, (RAt.ren f).2 h1, this⟩
  · obtain ⟨u, h2, h3⟩ := h.al t p htp
    exact ⟨u, (RAt.ren f).2 h2, h3⟩

theorem FR.ren {T : Tab} {st : St} {tmps : Array Value} {m : Mem} (h : FR T st tmps m) (f : Kd → Kd) (hi : ∀ l, f (.imm l) = .imm l) (hb : ∀ t, f (.box t) = .box t) (ho : ∀ i, f (.obj i) = .obj i)
    (hp : ∀ p l z xs sp, st.at p = some (.sl true l z xs sp) → f (.tail p) = .tail p) : FR T st tmps (m.ren f) := h.ren' f hi (fun t _ _ => hb t) ho hp

/-- The rights in a value lie in spare places of the classes that are told. -/
def Owns (m : Mem) (lv : LV) (v : Value) (dst : Option Nat → Kd) : Prop :=
  match lv with
  | .sl true _ z _ _ => Tail m z v (dst none)
  | .agg cs => ∀ vs, v = .agg vs → ∀ i l z xs sp, cs[i]? = some (.sl true l z xs sp) → Tail m z (vs.getD i undef) (dst (some i))
  | _ => True
theorem Owns.of_ownless {m : Mem} {lv : LV} {v : Value} {dst : Option Nat → Kd} (h : lv.ownless = true) : Owns m lv v dst := by
  cases lv with
  | sl o l z xs sp => cases o with
    | true => simp [LV.ownless] at h
    | false => trivial
  | agg cs =>
    intro vs hv i l z xs sp hi
    simp only [LV.ownless, List.all_eq_true] at h
    have := h _ (List.mem_of_getElem? hi)
    simp [LV.owns1] at this
  | _ => trivial
theorem bare1_owns1 (v : LV) : v.bare1.owns1 = false := by cases v <;> rfl
theorem bare_ownless (v : LV) : v.bare.ownless = true := by
  cases v <;> try rfl
  rename_i cs
  simp only [LV.bare, LV.ownless, List.all_eq_true]
  intro c hc
  obtain ⟨x, _, rfl⟩ := List.mem_map.1 hc
  simp [bare1_owns1]
end Tree

set_option autoImplicit false
set_option linter.unusedVariables false
set_option linter.unusedSimpArgs false
namespace Tree
open Go

theorem killGo_length (d : Nat) : ∀ l : List Slot, (killGo d l).length = l.length
  | [] => rfl
  | x :: r => by
    have ih := killGo_length d r
    cases x with
    | val v => cases v <;> simp [killGo, ih]
    | box cs => simp [killGo, ih]
theorem killGo_get (d : Nat) : ∀ (l : List Slot) (t : Nat), (killGo d l)[t]? = (l[t]?).map fun
    | .val (.laddr s o) => if s = d then .val .undef else .val (.laddr s o)
    | x => x
  | [], t => by simp [killGo]
  | x :: r, 0 => by
    cases x with
    | val v => cases v <;> simp [killGo]
    | box cs => simp [killGo]
  | x :: r, t + 1 => by
    have ih := killGo_get d r t
    cases x with
    | val v => cases v <;> simp [killGo, ih]
    | box cs => simp [killGo, ih]
theorem kill_length (st : St) (d : Nat) : (st.kill d).length = st.sl.length := by
  unfold St.kill; split
  · exact killGo_length d _
  · rfl
theorem kill_box {st : St} {d t : Nat} {cs : List LV} : (st.kill d)[t]? = some (.box cs) ↔ st.sl[t]? = some (.box cs) := by
  unfold St.kill
  split
  · rw [killGo_get]
    cases hx : st.sl[t]? with
    | none => simp
    | some x =>
      cases x with
      | val v => cases v <;> simp <;> split <;> simp
      | box cs' => simp
  · rfl
theorem kill_val {st : St} {d t : Nat} {lv : LV} (h : (st.kill d)[t]? = some (.val lv)) : lv = .undef ∨ (st.sl[t]? = some (.val lv) ∧ ∀ s o, lv = .laddr s o → s = d → ∀ cs, st.sl[d]? ≠ some (.box cs)) := by
  unfold St.kill at h
  split at h
  · rename_i cs hd
    rw [killGo_get] at h
    cases hx : st.sl[t]? with
    | none => simp [hx] at h
    | some x =>
      rw [hx] at h
      cases x with
      | box cs' => simp at h
      | val v =>
        cases v <;> simp at h <;> try (subst h; exact .inr ⟨rfl, fun s o e => by cases e⟩)
        rename_i s o
        split at h
        · simp at h; exact .inl h.symm
        · simp at h; subst h
          rename_i hne
          exact .inr ⟨rfl, fun s' o' e hs => by injection e with e1 e2; omega⟩
  · rename_i hd
    exact .inr ⟨h, fun s o _ _ cs hc => hd cs hc⟩
theorem kill_undef {st : St} {d t : Nat} {lv : LV} (h : st.sl[t]? = some (.val lv)) : (st.kill d)[t]? = some (.val lv) ∨ (st.kill d)[t]? = some (.val .undef) := by
  unfold St.kill
  split
  · rw [killGo_get, h]
    cases lv <;> simp
    exact (Classical.em _).symm
  · exact .inl h

theorem set_get? {α : Type} (l : List α) (d t : Nat) (x : α) : (l.set d x)[t]? = if d = t then (if d < l.length then some x else none) else l[t]? := by
  rw [List.getElem?_set]
theorem aset_get? (a : Array Value) (d t : Nat) (v : Value) : (a.setIfInBounds d v)[t]? = if d = t then (if d < a.size then some v else none) else a[t]? := by
  rw [Array.getElem?_setIfInBounds]

/-- A place of another slot, or of an object, is as it was. -/
theorem at_put_other {st : St} {d : Nat} {x : Slot} {al : Nat → Option Place} {p : Place} (hp : p.root ≠ .slot d) {l z : Nat} {xs sp : List (List LV)}
    (h : ({ st with sl := (st.kill d).set d x, al := al } : St).at p = some (.sl true l z xs sp)) : st.at p = some (.sl true l z xs sp) := by
  obtain ⟨root, cell⟩ := p
  cases root with
  | obj id => cases cell <;> exact h
  | slot t =>
    have hne : d ≠ t := fun e => hp (by rw [e])
    cases cell with
    | none =>
      simp only [St.at, set_get?, if_neg hne] at h ⊢
      split at h
      · rename_i v hv
        rcases kill_val hv with rfl | ⟨h1, _⟩
        · cases h
        · rw [h1]; exact h
      · cases h
    | some i =>
      simp only [St.at, set_get?, if_neg hne] at h ⊢
      split at h
      · rename_i cs hv
        rcases kill_val hv with e | ⟨h1, _⟩
        · cases e
        · rw [h1]; exact h
      · rename_i cs hv
        rw [kill_box.1 hv]; exact h
      · cases h
theorem RAt_set_other {tmps : Array Value} {m : Mem} {d : Nat} {v u : Value} {p : Place} (hp : p.root ≠ .slot d) : RAt (tmps.setIfInBounds d v) m p u ↔ RAt tmps m p u := by
  obtain ⟨root, cell⟩ := p
  cases root with
  | obj id => cases cell <;> exact Iff.rfl
  | slot t =>
    have hne : d ≠ t := fun e => hp (by rw [e])
    cases cell <;> simp only [RAt, aset_get?, if_neg hne]

theorem mem_forget {st : St} {d t : Nat} {p : Place} (h : st.forget d t = some p) : st.al t = some p ∧ t ≠ d ∧ p.root ≠ .slot d := by
  simp only [St.forget] at h
  split at h
  · cases h
  · rename_i hne
    split at h
    · rename_i q hq
      split at h
      · cases h
      · rename_i hr; injection h with h; subst h; exact ⟨hq, hne, hr⟩
    · cases h

theorem FR.put {T : Tab} {st : St} {tmps : Array Value} {m : Mem} (h : FR T st tmps m) (d : Nat) {lv : LV} {v : Value} (hv : VRep T st tmps m lv v)
    (ho : Owns m lv v (fun c => .tail ⟨.slot d, c⟩)) : FR T (st.put (some d) lv) (tmps.setIfInBounds d v) m := by
  have hval : ∀ t lv', t ≠ d → (st.kill d)[t]? = some (.val lv') → ∃ u, tmps[t]? = some u ∧ VRep T (st.put (some d) lv) (tmps.setIfInBounds d v) m lv' u := by
    intro t lv' hne ht
    rcases kill_val ht with rfl | ⟨h1, h2⟩
    · have hlt : t < tmps.size := by rw [h.size, ← kill_length st d]; exact (List.getElem?_eq_some_iff.1 ht).1
      exact ⟨tmps[t], by simp [hlt], Rep.undef _⟩
    · obtain ⟨u, hu, hr⟩ := h.val t lv' h1
      refine ⟨u, hu, ?_⟩
      cases lv' <;> first | exact hr | skip
      rename_i s o
      obtain ⟨b, g1, g2, cs, g3⟩ := hr
      have hsd : d ≠ s := fun e => h2 s o rfl e.symm cs (e ▸ g3)
      exact ⟨b, by rw [aset_get?, if_neg hsd]; exact g1, g2, cs, by simp only [St.put, set_get?, if_neg hsd]; exact kill_box.2 g3⟩
  refine ⟨?_, h.n, ?_, fun t lv' ht => ?_, fun t cs ht => ?_, h.obj, fun p l z xs sp hp => ?_, fun t p htp => ?_⟩
  · simp [St.put, kill_length, h.size]
  · intro t p htp
    obtain ⟨f1, f2, f3⟩ := mem_forget htp
    refine ⟨(h.alo t p f1).1, fun s i e => ?_⟩
    obtain ⟨cs, hcs⟩ := (h.alo t p f1).2 s i e
    have hne : d ≠ s := fun e' => f3 (by rw [e, e'])
    exact ⟨cs, by simp only [St.put, set_get?, if_neg hne]; exact kill_box.2 hcs⟩
  · by_cases e : d = t
    · subst e
      simp only [St.put, set_get?, if_true] at ht
      split at ht
      · rename_i hlt
        injection ht with ht; injection ht with ht; subst ht
        rw [kill_length, ← h.size] at hlt
        refine ⟨v, by simp [aset_get?, hlt], ?_⟩
        cases lv <;> first | exact hv | skip
        rename_i s o
        obtain ⟨b, g1, g2, cs, g3⟩ := hv
        by_cases hs : s = d
        · simp only [LV.notOf, if_pos hs]; exact Rep.undef _
        · simp only [LV.notOf, if_neg hs]
          have hsd : d ≠ s := fun e => hs e.symm
          exact ⟨b, by rw [aset_get?, if_neg hsd]; exact g1, g2, cs, by simp only [St.put, set_get?, if_neg hsd]; exact kill_box.2 g3⟩
      · cases ht
    · simp only [St.put, set_get?, if_neg e] at ht
      obtain ⟨u, hu, hr⟩ := hval t lv' (fun e' => e e'.symm) ht
      exact ⟨u, by rw [aset_get?, if_neg e]; exact hu, hr⟩
  · by_cases e : d = t
    · subst e
      simp only [St.put, set_get?, if_true] at ht
      split at ht <;> cases ht
    · simp only [St.put, set_get?, if_neg e] at ht
      obtain ⟨b, h1, h2⟩ := h.box t cs (kill_box.1 ht)
      exact ⟨b, by rw [aset_get?, if_neg e]; exact h1, h2⟩
  · by_cases hpd : p.root = .slot d
    · obtain ⟨root, cell⟩ := p
      subst hpd
      cases cell with
      | none =>
        simp only [St.at, St.put, set_get?, if_true] at hp
        split at hp
        · rename_i w hw
          split at hw
          · rename_i hlt
            injection hw with hw; injection hw with hw
            injection hp with hp
            rw [hp] at hw
            have hlv : lv = .sl true l z xs sp := by
              cases lv <;> simp only [LV.notOf] at hw <;> first | exact hw | (split at hw <;> cases hw) | cases hw
            subst hlv
            rw [kill_length, ← h.size] at hlt
            exact ⟨v, by simp [RAt, aset_get?, hlt], ho⟩
          · cases hw
        · cases hp
      | some i =>
        simp only [St.at, St.put, set_get?, if_true] at hp
        split at hp
        · rename_i cs hw
          split at hw
          · rename_i hlt
            injection hw with hw; injection hw with hw
            have hlv : lv = .agg cs := by
              cases lv <;> simp only [LV.notOf] at hw <;> first | exact hw | (split at hw <;> cases hw) | cases hw
            subst hlv
            rw [kill_length, ← h.size] at hlt
            cases hv with
            | agg _ vs hl hr =>
              have hi : i < vs.size := by rw [← hl]; exact (List.getElem?_eq_some_iff.1 hp).1
              refine ⟨vs.getD i undef, .inl ⟨vs, by simp [aset_get?, hlt], by simp [Array.getD, hi]⟩, ho vs rfl i l z xs sp hp⟩
          · cases hw
        · rename_i cs hw
          split at hw <;> cases hw
        · cases hp
    · obtain ⟨u, h1, h2⟩ := h.own p l z xs sp (at_put_other hpd hp)
      exact ⟨u, (RAt_set_other hpd).2 h1, h2⟩
  · obtain ⟨h1, h2, h3⟩ := mem_forget htp
    obtain ⟨u, g2, g3⟩ := h.al t p h1
    refine ⟨u, (RAt_set_other h3).2 g2, fun o l z xs sp v' k1 k2 => ?_⟩
    rw [aset_get?, if_neg (fun e => h2 e.symm)] at k2
    simp only [St.put, set_get?, if_neg (fun e => h2 (Eq.symm e))] at k1
    rcases kill_val k1 with e | ⟨k1, _⟩
    · cases e
    · exact g3 o l z xs sp v' k1 k2
end Tree

set_option autoImplicit false
set_option linter.unusedVariables false
set_option linter.unusedSimpArgs false
namespace Tree
open Go

theorem bare1_true {v : LV} {l z : Nat} {xs sp : List (List LV)} : v.bare1 ≠ .sl true l z xs sp := by cases v <;> simp [LV.bare1]
theorem modify_get {cs : List LV} {i j : Nat} : (cs.modify i LV.bare1)[j]? = (cs[j]?).map fun c => if i = j then c.bare1 else c := by
  rw [List.getElem?_modify]
  cases cs[j]? <;> simp <;> split <;> simp_all

theorem strip_box {st : St} {p : Place} {t : Nat} : (∃ cs, (st.strip p).sl[t]? = some (.box cs)) ↔ ∃ cs, st.sl[t]? = some (.box cs) := by
  obtain ⟨root, cell⟩ := p
  cases root with
  | obj id => cases cell with
    | none => exact Iff.rfl
    | some i => simp only [St.strip]; split <;> exact Iff.rfl
  | slot s =>
    cases cell with
    | none =>
      simp only [St.strip]
      split
      · rename_i v hv
        simp only [set_get?]
        split
        · subst_vars; rw [hv]; split <;> simp
        · exact Iff.rfl
      · exact Iff.rfl
    | some i =>
      simp only [St.strip]
      split
      · rename_i cs hv
        simp only [set_get?]
        split
        · subst_vars; rw [hv]; split <;> simp
        · exact Iff.rfl
      · rename_i cs hv
        simp only [set_get?]
        split
        · subst_vars; rw [hv]; simp [(List.getElem?_eq_some_iff.1 hv).1]
        · exact Iff.rfl
      · exact Iff.rfl
theorem strip_size {st : St} {p : Place} : (st.strip p).sl.length = st.sl.length ∧ (st.strip p).ob.length = st.ob.length ∧ (st.strip p).al = st.al := by
  obtain ⟨root, cell⟩ := p
  cases root <;> cases cell <;> simp only [St.strip]
  · split <;> simp
  · split <;> simp
  · simp
  · split <;> simp
/-- Where a right stands behind 'strip', it stood before, and elsewhere. -/
theorem strip_at {st : St} {p q : Place} {l z : Nat} {xs sp : List (List LV)} (h : (st.strip p).at q = some (.sl true l z xs sp)) :
    st.at q = some (.sl true l z xs sp) ∧ (q ≠ p ∨ ∀ o l z xs sp, st.at p ≠ some (.sl o l z xs sp)) := by
  obtain ⟨root, cell⟩ := p
  obtain ⟨root', cell'⟩ := q
  cases root with
  | obj id =>
    cases cell with
    | none => exact ⟨h, .inr fun o l z xs sp e => by simp [St.at] at e⟩
    | some i =>
      simp only [St.strip] at h
      split at h
      · rename_i cs hcs
        cases root' with
        | slot t => exact ⟨by cases cell' <;> exact h, .inl (fun e => by cases e)⟩
        | obj id' =>
          cases cell' with
          | none => simp [St.at] at h
          | some j =>
            simp only [St.at, set_get?] at h ⊢
            by_cases e : id = id'
            · subst e
              simp only [if_true, (List.getElem?_eq_some_iff.1 hcs).1, modify_get] at h
              rw [hcs]
              by_cases hij : i = j
              · subst hij
                simp only [if_true] at h
                obtain ⟨c, _, hc⟩ := Option.map_eq_some_iff.1 h
                exact absurd hc bare1_true
              · simp only [if_neg hij] at h
                exact ⟨by simpa using h, .inl (fun e => hij (by injection e with _ e; injection e with e; exact e.symm))⟩
            · simp only [if_neg e] at h
              exact ⟨h, .inl (fun e' => e (by injection e' with e' _; injection e' with e'; exact e'.symm))⟩
      · rename_i hcs
        refine ⟨h, .inr fun o l z xs sp e => ?_⟩
        simp only [St.at] at e
        cases e
  | slot s =>
    have hobj : ∀ id', root' = .obj id' → (st.strip ⟨.slot s, cell⟩).at ⟨root', cell'⟩ = st.at ⟨root', cell'⟩ := by
      intro id' e; subst e
      cases cell <;> simp only [St.strip] <;> split <;> cases cell' <;> rfl
    cases root' with
    | obj id' => rw [hobj id' rfl] at h; exact ⟨h, .inl (fun e => by cases e)⟩
    | slot t =>
      by_cases e : s = t
      · subst e
        cases cell with
        | none =>
          simp only [St.strip] at h
          split at h
          · rename_i v hv
            have hlt := (List.getElem?_eq_some_iff.1 hv).1
            cases cell' with
            | none =>
              simp only [St.at, set_get?, if_true, if_pos hlt] at h
              injection h with h; exact absurd h bare1_true
            | some j =>
              simp only [St.at, set_get?, if_true, if_pos hlt] at h ⊢
              rw [hv]
              cases v <;> simp only [LV.bare1] at h <;> first | cases h | exact ⟨h, .inl (fun e => by cases e)⟩
          · rename_i hv
            refine ⟨h, .inr fun o l z xs sp e => ?_⟩
            simp only [St.at] at e
            cases e
        | some i =>
          simp only [St.strip] at h
          split at h
          · rename_i cs hv
            have hlt := (List.getElem?_eq_some_iff.1 hv).1
            cases cell' with
            | none => simp only [St.at, set_get?, if_true, if_pos hlt] at h; cases h
            | some j =>
              simp only [St.at, set_get?, if_true, if_pos hlt, modify_get] at h ⊢
              rw [hv]
              by_cases hij : i = j
              · subst hij
                simp only [if_true] at h
                obtain ⟨c, _, hc⟩ := Option.map_eq_some_iff.1 h
                exact absurd hc bare1_true
              · simp only [if_neg hij] at h
                exact ⟨by simpa using h, .inl (fun e => hij (by injection e with _ e; injection e with e; exact e.symm))⟩
          · rename_i cs hv
            have hlt := (List.getElem?_eq_some_iff.1 hv).1
            cases cell' with
            | none => simp only [St.at, set_get?, if_true, if_pos hlt] at h; cases h
            | some j =>
              simp only [St.at, set_get?, if_true, if_pos hlt, modify_get] at h ⊢
              rw [hv]
              by_cases hij : i = j
              · subst hij
                simp only [if_true] at h
                obtain ⟨c, _, hc⟩ := Option.map_eq_some_iff.1 h
                exact absurd hc bare1_true
              · simp only [if_neg hij] at h
                exact ⟨by simpa using h, .inl (fun e => hij (by injection e with _ e; injection e with e; exact e.symm))⟩
          · rename_i hv1 hv2
            refine ⟨h, .inr fun o l z xs sp e => ?_⟩
            simp only [St.at] at e
            cases e
      · have hsame : (st.strip ⟨.slot s, cell⟩).at ⟨.slot t, cell'⟩ = st.at ⟨.slot t, cell'⟩ := by
          cases cell <;> simp only [St.strip] <;> split <;> cases cell' <;> simp only [St.at, set_get?, if_neg e]
        rw [hsame] at h
        exact ⟨h, .inl (fun e' => e (by injection e' with e' _; injection e' with e'; exact e'.symm))⟩

theorem VRep.bare1 {T : Tab} {st : St} {tmps : Array Value} {m : Mem} {lv : LV} {v : Value} (h : VRep T st tmps m lv v) : VRep T st tmps m lv.bare1 v := by
  cases lv <;> first | exact h | exact Rep.bare1 h
theorem VRep.bare {T : Tab} {st : St} {tmps : Array Value} {m : Mem} {lv : LV} {v : Value} (h : VRep T st tmps m lv v) : VRep T st tmps m lv.bare v := by
  cases lv <;> first | exact h | exact Rep.bare h
theorem VRep.st {T : Tab} {st st' : St} {tmps : Array Value} {m : Mem} {lv : LV} {v : Value} (h : VRep T st tmps m lv v) (hb : ∀ t : Nat, (∃ cs, st.sl[t]? = some (Slot.box cs)) → ∃ cs, st'.sl[t]? = some (Slot.box cs)) : VRep T st' tmps m lv v := by
  cases lv <;> first | exact h | skip
  obtain ⟨b, h1, h2, h3⟩ := h
  exact ⟨b, h1, h2, hb _ h3⟩
theorem Block.modify {T : Tab} {m : Mem} {b : Nat} {cs : List LV} {k : Kd} (h : Block T m b cs k) (i : Nat) : Block T m b (cs.modify i LV.bare1) k := by
  obtain ⟨vs, ty, h1, h2, h3, h4⟩ := h
  refine ⟨vs, ty, h1, by simpa using h2, h3, fun j lv hj => ?_⟩
  rw [modify_get] at hj
  obtain ⟨c, hc, rfl⟩ := Option.map_eq_some_iff.1 hj
  obtain ⟨g1, g2⟩ := h4 j c hc
  refine ⟨g1, ?_⟩
  split
  · exact g2.bare1
  · exact g2
theorem isMapC_modify (cs : List LV) (i : Nat) : isMapC (cs.modify i LV.bare1) = isMapC cs := by
  cases cs with
  | nil => cases i <;> rfl
  | cons c cs =>
    cases i with
    | zero => cases c <;> rfl
    | succ i => cases c <;> rfl
theorem modify_tups : ∀ (cs : List LV) (i : Nat), (∀ (j : Nat) e, cs[j]? = some e → e.bare1 = e) → cs.modify i LV.bare1 = cs
  | [], i, _ => by cases i <;> rfl
  | c :: cs, 0, h => by
    have := h 0 c rfl
    show c.bare1 :: cs = _
    rw [this]
  | c :: cs, i + 1, h => by
    show c :: cs.modify i LV.bare1 = _
    rw [modify_tups cs i (fun j e hj => h (j + 1) e (by simpa using hj))]
theorem MBlock.tups {T : Tab} {m : Mem} {b : Nat} {cs : List LV} {k : Kd} (h : MBlock T m b cs k) : ∀ (j : Nat) e, cs[j]? = some e → ∃ vs, e = .tup vs := by
  rcases h with ⟨ents, c, es, h1, h2, rfl, h4, h5⟩ | ⟨r, s, z, snap, h1, h2, rfl, h4, h5, h6⟩
  · intro j e hj
    cases j with
    | zero => simp at hj; exact ⟨_, hj.symm⟩
    | succ j =>
      obtain ⟨en, g1, kk, vv, g2, _⟩ := h5 j e (by simpa using hj)
      exact ⟨_, g2⟩
  · intro j e hj
    match j with
    | 0 => simp [loopObj] at hj; exact ⟨_, hj.symm⟩
    | 1 => simp [loopObj] at hj; exact ⟨_, hj.symm⟩
    | j + 2 => simp [loopObj] at hj
theorem OBlock.modify {T : Tab} {m : Mem} {b : Nat} {cs : List LV} {k : Kd} (h : OBlock T m b cs k) (i : Nat) : OBlock T m b (cs.modify i LV.bare1) k := by
  rcases h with ⟨h1, h⟩ | h
  · exact .inl ⟨by rw [isMapC_modify]; exact h1, h.modify i⟩
  · refine .inr ?_
    rw [modify_tups cs i (fun j e hj => by obtain ⟨vs, rfl⟩ := h.tups j e hj; rfl)]
    exact h
theorem Rep.agg_modify {T : Tab} {m : Mem} {cs : List LV} {v : Value} (h : Rep T m (.agg cs) v) (i : Nat) : Rep T m (.agg (cs.modify i LV.bare1)) v := by
  cases h with
  | agg _ vs hl hr =>
    refine .agg _ vs (by simpa using hl) fun j lv hj => ?_
    rw [modify_get] at hj
    obtain ⟨c, hc, rfl⟩ := Option.map_eq_some_iff.1 hj
    split
    · exact (hr j c hc).bare1
    · exact hr j c hc

theorem strip_sl {st : St} {p : Place} {t : Nat} {o : Bool} {l z : Nat} {xs sp : List (List LV)} (h : (st.strip p).sl[t]? = some (Slot.val (.sl o l z xs sp))) : ∃ o', st.sl[t]? = some (Slot.val (.sl o' l z xs sp)) := by
  obtain ⟨root, cell⟩ := p
  cases root with
  | obj id => exact ⟨o, by cases cell with | none => exact h | some i => simp only [St.strip] at h; split at h <;> exact h⟩
  | slot s =>
    cases cell with
    | none =>
      simp only [St.strip] at h
      split at h
      · rename_i v hv
        simp only [set_get?] at h
        split at h
        · rename_i e; subst e
          split at h
          · injection h with h; injection h with h
            cases v <;> simp only [LV.bare1] at h <;> cases h
            exact ⟨_, hv⟩
          · cases h
        · exact ⟨o, h⟩
      · exact ⟨o, h⟩
    | some i =>
      simp only [St.strip] at h
      split at h
      · simp only [set_get?] at h
        split at h
        · split at h <;> cases h
        · exact ⟨o, h⟩
      · simp only [set_get?] at h
        split at h
        · split at h <;> cases h
        · exact ⟨o, h⟩
      · exact ⟨o, h⟩
theorem FR.strip {T : Tab} {st : St} {tmps : Array Value} {m : Mem} (h : FR T st tmps m) (p : Place) : FR T (st.strip p) tmps m := by
  obtain ⟨z1, z2, z3⟩ := strip_size (st := st) (p := p)
  have hbox : ∀ t : Nat, (∃ cs, st.sl[t]? = some (Slot.box cs)) → ∃ cs, (st.strip p).sl[t]? = some (Slot.box cs) := fun t => strip_box.2
  refine ⟨by rw [z1]; exact h.size, by rw [z2]; exact h.n, ?_, fun t lv ht => ?_, fun t cs ht => ?_, fun id cs hid => ?_, fun q l z xs sp hq => h.own q l z xs sp (strip_at hq).1, fun t q htq => ?_⟩
  · intro t q htq; rw [z3] at htq
    exact ⟨by rw [z2]; exact (h.alo t q htq).1, fun s i e => hbox s ((h.alo t q htq).2 s i e)⟩
  · obtain ⟨root, cell⟩ := p
    have same : ∀ lv, st.sl[t]? = some (Slot.val lv) → ∃ v : Value, tmps[t]? = some v ∧ VRep T (st.strip ⟨root, cell⟩) tmps m lv v := fun lv hl => let ⟨v, h1, h2⟩ := h.val t lv hl; ⟨v, h1, VRep.st h2 hbox⟩
    cases root with
    | obj id => exact same lv (by cases cell with | none => exact ht | some i => simp only [St.strip] at ht; split at ht <;> exact ht)
    | slot s =>
      cases cell with
      | none =>
        simp only [St.strip] at ht
        split at ht
        · rename_i v hv
          simp only [set_get?] at ht
          split at ht
          · subst_vars
            split at ht
            · injection ht with ht; injection ht with ht; subst ht
              obtain ⟨u, h1, h2⟩ := same v hv
              exact ⟨u, h1, VRep.bare1 h2⟩
            · cases ht
          · exact same lv ht
        · exact same lv ht
      | some i =>
        simp only [St.strip] at ht
        split at ht
        · rename_i cs hv
          simp only [set_get?] at ht
          split at ht
          · subst_vars
            split at ht
            · injection ht with ht; injection ht with ht; subst ht
              obtain ⟨u, h1, h2⟩ := same (.agg cs) hv
              exact ⟨u, h1, Rep.agg_modify h2 i⟩
            · cases ht
          · exact same lv ht
        · rename_i cs hv
          simp only [set_get?] at ht
          split at ht
          · subst_vars; split at ht <;> cases ht
          · exact same lv ht
        · exact same lv ht
  · obtain ⟨root, cell⟩ := p
    cases root with
    | obj id => exact h.box t cs (by cases cell with | none => exact ht | some i => simp only [St.strip] at ht; split at ht <;> exact ht)
    | slot s =>
      cases cell with
      | none =>
        simp only [St.strip] at ht
        split at ht
        · simp only [set_get?] at ht
          split at ht
          · split at ht <;> cases ht
          · exact h.box t cs ht
        · exact h.box t cs ht
      | some i =>
        simp only [St.strip] at ht
        split at ht
        · simp only [set_get?] at ht
          split at ht
          · split at ht <;> cases ht
          · exact h.box t cs ht
        · rename_i cs' hv
          simp only [set_get?] at ht
          split at ht
          · subst_vars
            split at ht
            · injection ht with ht; injection ht with ht; subst ht
              obtain ⟨b, h1, h2⟩ := h.box _ _ hv
              exact ⟨b, h1, h2.modify i⟩
            · cases ht
          · exact h.box t cs ht
        · exact h.box t cs ht
  · obtain ⟨root, cell⟩ := p
    cases root with
    | slot s => exact h.obj id cs (by cases cell <;> simp only [St.strip] at hid <;> split at hid <;> exact hid)
    | obj id' =>
      cases cell with
      | none => exact h.obj id cs hid
      | some i =>
        simp only [St.strip] at hid
        split at hid
        · rename_i cs' hv
          simp only [set_get?] at hid
          split at hid
          · subst_vars
            split at hid
            · injection hid with hid; subst hid
              exact (h.obj _ _ hv).modify i
            · cases hid
          · exact h.obj id cs hid
        · exact h.obj id cs hid
  · obtain ⟨u, g1, g2⟩ := h.al t q (by rw [z3] at htq; exact htq)
    refine ⟨u, g1, fun o l z xs sp v k1 k2 => ?_⟩
    obtain ⟨o', k3⟩ := strip_sl k1
    exact g2 o' l z xs sp v k3 k2
end Tree

set_option autoImplicit false
set_option linter.unusedVariables false
set_option linter.unusedSimpArgs false
namespace Tree
open Go

theorem isNilSlice_eq {v : Value} (h : isNilSlice v = true) : v = .slice none 0 0 := by
  unfold isNilSlice at h; split at h
  · rfl
  · cases h
mutual
theorem constRep {T : Tab} {m : Mem} (c : LV) (v : Value) (h : constOk c v = true) : Rep T m c v := by
  match c with
  | .bool a => cases v <;> simp [constOk] at h; subst h; exact .bool _
  | .int k a => cases v <;> simp [constOk] at h; obtain ⟨rfl, rfl⟩ := h; exact .int _ _
  | .str a =>
    cases v <;> simp [constOk] at h
    rename_i s
    have : a = s := by
      cases a; cases s; simp at h
      exact congrArg ByteArray.mk (by simpa using h)
    subst this; exact .str _
  | .sl o l z xs sp =>
    simp only [constOk, Bool.and_eq_true, beq_iff_eq, List.isEmpty_iff] at h
    obtain ⟨⟨⟨h1, rfl⟩, rfl⟩, rfl⟩ := h
    rw [isNilSlice_eq h1]; exact .nil _ _ _
  | .agg cs =>
    cases v <;> simp only [constOk] at h <;> try cases h
    rename_i vs
    obtain ⟨h1, h2⟩ := constsRep (T := T) (m := m) cs vs.toList h
    refine .agg _ _ (by simpa using h1) fun i lv hi => ?_
    have := h2 i lv hi
    simpa [Array.getD_eq_getD_getElem?, List.getD_eq_getElem?_getD] using this
  | .tup cs => simp [constOk] at h
  | .iptr .. => simp [constOk] at h
  | .laddr .. => simp [constOk] at h
  | .optr .. => simp [constOk] at h
  | .nilptr =>
    simp only [constOk] at h
    split at h
    · exact .nilptr
    · cases h
  | .fn .. => simp [constOk] at h
  | .nilfn =>
    simp only [constOk] at h
    split at h
    · exact .nilfn
    · cases h
  | .nilmap =>
    simp only [constOk] at h
    split at h
    · exact .nilmap
    · cases h
  | .mref .. => simp [constOk] at h
  | .msl .. => simp [constOk] at h
  | .undef => simp [constOk] at h
theorem constsRep {T : Tab} {m : Mem} (cs : List LV) (vs : List Value) (h : constsOk cs vs = true) : cs.length = vs.length ∧ ∀ (i : Nat) (lv : LV), cs[i]? = some lv → Rep T m lv (vs.getD i undef) := by
  match cs, vs with
  | [], [] => exact ⟨rfl, fun i lv hi => by simp at hi⟩
  | [], _ :: _ => simp [constsOk] at h
  | _ :: _, [] => simp [constsOk] at h
  | c :: cs, v :: vs =>
    simp only [constsOk, Bool.and_eq_true] at h
    obtain ⟨h1, h2⟩ := constsRep (T := T) (m := m) cs vs h.2
    refine ⟨by simp [h1], fun i lv hi => ?_⟩
    cases i with
    | zero => simp at hi; subst hi; simpa using constRep c v h.1
    | succ i => simpa using h2 i lv (by simpa using hi)
end
theorem constOwns1 {m : Mem} {l z : Nat} {xs sp : List (List LV)} {v : Value} (h : constOk (.sl true l z xs sp) v = true) (k : Kd) : Tail m z v k := by
  simp only [constOk, Bool.and_eq_true] at h
  rw [isNilSlice_eq h.1.1.1]
  intro b o ht; exact ht.elim
theorem constsOk_get : ∀ (cs : List LV) (vs : List Value), constsOk cs vs = true → ∀ (i : Nat) (lv : LV), cs[i]? = some lv → constOk lv (vs.getD i undef) = true
  | [], _, _, i, lv, hi => by simp at hi
  | _ :: _, [], h, _, _, _ => by simp [constsOk] at h
  | c :: cs, v :: vs, h, i, lv, hi => by
    simp only [constsOk, Bool.and_eq_true] at h
    cases i with
    | zero => simp at hi; subst hi; simpa using h.1
    | succ i => simpa using constsOk_get cs vs h.2 i lv (by simpa using hi)
theorem constOwns {m : Mem} {c : LV} {v : Value} (h : constOk c v = true) (dst : Option Nat → Kd) : Owns m c v dst := by
  cases c with
  | sl o l z xs sp => cases o with
    | false => trivial
    | true => exact constOwns1 h _
  | agg cs =>
    intro vs hv i l z xs sp hi
    subst hv
    simp only [constOk] at h
    have := constsOk_get cs vs.toList h i _ hi
    have e : vs.toList.getD i undef = vs.getD i undef := by simp [Array.getD_eq_getD_getElem?, List.getD_eq_getElem?_getD]
    rw [e] at this
    exact constOwns1 this _
  | _ => trivial

/-- The variables of the packages read as told. -/
def Globs (T : Tab) (gl : Nat → List LV) (m : Mem) : Prop := (∀ g h, T.glT.contains (g, h) = true → Rep T m (.iptr 0 (gl h) 0) (.pointer (some ⟨g, 0, none⟩))) ∧ ∀ g, T.ifs.contains g = true → ∃ l tp p, m.k g 0 = .imm l ∧ m.w.cell? ⟨g, 0, none⟩ = some (.iface tp p)
theorem Globs.mono {T : Tab} {gl : Nat → List LV} {m m' : Mem} (h : Globs T gl m) (hle : m.le m') : Globs T gl m' := ⟨fun g h' hg => (h.1 g h' hg).mono hle, fun g hg => by
  obtain ⟨l, tp, p, h1, h2⟩ := h.2 g hg
  obtain ⟨h3, h4⟩ := hle.imm _ _ _ _ h2 h1
  exact ⟨l, tp, p, h3, h4⟩⟩

theorem operand_sound {T : Tab} {gl : Nat → List LV} {st : St} {a : Act} {m : Mem} (h : FR T st a.tmps m) (hG : Globs T gl m) {x : Operand} {y : Opd} {lv : LV} (hc : chkOpd T x y = true) (he : st.operand gl y = some lv) :
    VRep T st a.tmps m lv (a.eval x) := by
  cases y with
  | const c =>
    simp only [St.operand, Option.some.injEq] at he; subst he
    cases x with
    | const v => exact VRep.of_rep (constRep _ _ hc)
    | tmp t => simp [chkOpd] at hc
    | global g => simp [chkOpd] at hc
    | func f =>
      cases c <;> simp [chkOpd] at hc
      rename_i g cap
      cases cap <;> simp [chkOpd] at hc
      exact Rep.fn _ _ _ _ hc rfl (fun i lv hi => by simp at hi)
  | glob g =>
    simp only [St.operand, Option.some.injEq] at he; subst he
    cases x <;> simp only [chkOpd, Bool.false_eq_true] at hc
    exact VRep.of_rep (hG.1 _ _ hc)
  | tmp t =>
    cases x <;> simp [chkOpd] at hc
    rename_i t0
    subst hc
    simp only [St.operand] at he
    split at he
    · rename_i v hv
      injection he with he; subst he
      obtain ⟨u, h1, h2⟩ := h.val _ _ hv
      have : a.eval (.tmp t0) = u := by simp [Act.eval, Array.getD_eq_getD_getElem?, h1]
      rw [this]; exact h2.bare
    · rename_i cs hv
      injection he with he; subst he
      obtain ⟨b, h1, h2⟩ := h.box _ _ hv
      exact ⟨b, h1, by simp [Act.eval, Array.getD_eq_getD_getElem?, h1], cs, hv⟩
    · cases he
theorem operand_ownless {gl : Nat → List LV} {st : St} {t : Nat} {lv : LV} (he : st.operand gl (.tmp t) = some lv) : lv.ownless = true := by
  simp only [St.operand] at he
  split at he
  · injection he with he; subst he; exact bare_ownless _
  · injection he with he; subst he; rfl
  · cases he
theorem operand_owns {T : Tab} {gl : Nat → List LV} {st : St} {a : Act} {m : Mem} {x : Operand} {y : Opd} {lv : LV} (hc : chkOpd T x y = true) (he : st.operand gl y = some lv) (dst : Option Nat → Kd) : Owns m lv (a.eval x) dst := by
  cases y with
  | const c =>
    simp only [St.operand, Option.some.injEq] at he; subst he
    cases x with
    | const v => exact constOwns hc _
    | tmp t => simp [chkOpd] at hc
    | global g => simp [chkOpd] at hc
    | func f => cases c <;> simp [chkOpd] at hc; trivial
  | glob g => simp only [St.operand, Option.some.injEq] at he; subst he; trivial
  | tmp t => exact Owns.of_ownless (operand_ownless he)

/-- What a renaming of classes may not touch. -/
structure RenOk (pb : Nat) (f : Kd → Kd) : Prop where
  other : f .other = .other
  imm : ∀ l, f (.imm l) = .imm l
  box : ∀ t, f (.box t) = .box t
  obj : ∀ i, f (.obj i) = .obj i
  low : ∀ id c, id < pb → f (.tail ⟨.obj id, c⟩) = .tail ⟨.obj id, c⟩
theorem RenOk.id (pb : Nat) : RenOk pb id := ⟨rfl, fun _ => rfl, fun _ => rfl, fun _ => rfl, fun _ _ _ => rfl⟩
theorem Post.of_ren {pb : Nat} {f : Kd → Kd} (h : RenOk pb f) (m : Mem) : Post pb m (m.ren f) := Post.ren pb m f h.other h.imm h.obj h.low

structure Taken (T : Tab) (pb : Nat) (st' : St) (tmps : Array Value) (m : Mem) (lv : LV) (v : Value) (dst : Option Nat → Kd) (f : Kd → Kd) : Prop where
  ok : RenOk pb f
  far : ∀ t c, st'.sl.length ≤ t → f (.tail ⟨.slot t, c⟩) = .tail ⟨.slot t, c⟩
  fr : FR T st' tmps (m.ren f)
  rep : VRep T st' tmps (m.ren f) lv v
  owns : Owns (m.ren f) lv v dst


theorem at_slot_lt {st : St} {t : Nat} {c : Option Nat} {v : LV} (h : st.at ⟨.slot t, c⟩ = some v) : t < st.sl.length := by
  rcases Nat.lt_or_ge t st.sl.length with hlt | hge
  · exact hlt
  · exfalso
    have : st.sl[t]? = none := List.getElem?_eq_none hge
    cases c <;> simp [St.at, this] at h
theorem take_sound {T : Tab} {gl : Nat → List LV} {pb : Nat} {st st' : St} {a : Act} {m : Mem} (h : FR T st a.tmps m) (hG : Globs T gl m) {x : Operand} {y : Opd} {lv : LV} (hc : chkOpd T x y = true)
    (ht : st.take gl pb y = some (lv, st')) (dst : Option Nat → Kd) : ∃ f, Taken T pb st' a.tmps m lv (a.eval x) dst f := by
  cases y with
  | const c =>
    simp only [St.take] at ht
    obtain ⟨v, h1, h2⟩ := Option.map_eq_some_iff.1 ht
    injection h2 with h2 h3; subst h2; subst h3
    exact ⟨id, RenOk.id _, fun _ _ _ => rfl, h, operand_sound h hG hc h1, operand_owns hc h1 _⟩
  | glob g =>
    simp only [St.take] at ht
    obtain ⟨v, h1, h2⟩ := Option.map_eq_some_iff.1 ht
    injection h2 with h2 h3; subst h2; subst h3
    exact ⟨id, RenOk.id _, fun _ _ _ => rfl, h, operand_sound h hG hc h1, operand_owns hc h1 _⟩
  | tmp t =>
    cases x <;> simp [chkOpd] at hc
    subst hc
    rename_i t
    simp only [St.take, St.takeTop] at ht
    -- the renaming for what lies in slot t itself
    let f1 : Kd → Kd := fun k => match k with
      | .tail ⟨.slot s, c⟩ => if s = t then dst c else k
      | _ => k
    have f1ok : RenOk pb f1 := ⟨rfl, fun _ => rfl, fun _ => rfl, fun _ => rfl, fun _ _ _ => rfl⟩
    have f1t : ∀ c, f1 (.tail ⟨.slot t, c⟩) = dst c := fun c => by simp [f1]
    have f1o : ∀ p : Place, p.root ≠ .slot t → f1 (.tail p) = .tail p := by
      intro p hp
      obtain ⟨root, cell⟩ := p
      cases root with
      | obj id => rfl
      | slot s => simp only [f1]; rw [if_neg (fun e => hp (by rw [e]))]
    cases hs : st.sl[t]? with
    | none => simp [hs] at ht
    | some sv =>
      rw [hs] at ht
      cases sv with
      | box cs =>
        simp at ht
        obtain ⟨rfl, rfl⟩ := ht
        obtain ⟨b, h1, h2⟩ := h.box _ _ hs
        exact ⟨id, RenOk.id _, fun _ _ _ => rfl, h, ⟨b, h1, by simp [Act.eval, Array.getD_eq_getD_getElem?, h1], cs, hs⟩, trivial⟩
      | val w =>
        obtain ⟨u, hu1, hu2⟩ := h.val _ _ hs
        have heval : a.eval (.tmp t) = u := by simp [Act.eval, Array.getD_eq_getD_getElem?, hu1]
        rw [heval]
        -- the generic case: the slot keeps a bare copy
        have generic : ∀ lv' st1, (lv', st1) = (w, ({ st with sl := st.sl.set t (.val w.bare) } : St)) → ∃ f, Taken T pb st1 a.tmps m lv' u dst f := by
          intro lv' st1 e
          injection e with e1 e2; subst e1; subst e2
          have hlt := (List.getElem?_eq_some_iff.1 hs).1
          have hbx : ∀ s : Nat, (∃ cs, st.sl[s]? = some (Slot.box cs)) → ∃ cs, (st.sl.set t (.val lv'.bare))[s]? = some (Slot.box cs) := by
            rintro s ⟨cs, hcs⟩
            refine ⟨cs, ?_⟩
            rw [set_get?, if_neg (fun e => by subst e; rw [hs] at hcs; cases hcs)]; exact hcs
          have hat : ∀ p l z xs sp, ({ st with sl := st.sl.set t (.val lv'.bare) } : St).at p = some (.sl true l z xs sp) → p.root ≠ .slot t ∧ st.at p = some (.sl true l z xs sp) := by
            intro p l z xs sp hp
            obtain ⟨root, cell⟩ := p
            cases root with
            | obj id => exact ⟨(fun e => by cases e), (by cases cell <;> exact hp)⟩
            | slot s =>
              by_cases e : t = s
              · subst e
                exfalso
                cases cell with
                | none =>
                  simp only [St.at, set_get?, if_true, if_pos hlt] at hp
                  injection hp with hp
                  have := bare_ownless lv'; rw [hp] at this; simp [LV.ownless] at this
                | some i =>
                  simp only [St.at, set_get?, if_true, if_pos hlt] at hp
                  split at hp
                  · rename_i cs hcs
                    injection hcs with hcs; injection hcs with hcs
                    have := bare_ownless lv'; rw [hcs] at this
                    simp only [LV.ownless, List.all_eq_true] at this
                    have := this _ (List.mem_of_getElem? hp); simp [LV.owns1] at this
                  · rename_i hcs; cases hcs
                  · cases hp
              · refine ⟨fun e' => e (by injection e' with e'; exact e'.symm), ?_⟩
                cases cell <;> simp only [St.at, set_get?, if_neg e] at hp ⊢ <;> exact hp
          have hfr : FR T { st with sl := st.sl.set t (.val lv'.bare) } a.tmps m := by
            refine ⟨by simpa using h.size, h.n, fun s p hsp => ⟨(h.alo s p hsp).1, fun s' i e => hbx s' ((h.alo s p hsp).2 s' i e)⟩, fun s lv1 hl => ?_, fun s cs hcs => ?_, h.obj, fun p l z xs sp hp => h.own p l z xs sp (hat p l z xs sp hp).2, fun s p hsp => ?_⟩
            · simp only [set_get?] at hl
              split at hl
              · rename_i e0; subst e0
                try rw [if_pos hlt] at hl
                injection hl with hl; injection hl with hl; subst hl
                exact ⟨u, hu1, VRep.st hu2.bare hbx⟩
              · obtain ⟨v, g1, g2⟩ := h.val s lv1 hl
                exact ⟨v, g1, VRep.st g2 hbx⟩
            · simp only [set_get?] at hcs
              split at hcs
              · (try rw [if_pos hlt] at hcs); cases hcs
              · exact h.box s cs hcs
            · obtain ⟨u', g1, g2⟩ := h.al s p hsp
              refine ⟨u', g1, fun o l z xs sp v k1 k2 => ?_⟩
              simp only [set_get?] at k1
              split at k1
              · rename_i e0; subst e0
                try rw [if_pos hlt] at k1
                injection k1 with k1; injection k1 with k1
                cases lv' <;> simp only [LV.bare] at k1 <;> cases k1
                exact g2 _ l z xs sp v hs k2
              · exact g2 o l z xs sp v k1 k2
          refine ⟨f1, f1ok, (fun s c hs' => f1o ⟨.slot s, c⟩ (fun e => by injection e with e; subst e; simp at hs'; omega)), hfr.ren f1 f1ok.imm f1ok.box f1ok.obj (fun p l z xs sp hp => f1o p (hat p l z xs sp hp).1), (VRep.st hu2 hbx).mono (le_ren m f1 f1ok.imm), ?_⟩
          cases lv' with
          | sl o l z xs sp =>
            cases o with
            | false => trivial
            | true =>
              obtain ⟨v, g1, g2⟩ := h.own ⟨.slot t, none⟩ l z xs sp (by simp [St.at, hs])
              simp only [RAt] at g1
              rw [hu1] at g1; injection g1 with g1; subst g1
              have := g2.ren f1; rw [f1t] at this; exact this
          | agg cs =>
            intro vs hv i l z xs sp hi
            subst hv
            obtain ⟨v, g1, g2⟩ := h.own ⟨.slot t, some i⟩ l z xs sp (by simp [St.at, hs, hi])
            have e : v = vs.getD i undef := by
              rcases g1 with ⟨vs', k1, k2⟩ | ⟨b, k1, k2⟩
              · rw [hu1] at k1; injection k1 with k1; injection k1 with k1; subst k1
                simp [Array.getD_eq_getD_getElem?, k2]
              · rw [hu1] at k1; injection k1 with k1; cases k1
            subst e
            have := g2.ren f1; rw [f1t] at this; exact this
          | _ => trivial
        -- now by what the slot holds
        by_cases hown : ∃ l z xs sp, w = .sl true l z xs sp
        · obtain ⟨l, z, xs, sp, rfl⟩ := hown
          simp only at ht
          injection ht with ht
          refine generic lv st' ?_
          rw [← ht]
          simp [St.strip, hs, LV.bare1, LV.bare]
        · cases w with
          | sl o l z xs sp =>
            cases o with
            | true => exact absurd ⟨l, z, xs, sp, rfl⟩ hown
            | false =>
              simp only at ht
              -- out of the place it was read from, or plain
              cases hf : st.al t with
              | none => rw [hf] at ht; exact generic lv st' (by injection ht with ht; exact ht.symm)
              | some p =>
                rw [hf] at ht
                simp only at ht
                have hmem := hf
                split at ht
                · rename_i r hr
                  split at hr
                  · rename_i l' z' xs' sp' hat
                    split at hr
                    · rename_i hcond
                      obtain ⟨rfl, hmay⟩ := hcond
                      injection hr with hr; injection ht with ht
                      subst ht
                      injection hr with e1 e2; subst e1; subst e2
                      obtain ⟨u1, k2, k3⟩ := h.al t p hmem
                      obtain ⟨v, g1, g2⟩ := h.own p l' z' xs' sp' hat
                      have := RAt.unique g1 k2; subst this
                      let f2 : Kd → Kd := fun k => if k = .tail p then dst none else k
                      have f2o : ∀ k, k ≠ .tail p → f2 k = k := fun k hk => if_neg hk
                      have f2ok : RenOk pb f2 := ⟨f2o _ (by simp), fun _ => f2o _ (by simp), fun _ => f2o _ (by simp), fun _ => f2o _ (by simp), fun id c hid => f2o _ (by
                        intro e; injection e with e; subst e
                        simp [Place.may] at hmay; omega)⟩
                      have hstr := h.strip p
                      refine ⟨f2, f2ok, (fun s c hs' => f2o _ (fun e => by
                        injection e with e; subst e
                        rw [(strip_size (st := st)).1] at hs'
                        have := at_slot_lt hat; omega)), hstr.ren f2 f2ok.imm f2ok.box f2ok.obj (fun q l z xs sp hq => f2o _ (fun e => ?_)), (VRep.st (VRep.of_rep (T := T) (st := st) (tmps := a.tmps) (Rep.mono (le_ren m f2 f2ok.imm) ?_)) fun s => strip_box.2), ?_⟩
                      · injection e with e; subst e
                        rcases (strip_at hq).2 with hne | hno
                        · exact hne rfl
                        · exact hno _ _ _ _ _ hat
                      · have hrep : Rep T m (.sl false l z' xs sp) u := hu2
                        cases hrep with
                        | nil _ _ _ => exact .nil _ _ _
                        | emp _ _ _ a => exact .emp _ _ _ a
                        | sl _ _ _ _ _ b off cap val hc hz hm hr hM =>
                          refine .sl _ _ _ _ _ b off cap val ?_ ?_ ?_ ?_ hM
                          · simp only [List.append_nil]; simp only [List.length_append] at hc; omega
                          · intro x hx; simp only [List.append_nil] at hx; exact hz x (List.mem_append_left _ hx)
                          · intro i x j lv hx hj
                            simp only [List.append_nil] at hx
                            exact hm i x j lv (by rw [List.getElem?_append_left (List.getElem?_eq_some_iff.1 hx).1]; exact hx) hj
                          · intro i x j lv hx hj
                            simp only [List.append_nil] at hx
                            exact hr i x j lv (by rw [List.getElem?_append_left (List.getElem?_eq_some_iff.1 hx).1]; exact hx) hj
                      · intro b o hto
                        obtain ⟨j1, j2⟩ := g2 b o (k3 _ _ _ _ _ _ hs hu1 b o hto)
                        exact ⟨by show f2 (m.k b o) = _; rw [j1]; simp [f2], j2⟩
                    · cases hr
                  · cases hr
                · exact generic lv st' (by injection ht with ht; exact ht.symm)
          | _ => exact generic lv st' (by simp only at ht; injection ht with ht; exact ht.symm)
end Tree
