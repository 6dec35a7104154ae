/- Part 1 of what the claim rests on. -/
import Derived.Orders
import Derived.Laws.IdiomCopy
import Derived.Laws.Append
import Derived.Laws.Strings
import Derived.Laws.Slices
import Derived.Laws.ComplexArith
import Derived.Laws.Strings2
import Derived.Laws.BytesString
import Derived.Laws.Small
import Derived.Laws.StructEq
import Derived.Laws.IdiomStrings
section
set_option linter.unusedVariables false
set_option linter.unusedSimpArgs false
namespace Go.Abs
inductive Dat where
 | int (k : IntKind) (n : Int)
 | bool (b : Bool)
 | str (s : List UInt8)
 | flt (k : FloatKind) (n : Nat)
 | cpx (k : FloatKind) (a b : Nat)
 | nilp
 | nilf
 | nili
 | ifc
 | agg (cs : List Dat)
 | sl (s : Nat) (es : List (List Dat))
 | rp (cs : List Dat)
inductive AV where
 | im (d : Dat)
 | nils
 | em
 | asl (s : Nat) (es : List (List Dat)) (tok : Nat)
 | ms (s id off n : Nat)
 | ptr (id i j : Nat)
 | agg (cs : List AV)
 | tup (cs : List AV)
 | clo (f : FuncId) (cap : List AV)
 | any
inductive HO where
 | obj (ty : Option (TypeId × Nat)) (es : List (List AV))
 | hw (ty : TypeId) (n : Nat)
 | it (s : List UInt8) (p : Nat)
 | dead
abbrev Heap := List HO
inductive AOpd where
 | t (n : Nat)
 | c (a : AV)
inductive AOp where
 | move (x : AOpd)
 | pick (c a b : AOpd)
 | alloc (ty : Option (TypeId × Nat)) (z : List AV)
 | box (ty : Option TypeId) (x : AOpd)
 | build (z : List AV) (parts : List (Nat × Nat × AOpd))
 | bslice (mu : Bool) (s n : Nat) (z : List AV) (parts : List (Nat × AOpd))
 | bsliceA (ty : TypeId) (s n : Nat) (z : List AV) (parts : List (Nat × AOpd))
 | load (k : Option Nat) (x : AOpd)
 | store (k : Nat) (x v : AOpd)
 | nilCheck (x : AOpd)
 | bin (op : BinOp) (x y : AOpd)
 | binB (op : BinOp) (x y : AOpd)
 | binN (op : BinOp) (x y : AOpd)
 | binS (op : BinOp) (ks : List Nat) (x y : AOpd)
 | binZ (i : Bool) (op : BinOp) (x y : AOpd)
 | un (op : UnOp) (x : AOpd)
 | i2i (k : IntKind) (x : AOpd)
 | i2f (k : FloatKind) (x : AOpd)
 | f2i (k : IntKind) (x : AOpd)
 | s2b (x : AOpd)
 | b2s (x : AOpd)
 | strId (x : AOpd)
 | i2s (x : AOpd)
 | rangeS (x : AOpd)
 | nextS (x : AOpd)
 | mkfunc (f : FuncId) (cap : List AOpd)
 | mkslice (bytes s : Nat) (z : List AV) (len cap : AOpd)
 | slice (s : Nat) (x : AOpd) (lo hi mx : Option AOpd)
 | sliceStr (x : AOpd) (lo hi : Option AOpd)
 | fieldAddr (off : Nat) (x : AOpd)
 | field (off : Nat) (k : Option Nat) (x : AOpd)
 | indexSl (s : Nat) (x i : AOpd)
 | indexArr (len size : Nat) (x i : AOpd)
 | elemArr (len size : Nat) (k : Option Nat) (x i : AOpd)
 | indexStr (x i : AOpd)
 | extract (i : Nat) (x : AOpd)
 | lenStr (x : AOpd)
 | lenSl (x : AOpd)
 | append (ty : TypeId) (bytes s : Nat) (x y : AOpd)
 | appendM (bytes s : Nat) (x y : AOpd)
 | real (x : AOpd)
 | imag (x : AOpd)
 | complex (x y : AOpd)
 | min (x y : AOpd)
 | max (x y : AOpd)
 | clear (s : Nat) (z : List AV) (x : AOpd)
 | call (dg : Bool) (f : AOpd) (args : List AOpd)
 | bad
structure AOper where
 dst : Option Nat
 op : AOp
 guard : Option (Nat × Bool)
inductive ACode where
 | skip
 | ops (l : List AOper) (pairs : List (Nat × Nat))
 | seq (a b : ACode)
 | cond (c : AOpd) (a b : ACode)
 | block (id : Nat) (a : ACode)
 | loop (a : ACode)
 | exit (id : Nat)
 | scope (body cur : ACode)
 | label (l : Nat)
 | goto (l : Nat)
 | ret
 | bad
inductive AEx where
 | normal
 | exit (id : Nat)
 | goto (l : Nat)
 | ret
structure AFunc where
 ntmps : Nat
 results : List (Nat × Option (Option Nat))
 code : ACode
 keep : Bool
def undefA : AV := .tup []
def ev (tm : List AV) : AOpd → AV
 | .t n => tm.getD n undefA
 | .c a => a
def toIms : List AV → Option (List Dat)
 | [] => some []
 | .im d :: l => match toIms l with
  | some ds => some (d :: ds)
  | none => none
 | _ :: _ => none
def mkAgg (cs : List AV) : AV := match toIms cs with
 | some ds => .im (.agg ds)
 | none => .agg cs
def cellsOf : AV → List AV
 | .im (.agg ds) => ds.map .im
 | .agg cs => cs
 | a => [a]
def cellOk : AV → Bool
 | .im (.agg _) => false
 | .agg _ => false
 | .tup _ => false
 | .any => false
 | _ => true
def cellD : Dat → Bool
 | .agg _ => false
 | _ => true
mutual
def toDat : AV → Option Dat
 | .im d => some d
 | .nils => some (.sl 0 [])
 | .em => some (.sl 0 [])
 | .asl s es _ => some (.sl s es)
 | .agg cs => match toDats cs with
  | some ds => some (.agg ds)
  | none => none
 | .ms .. => none
 | .ptr .. => none
 | .tup _ => none
 | .clo .. => none
 | .any => none
def toDats : List AV → Option (List Dat)
 | [] => some []
 | a :: l => match toDat a, toDats l with
  | some d, some ds => some (d :: ds)
  | _, _ => none
end
def toDatss : List (List AV) → Option (List (List Dat))
 | [] => some []
 | a :: l => match toDats a, toDatss l with
  | some d, some ds => some (d :: ds)
  | _, _ => none
mutual
def refsLt (n : Nat) : AV → Bool
 | .im _ => true
 | .nils => true
 | .em => true
 | .asl _ _ tok => decide (tok < n)
 | .ms _ id _ _ => decide (id < n)
 | .ptr id _ _ => decide (id < n)
 | .agg cs => refsLts n cs
 | .tup cs => refsLts n cs
 | .clo _ cs => refsLts n cs
 | .any => true
def refsLts (n : Nat) : List AV → Bool
 | [] => true
 | a :: l => refsLt n a && refsLts n l
end
def refsO (n : Nat) : HO → Bool
 | .obj _ es => es.all (refsLts n)
 | .hw _ _ => true
 | .it _ _ => true
 | .dead => true
def loadAt (H : Heap) (k : Option Nat) : AV → Option AV
 | .im (.rp cs) => match k with
  | none => match cs[0]? with
   | some d => some (.im d)
   | none => none
  | some n => if n ≤ cs.length then some (.im (.agg (cs.take n))) else none
 | .ptr id i j => match H[id]? with
  | some (.obj _ es) => match es[i]? with
   | some e => match k with
    | none => e[j]?
    | some n => if j + n ≤ e.length then some (mkAgg ((e.drop j).take n)) else none
   | none => none
  | _ => none
 | _ => none
def setAt {α : Type} : List α → Nat → List α → List α
 | e, _, [] => e
 | e, j, c :: cs => setAt (e.set j c) (j + 1) cs
def storeAt (H : Heap) (k : Nat) (a v : AV) : Option Heap :=
 match a with
 | .ptr id i j => match H[id]? with
  | some (.obj ty es) => match es[i]? with
   | some e =>
    let cs := cellsOf v
    if cs.length = k ∧ j + k ≤ e.length ∧ cs.all cellOk = true then some (H.set id (.obj ty (es.set i (setAt e j cs)))) else none
   | none => none
  | _ => none
 | _ => none
def boxTy (ty : Option TypeId) (n : Nat) : Option (TypeId × Nat) := match ty with
 | some t => some (t, n)
 | none => none
def bytesLt : List UInt8 → List UInt8 → Bool
 | _, [] => false
 | [], _ :: _ => true
 | a :: x, b :: y => a < b || (a == b && bytesLt x y)
def binInt (op : BinOp) (k : IntKind) (x y : Int) : Option Dat :=
 let a := BitVec.ofInt k.bits x
 let b := BitVec.ofInt k.bits y
 match op with
 | .add => some (.int k (k.wrap (x + y)))
 | .sub => some (.int k (k.wrap (x - y)))
 | .mul => some (.int k (k.wrap (x * y)))
 | .quo => if y = 0 then none else some (.int k (k.wrap (x.tdiv y)))
 | .rem => if y = 0 then none else some (.int k (x.tmod y))
 | .and => some (.int k (k.wrap (a &&& b).toNat))
 | .or => some (.int k (k.wrap (a ||| b).toNat))
 | .xor => some (.int k (k.wrap (a ^^^ b).toNat))
 | .andNot => some (.int k (k.wrap (a &&& ~~~b).toNat))
 | .eql => some (.bool (decide (x = y)))
 | .neq => some (.bool (!decide (x = y)))
 | .lss => some (.bool (decide (x < y)))
 | .leq => some (.bool (decide (x ≤ y)))
 | .gtr => some (.bool (decide (y < x)))
 | .geq => some (.bool (decide (y ≤ x)))
 | .shl | .shr => none
def binShift (op : BinOp) (k : IntKind) (x y : Int) : Option Dat :=
 if y < 0 then none else
 match op with
 | .shl => some (.int k (k.wrap (x * 2 ^ (Min.min y.toNat k.bits))))
 | .shr => some (.int k (x.fdiv (2 ^ (Min.min y.toNat k.bits))))
 | _ => none
def binFlt (op : BinOp) (k : FloatKind) (x y : Nat) : Option Dat :=
 let ar (r : Option Nat) : Option Dat := match r with
  | some r => some (.flt k r)
  | none => none
 match op with
 | .add => ar (k.format.add x y)
 | .sub => ar (k.format.sub x y)
 | .mul => ar (k.format.mul x y)
 | .quo => ar (k.format.div x y)
 | .eql => some (.bool (k.format.order x y == some .eq))
 | .neq => some (.bool (k.format.order x y != some .eq))
 | .lss => some (.bool (k.format.order x y == some .lt))
 | .leq => some (.bool (k.format.order x y == some .lt || k.format.order x y == some .eq))
 | .gtr => some (.bool (k.format.order x y == some .gt))
 | .geq => some (.bool (k.format.order x y == some .gt || k.format.order x y == some .eq))
 | _ => none
def binCpx (op : BinOp) (k : FloatKind) (a b c d : Nat) : Option Dat :=
 match op with
 | .add => match k.format.add a c, k.format.add b d with
  | some r, some i => some (.cpx k r i)
  | _, _ => none
 | .sub => match k.format.sub a c, k.format.sub b d with
  | some r, some i => some (.cpx k r i)
  | _, _ => none
 | .mul => if k = .f64 then match k.format.mul a c, k.format.mul b d, k.format.mul a d, k.format.mul b c with
   | some ac, some bd, some ad, some bc => match k.format.sub ac bd, k.format.add ad bc with
    | some r, some i => some (.cpx k r i)
    | _, _ => none
   | _, _, _, _ => none
  else none
 | .eql => some (.bool ((k.format.order a c == some .eq) && (k.format.order b d == some .eq)))
 | .neq => some (.bool (!((k.format.order a c == some .eq) && (k.format.order b d == some .eq))))
 | _ => none
def binStr (op : BinOp) (x y : List UInt8) : Option Dat :=
 match op with
 | .add => if x.length + y.length ≤ 2 ^ 62 then some (.str (x ++ y)) else none
 | .eql => some (.bool (decide (x = y)))
 | .neq => some (.bool (!decide (x = y)))
 | .lss => some (.bool (bytesLt x y))
 | .leq => some (.bool (bytesLt x y || decide (x = y)))
 | .gtr => some (.bool (!(bytesLt x y || decide (x = y))))
 | .geq => some (.bool (!bytesLt x y))
 | _ => none
def isShift : BinOp → Bool
 | .shl => true
 | .shr => true
 | _ => false
def nilA : AV → Option Bool
 | .nils => some true
 | .asl _ (_ :: _) _ => some false
 | .ms _ _ _ _ => some false
 | .im (.sl _ (_ :: _)) => some false
 | _ => none
def binA (op : BinOp) : AV → AV → Option AV
 | .im (.int k x), .im (.int k' y) =>
  if isShift op then (match binShift op k x y with | some d => some (.im d) | none => none)
  else if k = k' then (match binInt op k x y with | some d => some (.im d) | none => none) else none
 | .im (.flt k x), .im (.flt k' y) => if k = k' then (match binFlt op k x y with | some d => some (.im d) | none => none) else none
 | .im (.cpx k a b), .im (.cpx k' c d) => if k = k' then (match binCpx op k a b c d with | some d => some (.im d) | none => none) else none
 | .im (.str x), .im (.str y) => (match binStr op x y with | some d => some (.im d) | none => none)
 | _, _ => none
def binNil (op : BinOp) (x : AV) : Option AV :=
 match nilA x with
 | some b => match op with
  | .eql => some (.im (.bool b))
  | .neq => some (.im (.bool (!b)))
  | _ => none
 | none => none
def binBool (op : BinOp) : AV → AV → Option AV
 | .im (.bool x), .im (.bool y) => match op with
  | .eql => some (.im (.bool (x == y)))
  | .neq => some (.im (.bool (!(x == y))))
  | _ => none
 | _, _ => none
def nilZ : Bool → AV → AV → Option Bool
 | true, .im .nili, .im .nili => some true
 | true, .im .ifc, .im .nili => some false
 | false, .im .nilp, .im .nilp => some true
 | false, .ptr _ _ _, .im .nilp => some false
 | false, .im (.rp _), .im .nilp => some false
 | _, _, _ => none
def binZero (i : Bool) (op : BinOp) (x y : AV) : Option AV := match nilZ i x y with
 | some b => match op with
  | .eql => some (.im (.bool b))
  | .neq => some (.im (.bool (!b)))
  | _ => none
 | none => none
def datEq : Nat → Dat → Dat → Option Bool
 | 0, .bool x, .bool y => some (x == y)
 | 1, .int k x, .int k' y => if k = k' then some (x == y) else none
 | 2, .str x, .str y => some (x == y)
 | _, _, _ => none
def datsEq : List Nat → List Dat → List Dat → Option Bool
 | [], [], [] => some true
 | k :: ks, a :: l, b :: m => match datEq k a b with
  | some x => match datsEq ks l m with
   | some y => some (x && y)
   | none => none
  | none => none
 | _, _, _ => none
def binStru (op : BinOp) (ks : List Nat) (x y : AV) : Option AV := match toDat x with
 | some (.agg a) => match toDat y with
  | some (.agg b) => match datsEq ks a b with
   | some r => match op with
    | .eql => some (.im (.bool r))
    | .neq => some (.im (.bool (!r)))
    | _ => none
   | none => none
  | _ => none
 | _ => none
def negBits (k : FloatKind) (b : Nat) : Nat := b ^^^ 2 ^ (k.format.exponentBits + k.format.fractionBits)
def unA (op : UnOp) : AV → Option AV
 | .im (.int k n) => match op with
  | .neg => some (.im (.int k (k.wrap (0 - n))))
  | .xor => match binInt .xor k (if k.signed then -1 else k.max) n with
   | some d => some (.im d)
   | none => none
  | _ => none
 | .im (.bool b) => match op with
  | .not => some (.im (.bool (!b)))
  | _ => none
 | .im (.flt k b) => match op with
  | .neg => some (.im (.flt k (negBits k b)))
  | _ => none
 | .im (.cpx k a b) => match op with
  | .neg => some (.im (.cpx k (negBits k a) (negBits k b)))
  | _ => none
 | _ => none
def intOfA : AV → Option Int
 | .im (.int _ n) => some n
 | _ => none
def boundA (ρ : AOpd → AV) (d : Nat) : Option AOpd → Option Nat
 | none => some d
 | some x => match intOfA (ρ x) with
  | some n => if 0 ≤ n then some n.toNat else none
  | none => none
def sliceA (s : Nat) (x : AV) (lo : Nat) (hi : Nat → Option Nat) (mx : Option (Option Nat)) : Option AV :=
 match x, mx with
 | .im (.sl s' es), none => match hi es.length with
  | some h => if lo ≤ h ∧ h ≤ es.length ∧ s' = s then some (.im (.sl s ((es.drop lo).take (h - lo)))) else none
  | none => none
 | .asl s' es tok, none => match hi es.length with
  | some h =>
   if s' = s then
    if lo = 0 ∧ h = es.length then some (.asl s es tok)
    else if lo ≤ h ∧ h ≤ es.length then some (.im (.sl s ((es.drop lo).take (h - lo)))) else none
   else none
  | none => none
 | .ms s' id off n, none => match hi n with
  | some h => if lo ≤ h ∧ h ≤ n ∧ s' = s then some (if lo < h ∨ lo = 0 then .ms s id (off + lo) (h - lo) else .im (.sl s [])) else none
  | none => none
 | .nils, none => match hi 0 with
  | some h => if lo = 0 ∧ h = 0 then some .nils else none
  | none => none
 | .im (.sl _ _), some (some 0) => match hi 0 with
  | some h => if lo = 0 ∧ h = 0 then some .em else none
  | none => none
 | .asl _ _ _, some (some 0) => match hi 0 with
  | some h => if lo = 0 ∧ h = 0 then some .em else none
  | none => none
 | .ms _ _ _ _, some (some 0) => match hi 0 with
  | some h => if lo = 0 ∧ h = 0 then some .em else none
  | none => none
 | .nils, some (some 0) => match hi 0 with
  | some h => if lo = 0 ∧ h = 0 then some .em else none
  | none => none
 | .em, none => match hi 0 with
  | some h => if lo = 0 ∧ h = 0 then some .em else none
  | none => none
 | _, _ => none
def byteDat (b : UInt8) : Dat := .int .u8 b.toNat
def elems (H : Heap) (s : Nat) : AV → Option (List (List Dat))
 | .im (.sl s' es) => match es with
  | [] => some []
  | e :: es => if s' = s then some (e :: es) else none
 | .asl s' es _ => if s' = s then some es else none
 | .nils => some []
 | .em => some []
 | .im (.str b) => if s = 1 then some (b.map fun c => [byteDat c]) else none
 | .ms s' id off n => if s' = s then match H[id]? with
   | some (.obj _ es) => if off + n ≤ es.length then toDatss ((es.drop off).take n) else none
   | _ => none
  else none
 | _ => none
def appendA (H : Heap) (ty : TypeId) (bytes s : Nat) (x : AV) (ys : List (List Dat)) : Option (AV × Heap) :=
 match x with
 | .nils => match ys with
  | [] => some (.nils, H)
  | y :: ys => if (ys.length + 1) * bytes ≤ 2 ^ 46 ∧ 0 < bytes then some (.asl s (y :: ys) H.length, H ++ [.hw ty (ys.length + 1)]) else none
 | .em => match ys with
  | [] => some (.em, H)
  | y :: ys => if (ys.length + 1) * bytes ≤ 2 ^ 46 ∧ 0 < bytes then some (.asl s (y :: ys) H.length, H ++ [.hw ty (ys.length + 1)]) else none
 | .asl s' es tok => match H[tok]? with
  | some (.hw ty' n) =>
   if n = es.length ∧ s' = s ∧ (es.length + ys.length) * bytes ≤ 2 ^ 46 ∧ 0 < bytes ∧ ty' = ty then some (.asl s (es ++ ys) tok, H.set tok (.hw ty (es.length + ys.length))) else none
  | _ => none
 | _ => none
def imss (ys : List (List Dat)) : List (List AV) := ys.map fun e => e.map .im
def appendMA (H : Heap) (bytes s : Nat) (x : AV) (ys : List (List Dat)) : Option (AV × Heap) :=
 match ys with
 | [] => match x with
  | .nils => some (.nils, H)
  | .ms s' id off n => some (.ms s' id off n, H)
  | _ => none
 | y :: ys => match x with
  | .nils => if (ys.length + 1) * bytes ≤ 2 ^ 46 ∧ 0 < bytes then some (.ms s H.length 0 (ys.length + 1), H ++ [.obj none (imss (y :: ys))]) else none
  | .ms s' id off n => match H[id]? with
   | some (.obj none es) =>
    if s' = s ∧ off + n ≤ es.length ∧ (n + (ys.length + 1)) * bytes ≤ 2 ^ 46 ∧ 0 < bytes then some (.ms s H.length 0 (n + (ys.length + 1)), H.set id .dead ++ [.obj none ((es.drop off).take n ++ imss (y :: ys))]) else none
   | _ => none
  | _ => none
def fillA (cells : List AV) : List (Nat × Nat × AV) → Option (List AV)
 | [] => some cells
 |(off, size, v) :: rest =>
  let cs := cellsOf v
  if cs.length = size ∧ off + size ≤ cells.length ∧ cs.all cellOk = true then fillA (setAt cells off cs) rest else none
def fillE (s : Nat) (es : List (List AV)) : List (Nat × AV) → Option (List (List AV))
 | [] => some es
 |(i, v) :: rest =>
  let cs := cellsOf v
  if cs.length = s ∧ i < es.length ∧ cs.all cellOk = true then fillE s (es.set i cs) rest else none
def partA (k : Option Nat) (cs : List AV) (off : Nat) : Option AV :=
 match k with
 | none => cs[off]?
 | some n => if off + n ≤ cs.length then some (mkAgg ((cs.drop off).take n)) else none
def aggCells : AV → Option (List AV)
 | .im (.agg ds) => some (ds.map .im)
 | .agg cs => some cs
 | _ => none
def minA : AV → AV → Option AV
 | .im (.int k x), .im (.int _ y) => some (.im (.int k (if y < x then y else x)))
 | _, _ => none
def maxA : AV → AV → Option AV
 | .im (.int k x), .im (.int _ y) => some (.im (.int k (if x < y then y else x)))
 | _, _ => none
def lenA : AV → Option Nat
 | .im (.sl _ es) => some es.length
 | .asl _ es _ => some es.length
 | .ms _ _ _ n => some n
 | .nils => some 0
 | .em => some 0
 | _ => none
def bytesOf : List (List Dat) → Option (List UInt8)
 | [] => some []
 | [.int .u8 n] :: l => match bytesOf l with
  | some bs => some (UInt8.ofNat n.toNat :: bs)
  | none => none
 | _ :: _ => none
def idx (i : AV) (n : Nat) : Option Nat := match intOfA i with
 | some k => if 0 ≤ k ∧ k < n then some k.toNat else none
 | none => none
def aop (H : Heap) (ρ : AOpd → AV) : AOp → Option (AV × Heap)
 | .move x => some (ρ x, H)
 | .pick c a b => match ρ c with
  | .im (.bool t) => some (if t then ρ a else ρ b, H)
  | _ => none
 | .alloc ty z => some (.ptr H.length 0 0, H ++ [.obj ty [z]])
 | .box ty x => let cs := cellsOf (ρ x)
  if cs.all cellOk = true then some (.ptr H.length 0 0, H ++ [.obj (boxTy ty cs.length) [cs]]) else none
 | .build z parts => match fillA z (parts.map fun p => (p.1, p.2.1, ρ p.2.2)) with
  | some cs => some (mkAgg cs, H)
  | none => none
 | .bslice mu s n z parts => match fillE s (List.replicate n z) (parts.map fun p => (p.1, ρ p.2)) with
  | some es =>
   if mu then some (.ms s H.length 0 n, H ++ [.obj none es])
   else if n = 0 then some (.em, H)
   else match toDatss es with
    | some ds => some (.im (.sl s ds), H)
    | none => none
  | none => none
 | .bsliceA ty s n z parts => match fillE s (List.replicate n z) (parts.map fun p => (p.1, ρ p.2)) with
  | some es => match toDatss es with
   | some ds => if 0 < n then some (.asl s ds H.length, H ++ [.hw ty n]) else none
   | none => none
  | none => none
 | .load k x => match loadAt H k (ρ x) with
  | some v => some (v, H)
  | none => none
 | .store k x v => match storeAt H k (ρ x) (ρ v) with
  | some H' => some (undefA, H')
  | none => none
 | .nilCheck x => match ρ x with
  | .ptr id i j => some (.ptr id i j, H)
  | .im (.rp cs) => some (.im (.rp cs), H)
  | _ => none
 | .bin op x y => match binA op (ρ x) (ρ y) with
  | some v => some (v, H)
  | none => none
 | .binB op x y => match binBool op (ρ x) (ρ y) with
  | some v => some (v, H)
  | none => none
 | .binN op x y => match ρ y with
  | .nils => match binNil op (ρ x) with
   | some v => some (v, H)
   | none => none
  | _ => none
 | .binZ i op x y => match binZero i op (ρ x) (ρ y) with
  | some v => some (v, H)
  | none => none
 | .binS op ks x y => match binStru op ks (ρ x) (ρ y) with
  | some v => some (v, H)
  | none => none
 | .un op x => match unA op (ρ x) with
  | some v => some (v, H)
  | none => none
 | .i2i k x => match ρ x with
  | .im (.int _ n) => some (.im (.int k (k.wrap n)), H)
  | _ => none
 | .i2f k x => match ρ x with
  | .im (.int _ n) => some (.im (.flt k (k.nearest n)), H)
  | _ => none
 | .f2i k x => match ρ x with
  | .im (.flt s b) => match (s.decode b).toInt .zero with
   | some n => if k.min ≤ n ∧ n ≤ k.max then some (.im (.int k n), H) else none
   | none => none
  | _ => none
 | .s2b x => match ρ x with
  | .im (.str b) => some (.im (.sl 1 (b.map fun c => [byteDat c])), H)
  | _ => none
 | .b2s x => match ρ x with
  | .im (.sl s es) => if s = 1 ∨ es = [] then match bytesOf es with
    | some b => some (.im (.str b), H)
    | none => none
   else none
  | .asl s es _ => if s = 1 then match bytesOf es with
    | some b => some (.im (.str b), H)
    | none => none
   else none
  | .nils => some (.im (.str []), H)
  | .em => some (.im (.str []), H)
  | _ => none
 | .mkfunc f cap => some (.clo f (cap.map ρ), H)
 | .mkslice bytes s z l c => match intOfA (ρ l), intOfA (ρ c) with
  | some n, some m => if n = m ∧ 0 ≤ n ∧ bytes * n ≤ 2 ^ 46 ∧ n ≤ 2 ^ 46 then some (.ms s H.length 0 n.toNat, H ++ [.obj none (List.replicate n.toNat z)]) else none
  | _, _ => none
 | .slice s x lo hi mx => match boundA ρ 0 lo with
  | some l => match sliceA s (ρ x) l (fun n => boundA ρ n hi) (match mx with | none => none | some m => some (boundA ρ 0 (some m))) with
   | some v => some (v, H)
   | none => none
  | none => none
 | .sliceStr x lo hi => match ρ x with
  | .im (.str b) => match boundA ρ 0 lo, boundA ρ b.length hi with
   | some l, some h => if l ≤ h ∧ h ≤ b.length then some (.im (.str ((b.drop l).take (h - l))), H) else none
   | _, _ => none
  | _ => none
 | .strId x => match ρ x with
  | .im (.str b) => some (.im (.str b), H)
  | _ => none
 | .i2s x => match ρ x with
  | .im (.int _ n) => some (.im (.str (Utf8.encode n).data.toList), H)
  | _ => none
 | .rangeS x => match ρ x with
  | .im (.str b) => some (.ptr H.length 0 0, H ++ [.it b 0])
  | _ => none
 | .nextS x => match ρ x with
  | .ptr id 0 0 => match H[id]? with
   | some (.it b p) => if p < b.length then some (.tup [.im (.bool true), .im (.int .i64 (p : Int)), .im (.int .i32 (Utf8.decode ⟨b.toArray⟩ p).1)], H.set id (.it b (p + (Utf8.decode ⟨b.toArray⟩ p).2))) else some (.tup [.im (.bool false)], H)
   | _ => none
  | _ => none
 | .fieldAddr off x => match ρ x with
  | .ptr id i j => some (.ptr id i (j + off), H)
  | .im (.rp cs) => some (.im (.rp (cs.drop off)), H)
  | _ => none
 | .field off k x => match aggCells (ρ x) with
  | some cs => match partA k cs off with
   | some v => some (v, H)
   | none => none
  | none => none
 | .indexSl s x i => match ρ x with
  | .im (.sl s' es) => if s' = s then match idx (ρ i) es.length with
    | some n => match es[n]? with
     | some e => some (.im (.rp e), H)
     | none => none
    | none => none
   else none
  | .asl s' es _ => if s' = s then match idx (ρ i) es.length with
    | some n => match es[n]? with
     | some e => some (.im (.rp e), H)
     | none => none
    | none => none
   else none
  | .ms s' id off n => if s' = s then match idx (ρ i) n with
    | some k => some (.ptr id (off + k) 0, H)
    | none => none
   else none
  | _ => none
 | .indexArr len size x i => match ρ x with
  | .ptr id p j => match idx (ρ i) len with
   | some k => some (.ptr id p (j + k * size), H)
   | none => none
  | .im (.rp cs) => match idx (ρ i) len with
   | some k => some (.im (.rp (cs.drop (k * size))), H)
   | none => none
  | _ => none
 | .elemArr len size k x i => match aggCells (ρ x) with
  | some cs => match idx (ρ i) len with
   | some n => match partA k cs (n * size) with
    | some v => some (v, H)
    | none => none
   | none => none
  | none => none
 | .indexStr x i => match ρ x with
  | .im (.str b) => match intOfA (ρ i) with
   | some n => if 0 ≤ n then match b[n.toNat]? with
     | some c => some (.im (byteDat c), H)
     | none => none
    else none
   | none => none
  | _ => none
 | .extract i x => match ρ x with
  | .tup cs => match cs[i]? with
   | some v => some (v, H)
   | none => none
  | _ => none
 | .lenSl x => match lenA (ρ x) with
  | some n => some (.im (.int .i64 n), H)
  | none => none
 | .lenStr x => match ρ x with
  | .im (.str b) => some (.im (.int .i64 b.length), H)
  | _ => none
 | .append ty bytes s x y => match elems H s (ρ y) with
  | some ys => appendA H ty bytes s (ρ x) ys
  | none => none
 | .appendM bytes s x y => match elems H s (ρ y) with
  | some ys => appendMA H bytes s (ρ x) ys
  | none => none
 | .real x => match ρ x with
  | .im (.cpx k a _) => some (.im (.flt k a), H)
  | _ => none
 | .imag x => match ρ x with
  | .im (.cpx k _ b) => some (.im (.flt k b), H)
  | _ => none
 | .complex x y => match ρ x, ρ y with
  | .im (.flt k a), .im (.flt k' b) => if k = k' then some (.im (.cpx k a b), H) else none
  | _, _ => none
 | .min x y => match minA (ρ x) (ρ y) with
  | some v => some (v, H)
  | none => none
 | .max x y => match maxA (ρ x) (ρ y) with
  | some v => some (v, H)
  | none => none
 | .clear s z x => match ρ x with
  | .ms s' id off n => if s' = s ∧ z.length = s then match H[id]? with
    | some (.obj ty es) => if off + n ≤ es.length then some (undefA, H.set id (.obj ty (es.take off ++ List.replicate n z ++ es.drop (off + n)))) else none
    | _ => none
   else none
  | .nils => some (undefA, H)
  | .em => some (undefA, H)
  | .im (.sl _ []) => some (undefA, H)
  | _ => none
 | .call _ _ _ => none
 | .bad => none
abbrev Oracle := FuncId → List AV → Heap → Option (AV × Heap)
def putA (tm : List AV) (dst : Option Nat) (v : AV) : List AV := match dst with
 | some d => tm.set d v
 | none => tm
def wantedA (tm : List AV) : Option (Nat × Bool) → Option Bool
 | none => some true
 | some (d, b) => match tm[d]? with
  | some (.im (.bool t)) => some (t == b)
  | some (.tup []) => some false
  | _ => none
def dgA (d : Bool) (a : AV) : AV := if d = true then match toDat a with
 | some x => .im x
 | none => a else a
def aopc (Φ : Oracle) (H : Heap) (tm : List AV) : AOp → Option (AV × Heap)
 | .call d f args => match ev tm f with
  | .clo g cap => Φ g (args.map (fun x => dgA d (ev tm x)) ++ cap) H
  | _ => none
 | op => aop H (ev tm) op
def loadOf : AOp → Option (Option Nat × AOpd)
 | .load k x => some (k, x)
 | _ => none
def xops {R : Type} (Φ : Oracle) : List AOper → List (List AV × Heap) → List AV → Heap → (List (List AV × Heap) → List AV → Heap → Option R) → Option R
 | [], tr, tm, H, K => K tr tm H
 | o :: os, tr, tm, H, K => match wantedA tm o.guard with
  | some true => match aopc Φ H tm o.op with
   | some (v, H') => xops Φ os ((tm, H) :: tr) (putA tm o.dst v) H' K
   | none => none
  | some false => xops Φ os ((tm, H) :: tr) (putA tm o.dst undefA) H K
  | none => none
def stays (l : List AOper) (sts : List (List AV × Heap)) (p : Nat × Nat) : Prop :=
 match l[p.1]?, sts[p.1]?, sts[p.2]?, sts[p.2 + 1]? with
 | some o, some s, some a, some b => wantedA s.1 o.guard = some false ∨ match loadOf o.op with
  | some (k, x) => loadAt a.2 k (ev s.1 x) = loadAt b.2 k (ev s.1 x)
  | none => False
 | _, _, _, _ => False
open Classical in
noncomputable def xreg {R : Type} (Φ : Oracle) (l : List AOper) (pairs : List (Nat × Nat)) (tm : List AV) (H : Heap) (K : List AV → Heap → Option R) : Option R :=
 match pairs with
 | [] => xops Φ l [] tm H fun _ tm H => K tm H
 | p :: ps => xops Φ l [] tm H fun tr tm' H' => if ∀ q ∈ p :: ps, stays l (((tm', H') :: tr).reverse) q then K tm' H' else none
abbrev Out := AEx × List AV × Heap
def findA : ACode → Nat → Option ACode
 | .seq a b, l => match findA a l with
  | some rest => some (.seq rest b)
  | none => findA b l
 | .label l', l => if l' == l then some .skip else none
 | _, _ => none
noncomputable def execF (Φ : Oracle) : Nat → ACode → List AV → Heap → Option Out
 | 0, _, _, _ => none
 | k + 1, code, tm, H => match code with
  | .skip => some (.normal, tm, H)
  | .label _ => some (.normal, tm, H)
  | .ops l ps => xreg Φ l ps tm H fun tm H => some (.normal, tm, H)
  | .seq a b => match execF Φ k a tm H with
   | some (.normal, tm', H') => execF Φ k b tm' H'
   | r => r
  | .cond c a b => match ev tm c with
   | .im (.bool t) => if t = true then execF Φ k a tm H else execF Φ k b tm H
   | _ => none
  | .block id a => match execF Φ k a tm H with
   | some (.exit i, tm', H') => if i = id then some (.normal, tm', H') else some (.exit i, tm', H')
   | r => r
  | .loop a => match execF Φ k a tm H with
   | some (.normal, tm', H') => execF Φ k (.loop a) tm' H'
   | r => r
  | .scope body cur => match execF Φ k cur tm H with
   | some (.goto l, tm', H') => match findA body l with
    | some rest => execF Φ k (.scope body rest) tm' H'
    | none => none
   | r => r
  | .exit i => some (.exit i, tm, H)
  | .goto l => some (.goto l, tm, H)
  | .ret => some (.ret, tm, H)
  | .bad => none
def degrade1 (a : AV) : AV := match toDat a with
 | some d => .im d
 | none => a
def degrade (a : AV) : AV := match toDat a with
 | some d => .im d
 | none => match a with
  | .tup cs => .tup (cs.map degrade1)
  | a => a
def resA (tm : List AV) (H : Heap) : List (Nat × Option (Option Nat)) → Option (List AV)
 | [] => some []
 |(t, none) :: l => match resA tm H l with
  | some r => some (tm.getD t undefA :: r)
  | none => none
 |(t, some k) :: l => match loadAt H k (tm.getD t undefA), resA tm H l with
  | some v, some r => some (v :: r)
  | _, _ => none
def tupA : List AV → AV
 | [a] => a
 | l => .tup l
def heldIn (H0 H : Heap) : Prop := ∀ i, i < H0.length → H[i]? = H0[i]? ∨ ∃ o, H[i]? = some o ∧ refsO H0.length o = true
def reAt (n : Nat) : List AV → Option (Nat × List AV)
 | [] => none
 | a :: l => if refsLt n a = true then (match reAt n l with
   | some (t, l') => some (t, a :: l')
   | none => none)
  else match a with
   | .asl s es tok => if refsLts n l = true then some (tok, .asl s es n :: l) else none
   | _ => none
open Classical in
noncomputable def keepS (H0 : Heap) (r : AV) (H : Heap) : Bool → AV × Heap
 | false => (r, H)
 | true => match r with
  | .agg cs => match reAt H0.length cs with
   | some (tok, cs') => match H[tok]? with
    | some (.hw ty k) => if heldIn H0 H then (.agg cs', H.take H0.length ++ [.hw ty k]) else (r, H)
    | _ => (r, H)
   | none => (r, H)
  | _ => (r, H)
open Classical in
noncomputable def leave (H0 : Heap) (keep : Bool) (r : AV) (H : Heap) : AV × Heap :=
 if refsLt H0.length (if keep then r else degrade r) = true ∧ heldIn H0 H then (if keep then r else degrade r, H.take H0.length)
 else keepS H0 (if keep then r else degrade r) H keep
def enterA (f : AFunc) (args : List AV) : List AV := args ++ List.replicate (f.ntmps - args.length) undefA
noncomputable def endA (f : AFunc) (H0 : Heap) : Option Out → Option (AV × Heap)
 | some (.normal, tm, H) => match resA tm H f.results with
  | some l => some (leave H0 f.keep (tupA l) H)
  | none => none
 | some (.ret, tm, H) => match resA tm H f.results with
  | some l => some (leave H0 f.keep (tupA l) H)
  | none => none
 | _ => none
noncomputable def runF (Ψ : Oracle) (F : FuncId → Option AFunc) : Nat → Oracle
 | 0, _, _, _ => none
 | k + 1, f, args, H => match F f with
  | some af => endA af H (execF (runF Ψ F k) k af.code (enterA af args) H)
  | none => Ψ f args H
end Go.Abs
end
section
set_option linter.unusedVariables false
set_option linter.unusedSimpArgs false
namespace Go.Abs
mutual
def RelD (w : World) (S : Nat → Nat → Prop) : Dat → Value → Prop
 | .int k n, v => v = .int k n
 | .bool b, v => v = .bool b
 | .str s, v => v = .string ⟨s.toArray⟩
 | .flt k n, v => v = .float k n
 | .cpx k a b, v => v = .complex k a b
 | .nilp, v => v = .pointer none
 | .nilf, v => v = .nilFunc
 | .nili, v => v = .nilIface
 | .ifc, v => ∃ t p, v = .iface t p
 | .agg cs, v => ∃ vs, v = .agg ⟨vs⟩ ∧ RelL w S cs vs
 | .sl s es, v => ∃ b c, v = .slice b es.length c ∧ es.length ≤ c ∧ (es = [] ∨ ∃ bl o, b = some ⟨bl, o, none⟩ ∧ RelE w S es bl o s)
 | .rp cs, v => ∃ bl o, v = .pointer (some ⟨bl, o, none⟩) ∧ RelC w S cs bl o
def RelL (w : World) (S : Nat → Nat → Prop) : List Dat → List Value → Prop
 | [], vs => vs = []
 | d :: ds, vs => ∃ v r, vs = v :: r ∧ RelD w S d v ∧ RelL w S ds r
def RelC (w : World) (S : Nat → Nat → Prop) : List Dat → Nat → Nat → Prop
 | [], _, _ => True
 | d :: ds, b, o => (∃ v, w.cell? ⟨b, o, none⟩ = some v ∧ S b o ∧ cellD d = true ∧ RelD w S d v) ∧ RelC w S ds b (o + 1)
def RelE (w : World) (S : Nat → Nat → Prop) : List (List Dat) → Nat → Nat → Nat → Prop
 | [], _, _, _ => True
 | e :: es, b, o, s => e.length = s ∧ RelC w S e b o ∧ RelE w S es b (o + s) s
end
structure Later (w w' : World) (S S' : Nat → Nat → Prop) : Prop where
 ss : ∀ b o, S b o → S' b o
 cell : ∀ b o, S b o → w'.cell? ⟨b, o, none⟩ = w.cell? ⟨b, o, none⟩
section
variable {w w' : World} {S S' : Nat → Nat → Prop}
mutual
theorem relD_mono (K : Later w w' S S') : ∀ (d : Dat) (v : Value), RelD w S d v → RelD w' S' d v
 | .int k n, v, h => h
 | .bool b, v, h => h
 | .str s, v, h => h
 | .flt k n, v, h => h
 | .cpx k a b, v, h => h
 | .nilp, v, h => h
 | .nilf, v, h => h
 | .nili, v, h => h
 | .ifc, v, h => h
 | .agg cs, v, h => by
  simp only [RelD] at h ⊢
  obtain ⟨vs, hv, hl⟩ := h
  exact ⟨vs, hv, relL_mono K cs vs hl⟩
 | .sl s es, v, h => by
  simp only [RelD] at h ⊢
  obtain ⟨b, c, hv, hle, he⟩ := h
  refine ⟨b, c, hv, hle, ?_⟩
  rcases he with he | ⟨bl, o, hb, he⟩
  ·exact .inl he
  ·exact .inr ⟨bl, o, hb, relE_mono K es bl o s he⟩
 | .rp cs, v, h => by
  simp only [RelD] at h ⊢
  obtain ⟨bl, o, hv, hl⟩ := h
  exact ⟨bl, o, hv, relC_mono K cs bl o hl⟩
theorem relL_mono (K : Later w w' S S') : ∀ (ds : List Dat) (vs : List Value), RelL w S ds vs → RelL w' S' ds vs
 | [], vs, h => by simpa only [RelL] using h
 | d :: ds, vs, h => by
  simp only [RelL] at h ⊢
  obtain ⟨v, r, hv, hd, hl⟩ := h
  exact ⟨v, r, hv, relD_mono K d v hd, relL_mono K ds r hl⟩
theorem relC_mono (K : Later w w' S S') : ∀ (ds : List Dat) (b o : Nat), RelC w S ds b o → RelC w' S' ds b o
 | [], b, o, h => by simp only [RelC]
 | d :: ds, b, o, h => by
  simp only [RelC] at h ⊢
  obtain ⟨⟨v, hv, hs, hk, hd⟩, hl⟩ := h
  exact ⟨⟨v, (K.cell b o hs).trans hv, K.ss b o hs, hk, relD_mono K d v hd⟩, relC_mono K ds b (o + 1) hl⟩
theorem relE_mono (K : Later w w' S S') : ∀ (es : List (List Dat)) (b o s : Nat), RelE w S es b o s → RelE w' S' es b o s
 | [], b, o, s, h => by simp only [RelE]
 | e :: es, b, o, s, h => by
  simp only [RelE] at h ⊢
  exact ⟨h.1, relC_mono K e b o h.2.1, relE_mono K es b (o + s) s h.2.2⟩
end
end
section
variable {w : World} {S : Nat → Nat → Prop}
theorem relL_length : ∀ {ds : List Dat} {vs : List Value}, RelL w S ds vs → vs.length = ds.length
 | [], vs, h => by simp only [RelL] at h; subst h; rfl
 | d :: ds, vs, h => by
  simp only [RelL] at h
  obtain ⟨v, r, rfl, _, hl⟩ := h
  simp [relL_length hl]
theorem relC_get : ∀ {ds : List Dat} {b o : Nat}, RelC w S ds b o → ∀ {j : Nat} {d : Dat}, ds[j]? = some d → ∃ v, w.cell? ⟨b, o + j, none⟩ = some v ∧ S b (o + j) ∧ cellD d = true ∧ RelD w S d v
 | d :: ds, b, o, h, 0, d', hd => by
  simp only [RelC] at h
  simp at hd; subst hd
  exact h.1
 | d :: ds, b, o, h, j + 1, d', hd => by
  simp only [RelC] at h
  have := relC_get h.2 (j := j) (d := d') (by simpa using hd)
  rwa [show o + (j + 1) = o + 1 + j by omega]
theorem relC_mk : ∀ {ds : List Dat} {b o : Nat}, (∀ j d, ds[j]? = some d → ∃ v, w.cell? ⟨b, o + j, none⟩ = some v ∧ S b (o + j) ∧ cellD d = true ∧ RelD w S d v) → RelC w S ds b o
 | [], b, o, h => by simp only [RelC]
 | d :: ds, b, o, h => by
  simp only [RelC]
  refine ⟨by simpa using h 0 d rfl, relC_mk fun j d' hd => ?_⟩
  have := h (j + 1) d' (by simpa using hd)
  rwa [show o + (j + 1) = o + 1 + j by omega] at this
theorem relE_get : ∀ {es : List (List Dat)} {b o s : Nat}, RelE w S es b o s → ∀ {i : Nat} {e : List Dat}, es[i]? = some e → e.length = s ∧ RelC w S e b (o + i * s)
 | e :: es, b, o, s, h, 0, e', he => by
  simp only [RelE] at h
  simp at he; subst he
  simpa using ⟨h.1, h.2.1⟩
 | e :: es, b, o, s, h, i + 1, e', he => by
  simp only [RelE] at h
  have := relE_get h.2.2 (i := i) (e := e') (by simpa using he)
  rwa [show o + (i + 1) * s = o + s + i * s by rw [Nat.add_mul]; omega]
theorem relE_mk : ∀ {es : List (List Dat)} {b o s : Nat}, (∀ i e, es[i]? = some e → e.length = s ∧ RelC w S e b (o + i * s)) → RelE w S es b o s
 | [], b, o, s, h => by simp only [RelE]
 | e :: es, b, o, s, h => by
  simp only [RelE]
  have h0 := h 0 e rfl
  refine ⟨h0.1, by simpa using h0.2, relE_mk fun i e' he => ?_⟩
  have := h (i + 1) e' (by simpa using he)
  rwa [show o + (i + 1) * s = o + s + i * s by rw [Nat.add_mul]; omega] at this
end
structure Env where
 w : World
 S : Nat → Nat → Prop
 m : Nat → Nat × Nat × Nat
 H : Heap
def placeO : HO → Prop
 | .obj _ _ => True
 | .it _ _ => True
 | .hw _ _ => False
 | .dead => True
def isObj (H : Heap) (id : Nat) : Prop := ∃ x, H[id]? = some x ∧ placeO x
theorem isObj_mk {H : Heap} {id : Nat} {ty : Option (TypeId × Nat)} {es : List (List AV)} (h : H[id]? = some (.obj ty es)) : isObj H id := ⟨_, h, trivial⟩
theorem isObj_lt {H : Heap} {id : Nat} (h : isObj H id) : id < H.length := by
 obtain ⟨x, h, _⟩ := h
 exact (List.getElem?_eq_some_iff.1 h).1
def Grows (E : Env) (s len tok : Nat) (b : Option Addr) (c : Nat) : Prop :=
 ∃ ty n, E.H[tok]? = some (.hw ty n) ∧ len ≤ n ∧
  (n = len → ∃ bl o, b = some ⟨bl, o, none⟩ ∧ (E.m tok).1 = bl ∧ (E.m tok).2.1 = o + len * s ∧ ∀ k, k < c * s → (E.w.cell? ⟨bl, o + k, none⟩).isSome = true)
mutual
def RelA (E : Env) : AV → Value → Prop
 | .im d, v => RelD E.w E.S d v
 | .nils, v => v = .slice none 0 0
 | .em, v => ∃ b, v = .slice b 0 0
 | .asl s es tok, v => ∃ b c, v = .slice b es.length c ∧ es.length ≤ c ∧ (es = [] ∨ ∃ bl o, b = some ⟨bl, o, none⟩ ∧ RelE E.w E.S es bl o s) ∧ Grows E s es.length tok b c
 | .ms s id off n, v => ∃ c, v = .slice (some ⟨(E.m id).1, (E.m id).2.1 + off * s, none⟩) n c ∧ n ≤ c ∧ (E.m id).2.2 = s ∧ isObj E.H id ∧ ∀ k, k < c * s → (E.w.cell? ⟨(E.m id).1, (E.m id).2.1 + off * s + k, none⟩).isSome = true
 | .ptr id i j, v => v = .pointer (some ⟨(E.m id).1, (E.m id).2.1 + i * (E.m id).2.2 + j, none⟩) ∧ isObj E.H id
 | .agg cs, v => ∃ vs, v = .agg ⟨vs⟩ ∧ RelAs E cs vs
 | .tup cs, v => ∃ vs, v = .tuple ⟨vs⟩ ∧ RelAs E cs vs
 | .clo f cs, v => ∃ vs, v = .func (.func f) #[] ⟨vs⟩ ∧ RelAs E cs vs
 | .any, _ => True
def RelAs (E : Env) : List AV → List Value → Prop
 | [], vs => vs = []
 | a :: l, vs => ∃ v r, vs = v :: r ∧ RelA E a v ∧ RelAs E l r
end
theorem relAs_length {E : Env} : ∀ {l : List AV} {vs : List Value}, RelAs E l vs → vs.length = l.length
 | [], vs, h => by simp only [RelAs] at h; subst h; rfl
 | a :: l, vs, h => by
  simp only [RelAs] at h
  obtain ⟨v, r, rfl, _, hl⟩ := h
  simp [relAs_length hl]
theorem relAs_get {E : Env} : ∀ {l : List AV} {vs : List Value}, RelAs E l vs → ∀ {j : Nat} {a : AV}, l[j]? = some a → ∃ v, vs[j]? = some v ∧ RelA E a v
 | a :: l, vs, h, 0, a', ha => by
  simp only [RelAs] at h
  obtain ⟨v, r, rfl, hv, _⟩ := h
  simp at ha; subst ha
  exact ⟨v, rfl, hv⟩
 | a :: l, vs, h, j + 1, a', ha => by
  simp only [RelAs] at h
  obtain ⟨v, r, rfl, _, hl⟩ := h
  obtain ⟨u, hu, hr⟩ := relAs_get hl (j := j) (a := a') (by simpa using ha)
  exact ⟨u, by simpa using hu, hr⟩
theorem relAs_mk {E : Env} : ∀ {l : List AV} {vs : List Value}, vs.length = l.length → (∀ (j : Nat) (a : AV) (v : Value), l[j]? = some a → vs[j]? = some v → RelA E a v) → RelAs E l vs
 | [], vs, hl, _ => by simp only [RelAs]; exact List.length_eq_zero_iff.1 hl
 | a :: l, [], hl, _ => by simp at hl
 | a :: l, v :: vs, hl, h => by
  simp only [RelAs]
  exact ⟨v, vs, rfl, h 0 a v rfl rfl, relAs_mk (by simpa using hl) fun j a' v' ha hv => h (j + 1) a' v' (by simpa using ha) (by simpa using hv)⟩
theorem relAs_append {E : Env} : ∀ {l l' : List AV} {vs vs' : List Value}, RelAs E l vs → RelAs E l' vs' → RelAs E (l ++ l') (vs ++ vs')
 | [], l', vs, vs', h, h' => by simp only [RelAs] at h; subst h; exact h'
 | a :: l, l', vs, vs', h, h' => by
  simp only [RelAs] at h
  obtain ⟨v, r, rfl, hv, hl⟩ := h
  simp only [List.cons_append,RelAs]
  exact ⟨v, r ++ vs', rfl, hv, relAs_append hl h'⟩
theorem relAs_of_relL {E : Env} : ∀ {ds : List Dat} {vs : List Value}, RelL E.w E.S ds vs → RelAs E (ds.map .im) vs
 | [], vs, h => by simpa only [List.map_nil, RelL, RelAs] using h
 | d :: ds, vs, h => by
  simp only [RelL] at h
  obtain ⟨v, r, rfl, hd, hl⟩ := h
  simp only [List.map_cons,RelAs,RelA]
  exact ⟨v, r, rfl, hd, relAs_of_relL hl⟩
theorem relL_of_relAs {E : Env} : ∀ {ds : List Dat} {vs : List Value}, RelAs E (ds.map .im) vs → RelL E.w E.S ds vs
 | [], vs, h => by simpa only [List.map_nil, RelL, RelAs] using h
 | d :: ds, vs, h => by
  simp only [List.map_cons,RelAs,RelA] at h
  obtain ⟨v, r, rfl, hd, hl⟩ := h
  simp only [RelL]
  exact ⟨v, r, rfl, hd, relL_of_relAs hl⟩
theorem toIms_eq : ∀ {cs : List AV} {ds : List Dat}, toIms cs = some ds → cs = ds.map .im
 | [], ds, h => by simp [toIms] at h; subst h; rfl
 | a :: l, ds, h => by
  cases a <;> simp only [toIms] at h <;> try (exact absurd h (by simp))
  rename_i d
  cases hl : toIms l with
  | none => rw [hl] at h; simp at h
  | some r => rw [hl] at h; simp at h; subst h; simp [toIms_eq hl]
theorem relA_mkAgg {E : Env} {cs : List AV} {vs : List Value} (h : RelAs E cs vs) : RelA E (mkAgg cs) (.agg ⟨vs⟩) := by
 unfold mkAgg
 split
 ·rename_i ds hd
  have := toIms_eq hd
  subst this
  simp only [RelA,RelD]
  exact ⟨vs, rfl, relL_of_relAs h⟩
 ·simp only [RelA]
  exact ⟨vs, rfl, h⟩
theorem relAs_cells {E : Env} {a : AV} {v : Value} (h : RelA E a v) (hok : (cellsOf a).all cellOk = true) : RelAs E (cellsOf a) v.cells.toList := by
 have one : ∀ {a : AV} {v : Value}, RelA E a v → v.cells = #[v] → RelAs E [a] v.cells.toList := by
  intro a v h hv
  rw [hv]
  simp only [RelAs]
  exact ⟨v, [], rfl, h, rfl⟩
 cases a with
 | im d =>
  cases d with
  | agg ds =>
   simp only [RelA,RelD] at h
   obtain ⟨vs, rfl, hl⟩ := h
   exact relAs_of_relL hl
  | sl s es => simp only [cellsOf]; have h' := h; simp only [RelA,RelD] at h'; obtain ⟨b, c, rfl, _⟩ := h'; exact one h rfl
  | rp cs => simp only [cellsOf]; have h' := h; simp only [RelA,RelD] at h'; obtain ⟨b, c, rfl, _⟩ := h'; exact one h rfl
  | ifc => simp only [cellsOf]; have h' := h; simp only [RelA,RelD] at h'; obtain ⟨b, c, rfl⟩ := h'; exact one h rfl
  | _ => simp only [cellsOf]; have h' := h; simp only [RelA,RelD] at h'; subst h'; exact one h rfl
 | agg cs =>
  simp only [RelA] at h
  obtain ⟨vs, rfl, hl⟩ := h
  exact hl
 | nils => simp only [cellsOf]; have h' := h; simp only [RelA] at h'; subst h'; exact one h rfl
 | em => simp only [cellsOf]; have h' := h; simp only [RelA] at h'; obtain ⟨b, rfl⟩ := h'; exact one h rfl
 | asl s es tok => simp only [cellsOf]; have h' := h; simp only [RelA] at h'; obtain ⟨b, c, rfl, _⟩ := h'; exact one h rfl
 | ms s id off n => simp only [cellsOf]; have h' := h; simp only [RelA] at h'; obtain ⟨c, rfl, _⟩ := h'; exact one h rfl
 | ptr id i j => simp only [cellsOf]; have h' := h; simp only [RelA] at h'; obtain ⟨rfl, _⟩ := h'; exact one h rfl
 | tup cs => simp [cellsOf, cellOk] at hok
 | clo f cs => simp only [cellsOf]; have h' := h; simp only [RelA] at h'; obtain ⟨vs, rfl, _⟩ := h'; exact one h rfl
 | any => simp [cellsOf, cellOk] at hok
theorem cellOk_one {E : Env} {a : AV} {v : Value} (h : RelA E a v) (hok : cellOk a = true) : v.oneCell' = true ∧ v.cells = #[v] := by
 cases a with
 | im d =>
  cases d with
  | agg ds => simp [cellOk] at hok
  | sl s es => simp only [RelA,RelD] at h; obtain ⟨b, c, rfl, _⟩ := h; exact ⟨rfl, rfl⟩
  | rp cs => simp only [RelA,RelD] at h; obtain ⟨b, c, rfl, _⟩ := h; exact ⟨rfl, rfl⟩
  | ifc => simp only [RelA,RelD] at h; obtain ⟨b, c, rfl⟩ := h; exact ⟨rfl, rfl⟩
  | _ => simp only [RelA,RelD] at h; subst h; exact ⟨rfl, rfl⟩
 | agg cs => simp [cellOk] at hok
 | nils => simp only [RelA] at h; subst h; exact ⟨rfl, rfl⟩
 | em => simp only [RelA] at h; obtain ⟨b, rfl⟩ := h; exact ⟨rfl, rfl⟩
 | asl s es tok => simp only [RelA] at h; obtain ⟨b, c, rfl, _⟩ := h; exact ⟨rfl, rfl⟩
 | ms s id off n => simp only [RelA] at h; obtain ⟨c, rfl, _⟩ := h; exact ⟨rfl, rfl⟩
 | ptr id i j => simp only [RelA] at h; obtain ⟨rfl, _⟩ := h; exact ⟨rfl, rfl⟩
 | tup cs => simp [cellOk] at hok
 | clo f cs => simp only [RelA] at h; obtain ⟨vs, rfl, _⟩ := h; exact ⟨rfl, rfl⟩
 | any => simp [cellOk] at hok
structure Low where
 on : Nat → Prop
 ok : World → Prop
 keep : ∀ w w' : World, (∀ k, on k → w'.heap[k]? = w.heap[k]?) → ok w → ok w'
instance : CoeFun Low fun _ => Nat → Prop := ⟨Low.on⟩
theorem Low.same {A B : Low} (h : ∀ x, A.on x ↔ B.on x) (h2 : A.ok = B.ok) : A = B := by
 obtain ⟨a, oa, ka⟩ := A
 obtain ⟨b, ob, kb⟩ := B
 rw [Low.mk.injEq]
 exact ⟨funext fun x => propext (h x), h2⟩
structure Ext (B : Low) (E E' : Env) : Prop where
 ss : ∀ b o, E.S b o → E'.S b o
 cell : ∀ b o, E.S b o → E'.w.cell? ⟨b, o, none⟩ = E.w.cell? ⟨b, o, none⟩
 size : E.w.heap.size ≤ E'.w.heap.size
 low : ∀ k, B k → E'.w.heap[k]? = E.w.heap[k]?
 there : ∀ b o, (E.w.cell? ⟨b, o, none⟩).isSome = true → (E'.w.cell? ⟨b, o, none⟩).isSome = true
 snew : ∀ b o, E'.S b o → E.S b o ∨ ¬ B b
 os : E'.w.os = E.w.os
 tape : E'.w.tape = E.w.tape
 output : E'.w.output = E.w.output
 len : E.H.length ≤ E'.H.length
 obj : ∀ id, isObj E.H id → isObj E'.H id ∧ E'.m id = E.m id
 hw : ∀ id ty n, E.H[id]? = some (.hw ty n) → ∃ n', E'.H[id]? = some (.hw ty n') ∧ n ≤ n' ∧ (n' = n → E'.m id = E.m id)
theorem Ext.refl (B : Low) (E : Env) : Ext B E E :=
 ⟨fun _ _ h => h, fun _ _ _ => rfl, Nat.le_refl _, fun _ _ => rfl, fun _ _ h => h, fun _ _ h => .inl h, rfl, rfl, rfl, Nat.le_refl _, fun _ h => ⟨h, rfl⟩, fun _ _ n h => ⟨n, h, Nat.le_refl _, fun _ => rfl⟩⟩
theorem Ext.trans {B : Low} {E F G : Env} (h : Ext B E F) (k : Ext B F G) : Ext B E G where
 ss b o hs := k.ss b o (h.ss b o hs)
 cell b o hs := (k.cell b o (h.ss b o hs)).trans (h.cell b o hs)
 size := Nat.le_trans h.size k.size
 low i hi := (k.low i hi).trans (h.low i hi)
 there b o hs := k.there b o (h.there b o hs)
 snew b o hs := by
  rcases k.snew b o hs with h1 | h1
  ·exact h.snew b o h1
  ·exact .inr h1
 os := k.os.trans h.os
 tape := k.tape.trans h.tape
 output := k.output.trans h.output
 len := Nat.le_trans h.len k.len
 obj id ho := ⟨(k.obj id (h.obj id ho).1).1, (k.obj id (h.obj id ho).1).2.trans (h.obj id ho).2⟩
 hw id ty n hn := by
  obtain ⟨n', h1, h2, h3⟩ := h.hw id ty n hn
  obtain ⟨n'', k1, k2, k3⟩ := k.hw id ty n' h1
  exact ⟨n'', k1, Nat.le_trans h2 k2, fun e => (k3 (by omega)).trans (h3 (by omega))⟩
theorem Grows.ext {B : Low} {E E' : Env} (x : Ext B E E') {s len tok c : Nat} {b : Option Addr} (h : Grows E s len tok b c) : Grows E' s len tok b c := by
 obtain ⟨ty, n, h1, h2, h3⟩ := h
 obtain ⟨n', k1, k2, k3⟩ := x.hw tok ty n h1
 refine ⟨ty, n', k1, Nat.le_trans h2 k2, fun e => ?_⟩
 obtain ⟨bl, o, hb, hm, ho, hk⟩ := h3 (by omega)
 rw [k3 (by omega)]
 exact ⟨bl, o, hb, hm, ho, fun k hk' => x.there _ _ (hk k hk')⟩
mutual
theorem relA_ext {B : Low} {E E' : Env} (x : Ext B E E') : ∀ (a : AV) (v : Value), RelA E a v → RelA E' a v
 | .im d, v, h => by simp only [RelA] at h ⊢; exact relD_mono ⟨x.ss, x.cell⟩ d v h
 | .nils, v, h => by simpa only [RelA] using h
 | .em, v, h => by simpa only [RelA] using h
 | .asl s es tok, v, h => by
  simp only [RelA] at h ⊢
  obtain ⟨b, c, hv, hle, he, hg⟩ := h
  refine ⟨b, c, hv, hle, ?_, hg.ext x⟩
  rcases he with he | ⟨bl, o, hb, he⟩
  ·exact .inl he
  ·exact .inr ⟨bl, o, hb, relE_mono ⟨x.ss, x.cell⟩ es bl o s he⟩
 | .ms s id off n, v, h => by
  simp only [RelA] at h ⊢
  obtain ⟨c, hv, hle, hs, ho, hroom⟩ := h
  rw [(x.obj id ho).2]
  exact ⟨c, hv, hle, hs, (x.obj id ho).1, fun k hk => x.there _ _ (hroom k hk)⟩
 | .ptr id i j, v, h => by
  simp only [RelA] at h ⊢
  rw [(x.obj id h.2).2]
  exact ⟨h.1, (x.obj id h.2).1⟩
 | .agg cs, v, h => by
  simp only [RelA] at h ⊢
  obtain ⟨vs, hv, hl⟩ := h
  exact ⟨vs, hv, relAs_ext x cs vs hl⟩
 | .tup cs, v, h => by
  simp only [RelA] at h ⊢
  obtain ⟨vs, hv, hl⟩ := h
  exact ⟨vs, hv, relAs_ext x cs vs hl⟩
 | .clo f cs, v, h => by
  simp only [RelA] at h ⊢
  obtain ⟨vs, hv, hl⟩ := h
  exact ⟨vs, hv, relAs_ext x cs vs hl⟩
 | .any, v, h => by simp only [RelA]
theorem relAs_ext {B : Low} {E E' : Env} (x : Ext B E E') : ∀ (l : List AV) (vs : List Value), RelAs E l vs → RelAs E' l vs
 | [], vs, h => by simpa only [RelAs] using h
 | a :: l, vs, h => by
  simp only [RelAs] at h ⊢
  obtain ⟨v, r, hv, ha, hl⟩ := h
  exact ⟨v, r, hv, relA_ext x a v ha, relAs_ext x l r hl⟩
end
structure Own (B : Low) (w : World) (b fr : Nat) (T : TypeId × Nat → Prop) : Prop where
 base : ¬ B b
 lt : b < w.heap.size
 free : ∀ o, fr ≤ o → w.frozen? ⟨b, o, none⟩ = false
 shape : ∃ x, w.shape? b = some x ∧ T x
def tyO (ty : Option (TypeId × Nat)) (o : Nat) (x : TypeId × Nat) : Prop := ty = none ∨ (ty = some x ∧ o = 0)
def tyH (ty : TypeId) (x : TypeId × Nat) : Prop := x.1 = ty
def RelO (E : Env) (es : List (List AV)) (b o s : Nat) : Prop :=
 ∀ i e, es[i]? = some e → e.length = s ∧ ∀ j a, e[j]? = some a → ∃ v, E.w.cell? ⟨b, o + i * s + j, none⟩ = some v ∧ RelA E a v ∧ cellOk a = true
structure ItAt (B : Low) (w : World) (m : Nat × Nat × Nat) (s : List UInt8) (p : Nat) : Prop where
 base : ¬ B m.1
 zero : m.2 = (0, 0)
 at0 : w.heap[m.1]? = some (.stringIter ⟨s.toArray⟩ p)
theorem ItAt.lt {B : Low} {w : World} {m : Nat × Nat × Nat} {s : List UInt8} {p : Nat} (h : ItAt B w m s p) : m.1 < w.heap.size := by
 rcases Nat.lt_or_ge m.1 w.heap.size with h1 | h1
 ·exact h1
 ·have := h.at0
  rw [Array.getElem?_eq_none h1] at this
  simp at this
theorem ItAt.same {B : Low} {w w' : World} {m : Nat × Nat × Nat} {s : List UInt8} {p : Nat} (h : ItAt B w m s p) (hw : w'.heap[m.1]? = w.heap[m.1]?) : ItAt B w' m s p :=
 ⟨h.base, h.zero, hw.trans h.at0⟩
structure Inv (B : Low) (E : Env) : Prop where
 szB : ∀ b, B b → b < E.w.heap.size
 sS : ∀ b o, E.S b o → b < E.w.heap.size
 obj : ∀ id ty es, E.H[id]? = some (.obj ty es) → Own B E.w (E.m id).1 0 (tyO ty (E.m id).2.1) ∧ (∀ o, ¬ E.S (E.m id).1 o) ∧ RelO E es (E.m id).1 (E.m id).2.1 (E.m id).2.2
 hw : ∀ id ty n, E.H[id]? = some (.hw ty n) → Own B E.w (E.m id).1 (E.m id).2.1 (tyH ty) ∧ ∀ o, (E.m id).2.1 ≤ o → ¬ E.S (E.m id).1 o
 inj : ∀ i j x y, E.H[i]? = some x → E.H[j]? = some y → x ≠ .dead → y ≠ .dead → (E.m i).1 = (E.m j).1 → i = j
 tab : B.ok E.w
 it : ∀ id s p, E.H[id]? = some (.it s p) → ItAt B E.w (E.m id) s p ∧ ∀ o, ¬ E.S (E.m id).1 o
theorem Ext.tab {B : Low} {E E' : Env} (X : Ext B E E') (h : B.ok E.w) : B.ok E'.w := B.keep _ _ X.low h
end Go.Abs
end
section
set_option linter.unusedVariables false
set_option linter.unusedSimpArgs false
namespace Go.Abs
structure Push (w w' : World) (cs : List Value) : Prop where
 heap : ∃ t fr, w'.heap = w.heap.push (.cells ⟨cs⟩ t fr)
 os : w'.os = w.os
 tape : w'.tape = w.tape
 output : w'.output = w.output
structure PushF (w w' : World) (cs : List Value) : Prop extends Push w w' cs where
 newF : ∀ o, w'.frozen? ⟨w.heap.size, o, none⟩ = false
section
variable {w w' : World} {cs : List Value}
theorem Push.size (h : Push w w' cs) : w'.heap.size = w.heap.size + 1 := by
 obtain ⟨t, fr, ht⟩ := h.heap
 simp [ht]
theorem Push.block (h : Push w w' cs) {k : Nat} (hk : k < w.heap.size) : w'.heap[k]? = w.heap[k]? := by
 obtain ⟨t, fr, ht⟩ := h.heap
 rw [ht, Array.getElem?_push, if_neg (by omega)]
theorem Push.old (h : Push w w' cs) {b : Nat} (hb : b < w.heap.size) (o : Nat) : w'.cell? ⟨b, o, none⟩ = w.cell? ⟨b, o, none⟩ := by
 simp only [World.cell?,h.block hb]
theorem Push.oldF (h : Push w w' cs) {b : Nat} (hb : b < w.heap.size) (o : Nat) : w'.frozen? ⟨b, o, none⟩ = w.frozen? ⟨b, o, none⟩ := by
 simp only [World.frozen?,h.block hb]
theorem Push.oldShape (h : Push w w' cs) {b : Nat} (hb : b < w.heap.size) : w'.shape? b = w.shape? b := by
 simp only [World.shape?,h.block hb]
theorem Push.new (h : Push w w' cs) (o : Nat) : w'.cell? ⟨w.heap.size, o, none⟩ = cs[o]? := by
 obtain ⟨t, fr, ht⟩ := h.heap
 simp [World.cell?, ht]
theorem Push.there (h : Push w w' cs) {b o : Nat} (hs : (w.cell? ⟨b, o, none⟩).isSome = true) : (w'.cell? ⟨b, o, none⟩).isSome = true := by
 obtain ⟨v, hv⟩ := Option.isSome_iff_exists.1 hs
 rw [h.old (World.block_lt_of_cell? w _ hv)]
 exact hs
theorem Push.alloc (w : World) (cs : List Value) (t : TypeId) : PushF w (w.alloc (.cells ⟨cs⟩ t)) cs := ⟨⟨⟨t, (0, 0), rfl⟩, rfl, rfl, rfl⟩, fun o => World.frozen?_alloc_new w ⟨cs⟩ t o⟩
theorem Push.drew (w : World) (cs : List Value) (t : TypeId) : PushF w (w.drew.alloc (.cells ⟨cs⟩ t)) cs := ⟨⟨⟨t, (0, 0), rfl⟩, rfl, rfl, rfl⟩, fun o => World.frozen?_alloc_new w.drew ⟨cs⟩ t o⟩
theorem Own.push {B : Low} {b fr : Nat} {T : TypeId × Nat → Prop} (h : Push w w' cs) (o : Own B w b fr T) : Own B w' b fr T :=
 ⟨o.base, by have := h.size; have := o.lt; omega, fun k hk => by rw [h.oldF o.lt]; exact o.free k hk, by rw [h.oldShape o.lt]; exact o.shape⟩
theorem Own.new {B : Low} {fr : Nat} {T : TypeId × Nat → Prop} (h : PushF w w' cs) (hB : ∀ b, B b → b < w.heap.size) (hT : ∃ x, w'.shape? w.heap.size = some x ∧ T x) : Own B w' w.heap.size fr T :=
 ⟨fun h' => Nat.lt_irrefl _ (hB _ h'), by have := h.size; omega, fun k _ => h.newF k, hT⟩
theorem tyO_new (h : Push w w' cs) {ty : Option (TypeId × Nat)} (hty : ∀ x, ty = some x → w'.shape? w.heap.size = some x) : ∃ x, w'.shape? w.heap.size = some x ∧ tyO ty 0 x := by
 cases ty with
 | none =>
  obtain ⟨t, fr, ht⟩ := h.heap
  exact ⟨(t, cs.length), by simp [World.shape?, ht], .inl rfl⟩
 | some x => exact ⟨x, hty x rfl, .inr ⟨rfl, rfl⟩⟩
end
theorem isObj_append {H : Heap} {id : Nat} (h : isObj H id) (l : Heap) : isObj (H ++ l) id := by
 have hlt := isObj_lt h
 obtain ⟨x, he, hx⟩ := h
 exact ⟨x, by rw [List.getElem?_append_left hlt]; exact he, hx⟩
section
variable {B : Low} {E : Env} {w' : World} {cs : List Value}
theorem ext_push (I : Inv B E) (h : Push E.w w' cs) {S' : Nat → Nat → Prop} (hS : ∀ b o, E.S b o → S' b o) (hN : ∀ b o, S' b o → E.S b o ∨ b = E.w.heap.size)
  {m' : Nat → Nat × Nat × Nat} (hm : ∀ i, i < E.H.length → m' i = E.m i) (l : Heap) : Ext B E ⟨w', S', m', E.H ++ l⟩ where
 ss := hS
 cell b o hs := h.old (I.sS b o hs) o
 size := by have := h.size; simp only; omega
 low k hk := h.block (I.szB _ hk)
 there b o hs := h.there hs
 snew b o hs := by
  rcases hN b o hs with h1 | h1
  ·exact .inl h1
  ·exact .inr fun hb => by have := I.szB b hb; omega
 os := h.os
 tape := h.tape
 output := h.output
 len := by simp
 obj id ho := ⟨isObj_append ho l, hm id (isObj_lt ho)⟩
 hw id _ n hn := ⟨n, by rw [List.getElem?_append_left (List.getElem?_eq_some_iff.1 hn).1]; exact hn, Nat.le_refl _, fun _ => hm id (List.getElem?_eq_some_iff.1 hn).1⟩
theorem RelO.ext {E' : Env} (x : Ext B E E') {es : List (List AV)} {b o s : Nat} (h : RelO E es b o s)
  (hc : ∀ k, E'.w.cell? ⟨b, k, none⟩ = E.w.cell? ⟨b, k, none⟩) : RelO E' es b o s := by
 intro i e he
 obtain ⟨hl, hj⟩ := h i e he
 refine ⟨hl, fun j a ha => ?_⟩
 obtain ⟨v, hv, hr, hk⟩ := hj j a ha
 exact ⟨v, by rw [hc]; exact hv, relA_ext x a v hr, hk⟩
theorem setM_lt {m : Nat → Nat × Nat × Nat} {n i : Nat} {p : Nat × Nat × Nat} (h : i < n) : (fun i => if i = n then p else m i) i = m i := by simp; omega
theorem Inv.block_lt (I : Inv B E) {id : Nat} {x : HO} (hh : E.H[id]? = some x) (hx : x ≠ .dead) : (E.m id).1 < E.w.heap.size := by
 cases x with
 | obj ty es => exact (I.obj id ty es hh).1.lt
 | hw ty n => exact (I.hw id ty n hh).1.lt
 | it s p => exact (I.it id s p hh).1.lt
 | dead => exact absurd rfl hx
def InjH (m : Nat → Nat × Nat × Nat) (H : Heap) : Prop := ∀ i j x y, H[i]? = some x → H[j]? = some y → x ≠ .dead → y ≠ .dead → (m i).1 = (m j).1 → i = j
theorem InjH.set {m m' : Nat → Nat × Nat × Nat} {H : Heap} (h : InjH m H) (hm : ∀ k, (m' k).1 = (m k).1) {id : Nat} {o : HO} (ho : H[id]? = some o) (hd : o ≠ .dead) (o' : HO) : InjH m' (H.set id o') := by
 have key : ∀ i (x : HO), (H.set id o')[i]? = some x → x ≠ .dead → ∃ x' : HO, H[i]? = some x' ∧ x' ≠ .dead := fun i x hi hx => by
  by_cases e : i = id
  ·subst e; exact ⟨o, ho, hd⟩
  ·rw [List.getElem?_set_ne (fun e' => e e'.symm)] at hi
   exact ⟨x, hi, hx⟩
 intro i j x y hi hj hx hy e
 obtain ⟨x', hi', hx'⟩ := key i x hi hx
 obtain ⟨y', hj', hy'⟩ := key j y hj hy
 rw [hm, hm] at e
 exact h i j x' y' hi' hj' hx' hy' e
theorem InjH.push {m m' : Nat → Nat × Nat × Nat} {H : Heap} (h : InjH m H) (hm : ∀ k, k < H.length → (m' k).1 = (m k).1) {n : Nat} (hn : (m' H.length).1 = n) (hb : ∀ i x, H[i]? = some x → x ≠ .dead → (m i).1 ≠ n) (o : HO) : InjH m' (H ++ [o]) := by
 have key : ∀ i (x : HO), (H ++ [o])[i]? = some x → (i < H.length ∧ H[i]? = some x) ∨ i = H.length := fun i x hi => by
  by_cases e : i < H.length
  ·rw [List.getElem?_append_left e] at hi; exact .inl ⟨e, hi⟩
  ·have := (List.getElem?_eq_some_iff.1 hi).1
   simp at this
   right; omega
 intro i j x y hi hj hx hy e
 rcases key i x hi with ⟨i1, i2⟩ | i1 <;> rcases key j y hj with ⟨j1, j2⟩ | j1
 ·rw [hm i i1, hm j j1] at e
  exact h i j x y i2 j2 hx hy e
 ·subst j1
  rw [hm i i1, hn] at e
  exact absurd e (hb i x i2 hx)
 ·subst i1
  rw [hm j j1, hn] at e
  exact absurd e.symm (hb j y j2 hy)
 ·omega
theorem InjH.move {m m' : Nat → Nat × Nat × Nat} {H : Heap} (h : InjH m H) {id n : Nat} (hm : ∀ k, k ≠ id → (m' k).1 = (m k).1) (hn : (m' id).1 = n) (hb : ∀ i x, H[i]? = some x → x ≠ .dead → (m i).1 ≠ n) (o : HO) : InjH m' (H.set id o) := by
 have key : ∀ i (x : HO), (H.set id o)[i]? = some x → i ≠ id → H[i]? = some x := fun i x hi e => by
  rwa [List.getElem?_set_ne (fun e' => e e'.symm)] at hi
 intro i j x y hi hj hx hy e
 by_cases h1 : i = id <;> by_cases h2 : j = id
 ·omega
 ·subst h1
  rw [hm j h2, hn] at e
  exact absurd e.symm (hb j y (key j y hj h2) hy)
 ·subst h2
  rw [hm i h1, hn] at e
  exact absurd e (hb i x (key i x hi h1) hx)
 ·rw [hm i h1, hm j h2] at e
  exact h i j x y (key i x hi h1) (key j y hj h2) hx hy e
theorem Inv.push (I : Inv B E) (hF : PushF E.w w' cs) (S' : Nat → Nat → Prop) (hS : ∀ b o, E.S b o → S' b o) (hS' : ∀ b o, S' b o → E.S b o ∨ b = E.w.heap.size)
  (p : Nat × Nat) (x : HO)
  (hobj : ∀ ty es, x = .obj ty es → Own B w' E.w.heap.size 0 (tyO ty p.1) ∧ (∀ o, ¬ S' E.w.heap.size o) ∧ RelO ⟨w', S', fun i => if i = E.H.length then (E.w.heap.size, p) else E.m i, E.H ++ [x]⟩ es E.w.heap.size p.1 p.2)
  (hhw : ∀ ty n, x = .hw ty n → Own B w' E.w.heap.size p.1 (tyH ty) ∧ ∀ o, p.1 ≤ o → ¬ S' E.w.heap.size o) (hit : ∀ s q, x ≠ .it s q) :
  Inv B ⟨w', S', fun i => if i = E.H.length then (E.w.heap.size, p) else E.m i, E.H ++ [x]⟩ ∧ Ext B E ⟨w', S', fun i => if i = E.H.length then (E.w.heap.size, p) else E.m i, E.H ++ [x]⟩ := by
 have h := hF.toPush
 have X : Ext B E ⟨w', S', fun i => if i = E.H.length then (E.w.heap.size, p) else E.m i, E.H ++ [x]⟩ :=
  ext_push I h hS hS' (fun i hi => setM_lt hi) [x]
 refine ⟨⟨fun b hb => Nat.lt_of_lt_of_le (I.szB b hb) X.size, fun b o hs => ?_, fun id ty es he => ?_, fun id ty n hn => ?_, InjH.push I.inj (fun k hk => by simp only; rw [if_neg (by omega)]) (n := E.w.heap.size) (by simp) (fun i y hi hy => by have := I.block_lt hi hy; omega) x, X.tab I.tab, fun id s q he => ?_⟩, X⟩
 ·have := h.size
  rcases hS' b o hs with h1 | h1
  ·have := I.sS b o h1; simp only; omega
  ·simp only; omega
 ·by_cases hid : id < E.H.length
  ·simp only [List.getElem?_append_left hid] at he
   obtain ⟨h1, h2, h3⟩ := I.obj id ty es he
   simp only [if_neg (show id ≠ E.H.length by omega)]
   refine ⟨h1.push h, fun o ho => ?_, h3.ext X (fun k => h.old h1.lt k)⟩
   rcases hS' _ o ho with hh | hh
   ·exact h2 o hh
   ·have := h1.lt; omega
  ·have hlt := (List.getElem?_eq_some_iff.1 he).1
   simp at hlt
   have : id = E.H.length := by omega
   subst this
   simp at he
   simp only [if_true]
   exact hobj ty es he
 ·by_cases hid : id < E.H.length
  ·simp only [List.getElem?_append_left hid] at hn
   obtain ⟨h1, h2⟩ := I.hw id ty n hn
   simp only [if_neg (show id ≠ E.H.length by omega)]
   refine ⟨h1.push h, fun o ho hs => ?_⟩
   rcases hS' _ o hs with hh | hh
   ·exact h2 o ho hh
   ·have := h1.lt; omega
  ·have hlt := (List.getElem?_eq_some_iff.1 hn).1
   simp at hlt
   have : id = E.H.length := by omega
   subst this
   simp at hn
   simp only [if_true]
   exact hhw ty n hn
 ·by_cases hid : id < E.H.length
  ·simp only [List.getElem?_append_left hid] at he
   obtain ⟨h1, h2⟩ := I.it id s q he
   simp only [if_neg (show id ≠ E.H.length by omega)]
   refine ⟨h1.same (h.block h1.lt), fun o ho => ?_⟩
   rcases hS' _ o ho with hh | hh
   ·exact h2 o hh
   ·have := h1.lt; omega
  ·have hlt := (List.getElem?_eq_some_iff.1 he).1
   simp at hlt
   have : id = E.H.length := by omega
   subst this
   simp at he
   exact absurd he (hit s q)
theorem Inv.push_im (I : Inv B E) (h : Push E.w w' cs) :
  Inv B ⟨w', fun b o => E.S b o ∨ b = E.w.heap.size, E.m, E.H⟩ ∧ Ext B E ⟨w', fun b o => E.S b o ∨ b = E.w.heap.size, E.m, E.H⟩ := by
 have X : Ext B E ⟨w', fun b o => E.S b o ∨ b = E.w.heap.size, E.m, E.H⟩ := by
  have := ext_push I h (S' := fun b o => E.S b o ∨ b = E.w.heap.size) (fun b o hs => .inl hs) (fun _ _ h => h) (m' := E.m) (fun _ _ => rfl) []
  simpa using this
 refine ⟨⟨fun b hb => Nat.lt_of_lt_of_le (I.szB b hb) X.size, fun b o hs => ?_, fun id ty es he => ?_, fun id ty n hn => ?_, I.inj, X.tab I.tab, fun id s q he => ?_⟩, X⟩
 ·have := h.size
  rcases hs with h1 | h1
  ·have := I.sS b o h1; simp only; omega
  ·simp only; omega
 ·obtain ⟨h1, h2, h3⟩ := I.obj id ty es he
  refine ⟨h1.push h, fun o ho => ?_, h3.ext X (fun k => h.old h1.lt k)⟩
  rcases ho with hh | hh
  ·exact h2 o hh
  ·have := h1.lt; simp only at hh; omega
 ·obtain ⟨h1, h2⟩ := I.hw id ty n hn
  refine ⟨h1.push h, fun o ho hs => ?_⟩
  rcases hs with hh | hh
  ·exact h2 o ho hh
  ·have := h1.lt; simp only at hh; omega
 ·obtain ⟨h1, h2⟩ := I.it id s q he
  refine ⟨h1.same (h.block h1.lt), fun o ho => ?_⟩
  rcases ho with hh | hh
  ·exact h2 o hh
  ·have := h1.lt; simp only at hh; omega
theorem Inv.push_obj (I : Inv B E) (hF : PushF E.w w' cs) (ty : Option (TypeId × Nat)) (hty : ∀ x, ty = some x → w'.shape? E.w.heap.size = some x) (es : List (List AV)) (s : Nat)
  (hes : ∀ i e, es[i]? = some e → e.length = s ∧ ∀ j a, e[j]? = some a → ∃ v, cs[i * s + j]? = some v ∧ RelA E a v ∧ cellOk a = true) :
  ∃ E', E'.w = w' ∧ E'.H = E.H ++ [.obj ty es] ∧ E'.m E.H.length = (E.w.heap.size, 0, s) ∧ Inv B E' ∧ Ext B E E' := by
 have h := hF.toPush
 have X : Ext B E ⟨w', E.S, fun i => if i = E.H.length then (E.w.heap.size, (0, s)) else E.m i, E.H ++ [.obj ty es]⟩ :=
  ext_push I h (fun _ _ h => h) (fun _ _ h => .inl h) (fun i hi => setM_lt hi) [.obj ty es]
 refine ⟨_, rfl, rfl, by simp, I.push hF E.S (fun _ _ h => h) (fun _ _ h => .inl h) (0, s) (.obj ty es) (fun ty' es' he => ?_) (fun _ n hn => by simp at hn) (fun _ _ => by simp)⟩
 injection he with he' he
 subst he; subst he'
 refine ⟨Own.new hF I.szB (tyO_new h hty), fun o ho => by have := I.sS _ o ho; omega, fun i e he => ?_⟩
 obtain ⟨hl, hj⟩ := hes i e he
 refine ⟨hl, fun j a ha => ?_⟩
 obtain ⟨v, hv, hr, hk⟩ := hj j a ha
 refine ⟨v, ?_, relA_ext X a v hr, hk⟩
 simp only [Nat.zero_add]
 rw [h.new]
 exact hv
theorem shape_setCell {w : World} {a : Addr} {v : Value} {b : Nat} : (w.setCell a v).shape? b = w.shape? b := by
 simp only [World.shape?,World.setCell,Array.getElem?_modify]
 by_cases h : a.block = b
 ·rw [if_pos h]
  cases h' : w.heap[b]? with
  | none => simp
  | some x =>
   cases x <;> simp
   split <;> simp
 ·rw [if_neg h]
theorem shape_setCells {w : World} {c o : Nat} {vs : List Value} {b : Nat} : (w.setCells c o vs).shape? b = w.shape? b := by
 induction vs generalizing w o with
 | nil => rfl
 | cons v r ih => rw [World.setCells, ih, shape_setCell]
theorem own_setCells {w : World} {b fr : Nat} {T : TypeId × Nat → Prop} (h : Own B w b fr T) (c o : Nat) (vs : List Value) : Own B (w.setCells c o vs) b fr T :=
 ⟨h.base, by rw [size_setCells']; exact h.lt, fun k hk => by rw [World.frozen?_setCells]; exact h.free k hk, by rw [shape_setCells]; exact h.shape⟩
where
 size_setCells' {w : World} {c o : Nat} {vs : List Value} : (w.setCells c o vs).heap.size = w.heap.size := by
  induction vs generalizing w o with
  | nil => rfl
  | cons v r ih => rw [World.setCells, ih]; simp
theorem size_setCells {w : World} {c o : Nat} {vs : List Value} : (w.setCells c o vs).heap.size = w.heap.size := own_setCells.size_setCells'
theorem same_setCells {w : World} {c o : Nat} {vs : List Value} : (w.setCells c o vs).os = w.os ∧ (w.setCells c o vs).tape = w.tape ∧ (w.setCells c o vs).output = w.output := by
 induction vs generalizing w o with
 | nil => exact ⟨rfl, rfl, rfl⟩
 | cons v r ih => rw [World.setCells]; exact ih
theorem block_setCells {w : World} {c o k : Nat} {vs : List Value} (h : k ≠ c) : (w.setCells c o vs).heap[k]? = w.heap[k]? := by
 induction vs generalizing w o with
 | nil => rfl
 | cons v r ih => rw [World.setCells, ih]; simp only [World.setCell,Array.getElem?_modify]; rw [if_neg (by simpa using fun e => h e.symm)]
theorem cell_setCells_ne {w : World} {c o b k : Nat} {vs : List Value} (h : b ≠ c) : (w.setCells c o vs).cell? ⟨b, k, none⟩ = w.cell? ⟨b, k, none⟩ := by
 simp only [World.cell?,block_setCells h]
theorem there_setCells {w : World} {c o b k : Nat} {vs : List Value} (h : (w.cell? ⟨b, k, none⟩).isSome = true) : ((w.setCells c o vs).cell? ⟨b, k, none⟩).isSome = true := by
 induction vs generalizing w o with
 | nil => exact h
 | cons v r ih =>
  rw [World.setCells]
  refine ih ?_
  obtain ⟨u, hu⟩ := Option.isSome_iff_exists.1 h
  by_cases he : (⟨c, o, none⟩ : Addr) = ⟨b, k, none⟩
  ·rw [he, World.cell?_setCell_same _ _ _ hu]; rfl
  ·rw [World.cell?_setCell_other _ _ _ _ he]; exact h
theorem isObj_set {H : Heap} {id i : Nat} {x : HO} (h : isObj H id) (hx : id = i → placeO x) : isObj (H.set i x) id := by
 obtain ⟨y, he, hy⟩ := h
 by_cases hi : id = i
 ·subst hi
  exact ⟨x, by rw [List.getElem?_set_self (List.getElem?_eq_some_iff.1 he).1], hx rfl⟩
 ·exact ⟨y, by rw [List.getElem?_set_ne (fun e => hi e.symm)]; exact he, hy⟩
theorem Inv.store (I : Inv B E) {id : Nat} {ty : Option (TypeId × Nat)} {es es' : List (List AV)} (ho : E.H[id]? = some (.obj ty es)) (o : Nat) (vs : List Value)
  (hr : RelO ⟨E.w.setCells (E.m id).1 o vs, E.S, E.m, E.H.set id (.obj ty es')⟩ es' (E.m id).1 (E.m id).2.1 (E.m id).2.2) :
  Inv B ⟨E.w.setCells (E.m id).1 o vs, E.S, E.m, E.H.set id (.obj ty es')⟩ ∧ Ext B E ⟨E.w.setCells (E.m id).1 o vs, E.S, E.m, E.H.set id (.obj ty es')⟩ := by
 have hid := (List.getElem?_eq_some_iff.1 ho).1
 obtain ⟨own, nS, _⟩ := I.obj id ty es ho
 have X : Ext B E ⟨E.w.setCells (E.m id).1 o vs, E.S, E.m, E.H.set id (.obj ty es')⟩ := {
  ss := fun _ _ h => h
  cell := fun b k hs => cell_setCells_ne (fun e => nS k (e ▸ hs))
  size := by simp only [size_setCells]; exact Nat.le_refl _
  low := fun k hk => block_setCells (fun e => own.base (by subst e; exact hk))
  there := fun b k h => there_setCells h
  snew := fun _ _ h => .inl h
  os := same_setCells.1
  tape := same_setCells.2.1
  output := same_setCells.2.2
  len := by simp
  obj := fun i hi => ⟨isObj_set hi fun _ => trivial, rfl⟩
  hw := fun i _ n hn => ⟨n, by
   simp only
   rw [List.getElem?_set_ne (fun e => by subst e; rw [ho] at hn; simp at hn)]
   exact hn, Nat.le_refl _, fun _ => rfl⟩ }
 refine ⟨⟨by simp only [size_setCells]; exact I.szB, fun b k hs => by simp only [size_setCells]; exact I.sS b k hs, fun i ty2 es2 h2 => ?_, fun i ty2 n hn => ?_, InjH.set I.inj (fun _ => rfl) ho nofun _, X.tab I.tab, fun i s q hit => ?_⟩, X⟩
 ·by_cases hi : i = id
  ·subst hi
   simp only [List.getElem?_set_self hid] at h2
   injection h2 with h2
   injection h2 with h2' h2
   subst h2; subst h2'
   exact ⟨own_setCells own _ _ _, nS, hr⟩
  ·simp only [List.getElem?_set_ne (fun e => hi e.symm)] at h2
   obtain ⟨a1, a2, a3⟩ := I.obj i ty2 es2 h2
   refine ⟨own_setCells a1 _ _ _, a2, a3.ext X fun k => cell_setCells_ne fun e => hi (I.inj i id _ _ h2 ho nofun nofun e)⟩
 ·have hne : id ≠ i := fun e => by
   subst e
   simp only [List.getElem?_set_self hid] at hn
   simp at hn
  simp only [List.getElem?_set_ne hne] at hn
  obtain ⟨a1, a2⟩ := I.hw i ty2 n hn
  exact ⟨own_setCells a1 _ _ _, a2⟩
 ·have hne : id ≠ i := fun e => by
   subst e
   simp only [List.getElem?_set_self hid] at hit
   simp at hit
  simp only [List.getElem?_set_ne hne] at hit
  obtain ⟨a1, a2⟩ := I.it i s q hit
  exact ⟨a1.same (block_setCells fun e => hne (I.inj i id _ _ hit ho nofun nofun e).symm), a2⟩
end
end Go.Abs
end
section
set_option linter.unusedVariables false
set_option linter.unusedSimpArgs false
namespace Go.Abs
variable {P : Program}
theorem addr_add (b o n : Nat) : (⟨b, o, none⟩ : Addr).add n = ⟨b, o + n, none⟩ := Addr.add_lit b o n
structure Gives (P : Program) (size : Nat) (w : World) (x : Value) (m : Nat) (news : List Value) : Prop where
 len : ∀ w', (Builtin.lenOf x).run P w' = .ok m w'
 cells : ∀ w', w'.heap = w.heap → (Builtin.firstCells size m x).run P w' = .ok ⟨news⟩ w'
 num : news.length = m * size
 one : ∀ v ∈ news, v.oneCell' = true
theorem run_append_room2 {w w2 : World} {t u e : TypeId} {du : TypeDesc} {i : TypeInfo} (ty : TypeId) (ht : P.underlying t = some (.slice e)) (hu : P.underlying u = some du) (hdu : ∀ k, du ≠ .int k) (hi : P.info? e = some i)
  {a : Addr} {sLen sCap m : Nat} {x : Value} {news : List Value} (g : Gives P i.size w x m news) (hroom : sLen + m ≤ sCap)
  (hst : (storeCells (a.add (sLen * i.size)) news).run P w = .ok () w2) :
  (Builtin.append_ #[t, u] ty #[.slice (some a) sLen sCap, x]).run P w = .ok (.slice (some a) (sLen + m) sCap) w2 := by
 simp [Builtin.append_, run_underlying ht, run_underlying hu, sizeOf, typeInfo, hi, g.len, hroom, g.cells w rfl, hst]
theorem run_append_none {w : World} {t u e : TypeId} {du : TypeDesc} {i : TypeInfo} (ty : TypeId) (ht : P.underlying t = some (.slice e)) (hu : P.underlying u = some du) (hdu : ∀ k, du ≠ .int k) (hi : P.info? e = some i)
  {b : Option Addr} {x : Value} (g : Gives P i.size w x 0 []) :
  (Builtin.append_ #[t, u] ty #[.slice b 0 0, x]).run P w = .ok (.slice b 0 0) w := by
 cases b <;> simp [Builtin.append_, run_underlying ht, run_underlying hu, sizeOf, typeInfo, hi, g.len, g.cells w rfl, storeCells]
theorem run_append_grow2 {w : World} {t u e : TypeId} {du : TypeDesc} {i : TypeInfo} {z : Value} (ty : TypeId) (ht : P.underlying t = some (.slice e)) (hu : P.underlying u = some du) (hdu : ∀ k, du ≠ .int k) (hi : P.info? e = some i)
  (hzero : i.zero = some z) {b : Option Addr} {sLen sCap m : Nat} {x : Value} {news olds : List Value} (g : Gives P i.size w x m news)
  (hold : ∀ w', w'.heap = w.heap → (Builtin.firstCells i.size sLen (.slice b sLen sCap)).run P w' = .ok ⟨olds⟩ w')
  (hg : sCap < sLen + m) (hbytes : (sLen + m) * i.bytes ≤ 2 ^ 46) (hb0 : 0 < i.bytes) :
  ∃ cap cs, sLen + m ≤ cap ∧ cs.length = olds.length + news.length + (cap - (sLen + m)) * z.cells.size ∧ (∀ j, j < olds.length + news.length → cs[j]? = (olds ++ news)[j]?) ∧
   (Builtin.append_ #[t, u] ty #[.slice b sLen sCap, x]).run P w = .ok (.slice (some ⟨w.heap.size, 0, none⟩) (sLen + m) cap) (w.drew.alloc (.cells ⟨cs⟩ e)) := by
 have hmul : sLen + m ≤ (sLen + m) * i.bytes := Nat.le_mul_of_pos_right _ hb0
 have h63' : ¬ (9223372036854775807 < ((sLen : Int) + (m : Int))) := by omega
 have hfit : Builtin.nextslicecap (sLen + m) sCap * i.bytes ≤ 281474976710656 := growslice_fits hg (by omega)
 have h48' : ¬ (281474976710656 < Builtin.nextslicecap (sLen + m) sCap * i.bytes) := by omega
 have hn : ¬ (sLen + m ≤ sCap) := by omega
 refine ⟨grownCap w (sLen + m) sCap e, olds ++ news ++ (Builtin.zeroCells z.cells (grownCap w (sLen + m) sCap e - (sLen + m))).toList, ?_, ?_, ?_, ?_⟩
 ·simp [grownCap, Question.cut]
 ·simp [Builtin.zeroCells, Nat.add_assoc]
 ·intro j hj
  rw [List.getElem?_append_left (by simpa using hj)]
 ·have hf := g.cells w.drew rfl
  have hfo := hold w.drew rfl
  simp [Builtin.append_, run_underlying ht, run_underlying hu, sizeOf, typeInfo, zeroValue, hi, hzero, g.len, hn, h63', h48', Question.forced, hf, hfo, newRow, grownCap]
  congr 2
  apply Array.ext'
  simp
theorem relC_vals {w : World} {S : Nat → Nat → Prop} : ∀ {ds : List Dat} {b o : Nat}, RelC w S ds b o →
  ∃ vs, RelL w S ds vs ∧ (∀ v ∈ vs, v.oneCell' = true) ∧ ∀ (j : Nat) v, vs[j]? = some v → w.cell? ⟨b, o + j, none⟩ = some v
 | [], b, o, h => ⟨[], by simp only [RelL], by simp, by simp⟩
 | d :: ds, b, o, h => by
  simp only [RelC] at h
  obtain ⟨⟨v, hv, hs, hk, hd⟩, hl⟩ := h
  obtain ⟨vs, h1, h2, h3⟩ := relC_vals hl
  refine ⟨v :: vs, by simp only [RelL]; exact ⟨v, vs, rfl, hd, h1⟩, ?_, ?_⟩
  ·intro u hu
   rcases List.mem_cons.1 hu with rfl | hu
   ·cases d <;> simp only [RelD] at hd <;> first
     |(simp [cellD] at hk; done)
     |(subst hd; rfl)
     |(obtain ⟨_, _, rfl, _⟩ := hd; rfl)
   ·exact h2 u hu
  ·intro j u hu
   cases j with
   | zero => simp at hu; subst hu; exact hv
   | succ j =>
    have := h3 j u (by simpa using hu)
    rwa [show o + (j + 1) = o + 1 + j by omega]
theorem relL_append {w : World} {S : Nat → Nat → Prop} : ∀ {ds es : List Dat} {vs us : List Value}, RelL w S ds vs → RelL w S es us → RelL w S (ds ++ es) (vs ++ us)
 | [], es, vs, us, h, h' => by simp only [RelL] at h; subst h; exact h'
 | d :: ds, es, vs, us, h, h' => by
  simp only [RelL] at h
  obtain ⟨v, r, rfl, hd, hl⟩ := h
  simp only [List.cons_append,RelL]
  exact ⟨v, r ++ us, rfl, hd, relL_append hl h'⟩
theorem relE_vals {w : World} {S : Nat → Nat → Prop} : ∀ {es : List (List Dat)} {b o s : Nat}, RelE w S es b o s →
  ∃ vs, RelL w S es.flatten vs ∧ vs.length = es.length * s ∧ (∀ v ∈ vs, v.oneCell' = true) ∧ ∀ (j : Nat) v, vs[j]? = some v → w.cell? ⟨b, o + j, none⟩ = some v
 | [], b, o, s, h => ⟨[], by simp only [List.flatten_nil,RelL], by simp, by simp, by simp⟩
 | e :: es, b, o, s, h => by
  simp only [RelE] at h
  obtain ⟨h1, h2, h3⟩ := h
  obtain ⟨vs, a1, a2, a3⟩ := relC_vals h2
  obtain ⟨us, b1, b2, b3, b4⟩ := relE_vals h3
  have hvl := relL_length a1
  refine ⟨vs ++ us, by simpa using relL_append a1 b1, ?_, ?_, ?_⟩
  ·simp only [List.length_append,List.length_cons,b2,hvl,h1,Nat.add_mul]; omega
  ·intro v hv
   rcases List.mem_append.1 hv with hv | hv
   ·exact a2 v hv
   ·exact b3 v hv
  ·intro j v hv
   by_cases hj : j < vs.length
   ·rw [List.getElem?_append_left hj] at hv
    exact a3 j v hv
   ·rw [List.getElem?_append_right (by omega)] at hv
    have := b4 _ v hv
    rwa [show o + s + (j - vs.length) = o + j by omega] at this
theorem relL_get {w : World} {S : Nat → Nat → Prop} : ∀ {ds : List Dat} {vs : List Value}, RelL w S ds vs → ∀ {j : Nat} {d : Dat}, ds[j]? = some d → ∃ v, vs[j]? = some v ∧ RelD w S d v
 | d :: ds, vs, h, 0, d', hd => by
  simp only [RelL] at h
  obtain ⟨v, r, rfl, hv, _⟩ := h
  simp at hd; subst hd
  exact ⟨v, rfl, hv⟩
 | d :: ds, vs, h, j + 1, d', hd => by
  simp only [RelL] at h
  obtain ⟨v, r, rfl, _, hl⟩ := h
  obtain ⟨u, hu, hr⟩ := relL_get hl (j := j) (d := d') (by simpa using hd)
  exact ⟨u, by simpa using hu, hr⟩
theorem relL_mk {w : World} {S : Nat → Nat → Prop} : ∀ {ds : List Dat} {vs : List Value}, vs.length = ds.length → (∀ (j : Nat) (d : Dat) (v : Value), ds[j]? = some d → vs[j]? = some v → RelD w S d v) → RelL w S ds vs
 | [], vs, hl, _ => by simp only [RelL]; exact List.length_eq_zero_iff.1 hl
 | d :: ds, [], hl, _ => by simp at hl
 | d :: ds, v :: vs, hl, h => by
  simp only [RelL]
  exact ⟨v, vs, rfl, h 0 d v rfl rfl, relL_mk (by simpa using hl) fun j d' v' hd hv => h (j + 1) d' v' (by simpa using hd) (by simpa using hv)⟩
theorem flat_get : ∀ {es : List (List Dat)} {s : Nat}, (∀ e ∈ es, e.length = s) → ∀ {i : Nat} {e : List Dat}, es[i]? = some e → ∀ {j : Nat} {d : Dat}, e[j]? = some d → es.flatten[i * s + j]? = some d
 | e :: es, s, hs, 0, e', he, j, d, hd => by
  simp at he; subst he
  simp only [Nat.zero_mul,Nat.zero_add,List.flatten_cons]
  rw [List.getElem?_append_left (List.getElem?_eq_some_iff.1 hd).1]
  exact hd
 | e :: es, s, hs, i + 1, e', he, j, d, hd => by
  have hel := hs e (by simp)
  have := flat_get (es := es) (s := s) (fun x hx => hs x (by simp [hx])) (i := i) (by simpa using he) hd
  simp only [List.flatten_cons]
  rw [List.getElem?_append_right (by rw [hel, Nat.add_mul]; omega)]
  rwa [hel, show (i + 1) * s + j - s = i * s + j by rw [Nat.add_mul]; omega]
theorem relE_len {w : World} {S : Nat → Nat → Prop} : ∀ {es : List (List Dat)} {b o s : Nat}, RelE w S es b o s → ∀ e ∈ es, e.length = s
 | e :: es, b, o, s, h, e', he => by
  simp only [RelE] at h
  rcases List.mem_cons.1 he with rfl | he
  ·exact h.1
  ·exact relE_len h.2.2 e' he
theorem relE_of_flat {w : World} {S : Nat → Nat → Prop} {es : List (List Dat)} {s b o : Nat} {vs : List Value} (hs : ∀ e ∈ es, e.length = s) (hk : ∀ e ∈ es, ∀ d ∈ e, cellD d = true)
  (hl : RelL w S es.flatten vs) (hc : ∀ (j : Nat) v, vs[j]? = some v → w.cell? ⟨b, o + j, none⟩ = some v ∧ S b (o + j)) : RelE w S es b o s := by
 refine relE_mk fun i e he => ?_
 have hmem := List.mem_of_getElem? he
 refine ⟨hs e hmem, relC_mk fun j d hd => ?_⟩
 obtain ⟨v, hv, hr⟩ := relL_get hl (flat_get hs he hd)
 obtain ⟨h1, h2⟩ := hc _ v hv
 rw [Nat.add_assoc]
 exact ⟨v, h1, h2, hk e hmem d (List.mem_of_getElem? hd), hr⟩
theorem relE_cellD {w : World} {S : Nat → Nat → Prop} {es : List (List Dat)} {b o s : Nat} (h : RelE w S es b o s) : ∀ e ∈ es, ∀ d ∈ e, cellD d = true := by
 intro e he d hd
 obtain ⟨i, hi⟩ := List.mem_iff_getElem?.1 he
 obtain ⟨j, hj⟩ := List.mem_iff_getElem?.1 hd
 obtain ⟨_, _, _, hk, _⟩ := relC_get (relE_get h hi).2 hj
 exact hk
structure Elems (E : Env) (s : Nat) (ys : List (List Dat)) (news : List Value) : Prop where
 size : ∀ e ∈ ys, e.length = s
 cell : ∀ e ∈ ys, ∀ d ∈ e, cellD d = true
 rel : RelL E.w E.S ys.flatten news
 num : news.length = ys.length * s
 one : ∀ v ∈ news, v.oneCell' = true
theorem flatten_len : ∀ {es : List (List Dat)} {s : Nat}, (∀ e ∈ es, e.length = s) → es.flatten.length = es.length * s
 | [], s, _ => by simp
 | e :: es, s, h => by
  have := flatten_len (es := es) (s := s) fun x hx => h x (by simp [hx])
  simp only [List.flatten_cons,List.length_append,List.length_cons,this,h e (by simp),Nat.add_mul]
  omega
section
variable {B : Low} {E : Env}
theorem shape_drew_alloc {w : World} {cs : List Value} {e : TypeId} : (w.drew.alloc (.cells ⟨cs⟩ e)).shape? w.heap.size = some (e, cs.length) := by
 have : (w.drew.alloc (.cells ⟨cs⟩ e)).heap = w.heap.push (.cells ⟨cs⟩ e (0, 0)) := rfl
 simp [World.shape?, this]
theorem Own.mono {B : Low} {fr fr' b : Nat} {w : World} {T : TypeId × Nat → Prop} (h : Own B w b fr T) (hf : fr ≤ fr') : Own B w b fr' T :=
 ⟨h.base, h.lt, fun o ho => h.free o (Nat.le_trans hf ho), h.shape⟩
theorem append_new (I : Inv B E) {t u e : TypeId} {du : TypeDesc} {i : TypeInfo} {z : Value} (ty : TypeId) (ht : P.underlying t = some (.slice e)) (hu : P.underlying u = some du) (hdu : ∀ k, du ≠ .int k)
  (hi : P.info? e = some i) (hzero : i.zero = some z) (hzs : z.cells.size = i.size) {b : Option Addr} {x : Value} {ys : List (List Dat)} {news : List Value} (hy : Elems E i.size ys news) (g : Gives P i.size E.w x ys.length news)
  (h0 : 0 < ys.length) (hbytes : ys.length * i.bytes ≤ 2 ^ 46) (hb0 : 0 < i.bytes) :
  ∃ v E', (Builtin.append_ #[t, u] ty #[.slice b 0 0, x]).run P E.w = .ok v E'.w ∧ E'.H = E.H ++ [.hw e ys.length] ∧ Inv B E' ∧ Ext B E E' ∧ RelA E' (.asl i.size ys E.H.length) v := by
 have hold : ∀ w', w'.heap = E.w.heap → (Builtin.firstCells i.size 0 (.slice b 0 0)).run P w' = .ok ⟨[]⟩ w' := by
  intro w' _
  cases b <;> simp [Builtin.firstCells, loadCells, loadCellsFrom]
 obtain ⟨cap, cs, hcap, hlen, hcs, hrun⟩ := run_append_grow2 (P := P) (w := E.w) ty ht hu hdu hi hzero g hold (by omega) (by simpa using hbytes) hb0
 simp only [Nat.zero_add,List.length_nil,List.nil_append] at hcap hlen hcs hrun
 have hpF : PushF E.w (E.w.drew.alloc (.cells ⟨cs⟩ e)) cs := Push.drew E.w cs e
 have hp := hpF.toPush
 obtain ⟨I', X⟩ := I.push hpF (fun b o => E.S b o ∨ (b = E.w.heap.size ∧ o < ys.length * i.size)) (fun _ _ h => .inl h) (fun b o h => h.imp id And.left) (ys.length * i.size, 0) (.hw e ys.length)
  (fun _ es he => by simp at he) (fun ty' n hn => ⟨Own.new hpF I.szB ⟨(e, cs.length), shape_drew_alloc, by injection hn⟩, fun o ho hs => by
   rcases hs with hs | hs
   ·have := I.sS _ _ hs; omega
   ·have := hs.2; simp only at ho; omega⟩) (fun _ _ => by simp)
 refine ⟨_, _, hrun, rfl, I', X, ?_⟩
 simp only [RelA]
 refine ⟨_, cap, rfl, hcap, .inr ⟨E.w.heap.size, 0, rfl, ?_⟩, e, ys.length, by simp, Nat.le_refl _, fun _ => ⟨E.w.heap.size, 0, rfl, by simp, by simp, fun k hk => ?_⟩⟩
 ·refine relE_of_flat hy.size hy.cell (relL_mono ⟨X.ss, X.cell⟩ _ _ hy.rel) fun j v hv => ?_
  have hj := (List.getElem?_eq_some_iff.1 hv).1
  rw [Nat.zero_add]
  refine ⟨?_, .inr ⟨rfl, by rw [hy.num] at hj; exact hj⟩⟩
  rw [hp.new, hcs j hj]
  exact hv
 ·rw [Nat.zero_add, hp.new]
  have : k < cs.length := by
   rw [hlen, hy.num, hzs, ← Nat.add_mul]
   have : ys.length + (cap - ys.length) = cap := by omega
   rw [this]; exact hk
  simp [this]
theorem append_on (I : Inv B E) {t u e : TypeId} {du : TypeDesc} {i : TypeInfo} {z : Value} (ty : TypeId) (ht : P.underlying t = some (.slice e)) (hu : P.underlying u = some du) (hdu : ∀ k, du ≠ .int k)
  (hi : P.info? e = some i) (hzero : i.zero = some z) (hzs : z.cells.size = i.size) {x sv : Value} {es ys : List (List Dat)} {tok : Nat} {news : List Value} (hs : RelA E (.asl i.size es tok) sv)
  (htok : E.H[tok]? = some (.hw e es.length)) (hy : Elems E i.size ys news) (g : Gives P i.size E.w x ys.length news)
  (hbytes : (es.length + ys.length) * i.bytes ≤ 2 ^ 46) (hb0 : 0 < i.bytes) :
  ∃ v E', (Builtin.append_ #[t, u] ty #[sv, x]).run P E.w = .ok v E'.w ∧ E'.H = E.H.set tok (.hw e (es.length + ys.length)) ∧ Inv B E' ∧ Ext B E E' ∧ RelA E' (.asl i.size (es ++ ys) tok) v := by
 simp only [RelA] at hs
 obtain ⟨b, c, rfl, hle, hes, _, n, hn, _, hg⟩ := hs
 rw [htok] at hn
 injection hn with hn
 injection hn with _ hn
 obtain ⟨bl, o, rfl, hbl, ho, hroom⟩ := hg hn.symm
 have hE : RelE E.w E.S es bl o i.size := by
  rcases hes with rfl | ⟨bl', o', hb', he⟩
  ·simp only [RelE]
  ·simp only [Option.some.injEq,Addr.mk.injEq] at hb'
   obtain ⟨rfl, rfl, _⟩ := hb'
   exact he
 obtain ⟨olds, o1, o2, o3, o4⟩ := relE_vals hE
 have htl := (List.getElem?_eq_some_iff.1 htok).1
 obtain ⟨own, nS⟩ := I.hw tok _ _ htok
 rw [hbl, ho] at own
 rw [hbl] at nS
 rw [ho] at nS
 by_cases hfit : es.length + ys.length ≤ c
 ·-- in its room
  have hmul : es.length * i.size + ys.length * i.size ≤ c * i.size := by rw [← Nat.add_mul]; exact Nat.mul_le_mul_right _ hfit
  have hth : ∀ j, j < news.length → (E.w.cell? ⟨bl, o + es.length * i.size + 0 + j, none⟩).isSome = true := fun j hj => by
   have := hroom (es.length * i.size + j) (by rw [hy.num] at hj; omega)
   rwa [show o + es.length * i.size + 0 + j = o + (es.length * i.size + j) by omega]
  have hst := run_storeCells_cells (P := P) bl (o + es.length * i.size) news 0 E.w hth (fun j _ => own.free _ (by omega)) hy.one
  simp only [Nat.add_zero] at hst
  have hrun := run_append_room2 (P := P) (w := E.w) (a := ⟨bl, o, none⟩) (sLen := es.length) (sCap := c) ty ht hu hdu hi g hfit (by rw [addr_add]; exact hst)
  let m' : Nat → Nat × Nat × Nat := fun k => if k = tok then (bl, o + (es.length + ys.length) * i.size, (E.m tok).2.2) else E.m k
  let S' : Nat → Nat → Prop := fun b' o' => E.S b' o' ∨ (b' = bl ∧ o + es.length * i.size ≤ o' ∧ o' < o + (es.length + ys.length) * i.size)
  have hcellS : ∀ b' o', E.S b' o' → (E.w.setCells bl (o + es.length * i.size) news).cell? ⟨b', o', none⟩ = E.w.cell? ⟨b', o', none⟩ := by
   intro b' o' hs'
   refine World.cell?_setCells_out _ _ _ _ _ fun h1 _ => ?_
   simp only at h1; subst h1
   left
   simp only
   by_cases hlt : o' < o + es.length * i.size
   ·exact hlt
   ·exact absurd hs' (nS o' (by omega))
  have X : Ext B E ⟨E.w.setCells bl (o + es.length * i.size) news, S', m', E.H.set tok (.hw e (es.length + ys.length))⟩ := {
   ss := fun _ _ h => .inl h
   cell := hcellS
   size := by simp only [size_setCells]; exact Nat.le_refl _
   low := fun k hk => block_setCells (fun e => own.base (by subst e; exact hk))
   there := fun b k h => there_setCells h
   snew := fun b' o' h => by
    rcases h with h | h
    ·exact .inl h
    ·exact .inr (h.1 ▸ own.base)
   os := same_setCells.1
   tape := same_setCells.2.1
   output := same_setCells.2.2
   len := by simp
   obj := fun id hid => by
    have hne : id ≠ tok := fun e => by subst e; obtain ⟨y, q, hq⟩ := hid; rw [htok] at q; injection q with q; subst q; exact hq.elim
    exact ⟨isObj_set hid (fun e => absurd e hne), by simp only [m',if_neg hne]⟩
   hw := fun id ty2 k hk => by
    by_cases hid : id = tok
    ·subst hid
     rw [htok] at hk
     injection hk with hk
     injection hk with hk' hk
     subst hk'
     refine ⟨es.length + ys.length, by simp only; rw [List.getElem?_set_self htl], by omega, fun he => ?_⟩
     have hy0 : ys.length = 0 := by omega
     simp only [m',if_true,hy0,Nat.add_zero]
     rw [← ho, ← hbl]
    ·exact ⟨k, by simp only; rw [List.getElem?_set_ne (fun e => hid e.symm)]; exact hk, Nat.le_refl _, fun _ => by simp only [m',if_neg hid]⟩ }
  have I' : Inv B ⟨E.w.setCells bl (o + es.length * i.size) news, S', m', E.H.set tok (.hw e (es.length + ys.length))⟩ := by
   refine ⟨by simp only [size_setCells]; exact I.szB, fun b' k hs' => ?_, fun id ty2 es2 h2 => ?_, fun id ty2 k hk => ?_, InjH.set I.inj (fun k => ?_) htok nofun _, X.tab I.tab, fun id s q hit => ?_⟩
   ·simp only [size_setCells]
    rcases hs' with h | ⟨rfl, _⟩
    ·exact I.sS b' k h
    ·exact own.lt
   ·have hne : id ≠ tok := fun e => by subst e; simp only [List.getElem?_set_self htl] at h2; simp at h2
    simp only [List.getElem?_set_ne (fun e => hne e.symm)] at h2
    obtain ⟨a1, a2, a3⟩ := I.obj id ty2 es2 h2
    have hbne : (E.m id).1 ≠ bl := fun e => hne (I.inj id tok _ _ h2 htok nofun nofun (e.trans hbl.symm))
    simp only [m',if_neg hne]
    refine ⟨own_setCells a1 _ _ _, fun k hk => ?_, a3.ext X fun k => cell_setCells_ne hbne⟩
    rcases hk with hk | hk
    ·exact a2 k hk
    ·exact hbne hk.1
   ·by_cases hid : id = tok
    ·subst hid
     simp only [List.getElem?_set_self htl] at hk
     injection hk with hk
     injection hk with hk _
     subst hk
     simp only [m',if_true]
     refine ⟨own_setCells (own.mono (by rw [Nat.add_mul]; omega)) _ _ _, fun k hk hs' => ?_⟩
     rcases hs' with h | h
     ·exact nS k (by rw [Nat.add_mul] at hk; omega) h
     ·omega
    ·simp only [List.getElem?_set_ne (fun e => hid e.symm)] at hk
     obtain ⟨a1, a2⟩ := I.hw id ty2 k hk
     have hbne : (E.m id).1 ≠ bl := fun e => hid (I.inj id tok _ _ hk htok nofun nofun (e.trans hbl.symm))
     simp only [m',if_neg hid]
     refine ⟨own_setCells a1 _ _ _, fun k hk hs' => ?_⟩
     rcases hs' with h | h
     ·exact a2 k hk h
     ·exact hbne h.1
   ·by_cases hk : k = tok
    ·subst hk; simp only [m',if_true,hbl]
    ·simp only [m',if_neg hk]
   ·have hne : tok ≠ id := fun e => by subst e; simp only [List.getElem?_set_self htl] at hit; simp at hit
    simp only [List.getElem?_set_ne hne] at hit
    obtain ⟨a1, a2⟩ := I.it id s q hit
    have hbne : (E.m id).1 ≠ bl := fun e => hne (I.inj id tok _ _ hit htok nofun nofun (e.trans hbl.symm)).symm
    simp only [m',if_neg hne.symm]
    refine ⟨a1.same (block_setCells hbne), fun k hs' => ?_⟩
    rcases hs' with h | h
    ·exact a2 k h
    ·exact hbne h.1
  refine ⟨_, _, hrun, rfl, I', X, ?_⟩
  simp only [RelA]
  refine ⟨_, c, by simp, by simpa using hfit, .inr ⟨bl, o, rfl, ?_⟩, e, es.length + ys.length, by rw [List.getElem?_set_self htl], by simp, fun _ => ⟨bl, o, rfl, by simp [m'], by simp [m'], fun k hk => there_setCells (hroom k hk)⟩⟩
  refine relE_of_flat (vs := olds ++ news) ?_ ?_ ?_ ?_
  ·intro x hx
   rcases List.mem_append.1 hx with hx | hx
   ·exact relE_len hE x hx
   ·exact hy.size x hx
  ·intro x hx
   rcases List.mem_append.1 hx with hx | hx
   ·exact relE_cellD hE x hx
   ·exact hy.cell x hx
  ·rw [List.flatten_append]
   exact relL_append (relL_mono ⟨X.ss, X.cell⟩ _ _ o1) (relL_mono ⟨X.ss, X.cell⟩ _ _ hy.rel)
  ·intro j v hv
   by_cases hj : j < olds.length
   ·rw [List.getElem?_append_left hj] at hv
    have hcell := o4 j v hv
    rw [o2] at hj
    have hj2 : j < es.flatten.length := by rw [flatten_len (relE_len hE)]; exact hj
    refine ⟨?_, .inl ?_⟩
    ·rw [World.cell?_setCells_out _ _ _ _ _ (fun _ _ => .inl (by simp only; omega))]
     exact hcell
    ·-- the place is one that stays
     have hsz : 0 < i.size := by
      rcases Nat.eq_zero_or_pos i.size with h0 | h0
      ·rw [h0] at hj; omega
      ·exact h0
     have hq : j / i.size < es.length := (Nat.div_lt_iff_lt_mul hsz).2 hj
     have hget := relE_get hE (List.getElem?_eq_getElem hq)
     have hr : j % i.size < (es[j / i.size]).length := by rw [hget.1]; exact Nat.mod_lt _ hsz
     obtain ⟨_, _, hS, _⟩ := relC_get hget.2 (List.getElem?_eq_getElem hr)
     have : o + j / i.size * i.size + j % i.size = o + j := by
      have := Nat.div_add_mod j i.size
      rw [Nat.mul_comm] at this; omega
     rwa [this] at hS
   ·rw [List.getElem?_append_right (by omega)] at hv
    have hjn := (List.getElem?_eq_some_iff.1 hv).1
    refine ⟨?_, .inr ⟨rfl, ?_⟩⟩
    ·have := World.cell?_setCells_in bl news (o + es.length * i.size) E.w (fun k hk => by simpa using hth k hk) (j - olds.length) hjn
     rw [show o + j = o + es.length * i.size + (j - olds.length) by omega, this, ← hv, List.getElem?_eq_getElem hjn]
    ·rw [hy.num] at hjn
     rw [Nat.add_mul]
     omega
 ·-- in a new block
  have hold : ∀ w', w'.heap = E.w.heap → (Builtin.firstCells i.size es.length (.slice (some ⟨bl, o, none⟩) es.length c)).run P w' = .ok ⟨olds⟩ w' := fun w' hw => by
   have := run_firstCells_some (P := P) w' i.size es.length ⟨bl, o, none⟩ es.length c olds o2 (fun j v hv => by
    rw [addr_add]
    have := o4 j v hv
    simpa only [World.cell?, hw] using this)
   simpa using this
  obtain ⟨cap, cs, hcap, hlen, hcs, hrun⟩ := run_append_grow2 (P := P) (w := E.w) ty ht hu hdu hi hzero g hold (by omega) hbytes hb0
  have hpF : PushF E.w (E.w.drew.alloc (.cells ⟨cs⟩ e)) cs := Push.drew E.w cs e
  have hp := hpF.toPush
  have hnum : olds.length + news.length = (es.length + ys.length) * i.size := by rw [o2, hy.num, Nat.add_mul]
  let m' : Nat → Nat × Nat × Nat := fun k => if k = tok then (E.w.heap.size, (es.length + ys.length) * i.size, 0) else E.m k
  let S' : Nat → Nat → Prop := fun b' o' => E.S b' o' ∨ (b' = E.w.heap.size ∧ o' < (es.length + ys.length) * i.size)
  have hy1 : 0 < ys.length := by omega
  have X : Ext B E ⟨E.w.drew.alloc (.cells ⟨cs⟩ e), S', m', E.H.set tok (.hw e (es.length + ys.length))⟩ := {
   ss := fun _ _ h => .inl h
   cell := fun b' k hs => hp.old (I.sS b' k hs) k
   size := by have := hp.size; simp only; omega
   low := fun k hk => hp.block (I.szB _ hk)
   there := fun b k h => hp.there h
   snew := fun b' o' h => by
    rcases h with h | h
    ·exact .inl h
    ·exact .inr fun hb => by have := I.szB b' hb; omega
   os := rfl
   tape := rfl
   output := rfl
   len := by simp
   obj := fun id hid => by
    have hne : id ≠ tok := fun e => by subst e; obtain ⟨y, q, hq⟩ := hid; rw [htok] at q; injection q with q; subst q; exact hq.elim
    exact ⟨isObj_set hid (fun e => absurd e hne), by simp only [m',if_neg hne]⟩
   hw := fun id ty2 k hk => by
    by_cases hid : id = tok
    ·subst hid
     rw [htok] at hk
     injection hk with hk
     injection hk with hk' hk
     subst hk'
     exact ⟨es.length + ys.length, by simp only; rw [List.getElem?_set_self htl], by omega, fun he => by omega⟩
    ·exact ⟨k, by simp only; rw [List.getElem?_set_ne (fun e => hid e.symm)]; exact hk, Nat.le_refl _, fun _ => by simp only [m',if_neg hid]⟩ }
  have I' : Inv B ⟨E.w.drew.alloc (.cells ⟨cs⟩ e), S', m', E.H.set tok (.hw e (es.length + ys.length))⟩ := by
   refine ⟨fun b hb => Nat.lt_of_lt_of_le (I.szB b hb) X.size, fun b' k hs' => ?_, fun id ty2 es2 h2 => ?_, fun id ty2 k hk => ?_, InjH.move I.inj (n := E.w.heap.size) (fun k hk => by simp only [m',if_neg hk]) (by simp [m']) (fun i y hi hy => by have := I.block_lt hi hy; omega) _, X.tab I.tab, fun id s q hit => ?_⟩
   ·have := hp.size
    rcases hs' with h | ⟨rfl, _⟩
    ·have := I.sS b' k h; simp only; omega
    ·simp only; omega
   ·have hne : id ≠ tok := fun e => by subst e; simp only [List.getElem?_set_self htl] at h2; simp at h2
    simp only [List.getElem?_set_ne (fun e => hne e.symm)] at h2
    obtain ⟨a1, a2, a3⟩ := I.obj id ty2 es2 h2
    simp only [m',if_neg hne]
    refine ⟨a1.push hp, fun k hk => ?_, a3.ext X fun k => hp.old a1.lt k⟩
    rcases hk with hk | hk
    ·exact a2 k hk
    ·have := a1.lt; omega
   ·by_cases hid : id = tok
    ·subst hid
     simp only [List.getElem?_set_self htl] at hk
     injection hk with hk
     injection hk with hk _
     subst hk
     simp only [m',if_true]
     refine ⟨Own.new hpF I.szB ⟨(e, cs.length), shape_drew_alloc, rfl⟩, fun k hk hs' => ?_⟩
     rcases hs' with h | h
     ·have := I.sS _ _ h; omega
     ·omega
    ·simp only [List.getElem?_set_ne (fun e => hid e.symm)] at hk
     obtain ⟨a1, a2⟩ := I.hw id ty2 k hk
     simp only [m',if_neg hid]
     refine ⟨a1.push hp, fun k hk hs' => ?_⟩
     rcases hs' with h | h
     ·exact a2 k hk h
     ·have := a1.lt; omega
   ·have hne : tok ≠ id := fun e => by subst e; simp only [List.getElem?_set_self htl] at hit; simp at hit
    simp only [List.getElem?_set_ne hne] at hit
    obtain ⟨a1, a2⟩ := I.it id s q hit
    simp only [m',if_neg hne.symm]
    refine ⟨a1.same (hp.block a1.lt), fun k hs' => ?_⟩
    rcases hs' with h | h
    ·exact a2 k h
    ·have := a1.lt; omega
  refine ⟨_, _, hrun, rfl, I', X, ?_⟩
  simp only [RelA]
  refine ⟨_, cap, by simp, by simpa using hcap, .inr ⟨E.w.heap.size, 0, rfl, ?_⟩, e, es.length + ys.length, by rw [List.getElem?_set_self htl], by simp, fun _ => ⟨E.w.heap.size, 0, rfl, by simp [m'], by simp [m'], fun k hk => ?_⟩⟩
  ·refine relE_of_flat (vs := olds ++ news) ?_ ?_ ?_ ?_
   ·intro x hx
    rcases List.mem_append.1 hx with hx | hx
    ·exact relE_len hE x hx
    ·exact hy.size x hx
   ·intro x hx
    rcases List.mem_append.1 hx with hx | hx
    ·exact relE_cellD hE x hx
    ·exact hy.cell x hx
   ·rw [List.flatten_append]
    exact relL_append (relL_mono ⟨X.ss, X.cell⟩ _ _ o1) (relL_mono ⟨X.ss, X.cell⟩ _ _ hy.rel)
   ·intro j v hv
    have hj := (List.getElem?_eq_some_iff.1 hv).1
    rw [List.length_append] at hj
    rw [Nat.zero_add]
    refine ⟨?_, .inr ⟨rfl, by omega⟩⟩
    rw [hp.new, hcs j hj]
    exact hv
  ·rw [Nat.zero_add, hp.new]
   have : k < cs.length := by
    rw [hlen, hnum, hzs, ← Nat.add_mul]
    have : es.length + ys.length + (cap - (es.length + ys.length)) = cap := by omega
    rw [this]; exact hk
   simp [this]
end
end Go.Abs
end
section
set_option linter.unusedVariables false
set_option linter.unusedSimpArgs false
namespace Go.Abs
mutual
def ofVal : Value → AV
 | .bool b => .im (.bool b)
 | .int k n => .im (.int k n)
 | .float k n => .im (.flt k n)
 | .complex k a b => .im (.cpx k a b)
 | .string s => .im (.str s.data.toList)
 | .pointer none => .im .nilp
 | .pointer (some _) => .any
 | .slice none 0 0 => .nils
 | .slice _ _ _ => .any
 | .func (.func f) ⟨[]⟩ ⟨[]⟩ => .clo f []
 | .func _ _ _ => .any
 | .nilFunc => .im .nilf
 | .nilIface => .im .nili
 | .agg ⟨cs⟩ => mkAgg (ofVals cs)
 | .map _ => .any
 | .chan _ => .any
 | .iface _ _ => .any
 | .tuple _ => .any
def ofVals : List Value → List AV
 | [] => []
 | v :: l => ofVal v :: ofVals l
end
mutual
theorem relA_ofVal (E : Env) : ∀ v : Value, RelA E (ofVal v) v
 | .bool b => by simp only [ofVal,RelA,RelD]
 | .int k n => by simp only [ofVal,RelA,RelD]
 | .float k n => by simp only [ofVal,RelA,RelD]
 | .complex k a b => by simp only [ofVal,RelA,RelD]
 | .string s => by simp only [ofVal,RelA,RelD]
 | .pointer none => by simp only [ofVal,RelA,RelD]
 | .pointer (some _) => by simp only [ofVal,RelA]
 | .slice none 0 0 => by simp only [ofVal,RelA]
 | .slice none 0 (_ + 1) => by simp only [ofVal,RelA]
 | .slice none (_ + 1) _ => by simp only [ofVal,RelA]
 | .slice (some _) _ _ => by simp only [ofVal,RelA]
 | .func (.func f) ⟨[]⟩ ⟨[]⟩ => by simp only [ofVal,RelA,RelAs]; exact ⟨[], rfl, rfl⟩
 | .func (.func f) ⟨[]⟩ ⟨_ :: _⟩ => by simp only [ofVal,RelA]
 | .func (.func f) ⟨_ :: _⟩ _ => by simp only [ofVal,RelA]
 | .func (.method _) _ _ => by simp only [ofVal,RelA]
 | .func (.methodOf _ _) _ _ => by simp only [ofVal,RelA]
 | .func (.via _ _ _ _) _ _ => by simp only [ofVal,RelA]
 | .func (.yield _) _ _ => by simp only [ofVal,RelA]
 | .nilFunc => by simp only [ofVal,RelA,RelD]
 | .nilIface => by simp only [ofVal,RelA,RelD]
 | .agg ⟨cs⟩ => by simp only [ofVal]; exact relA_mkAgg (relAs_ofVals E cs)
 | .map _ => by simp only [ofVal,RelA]
 | .chan _ => by simp only [ofVal,RelA]
 | .iface _ _ => by simp only [ofVal,RelA]
 | .tuple _ => by simp only [ofVal,RelA]
theorem relAs_ofVals (E : Env) : ∀ l : List Value, RelAs E (ofVals l) l
 | [] => by simp only [ofVals,RelAs]
 | v :: l => by simp only [ofVals,RelAs]; exact ⟨v, l, rfl, relA_ofVal E v, relAs_ofVals E l⟩
end
def cO : Operand → AOpd
 | .tmp t => .t t
 | .const v => .c (ofVal v)
 | .global _ => .c .any
 | .func f => .c (.clo f [])
def zeroOf (P : Program) (t : TypeId) : Option (List AV) :=
 match P.info? t with
 | some i => match i.zero with
  | some z => if (ofVals z.cells.toList).all cellOk && z.cells.size == i.size then some (ofVals z.cells.toList) else none
  | none => none
 | none => none
def isAggT (P : Program) (t : TypeId) : Option Bool :=
 match P.underlying t with
 | some (.struct _) => some true
 | some (.array _ _) => some true
 | some _ => some false
 | none => none
def sizeA (P : Program) (t : TypeId) : Option (Option Nat) :=
 match isAggT P t, P.info? t with
 | some true, some i => some (some i.size)
 | some false, _ => some none
 | _, _ => none
def elemInfo (P : Program) (t : TypeId) : Option (TypeId × TypeInfo) :=
 match P.underlying t with
 | some (.slice e) => match P.info? e with
  | some i => some (e, i)
  | none => none
 | _ => none
def compParts (P : Program) (fs : Array Field) : List (Nat × Operand) → Option (List (Nat × Nat × AOpd))
 | [] => some []
 |(i, x) :: l => match fs[i]?, compParts P fs l with
  | some f, some r => match P.info? f.type with
   | some q => some ((f.offset, q.size, cO x) :: r)
   | none => none
  | _, _ => none
def compBuild (P : Program) (t : TypeId) (parts : List (Nat × Operand)) : AOp :=
 match zeroOf P t, P.underlying t with
 | some z, some (.struct fs) =>
  if fs.toList.all (fun f => (P.info? f.type).isSome) then match compParts P fs parts with
   | some ps => .build z ps
   | none => .bad
  else .bad
 | some z, some (.array _ e) => match P.info? e with
  | some i => .build z (parts.map fun p => (p.1 * i.size, i.size, cO p.2))
  | none => .bad
 | _, _ => .bad
structure Lit where
 mu : Bool
 deg : Bool
def compSlice (P : Program) (lit : Lit) (t : TypeId) (n : Nat) (parts : List (Nat × Operand)) : AOp :=
 match elemInfo P t with
 | some (e, i) => match zeroOf P e with
  | some z => if n * i.size ≤ 2 ^ 24 ∧ 0 < i.size then (if lit.deg = true ∧ i.size = 1 ∧ 0 < n then .bsliceA e i.size n z (parts.map fun p => (p.1, cO p.2)) else .bslice lit.mu i.size n z (parts.map fun p => (p.1, cO p.2))) else .bad
  | none => .bad
 | none => .bad
def flatF (P : Program) : Nat → List Field → Option (List Nat)
 | _, [] => some []
 | i, f :: fs => if f.offset = i ∧ f.name ≠ "_" then (match flatF P (i + 1) fs with
   | some ks => match P.underlying f.type with
    | some .bool => some (0 :: ks)
    | some (.int _) => some (1 :: ks)
    | some .string => some (2 :: ks)
    | _ => none
   | none => none) else none
def flatS (P : Program) (t : TypeId) (fs : List Field) : Option (List Nat) := if P.stoodInHeld t = false ∧ P.eqGuardType P.depth t = false then flatF P 0 fs else none
def isConst : Operand → Bool
 | .const _ => true
 | _ => false
def compBin (P : Program) (op : BinOp) (t : TypeId) (x y : Operand) : AOp :=
 match P.underlying t with
 | some .bool => .binB op (cO x) (cO y)
 | some (.slice _) => .binN op (cO x) (cO y)
 | some (.interface _) => if isConst y = true then .binZ true op (cO x) (cO y) else .bin op (cO x) (cO y)
 | some (.pointer _) => .binZ false op (cO x) (cO y)
 | some (.struct fs) => match flatS P t fs.toList with
  | some ks => .binS op ks (cO x) (cO y)
  | none => .bin op (cO x) (cO y)
 | _ => .bin op (cO x) (cO y)
def compConv (P : Program) (src dst : TypeId) (x : Operand) : AOp :=
 match P.underlying src, P.underlying dst with
 | some (.int _), some (.int k) => .i2i k (cO x)
 | some (.int _), some (.float k) => .i2f k (cO x)
 | some (.float _), some (.int k) => .f2i k (cO x)
 | some .string, some .string => .strId (cO x)
 | some (.int _), some .string => .i2s (cO x)
 | some .string, some (.slice e) => match P.underlying e with
  | some (.int .u8) => .s2b (cO x)
  | _ => .bad
 | some (.slice e), some .string => match P.underlying e with
  | some (.int .u8) => .b2s (cO x)
  | _ => .bad
 | _, _ => .bad
def compFieldAddr (P : Program) (s : TypeId) (x : Operand) (f : Nat) : AOp :=
 match P.underlying s with
 | some (.struct fs) => match fs[f]? with
  | some fl => match P.info? fl.type with
   | some i => if i.size = 0 then .bad else .fieldAddr fl.offset (cO x)
   | none => .bad
  | none => .bad
 | _ => .bad
def compField (P : Program) (s : TypeId) (x : Operand) (f : Nat) : AOp :=
 match P.underlying s with
 | some (.struct fs) => match fs[f]? with
  | some fl => match sizeA P fl.type with
   | some k => .field fl.offset k (cO x)
   | none => .bad
  | none => .bad
 | _ => .bad
def compIndexAddr (P : Program) (t : TypeId) (x i : Operand) : AOp :=
 match P.underlying t with
 | some (.slice e) => match P.info? e with
  | some q => .indexSl q.size (cO x) (cO i)
  | none => .bad
 | some (.array n e) => match P.info? e with
  | some q => .indexArr n q.size (cO x) (cO i)
  | none => .bad
 | _ => .bad
def compIndex (P : Program) (t : TypeId) (x i : Operand) : AOp :=
 match P.underlying t with
 | some .string => .indexStr (cO x) (cO i)
 | some (.array n e) => match P.info? e, sizeA P e with
  | some q, some k => .elemArr n q.size k (cO x) (cO i)
  | _, _ => .bad
 | _ => .bad
def compSliceE (P : Program) (t : TypeId) (x : Operand) (lo hi mx : Option Operand) : AOp :=
 match P.underlying t with
 | some .string => match mx with
  | none => .sliceStr (cO x) (lo.map cO) (hi.map cO)
  | some _ => .bad
 | some (.slice e) => match P.info? e with
  | some q => match hi, mx with
   | none, some _ => .bad
   | _, _ => .slice q.size (cO x) (lo.map cO) (hi.map cO) (mx.map cO)
  | none => .bad
 | _ => .bad
def notInt : TypeDesc → Bool
 | .int _ => false
 | _ => true
def compBuiltin (P : Program) (lit : Lit) (b : Builtin) (ts : Array TypeId) (args : Array Operand) : AOp :=
 match b, ts, args with
 | .len, ⟨[t]⟩, ⟨[x]⟩ => match P.underlying t with
  | some .string => .lenStr (cO x)
  | some (.slice _) => .lenSl (cO x)
  | _ => .bad
 | .append, ⟨[t, u]⟩, ⟨[x, y]⟩ => match elemInfo P t, P.underlying u with
  | some (e, i), some d => match zeroOf P e with
   | some _ => if notInt d = true then (if lit.mu = true then (if 0 < i.size then .appendM i.bytes i.size (cO x) (cO y) else .bad) else .append e i.bytes i.size (cO x) (cO y)) else .bad
   | none => .bad
  | _, _ => .bad
 | .real, _, ⟨[x]⟩ => .real (cO x)
 | .imag, _, ⟨[x]⟩ => .imag (cO x)
 | .complex, _, ⟨[x, y]⟩ => .complex (cO x) (cO y)
 | .min, _, ⟨[x, y]⟩ => .min (cO x) (cO y)
 | .max, _, ⟨[x, y]⟩ => .max (cO x) (cO y)
 | .clear, ⟨[t]⟩, ⟨[x]⟩ => match elemInfo P t with
  | some (e, i) => match zeroOf P e with
   | some z => .clear i.size z (cO x)
   | none => .bad
  | none => .bad
 | _, _, _ => .bad
def compFunc (fn : Fn) (first cap : Array Operand) : AOp :=
 match fn, first with
 | .func f, ⟨[]⟩ => .mkfunc f (cap.toList.map cO)
 | _, _ => .bad
def selfPtr (P : Program) (e : TypeId) : Bool :=
 match P.underlying e with
 | some (.struct fs) => match fs[0]? with
  | some f => match P.underlying f.type with
   | some (.pointer u) => decide (u = e)
   | some (.struct gs) => match gs[0]? with
    | some g => match P.underlying g.type with
     | some (.pointer u) => decide (u = f.type)
     | _ => false
    | none => false
   | _ => false
  | none => false
 | _ => false
def compOp (P : Program) (lit : Lit) : Op → AOp
 | .move x => .move (cO x)
 | .assign x => .move (cO x)
 | .pick c a b => .pick (cO c) (cO a) (cO b)
 | .alloc e => match zeroOf P e with
  | some z => .alloc (if selfPtr P e = true then some (e, z.length) else none) z
  | none => .bad
 | .box e x => .box (if selfPtr P e = true then some e else none) (cO x)
 | .build t parts => compBuild P t parts.toList
 | .buildSlice t n parts => compSlice P lit t n parts.toList
 | .load t x => match sizeA P t with
  | some k => .load k (cO x)
  | none => .bad
 | .store t x v => match P.info? t with
  | some i => .store i.size (cO x) (cO v)
  | none => .bad
 | .nilCheck x => .nilCheck (cO x)
 | .binOp op t x y _ => compBin P op t x y
 | .unOp op _ x => .un op (cO x)
 | .convert src dst x => compConv P src dst x
 | .makeFunc fn first cap => compFunc fn first cap
 | .makeSlice t l c => match elemInfo P t with
  | some (e, i) => match zeroOf P e with
   | some z => if 0 < i.size then .mkslice i.bytes i.size z (cO l) (cO c) else .bad
   | none => .bad
  | none => .bad
 | .slice t x lo hi mx => compSliceE P t x lo hi mx
 | .range t x => match P.underlying t with
  | some .string => .rangeS (cO x)
  | _ => .bad
 | .next it isS => if isS = true then .nextS (cO it) else .bad
 | .fieldAddr s x f => compFieldAddr P s x f
 | .field s x f => compField P s x f
 | .indexAddr t x i => compIndexAddr P t x i
 | .index t x i => compIndex P t x i
 | .extract x i => .extract i (cO x)
 | .call c => match c.callee with
  | .builtin b => compBuiltin P lit b c.argTypes c.args
  | .value f => .call lit.deg (cO f) (c.args.toList.map cO)
  | .invoke _ _ => .bad
 | _ => .bad
def Good (P : Program) (B : Low) (E : Env) (s : Sem Value) (r : AV) (H' : Heap) : Prop :=
 ∃ v E', s.run P E.w = .ok v E'.w ∧ E'.H = H' ∧ Inv B E' ∧ Ext B E E' ∧ RelA E' r v
section
variable {P : Program} {B : Low} {E : Env} {ρ : Operand → Value} {ρa : AOpd → AV}
theorem good_same (I : Inv B E) {s : Sem Value} {r : AV} {v : Value} (h : s.run P E.w = .ok v E.w) (hr : RelA E r v) : Good P B E s r E.H :=
 ⟨v, E, h, rfl, I, Ext.refl B E, hr⟩
theorem zeroOf_spec {t : TypeId} {z : List AV} (h : zeroOf P t = some z) : ∃ i zv, P.info? t = some i ∧ i.zero = some zv ∧ z = ofVals zv.cells.toList ∧ z.all cellOk = true ∧ zv.cells.size = i.size := by
 unfold zeroOf at h
 split at h
 ·rename_i i hi
  split at h
  ·rename_i zv hz
   split at h
   ·rename_i hc
    simp only [Bool.and_eq_true,beq_iff_eq] at hc
    injection h with h
    exact ⟨i, zv, hi, hz, h.symm, h ▸ hc.1, hc.2⟩
   ·exact absurd h (by simp)
  ·exact absurd h (by simp)
 ·exact absurd h (by simp)
theorem ofVals_length : ∀ l : List Value, (ofVals l).length = l.length
 | [] => rfl
 | v :: l => by simp [ofVals, ofVals_length l]
theorem all_get {l : List AV} (h : l.all cellOk = true) {j : Nat} {a : AV} (ha : l[j]? = some a) : cellOk a = true :=
 List.all_eq_true.1 h a (List.mem_of_getElem? ha)
theorem shape_alloc {w : World} {cs : Array Value} {e : TypeId} : (w.alloc (.cells cs e)).shape? w.heap.size = some (e, cs.toList.length) := by
 have : (w.alloc (.cells cs e)).heap = w.heap.push (.cells cs e (0, 0)) := rfl
 simp [World.shape?, this]
theorem good_newVar (I : Inv B E) (t : TypeId) {ty : Option (TypeId × Nat)} {cs : List AV} {v : Value} (hty : ∀ x, ty = some x → x = (t, cs.length)) (hrel : RelAs E cs v.cells.toList) (hok : cs.all cellOk = true) :
  ∃ E', (newVar t v).run P E.w = .ok ⟨E.w.heap.size, 0, none⟩ E'.w ∧ E'.H = E.H ++ [.obj ty [cs]] ∧ Inv B E' ∧ Ext B E E' ∧ RelA E' (.ptr E.H.length 0 0) (.pointer (some ⟨E.w.heap.size, 0, none⟩)) := by
 have hp : PushF E.w (E.w.alloc (.cells v.cells t)) v.cells.toList := by
  have := Push.alloc E.w v.cells.toList t
  simpa using this
 obtain ⟨E', h1, h2, h3, I', X⟩ := I.push_obj hp ty (fun x hx => by rw [hty x hx, ← relAs_length hrel]; exact shape_alloc) [cs] v.cells.toList.length (fun i e he => by
  have hi := (List.getElem?_eq_some_iff.1 he).1
  have : i = 0 := by simpa using hi
  subst this
  simp at he; subst he
  refine ⟨(relAs_length hrel).symm, fun j a ha => ?_⟩
  obtain ⟨u, hu, hr⟩ := relAs_get hrel ha
  exact ⟨u, by simpa using hu, hr, all_get hok ha⟩)
 refine ⟨E', by rw [h1]; rfl, h2, I', X, ?_⟩
 simp only [RelA,h3]
 exact ⟨by simp, isObj_mk (ty := ty) (es := [cs]) (by rw [h2]; simp)⟩
end
end Go.Abs
end
section
set_option linter.unusedVariables false
set_option linter.unusedSimpArgs false
namespace Go.Abs
def GoodU (P : Program) (B : Low) (E : Env) (s : Sem Unit) (H' : Heap) : Prop :=
 ∃ E', s.run P E.w = .ok () E'.w ∧ E'.H = H' ∧ Inv B E' ∧ Ext B E E'
section
variable {P : Program} {B : Low} {E : Env} {ρ : Operand → Value} {ρa : AOpd → AV}
theorem good_alloc (I : Inv B E) {e : TypeId} {z : List AV} (h : zeroOf P e = some z) :
  Good P B E (Instr.alloc e true (.tuple #[])) (.ptr E.H.length 0 0) (E.H ++ [.obj (if selfPtr P e = true then some (e, z.length) else none) [z]]) := by
 obtain ⟨i, zv, hi, hz, rfl, hok, hsz⟩ := zeroOf_spec h
 obtain ⟨E', hrun, hH, I', X, hr⟩ := good_newVar (P := P) I e (ty := if selfPtr P e = true then some (e, (ofVals zv.cells.toList).length) else none) (v := zv) (fun x hx => by split at hx <;> simp_all) (relAs_ofVals E zv.cells.toList) hok
 refine ⟨_, E', ?_, hH, I', X, hr⟩
 simp only [Instr.alloc,zeroValue,typeInfo,Sem.run_bind,run_program,Result.andThen_ok,hi,hz,Sem.run_pure]
 simp only [hrun,Result.andThen_ok]
theorem good_box (I : Inv B E) (e : TypeId) {a : AV} {v : Value} (hr : RelA E a v) (hok : (cellsOf a).all cellOk = true) :
  Good P B E (Instr.box e v) (.ptr E.H.length 0 0) (E.H ++ [.obj (boxTy (if selfPtr P e = true then some e else none) (cellsOf a).length) [cellsOf a]]) := by
 obtain ⟨E', hrun, hH, I', X, hr⟩ := good_newVar (P := P) I e (ty := boxTy (if selfPtr P e = true then some e else none) (cellsOf a).length) (v := v) (fun x hx => by split at hx <;> simp_all [boxTy]) (relAs_cells hr hok) hok
 refine ⟨_, E', ?_, hH, I', X, hr⟩
 simp only [Instr.box,Sem.run_bind,hrun,Result.andThen_ok,Sem.run_pure]
theorem mkAgg_ok {E : Env} {cs : List AV} {vs : Array Value} (h : RelAs E cs vs.toList) : RelA E (mkAgg cs) (.agg vs) := by
 have := relA_mkAgg h
 simpa using this
theorem isAgg_run {t : TypeId} {b : Bool} (h : isAggT P t = some b) (w : World) : (isAgg t).run P w = .ok b w := by
 unfold isAggT at h
 cases hu : P.underlying t with
 | none => rw [hu] at h; simp at h
 | some d =>
  rw [hu] at h
  simp only [isAgg,Sem.run_bind,run_underlying hu,Result.andThen_ok]
  cases d <;> simp at h <;> subst h <;> rfl
theorem sizeA_some {t : TypeId} {n : Nat} (h : sizeA P t = some (some n)) : isAggT P t = some true ∧ ∃ i, P.info? t = some i ∧ i.size = n := by
 unfold sizeA at h
 split at h
 ·rename_i i h1 h2
  simp at h
  exact ⟨h1, i, h2, h⟩
 ·simp at h
 ·simp at h
theorem sizeA_none {t : TypeId} (h : sizeA P t = some none) : isAggT P t = some false := by
 unfold sizeA at h
 split at h
 ·simp at h
 ·assumption
 ·simp at h
theorem run_loadCells_rel {w : World} {b o : Nat} {vs : List Value} (h : ∀ (j : Nat) v, vs[j]? = some v → w.cell? ⟨b, o + j, none⟩ = some v) :
  (loadCells ⟨b, o, none⟩ vs.length).run P w = .ok ⟨vs⟩ w := by
 have := run_loadCells_list (P := P) w ⟨b, o, none⟩ vs fun j v hv => by rw [addr_add]; exact h j v hv
 simpa using this
theorem relL_take {w : World} {S : Nat → Nat → Prop} {ds : List Dat} {vs : List Value} (h : RelL w S ds vs) (n : Nat) : RelL w S (ds.take n) (vs.take n) := by
 have hl := relL_length h
 refine relL_mk (by simp [hl]) fun j d v hd hv => ?_
 rw [List.getElem?_take] at hd hv
 split at hd
 ·rename_i hj
  rw [if_pos hj] at hv
  obtain ⟨u, hu, hr⟩ := relL_get h hd
  rw [hu] at hv; injection hv with hv; subst hv; exact hr
 ·simp at hd
theorem load_same (I : Inv B E) {t : TypeId} {k : Option Nat} (hk : sizeA P t = some k) {a : AV} {v : Value} (hr : RelA E a v) {r : AV} (h : loadAt E.H k a = some r) :
  ∃ u, (Instr.loadAt t v).run P E.w = .ok u E.w ∧ RelA E r u := by
 unfold loadAt at h
 split at h
 ·rename_i cs
  simp only [RelA,RelD] at hr
  obtain ⟨bl, o, rfl, hC⟩ := hr
  cases k with
  | none =>
   simp only at h
   cases hc : cs[0]? with
   | none => rw [hc] at h; simp at h
   | some d =>
    rw [hc] at h; simp at h; subst h
    obtain ⟨u, hu, _, _, hd⟩ := relC_get hC hc
    refine ⟨u, ?_, by simpa only [RelA] using hd⟩
    simp only [Instr.loadAt,Instr.sureAddr,loadVar,Sem.run_bind,Sem.run_pure,Result.andThen_ok,isAgg_run (sizeA_none hk),Sem.run_ite,run_load]
    simp only [Nat.add_zero] at hu
    simp [hu]
  | some n =>
   simp only at h
   split at h
   ·rename_i hn
    injection h with h; subst h
    obtain ⟨h1, i, hi, rfl⟩ := sizeA_some hk
    obtain ⟨vs, a1, _, a3⟩ := relC_vals hC
    have hvl := relL_length a1
    have hld := run_loadCells_rel (P := P) (w := E.w) (b := bl) (o := o) (vs := vs.take i.size) (fun j u hu => a3 j u (by
     rw [List.getElem?_take] at hu
     split at hu
     ·exact hu
     ·simp at hu))
    rw [List.length_take, Nat.min_eq_left (by omega)] at hld
    refine ⟨.agg ⟨vs.take i.size⟩, ?_, by simp only [RelA,RelD]; exact ⟨_, rfl, relL_take a1 _⟩⟩
    simp only [Instr.loadAt,Instr.sureAddr,loadVar,Sem.run_bind,Sem.run_pure,Result.andThen_ok,isAgg_run h1,Sem.run_ite,sizeOf,typeInfo,run_program,hi]
    simp [hld]
   ·simp at h
 ·rename_i id p j
  simp only [RelA] at hr
  obtain ⟨rfl, ho⟩ := hr
  split at h
  ·rename_i _ es hes
   obtain ⟨own, _, hO⟩ := I.obj id _ es hes
   split at h
   ·rename_i e he
    obtain ⟨hel, hcells⟩ := hO p e he
    cases k with
    | none =>
     simp only at h
     obtain ⟨u, hu, hd, _⟩ := hcells j r h
     refine ⟨u, ?_, hd⟩
     simp only [Instr.loadAt,Instr.sureAddr,loadVar,Sem.run_bind,Sem.run_pure,Result.andThen_ok,isAgg_run (sizeA_none hk),Sem.run_ite,run_load]
     simp [hu]
    | some n =>
     simp only at h
     split at h
     ·rename_i hn
      injection h with h; subst h
      obtain ⟨h1, i, hi, rfl⟩ := sizeA_some hk
      have hex : ∀ q, q < i.size → ∃ u a, E.w.cell? ⟨(E.m id).1, (E.m id).2.1 + p * (E.m id).2.2 + j + q, none⟩ = some u ∧ e[j + q]? = some a ∧ RelA E a u := fun q hq => by
       have hlt : j + q < e.length := by omega
       obtain ⟨u, hu, hd, _⟩ := hcells (j + q) _ (List.getElem?_eq_getElem hlt)
       exact ⟨u, _, by rw [Nat.add_assoc _ j q]; exact hu, List.getElem?_eq_getElem hlt, hd⟩
      let f : Nat → Value := fun q => (E.w.cell? ⟨(E.m id).1, (E.m id).2.1 + p * (E.m id).2.2 + j + q, none⟩).getD undef
      have hld := run_loadCells (P := P) E.w ⟨(E.m id).1, (E.m id).2.1 + p * (E.m id).2.2 + j, none⟩ i.size f (fun q hq => by
       obtain ⟨u, _, hu, _⟩ := hex q hq
       rw [addr_add]; simp only [f,hu,Option.getD_some])
      refine ⟨.agg ((List.range i.size).map f).toArray, ?_, mkAgg_ok (relAs_mk (by simp; omega) fun q a v ha hv => ?_)⟩
      ·simp only [Instr.loadAt,Instr.sureAddr,loadVar,Sem.run_bind,Sem.run_pure,Result.andThen_ok,isAgg_run h1,Sem.run_ite,sizeOf,typeInfo,run_program,hi]
       simp [hld]
      ·have hq := (List.getElem?_eq_some_iff.1 hv).1
       simp at hq
       obtain ⟨u, a', hu, ha', hr⟩ := hex q hq
       simp only [List.getElem?_take,hq,if_true,List.getElem?_drop,ha'] at ha
       injection ha with ha; subst ha
       simp [hq, f, hu] at hv
       subst hv; exact hr
     ·simp at h
   ·simp at h
  ·simp at h
 ·simp at h
theorem good_load (I : Inv B E) {t : TypeId} {k : Option Nat} (hk : sizeA P t = some k) {a : AV} {v : Value} (hr : RelA E a v) {r : AV} (h : loadAt E.H k a = some r) :
  Good P B E (Instr.loadAt t v) r E.H :=
 let ⟨_, h1, h2⟩ := load_same I hk hr h
 good_same I h1 h2
theorem setAt_length {α : Type} : ∀ (cs e : List α) (j : Nat), (setAt e j cs).length = e.length
 | [], _, _ => rfl
 | c :: cs, e, j => by rw [setAt, setAt_length cs]; simp
theorem setAt_out {α : Type} : ∀ (cs e : List α) (j k : Nat), (k < j ∨ j + cs.length ≤ k) → (setAt e j cs)[k]? = e[k]?
 | [], _, _, _, _ => rfl
 | c :: cs, e, j, k, h => by
  simp only [List.length_cons] at h
  rw [setAt, setAt_out cs _ _ _ (by omega), List.getElem?_set_ne (by omega)]
theorem setAt_in {α : Type} : ∀ (cs e : List α) (j q : Nat), q < cs.length → j + cs.length ≤ e.length → (setAt e j cs)[j + q]? = cs[q]?
 | c :: cs, e, j, 0, _, h => by
  have h' : j + (cs.length + 1) ≤ e.length := by simpa using h
  rw [setAt, setAt_out cs _ _ _ (by omega), Nat.add_zero, List.getElem?_set_self (by omega)]
  rfl
 | c :: cs, e, j, q + 1, hq, h => by
  simp only [List.length_cons] at h hq
  rw [setAt, show j + (q + 1) = j + 1 + q by omega, setAt_in cs _ _ q (by omega) (by simp; omega)]
  simp
theorem relO_write {E E' : Env} {es : List (List AV)} {b o s : Nat} (hO : RelO E es b o s) {p j : Nat} {e : List AV} (he : es[p]? = some e) {cs : List AV} {vs : List Value}
  (hcs : RelAs E' cs vs) (hok : cs.all cellOk = true) (hj : j + cs.length ≤ e.length) (hext : ∀ a v, RelA E a v → RelA E' a v)
  (hw : E'.w = E.w.setCells b (o + p * s + j) vs) : RelO E' (es.set p (setAt e j cs)) b o s := by
 have hvl := relAs_length hcs
 intro i e' he'
 have hel := (hO p e he).1
 have hth : ∀ q, q < vs.length → (E.w.cell? ⟨b, o + p * s + j + q, none⟩).isSome = true := fun q hq => by
  have hlt : j + q < e.length := by omega
  obtain ⟨u, hu, _⟩ := (hO p e he).2 (j + q) _ (List.getElem?_eq_getElem hlt)
  rw [show o + p * s + j + q = o + p * s + (j + q) by omega, hu]; rfl
 by_cases hip : i = p
 ·subst hip
  rw [List.getElem?_set_self (List.getElem?_eq_some_iff.1 he).1] at he'
  injection he' with he'; subst he'
  refine ⟨by rw [setAt_length]; exact hel, fun q a ha => ?_⟩
  by_cases hq : j ≤ q ∧ q < j + cs.length
  ·rw [show q = j + (q - j) by omega, setAt_in cs e j (q - j) (by omega) hj] at ha
   obtain ⟨v, hv, hr⟩ := relAs_get hcs ha
   refine ⟨v, ?_, hr, all_get hok ha⟩
   have := World.cell?_setCells_in b vs (o + i * s + j) E.w hth (q - j) (by omega)
   rw [hw, show o + i * s + q = o + i * s + j + (q - j) by omega, this]
   rw [List.getElem?_eq_getElem (by omega)] at hv
   exact hv
  ·rw [setAt_out cs e j q (by omega)] at ha
   obtain ⟨v, hv, hr, hk⟩ := (hO i e he).2 q a ha
   refine ⟨v, ?_, hext a v hr, hk⟩
   rw [hw, World.cell?_setCells_out _ _ _ _ _ (fun _ _ => by simp only; omega)]
   exact hv
 ·rw [List.getElem?_set_ne (fun e => hip e.symm)] at he'
  obtain ⟨h1, h2⟩ := hO i e' he'
  refine ⟨h1, fun q a ha => ?_⟩
  obtain ⟨v, hv, hr, hk⟩ := h2 q a ha
  refine ⟨v, ?_, hext a v hr, hk⟩
  have hqs : q < s := by have := (List.getElem?_eq_some_iff.1 ha).1; omega
  rw [hw, World.cell?_setCells_out _ _ _ _ _ (fun _ _ => ?_)]
  ·exact hv
  ·simp only
   rcases Nat.lt_or_gt_of_ne hip with h | h
   ·left
    have : (i + 1) * s ≤ p * s := Nat.mul_le_mul_right _ h
    rw [Nat.add_mul] at this; omega
   ·right
    have : (p + 1) * s ≤ i * s := Nat.mul_le_mul_right _ h
    rw [Nat.add_mul] at this; omega
theorem ext_write (I : Inv B E) {id : Nat} {ty : Option (TypeId × Nat)} {es es' : List (List AV)} (ho : E.H[id]? = some (.obj ty es)) (o : Nat) (vs : List Value) :
  Ext B E ⟨E.w.setCells (E.m id).1 o vs, E.S, E.m, E.H.set id (.obj ty es')⟩ := by
 obtain ⟨own, nS, _⟩ := I.obj id ty es ho
 exact {
  ss := fun _ _ h => h
  cell := fun b k hs => cell_setCells_ne (fun e => nS k (e ▸ hs))
  size := by simp only [size_setCells]; exact Nat.le_refl _
  low := fun k hk => block_setCells (fun e => own.base (by subst e; exact hk))
  there := fun b k h => there_setCells h
  snew := fun _ _ h => .inl h
  os := same_setCells.1
  tape := same_setCells.2.1
  output := same_setCells.2.2
  len := by simp
  obj := fun i hi => ⟨isObj_set hi fun _ => trivial, rfl⟩
  hw := fun i _ n hn => ⟨n, by
   simp only
   rw [List.getElem?_set_ne (fun e => by subst e; rw [ho] at hn; simp at hn)]
   exact hn, Nat.le_refl _, fun _ => rfl⟩ }
theorem good_store (I : Inv B E) {t : TypeId} {i : TypeInfo} (hi : P.info? t = some i) {a x : AV} {va vx : Value} (hra : RelA E a va) (hrx : RelA E x vx) {H' : Heap}
  (h : storeAt E.H i.size a x = some H') : GoodU P B E (Instr.storeAt t va vx) H' := by
 unfold storeAt at h
 split at h
 ·rename_i id p j
  split at h
  ·rename_i ty es hes
   split at h
   ·rename_i e he
    simp only at h
    split at h
    ·rename_i hc
     obtain ⟨hlen, hfit, hok⟩ := hc
     injection h with h
     simp only [RelA] at hra
     obtain ⟨rfl, _⟩ := hra
     have hcs := relAs_cells hrx hok
     have hcl := relAs_length hcs
     obtain ⟨own, nS, hO⟩ := I.obj id ty es hes
     have X := ext_write (es' := es.set p (setAt e j (cellsOf x))) I hes ((E.m id).2.1 + p * (E.m id).2.2 + j) vx.cells.toList
     have hO' := relO_write (E' := ⟨E.w.setCells (E.m id).1 ((E.m id).2.1 + p * (E.m id).2.2 + j) vx.cells.toList, E.S, E.m, E.H.set id (.obj ty (es.set p (setAt e j (cellsOf x))))⟩) hO he
      (relAs_ext X _ _ hcs) hok (by omega) (relA_ext X) rfl
     obtain ⟨I', X'⟩ := I.store hes _ _ hO'
     refine ⟨_, ?_, h, I', X'⟩
     have hst := run_storeCells_cells (P := P) (E.m id).1 ((E.m id).2.1 + p * (E.m id).2.2 + j) vx.cells.toList 0 E.w (fun q hq => by
       have hlt : j + q < e.length := by omega
       obtain ⟨u, hu, _⟩ := (hO p e he).2 (j + q) _ (List.getElem?_eq_getElem hlt)
       rw [show (E.m id).2.1 + p * (E.m id).2.2 + j + 0 + q = (E.m id).2.1 + p * (E.m id).2.2 + (j + q) by omega, hu]; rfl)
      (fun q _ => own.free _ (Nat.zero_le _)) (fun v hv => by
       obtain ⟨q, hq⟩ := List.mem_iff_getElem?.1 hv
       have hlt : q < (cellsOf x).length := by have := (List.getElem?_eq_some_iff.1 hq).1; omega
       obtain ⟨u, hu, hr⟩ := relAs_get hcs (List.getElem?_eq_getElem hlt)
       rw [hq] at hu; injection hu with hu; subst hu
       exact (cellOk_one hr (all_get hok (List.getElem?_eq_getElem hlt))).1)
     simp only [Nat.add_zero] at hst
     have hsz : vx.cells.size = i.size := by rw [← hlen, ← hcl]; simp
     simp [Instr.storeAt, Instr.sureAddr, storeVar, sizeOf, typeInfo, hi, hsz, hst]
    ·simp at h
   ·simp at h
  ·simp at h
 ·simp at h
end
end Go.Abs
end
section
set_option linter.unusedVariables false
set_option linter.unusedSimpArgs false
namespace Go.Abs
section
variable {P : Program} {B : Low} {E : Env}
theorem bytesLt_eq : ∀ (a b : List UInt8), Op.bytesLess a b = bytesLt a b
 | _, [] => by cases ‹List UInt8› <;> rfl
 | [], _ :: _ => rfl
 | a :: x, b :: y => by simp only [Op.bytesLess,bytesLt,bytesLt_eq x y]
theorem run_binInt {op : BinOp} {k : IntKind} {x y : Int} {d : Dat} (h : binInt op k x y = some d) (hs : isShift op = false) (t : TypeId) (w : World) :
  ∃ v, (binOp op t (.int k x) (.int k y)).run P w = .ok v w ∧ ∀ S, RelD w S d v := by
 cases op <;> simp only [binInt] at h <;> first
  |(simp [isShift] at hs; done)
  |(injection h with h; subst h
    refine ⟨.int k _, by simp only [binOp_add,binOp_sub,binOp_mul,binOp_and,binOp_or,binOp_xor,binOp_andNot,Op.intArith,intBits_and,intBits_or,intBits_xor,intBits_andNot,bits,Sem.run_pure]; rfl, fun S => by simp only [RelD]⟩; done)
  |(injection h with h; subst h
    refine ⟨.bool _, by simp only [binOp_eql,binOp_neq,binOp_lss,binOp_leq,binOp_gtr,binOp_geq,Sem.run_pure]; rfl, fun S => ?_⟩
    show Value.bool _ = Value.bool _
    first | rfl | (congr 1; by_cases hxy : x = y <;> simp [hxy]; done))
  |(split at h
    ·simp at h
    ·rename_i hy
     injection h with h; subst h
     exact ⟨_, by simp [binOp, Op.intDiv, hy]; rfl, fun S => by simp only [RelD]⟩)
theorem run_binShift {op : BinOp} {k k' : IntKind} {x y : Int} {d : Dat} (h : binShift op k x y = some d) (t : TypeId) (w : World) :
  ∃ v, (binOp op t (.int k x) (.int k' y)).run P w = .ok v w ∧ ∀ S, RelD w S d v := by
 unfold binShift at h
 split at h
 ·simp at h
 ·rename_i hy
  cases op <;> simp only at h <;> first
   |(simp at h; done)
   |(injection h with h; subst h; exact ⟨_, by simp [binOp, Op.shift, hy]; rfl, fun S => by simp only [RelD]⟩)
theorem run_binFlt {op : BinOp} {k : FloatKind} {x y : Nat} {d : Dat} (h : binFlt op k x y = some d) (t : TypeId) (w : World) :
  ∃ v, (binOp op t (.float k x) (.float k y)).run P w = .ok v w ∧ ∀ S, RelD w S d v := by
 cases op <;> simp only [binFlt] at h <;> first
  |(simp at h; done)
  |(split at h
    ·rename_i r hr
     injection h with h; subst h
     exact ⟨_, by simp [binOp, Op.floatArith, hr]; rfl, fun S => by simp only [RelD]⟩
    ·simp at h)
  |(injection h with h; subst h; exact ⟨_, by simp [binOp, Op.floatCmp]; rfl, fun S => by simp only [RelD]⟩)
theorem run_binCpx {op : BinOp} {k : FloatKind} {a b c e : Nat} {d : Dat} (h : binCpx op k a b c e = some d) (t : TypeId) (w : World) :
  ∃ v, (binOp op t (.complex k a b) (.complex k c e)).run P w = .ok v w ∧ ∀ S, RelD w S d v := by
 cases op <;> simp only [binCpx] at h <;> first
  |(simp at h; done)
  |(split at h
    ·rename_i r i hr hi
     injection h with h; subst h
     exact ⟨_, by simp [binOp, Op.complexOp, Op.Complex.arith, Op.floatArith, hr, hi]; rfl, fun S => by simp only [RelD]⟩
    ·simp at h
    done)
  |(injection h with h; subst h
    exact ⟨.bool _, by simp only [binOp,ne_eq,not_true,if_false,Op.complexOp,Op.Complex.cmp,Op.floatCmp,asBool,Sem.run_bind,Sem.run_pure,Result.andThen_ok]; rfl, fun S => by simp only [RelD]⟩)
  |(split at h
    ·rename_i hk
     subst hk
     split at h
     ·rename_i ac bd ad bc h1 h2 h3 h4
      split at h
      ·rename_i r i h5 h6
       injection h with h; subst h
       exact ⟨_, by simp [binOp, Op.complexOp, Op.Complex.conv, Op.Complex.product, Op.Complex.mul, Op.Complex.sub, Op.Complex.add, Op.Complex.arith, Op.floatArith, h1, h2, h3, h4, h5, h6]; rfl, fun S => by simp only [RelD]⟩
      ·simp at h
     ·simp at h
    ·simp at h)
theorem run_binStr {op : BinOp} {x y : List UInt8} {d : Dat} (h : binStr op x y = some d) (t : TypeId) (w : World) :
  ∃ v, (binOp op t (.string ⟨x.toArray⟩) (.string ⟨y.toArray⟩)).run P w = .ok v w ∧ ∀ S, RelD w S d v := by
 have hx : (ByteArray.mk x.toArray).toList = x := ByteArray.toList_mk x
 have hy : (ByteArray.mk y.toArray).toList = y := ByteArray.toList_mk y
 have hbe : (x == y) = decide (x = y) := by by_cases h : x = y <;> simp [h]
 by_cases hop : op = .add
 ·subst hop
  simp only [binStr] at h
  split at h
  ·rename_i hle
   injection h with h; subst h
   have hsz : (ByteArray.mk x.toArray).size + (ByteArray.mk y.toArray).size = x.length + y.length := by simp [ByteArray.size]
   have hno : ¬ ((((ByteArray.mk x.toArray).size + (ByteArray.mk y.toArray).size : Nat) : Int) > IntKind.i64.max) := by rw [hsz, IntKind.max_i64]; omega
   refine ⟨.string (ByteArray.mk x.toArray ++ ByteArray.mk y.toArray), ?_, fun S => ?_⟩
   ·simp only [binOp,Op.stringOp]
    rw [if_neg hno]
    rfl
   ·simp only [RelD]
    congr 1
  ·simp at h
 ·cases op <;> simp only [binStr] at h <;> first
   | exact absurd rfl hop
   |(simp at h; done)
   |(injection h with h; subst h
     refine ⟨.bool _, by simp only [binOp,Op.stringOp,hx,hy]; rfl, fun S => ?_⟩
     simp only [RelD,bytesLt_eq,hbe])
theorem good_bin {op : BinOp} {a b r : AV} {va vb : Value} (h : binA op a b = some r) (ha : RelA E a va) (hb : RelA E b vb) (t : TypeId) (x y : Operand) :
  ∃ v, (do eqGuard op t x y va vb; binOp op t va vb : Sem Value).run P E.w = .ok v E.w ∧ RelA E r v := by
 unfold binA at h
 split at h
 ·rename_i k x' k' y'
  simp only [RelA,RelD] at ha hb
  subst ha hb
  simp only [eqGuard_at_int]
  split at h
  ·cases hd : binShift op k x' y' with
   | none => rw [hd] at h; simp at h
   | some d =>
    rw [hd] at h; injection h with h; subst h
    obtain ⟨v, h1, h2⟩ := run_binShift (P := P) (k' := k') hd t E.w
    exact ⟨v, by simpa using h1, by simp only [RelA]; exact h2 _⟩
  ·rename_i hs
   split at h
   ·rename_i hk
    subst hk
    cases hd : binInt op k x' y' with
    | none => rw [hd] at h; simp at h
    | some d =>
     rw [hd] at h; injection h with h; subst h
     obtain ⟨v, h1, h2⟩ := run_binInt (P := P) hd (by simpa using hs) t E.w
     exact ⟨v, by simpa using h1, by simp only [RelA]; exact h2 _⟩
   ·simp at h
 ·rename_i k x' k' y'
  simp only [RelA,RelD] at ha hb
  subst ha hb
  simp only [eqGuard_at_float]
  split at h
  ·rename_i hk
   subst hk
   cases hd : binFlt op k x' y' with
   | none => rw [hd] at h; simp at h
   | some d =>
    rw [hd] at h; injection h with h; subst h
    obtain ⟨v, h1, h2⟩ := run_binFlt (P := P) hd t E.w
    exact ⟨v, by simpa using h1, by simp only [RelA]; exact h2 _⟩
  ·simp at h
 ·rename_i k a' b' k' c' d'
  simp only [RelA,RelD] at ha hb
  subst ha hb
  simp only [eqGuard_at_complex]
  split at h
  ·rename_i hk
   subst hk
   cases hd : binCpx op k a' b' c' d' with
   | none => rw [hd] at h; simp at h
   | some d =>
    rw [hd] at h; injection h with h; subst h
    obtain ⟨v, h1, h2⟩ := run_binCpx (P := P) hd t E.w
    exact ⟨v, by simpa using h1, by simp only [RelA]; exact h2 _⟩
  ·simp at h
 ·rename_i x' y'
  simp only [RelA,RelD] at ha hb
  subst ha hb
  simp only [eqGuard_at_string]
  cases hd : binStr op x' y' with
  | none => rw [hd] at h; simp at h
  | some d =>
   rw [hd] at h; injection h with h; subst h
   obtain ⟨v, h1, h2⟩ := run_binStr (P := P) hd t E.w
   exact ⟨v, by simpa using h1, by simp only [RelA]; exact h2 _⟩
 ·simp at h
theorem good_binN {op : BinOp} {a r : AV} {va : Value} (h : binNil op a = some r) (ha : RelA E a va) {t e : TypeId} (ht : P.underlying t = some (.slice e)) (x y : Operand) :
  ∃ v, (do eqGuard op t x y va (.slice none 0 0); binOp op t va (.slice none 0 0) : Sem Value).run P E.w = .ok v E.w ∧ RelA E r v := by
 have key : ∀ bl, nilA a = some bl → ∃ b l c, va = .slice b l c ∧ b.isNone = bl := by
  intro bl hn
  unfold nilA at hn
  split at hn
  ·injection hn with hn; subst hn
   simp only [RelA] at ha
   exact ⟨_, _, _, ha, rfl⟩
  ·injection hn with hn; subst hn
   simp only [RelA] at ha
   obtain ⟨b, c, rfl, _, he, _⟩ := ha
   rcases he with he | ⟨bl, o, rfl, _⟩
   ·cases he
   ·exact ⟨_, _, _, rfl, rfl⟩
  ·injection hn with hn; subst hn
   simp only [RelA] at ha
   obtain ⟨c, rfl, _⟩ := ha
   exact ⟨_, _, _, rfl, rfl⟩
  ·injection hn with hn; subst hn
   simp only [RelA,RelD] at ha
   obtain ⟨b, c, rfl, _, he⟩ := ha
   rcases he with he | ⟨bl, o, rfl, _⟩
   ·cases he
   ·exact ⟨_, _, _, rfl, rfl⟩
  ·simp at hn
 unfold binNil at h
 split at h
 ·rename_i bl hn
  obtain ⟨b, l, c, rfl, hb⟩ := key bl hn
  subst hb
  simp only [eqGuard_at_slice]
  have h1 := run_equal_slice_nil E.w (P := P) t e b l c ht
  split at h
  ·injection h with h; subst h
   exact ⟨.bool b.isNone, by simp only [binOp,pure_bind]; simp [h1], by simp only [RelA,RelD]⟩
  ·injection h with h; subst h
   exact ⟨.bool (!b.isNone), by simp only [binOp,pure_bind]; simp [h1], by simp only [RelA,RelD]⟩
  ·simp at h
 ·simp at h
theorem run_part_flat {e : TypeId} {td : TypeDesc} (hu : P.underlying e = some td) (he : td = .bool ∨ (∃ k, td = .int k) ∨ td = .string) {xs : Array Value} {off : Nat} {v : Value} (hx : xs[off]? = some v) (w : World) : (part e xs off).run P w = .ok v w := by
 rcases he with rfl | ⟨k, rfl⟩ | rfl <;> simp [part, isAgg, run_underlying hu, hx]
theorem run_eqFields {w : World} {S : Nat → Nat → Prop} (d : Nat) : ∀ (fs : List Field) (pre1 pre2 : List Value) (i : Nat) (ks : List Nat) (as bs : List Dat) (xs ys : List Value) (r : Bool), flatF P i fs = some ks → pre1.length = i → pre2.length = i → RelL w S as xs → RelL w S bs ys → datsEq ks as bs = some r →
  (Op.eqFields (d + 1) ⟨pre1 ++ xs⟩ ⟨pre2 ++ ys⟩ fs).run P w = .ok r w := by
 intro fs
 induction fs with
 | nil =>
  intro pre1 pre2 i ks as bs xs ys r hf _ _ h1 h2 he
  simp only [flatF] at hf
  injection hf with hf
  subst hf
  cases as <;> cases bs <;> simp [datsEq] at he
  subst he
  simp [Op.eqFields]
 | cons f fs ih =>
  intro pre1 pre2 i ks as bs xs ys r hf hp1 hp2 h1 h2 he
  simp only [flatF] at hf
  split at hf
  ·rename_i hc
   obtain ⟨ho, hn⟩ := hc
   split at hf
   ·rename_i ks' hks
    have step : ∀ (k : Nat) (td : TypeDesc), P.underlying f.type = some td → (td = .bool ∨ (∃ k, td = .int k) ∨ td = .string) →
      (∀ (a b : Dat) (v u : Value) (x : Bool), datEq k a b = some x → RelD w S a v → RelD w S b u → (Op.equalIn (d + 1) f.type v u).run P w = .ok x w) →
      datsEq (k :: ks') as bs = some r → (Op.eqFields (d + 1) ⟨pre1 ++ xs⟩ ⟨pre2 ++ ys⟩ (f :: fs)).run P w = .ok r w := by
     intro k td htd hflat hone he
     cases as with
     | nil => simp [datsEq] at he
     | cons a as =>
      cases bs with
      | nil => simp [datsEq] at he
      | cons b bs =>
       simp only [RelL] at h1 h2
       obtain ⟨v, xs', rfl, hv, hxs⟩ := h1
       obtain ⟨u, ys', rfl, hu, hys⟩ := h2
       have hx0 : (⟨pre1 ++ v :: xs'⟩ : Array Value)[f.offset]? = some v := by simp [ho, ← hp1]
       have hy0 : (⟨pre2 ++ u :: ys'⟩ : Array Value)[f.offset]? = some u := by simp [ho, ← hp2]
       simp only [datsEq] at he
       split at he
       ·rename_i x hx
        split at he
        ·rename_i y hy
         injection he with he
         have ihh := ih (pre1 ++ [v]) (pre2 ++ [u]) (i + 1) ks' as bs xs' ys' y hks (by simp [hp1]) (by simp [hp2]) hxs hys hy
         simp only [List.append_assoc,List.cons_append,List.nil_append] at ihh
         have heq := hone a b v u x hx hv hu
         simp only [Op.eqFields,hn,ne_eq,not_false_eq_true,if_true,Sem.run_bind,run_part_flat htd hflat hx0,run_part_flat htd hflat hy0,Result.andThen_ok,heq]
         cases x with
         | true =>
          simp only [Bool.not_true,Bool.false_eq_true,if_false]
          rw [ihh, ← he]; rfl
         | false =>
          rw [← he]
          simp
        ·cases he
       ·cases he
    split at hf
    ·rename_i ht
     injection hf with hf; subst hf
     refine step 0 _ ht (.inl rfl) (fun a b v u x hx hv hu => ?_) he
     cases a <;> cases b <;> simp only [datEq] at hx <;> try (cases hx; done)
     injection hx with hx; subst hx
     simp only [RelD] at hv hu
     subst hv hu
     exact run_equalIn_bool (P := P) w d f.type _ _ ht
    ·rename_i k' ht
     injection hf with hf; subst hf
     refine step 1 _ ht (.inr (.inl ⟨k', rfl⟩)) (fun a b v u x hx hv hu => ?_) he
     cases a <;> cases b <;> simp only [datEq] at hx <;> try (cases hx; done)
     split at hx
     ·rename_i hk
      subst hk
      injection hx with hx; subst hx
      simp only [RelD] at hv hu
      subst hv hu
      exact run_equalIn_int (P := P) w d f.type _ k' _ _ ht
     ·cases hx
    ·rename_i ht
     injection hf with hf; subst hf
     refine step 2 _ ht (.inr (.inr rfl)) (fun a b v u x hx hv hu => ?_) he
     cases a <;> cases b <;> simp only [datEq] at hx <;> try (cases hx; done)
     injection hx with hx; subst hx
     simp only [RelD] at hv hu
     subst hv hu
     rw [run_equalIn_string (P := P) w d f.type _ _ ht]
     congr 1
     simp [ByteArray.toList_eq]
    ·cases hf
   ·cases hf
  ·cases hf
theorem good_binB {op : BinOp} {a b r : AV} {va vb : Value} (h : binBool op a b = some r) (ha : RelA E a va) (hb : RelA E b vb) {t : TypeId} (ht : P.underlying t = some .bool) (x y : Operand) :
  ∃ v, (do eqGuard op t x y va vb; binOp op t va vb : Sem Value).run P E.w = .ok v E.w ∧ RelA E r v := by
 unfold binBool at h
 split at h
 ·rename_i x' y'
  simp only [RelA,RelD] at ha hb
  subst ha hb
  simp only [eqGuard_at_bool]
  have he : (Op.equal t (.bool x') (.bool y')).run P E.w = .ok (x' == y') E.w := run_equalIn_bool (P := P) E.w 9999 t x' y' ht
  split at h
  ·injection h with h; subst h
   exact ⟨_, by simp [binOp, he]; rfl, by simp only [RelA,RelD]⟩
  ·injection h with h; subst h
   exact ⟨_, by simp [binOp, he]; rfl, by simp only [RelA,RelD]⟩
  ·simp at h
 ·simp at h
theorem good_un {op : UnOp} {a r : AV} {v : Value} (h : unA op a = some r) (ha : RelA E a v) :
  ∃ u, (Op.unary op v).run P E.w = .ok u E.w ∧ RelA E r u := by
 unfold unA at h
 split at h
 ·rename_i k n
  simp only [RelA,RelD] at ha; subst ha
  split at h
  ·injection h with h; subst h
   exact ⟨.int k _, by simp only [Op.unary,Op.intArith,Sem.run_pure]; rfl, by simp only [RelA,RelD]⟩
  ·cases hd : binInt .xor k (if k.signed then -1 else k.max) n with
   | none => rw [hd] at h; simp at h
   | some d =>
    rw [hd] at h; injection h with h; subst h
    simp only [binInt] at hd
    injection hd with hd; subst hd
    exact ⟨_, by simp only [Op.unary,Op.intBits]; rfl, by simp only [RelA,RelD]⟩
  ·simp at h
 ·simp only [RelA,RelD] at ha; subst ha
  split at h
  ·injection h with h; subst h
   exact ⟨_, by simp [Op.unary]; rfl, by simp only [RelA,RelD]⟩
  ·simp at h
 ·simp only [RelA,RelD] at ha; subst ha
  split at h
  ·injection h with h; subst h
   exact ⟨_, by simp [Op.unary, Op.negFloat]; rfl, by simp only [RelA,RelD,negBits]⟩
  ·simp at h
 ·simp only [RelA,RelD] at ha; subst ha
  split at h
  ·injection h with h; subst h
   exact ⟨_, by simp [Op.unary, Op.negFloat]; rfl, by simp only [RelA,RelD,negBits]⟩
  ·simp at h
 ·simp at h
theorem good_min {a b r : AV} {va vb : Value} (h : minA a b = some r) (ha : RelA E a va) (hb : RelA E b vb) (ts : Array TypeId) (ty : TypeId) :
  ∃ v, (Builtin.min_ ts ty #[va, vb]).run P E.w = .ok v E.w ∧ RelA E r v := by
 unfold minA at h
 split at h
 ·simp only [RelA,RelD] at ha hb; subst ha hb
  injection h with h; subst h
  exact ⟨_, by simp [Builtin.min_, Builtin.min2]; rfl, by simp only [RelA,RelD]⟩
 ·simp at h
theorem good_max {a b r : AV} {va vb : Value} (h : maxA a b = some r) (ha : RelA E a va) (hb : RelA E b vb) (ts : Array TypeId) (ty : TypeId) :
  ∃ v, (Builtin.max_ ts ty #[va, vb]).run P E.w = .ok v E.w ∧ RelA E r v := by
 unfold maxA at h
 split at h
 ·simp only [RelA,RelD] at ha hb; subst ha hb
  injection h with h; subst h
  exact ⟨_, by simp [Builtin.max_, Builtin.max2]; rfl, by simp only [RelA,RelD]⟩
 ·simp at h
end
end Go.Abs
end
section
set_option linter.unusedVariables false
set_option linter.unusedSimpArgs false
namespace Go.Abs
section
variable {P : Program} {B : Low} {E : Env}
theorem run_sizeOf {t : TypeId} {i : TypeInfo} (h : P.info? t = some i) (w : World) : (sizeOf t).run P w = .ok i.size w := by
 simp [sizeOf, typeInfo, h]
theorem relA_intOf {a : AV} {v : Value} {n : Int} (h : intOfA a = some n) (hr : RelA E a v) : ∃ k, v = .int k n := by
 unfold intOfA at h
 split at h
 ·rename_i k m
  injection h with h; subst h
  simp only [RelA,RelD] at hr
  exact ⟨k, hr⟩
 ·simp at h
theorem idx_spec {a : AV} {v : Value} {n k : Nat} (h : idx a n = some k) (hr : RelA E a v) : ∃ i z, v = .int i z ∧ 0 ≤ z ∧ z < n ∧ z.toNat = k ∧ k < n := by
 unfold idx at h
 cases hi : intOfA a with
 | none => rw [hi] at h; simp at h
 | some z =>
  rw [hi] at h
  simp only at h
  split at h
  ·rename_i hz
   injection h with h
   obtain ⟨i, rfl⟩ := relA_intOf hi hr
   exact ⟨i, z, rfl, hz.1, hz.2, h, by omega⟩
  ·simp at h
theorem aggCells_spec {a : AV} {v : Value} {cs : List AV} (h : aggCells a = some cs) (hr : RelA E a v) : ∃ vs : List Value, v = .agg ⟨vs⟩ ∧ RelAs E cs vs := by
 unfold aggCells at h
 split at h
 ·injection h with h; subst h
  simp only [RelA,RelD] at hr
  obtain ⟨vs, rfl, hl⟩ := hr
  exact ⟨vs, rfl, relAs_of_relL hl⟩
 ·injection h with h; subst h
  simp only [RelA] at hr
  obtain ⟨vs, rfl, hl⟩ := hr
  exact ⟨vs, rfl, hl⟩
 ·simp at h
theorem relAs_sub {cs : List AV} {vs : List Value} (h : RelAs E cs vs) (o n : Nat) : RelAs E ((cs.drop o).take n) ((vs.drop o).take n) := by
 have hl := relAs_length h
 refine relAs_mk (by simp [hl]) fun j a v ha hv => ?_
 rw [List.getElem?_take] at ha hv
 split at ha
 ·rename_i hj
  rw [if_pos hj, List.getElem?_drop] at hv
  rw [List.getElem?_drop] at ha
  obtain ⟨u, hu, hr⟩ := relAs_get h ha
  rw [hu] at hv; injection hv with hv; subst hv; exact hr
 ·simp at ha
theorem good_part {t : TypeId} {k : Option Nat} (hk : sizeA P t = some k) {cs : List AV} {vs : List Value} (hr : RelAs E cs vs) {off : Nat} {r : AV} (h : partA k cs off = some r) :
  ∃ v, (part t ⟨vs⟩ off).run P E.w = .ok v E.w ∧ RelA E r v := by
 unfold partA at h
 cases k with
 | none =>
  simp only at h
  obtain ⟨u, hu, hru⟩ := relAs_get hr h
  refine ⟨u, ?_, hru⟩
  simp only [part,Sem.run_bind,isAgg_run (sizeA_none hk),Result.andThen_ok]
  simp [hu]
 | some n =>
  simp only at h
  split at h
  ·injection h with h; subst h
   obtain ⟨h1, i, hi, rfl⟩ := sizeA_some hk
   refine ⟨.agg ⟨(vs.drop off).take i.size⟩, ?_, relA_mkAgg (relAs_sub hr off _)⟩
   simp [part, isAgg_run h1, run_sizeOf hi]
  ·simp at h
theorem relC_drop {w : World} {S : Nat → Nat → Prop} : ∀ {ds : List Dat} {b o : Nat}, RelC w S ds b o → ∀ n, RelC w S (ds.drop n) b (o + n)
 | ds, b, o, h, 0 => by simpa using h
 | [], b, o, h, n + 1 => by simp only [List.drop_nil,RelC]
 | d :: ds, b, o, h, n + 1 => by
  simp only [RelC] at h
  have := relC_drop h.2 n
  simp only [List.drop_succ_cons]
  rwa [show o + (n + 1) = o + 1 + n by omega]
theorem relE_drop {w : World} {S : Nat → Nat → Prop} : ∀ {es : List (List Dat)} {b o s : Nat}, RelE w S es b o s → ∀ n, RelE w S (es.drop n) b (o + n * s) s
 | es, b, o, s, h, 0 => by simpa using h
 | [], b, o, s, h, n + 1 => by simp only [List.drop_nil,RelE]
 | e :: es, b, o, s, h, n + 1 => by
  simp only [RelE] at h
  have := relE_drop h.2.2 n
  simp only [List.drop_succ_cons]
  rwa [show o + (n + 1) * s = o + s + n * s by rw [Nat.add_mul]; omega]
theorem relE_take {w : World} {S : Nat → Nat → Prop} : ∀ {es : List (List Dat)} {b o s : Nat}, RelE w S es b o s → ∀ n, RelE w S (es.take n) b o s
 | es, b, o, s, h, 0 => by simp only [List.take_zero,RelE]
 | [], b, o, s, h, n + 1 => by simp only [List.take_nil,RelE]
 | e :: es, b, o, s, h, n + 1 => by
  simp only [RelE] at h
  simp only [List.take_succ_cons,RelE]
  exact ⟨h.1, h.2.1, relE_take h.2.2 n⟩
theorem good_fieldAddr {s : TypeId} {fs : Array Field} {f : Nat} {fl : Field} {i : TypeInfo} (hs : P.underlying s = some (.struct fs)) (hf : fs[f]? = some fl) (hi : P.info? fl.type = some i) (h0 : i.size ≠ 0)
  {v : Value} {b o : Nat} (hv : v = .pointer (some ⟨b, o, none⟩)) : (Instr.fieldAt s v f).run P E.w = .ok (.pointer (some ⟨b, o + fl.offset, none⟩)) E.w := by
 subst hv
 simp [Instr.fieldAt, run_underlying hs, hf, Instr.sureAddr, fieldPlace, sizeOf, typeInfo, hi, h0, addr_add]
theorem run_indexAt_sl {t e : TypeId} {i : TypeInfo} (ht : P.underlying t = some (.slice e)) (hi : P.info? e = some i) {b o n c : Nat} {k : IntKind} {z : Int} (h0 : 0 ≤ z) (h1 : z < n) :
  (Instr.indexAt t (.slice (some ⟨b, o, none⟩) n c) (.int k z)).run P E.w = .ok (.pointer (some ⟨b, o + z.toNat * i.size, none⟩)) E.w := by
 simp [Instr.indexAt, asIntOf, run_underlying ht, sizeOf, typeInfo, hi, h0, h1, addr_add]
theorem run_indexAt_arr {t e : TypeId} {i : TypeInfo} {len : Nat} (ht : P.underlying t = some (.array len e)) (hi : P.info? e = some i) {b o : Nat} {k : IntKind} {z : Int} (h0 : 0 ≤ z) (h1 : z < len) :
  (Instr.indexAt t (.pointer (some ⟨b, o, none⟩)) (.int k z)).run P E.w = .ok (.pointer (some ⟨b, o + z.toNat * i.size, none⟩)) E.w := by
 simp [Instr.indexAt, asIntOf, run_underlying ht, sizeOf, typeInfo, hi, h0, h1, addr_add, Instr.sureAddr]
theorem run_bound {ρ : Operand → Value} {ρa : AOpd → AV} (hρ : ∀ x, RelA E (ρa (cO x)) (ρ x)) {x : Operand} {d n : Nat} (h : boundA ρa d (some (cO x)) = some n) {y : Nat} (hy : n ≤ y) (code : BoundsCode) :
  (Instr.sliceBound (ρ x) y code).run P E.w = .ok n E.w := by
 unfold boundA at h
 simp only at h
 cases hi : intOfA (ρa (cO x)) with
 | none => rw [hi] at h; simp at h
 | some z =>
  rw [hi] at h
  simp only at h
  split at h
  ·rename_i hz
   injection h with h
   obtain ⟨k, hk⟩ := relA_intOf hi (hρ x)
   rw [hk, run_sliceBound E.w k z y code hz (by omega), h]
  ·simp at h
theorem run_sliceE {t e : TypeId} {i : TypeInfo} (ht : P.underlying t = some (.slice e)) (hi : P.info? e = some i) {ρ : Operand → Value} {ρa : AOpd → AV} (hρ : ∀ x, RelA E (ρa (cO x)) (ρ x))
  {lo hi' : Option Operand} {a : Option Addr} {n c l h : Nat} (hl : boundA ρa 0 (lo.map cO) = some l) (hh : boundA ρa n (hi'.map cO) = some h) (hlh : l ≤ h) (hhc : h ≤ c) :
  (Instr.sliceAt t (.slice a n c) (lo.map ρ) (hi'.map ρ) none).run P E.w = .ok (.slice (if c = l then a else a.map (·.add (l * i.size))) (h - l) (c - l)) E.w := by
 simp only [Instr.sliceAt,Sem.run_bind,run_underlying ht,Result.andThen_ok,Instr.slice,Instr.sliceBounds]
 cases hi' with
 | none =>
  simp only [Option.map_none,Sem.run_bind,Sem.run_pure,Result.andThen_ok]
  cases lo with
  | none => simp only [Option.map_none,boundA] at hl hh; injection hl with hl; injection hh with hh; subst hl hh; simp [run_sizeOf hi]
  | some x =>
   simp only [Option.map_none,boundA] at hh; injection hh with hh; subst hh
   have hb := run_bound (P := P) hρ hl hlh .sliceB
   simp [hb, run_sizeOf hi]
 | some y =>
  have hb1 := run_bound (P := P) hρ hh hhc .sliceAcap
  cases lo with
  | none => simp only [Option.map_none,boundA] at hl; injection hl with hl; subst hl; simp [hb1, run_sizeOf hi]
  | some x =>
   have hb := run_bound (P := P) hρ hl hlh .sliceB
   simp [hb, hb1, run_sizeOf hi]
theorem run_slice3 {t e : TypeId} {i : TypeInfo} (ht : P.underlying t = some (.slice e)) (hi : P.info? e = some i) {ρ : Operand → Value} {ρa : AOpd → AV} (hρ : ∀ x, RelA E (ρa (cO x)) (ρ x))
  {lo : Option Operand} {y m : Operand} {a : Option Addr} {n c : Nat} (hl : boundA ρa 0 (lo.map cO) = some 0) {d : Nat} (hh : boundA ρa d (some (cO y)) = some 0) (hm : boundA ρa 0 (some (cO m)) = some 0) :
  (Instr.sliceAt t (.slice a n c) (lo.map ρ) (some (ρ y)) (some (ρ m))).run P E.w = .ok (.slice a 0 0) E.w := by
 have hb1 := run_bound (P := P) hρ hm (Nat.zero_le c) .slice3Acap
 have hb2 := run_bound (P := P) hρ hh (Nat.zero_le 0) .slice3B
 simp only [Instr.sliceAt,Sem.run_bind,run_underlying ht,Result.andThen_ok,Instr.slice,Instr.sliceBounds]
 cases lo with
 | none => simp [hb1, hb2, run_sizeOf hi]
 | some x =>
  have hb := run_bound (P := P) hρ hl (Nat.zero_le 0) .slice3C
  simp [hb, hb1, hb2, run_sizeOf hi]
end
end Go.Abs
end
section
set_option linter.unusedVariables false
set_option linter.unusedSimpArgs false
namespace Go.Abs
section
variable {P : Program} {B : Low} {E : Env}
theorem relD_cut {s : Nat} {es : List (List Dat)} {b : Option Addr} {c : Nat} (hle : es.length ≤ c) (he : es = [] ∨ ∃ bl o, b = some ⟨bl, o, none⟩ ∧ RelE E.w E.S es bl o s) {l h : Nat} (hlh : l ≤ h) (hh : h ≤ es.length) :
  RelD E.w E.S (.sl s ((es.drop l).take (h - l))) (.slice (if c = l then b else b.map (·.add (l * s))) (h - l) (c - l)) := by
 have hlen : ((es.drop l).take (h - l)).length = h - l := by simp; omega
 simp only [RelD]
 refine ⟨_, c - l, by rw [hlen], by omega, ?_⟩
 rcases Nat.eq_or_lt_of_le hlh with rfl | hlt
 ·exact .inl (by simp)
 ·right
  rcases he with rfl | ⟨bl, o, rfl, he⟩
  ·simp at hh; omega
  ·refine ⟨bl, o + l * s, ?_, relE_take (relE_drop he l) _⟩
   rw [if_neg (by omega)]
   simp [addr_add]
theorem good_slice {t e : TypeId} {i : TypeInfo} (ht : P.underlying t = some (.slice e)) (hi : P.info? e = some i) {ρ : Operand → Value} {ρa : AOpd → AV} (hρ : ∀ x, RelA E (ρa (cO x)) (ρ x))
  {lo hi' mx : Option Operand} {a r : AV} {v : Value} (ha : RelA E a v) {l : Nat} (hl : boundA ρa 0 (lo.map cO) = some l) (hmx : mx.isSome = true → hi'.isSome = true)
  (h : sliceA i.size a l (fun n => boundA ρa n (hi'.map cO)) (match mx.map cO with | none => none | some m => some (boundA ρa 0 (some m))) = some r) :
  ∃ u, (Instr.sliceAt t v (lo.map ρ) (hi'.map ρ) (mx.map ρ)).run P E.w = .ok u E.w ∧ RelA E r u := by
 cases mx with
 | none =>
  simp only [Option.map_none] at h ⊢
  unfold sliceA at h
  split at h <;> rename_i hax <;> first | (cases hax; done) | skip
  ·-- data
   rename_i s' es
   simp only [RelA,RelD] at ha
   obtain ⟨b, c, rfl, hle, he⟩ := ha
   split at h
   ·rename_i k hk
    split at h
    ·rename_i hc
     obtain ⟨h1, h2, rfl⟩ := hc
     injection h with h; subst h
     refine ⟨_, run_sliceE (P := P) ht hi hρ hl hk h1 (by omega), ?_⟩
     simp only [RelA]
     exact relD_cut hle he h1 h2
    ·simp at h
   ·simp at h
  ·-- a slice that grows
   rename_i s' es tok
   simp only [RelA] at ha
   obtain ⟨b, c, rfl, hle, he, hg⟩ := ha
   split at h
   ·rename_i k hk
    split at h
    ·rename_i hs
     subst hs
     split at h
     ·rename_i hc
      obtain ⟨rfl, rfl⟩ := hc
      injection h with h; subst h
      refine ⟨_, run_sliceE (P := P) ht hi hρ hl hk (Nat.zero_le _) (by omega), ?_⟩
      have hb : (if c = 0 then b else b.map (·.add (0 * i.size))) = b := by
       split
       ·rfl
       ·cases b <;> simp [Addr.add]
      simp only [RelA,Nat.sub_zero,hb]
      exact ⟨b, c, rfl, hle, he, hg⟩
     ·split at h
      ·rename_i hc
       injection h with h; subst h
       refine ⟨_, run_sliceE (P := P) ht hi hρ hl hk hc.1 (by omega), ?_⟩
       simp only [RelA]
       exact relD_cut hle he hc.1 hc.2
      ·simp at h
    ·simp at h
   ·simp at h
  ·-- a slice that is written
   rename_i s' id off n
   simp only [RelA] at ha
   obtain ⟨c, rfl, hle, hs, ho, hroom⟩ := ha
   split at h
   ·rename_i k hk
    split at h
    ·rename_i hc
     obtain ⟨h1, h2, rfl⟩ := hc
     injection h with h; subst h
     refine ⟨_, run_sliceE (P := P) ht hi hρ hl hk h1 (by omega), ?_⟩
     split
     ·rename_i hlo
      simp only [RelA]
      refine ⟨c - l, ?_, by omega, hs, ho, fun q hq => ?_⟩
      ·rcases Nat.eq_zero_or_pos l with rfl | hpos
       ·simp [addr_add]
       ·rw [if_neg (by omega)]
        simp only [Option.map_some,addr_add,Nat.add_mul]
        congr 3
        omega
      ·have hm : (c - l) * i.size + l * i.size = c * i.size := by rw [← Nat.add_mul, Nat.sub_add_cancel (by omega)]
       have := hroom (l * i.size + q) (by omega)
       rwa [show (E.m id).2.1 + (off + l) * i.size + q = (E.m id).2.1 + off * i.size + (l * i.size + q) by rw [Nat.add_mul]; omega]
     ·have hk0 : k - l = 0 := by omega
      simp only [RelA,RelD,hk0]
      exact ⟨_, c - l, rfl, by simp, by simp⟩
    ·simp at h
   ·simp at h
  ·-- nil
   simp only [RelA] at ha
   subst ha
   split at h
   ·rename_i k hk
    split at h
    ·rename_i hc
     obtain ⟨rfl, rfl⟩ := hc
     injection h with h; subst h
     refine ⟨_, run_sliceE (P := P) ht hi hρ hl hk (Nat.le_refl _) (Nat.le_refl _), ?_⟩
     simp only [RelA]
     simp
    ·simp at h
   ·simp at h
  ·-- empty
   simp only [RelA] at ha
   obtain ⟨b, rfl⟩ := ha
   split at h
   ·rename_i k hk
    split at h
    ·rename_i hc
     obtain ⟨rfl, rfl⟩ := hc
     injection h with h; subst h
     refine ⟨_, run_sliceE (P := P) ht hi hρ hl hk (Nat.le_refl _) (Nat.le_refl _), ?_⟩
     simp only [RelA]
     exact ⟨b, by simp⟩
    ·simp at h
   ·simp at h
  ·simp at h
 | some m =>
  obtain ⟨y, rfl⟩ := Option.isSome_iff_exists.1 (hmx rfl)
  simp only [Option.map_some] at h ⊢
  have key : ∀ (b : Option Addr) (n c : Nat), v = .slice b n c → boundA ρa 0 (some (cO m)) = some 0 → (∃ d, boundA ρa d (some (cO y)) = some 0) → l = 0 → r = .em →
    ∃ u, (Instr.sliceAt t v (lo.map ρ) (some (ρ y)) (some (ρ m))).run P E.w = .ok u E.w ∧ RelA E r u := by
   intro b n c hv hm hy hl0 hr
   subst hv hl0 hr
   obtain ⟨d, hd⟩ := hy
   exact ⟨_, run_slice3 (P := P) ht hi hρ hl hd hm, by simp only [RelA]; exact ⟨b, rfl⟩⟩
  unfold sliceA at h
  split at h <;> rename_i hax <;> first | (cases hax; done) | skip
  ·simp only [RelA,RelD] at ha
   obtain ⟨b, c, hv, _⟩ := ha
   split at h
   ·rename_i k hk
    split at h
    ·rename_i hc
     injection h with h
     exact key b _ c hv (by simpa using hax) ⟨0, by have := hk; simp only at this; rw [this, hc.2]⟩ hc.1 h.symm
    ·simp at h
   ·simp at h
  ·simp only [RelA] at ha
   obtain ⟨b, c, hv, _⟩ := ha
   split at h
   ·rename_i k hk
    split at h
    ·rename_i hc
     injection h with h
     exact key b _ c hv (by simpa using hax) ⟨0, by have := hk; simp only at this; rw [this, hc.2]⟩ hc.1 h.symm
    ·simp at h
   ·simp at h
  ·simp only [RelA] at ha
   obtain ⟨c, hv, _⟩ := ha
   split at h
   ·rename_i k hk
    split at h
    ·rename_i hc
     injection h with h
     exact key _ _ c hv (by simpa using hax) ⟨0, by have := hk; simp only at this; rw [this, hc.2]⟩ hc.1 h.symm
    ·simp at h
   ·simp at h
  ·simp only [RelA] at ha
   have hv := ha
   split at h
   ·rename_i k hk
    split at h
    ·rename_i hc
     injection h with h
     exact key _ _ _ hv (by simpa using hax) ⟨0, by have := hk; simp only at this; rw [this, hc.2]⟩ hc.1 h.symm
    ·simp at h
   ·simp at h
  ·simp at h
end
end Go.Abs
end
section
set_option linter.unusedVariables false
set_option linter.unusedSimpArgs false
namespace Go.Abs
section
variable {P : Program} {B : Low} {E : Env}
mutual
theorem relD_of_toDat : ∀ (a : AV) (v : Value) (d : Dat), RelA E a v → toDat a = some d → RelD E.w E.S d v
 | .im d', v, d, h, hd => by simp only [toDat] at hd; injection hd with hd; subst hd; simpa only [RelA] using h
 | .nils, v, d, h, hd => by
  simp only [toDat] at hd; injection hd with hd; subst hd
  simp only [RelA] at h
  subst h
  simp only [RelD]
  exact ⟨none, 0, rfl, Nat.le_refl _, .inl trivial⟩
 | .em, v, d, h, hd => by
  simp only [toDat] at hd; injection hd with hd; subst hd
  simp only [RelA] at h
  obtain ⟨b, rfl⟩ := h
  simp only [RelD]
  exact ⟨b, 0, rfl, Nat.le_refl _, .inl trivial⟩
 | .asl s es tok, v, d, h, hd => by
  simp only [toDat] at hd; injection hd with hd; subst hd
  simp only [RelA] at h
  obtain ⟨b, c, rfl, hle, he, _⟩ := h
  simp only [RelD]
  exact ⟨b, c, rfl, hle, he⟩
 | .agg cs, v, d, h, hd => by
  simp only [toDat] at hd
  cases hc : toDats cs with
  | none => rw [hc] at hd; simp at hd
  | some ds =>
   rw [hc] at hd; injection hd with hd; subst hd
   simp only [RelA] at h
   obtain ⟨vs, rfl, hl⟩ := h
   simp only [RelD]
   exact ⟨vs, rfl, relL_of_toDats cs vs ds hl hc⟩
 | .ms _ _ _ _, v, d, h, hd => by simp [toDat] at hd
 | .ptr _ _ _, v, d, h, hd => by simp [toDat] at hd
 | .tup _, v, d, h, hd => by simp [toDat] at hd
 | .clo _ _, v, d, h, hd => by simp [toDat] at hd
 | .any, v, d, h, hd => by simp [toDat] at hd
theorem relL_of_toDats : ∀ (l : List AV) (vs : List Value) (ds : List Dat), RelAs E l vs → toDats l = some ds → RelL E.w E.S ds vs
 | [], vs, ds, h, hd => by simp only [toDats] at hd; injection hd with hd; subst hd; simpa only [RelAs, RelL] using h
 | a :: l, vs, ds, h, hd => by
  simp only [toDats] at hd
  cases ha : toDat a with
  | none => rw [ha] at hd; simp at hd
  | some d =>
   cases hl : toDats l with
   | none => rw [ha, hl] at hd; simp at hd
   | some r =>
    rw [ha, hl] at hd; simp only [Option.some.injEq] at hd; subst hd
    simp only [RelAs] at h
    obtain ⟨v, vs', rfl, h1, h2⟩ := h
    simp only [RelL]
    exact ⟨v, vs', rfl, relD_of_toDat a v d h1 ha, relL_of_toDats l vs' r h2 hl⟩
end
theorem nilZ_iface {a b : AV} {z : Bool} (h : nilZ true a b = some z) {va vb : Value} (ha : RelA E a va) (hb : RelA E b vb) : vb = .nilIface ∧ ((z = true ∧ va = .nilIface) ∨ (z = false ∧ ∃ u p, va = .iface u p)) := by
 unfold nilZ at h
 split at h <;> try (cases h; done)
 ·injection h with h; subst h
  simp only [RelA,RelD] at ha hb
  exact ⟨hb, .inl ⟨rfl, ha⟩⟩
 ·injection h with h; subst h
  simp only [RelA,RelD] at ha hb
  exact ⟨hb, .inr ⟨rfl, ha⟩⟩
 all_goals rename_i hh; cases hh
theorem nilZ_place {a b : AV} {z : Bool} (h : nilZ false a b = some z) {va vb : Value} (ha : RelA E a va) (hb : RelA E b vb) : vb = .pointer none ∧ ((z = true ∧ va = .pointer none) ∨ (z = false ∧ ∃ p, va = .pointer (some p))) := by
 unfold nilZ at h
 split at h <;> try (cases h; done)
 all_goals first | (rename_i hh; cases hh; done) | skip
 ·injection h with h; subst h
  simp only [RelA,RelD] at ha hb
  exact ⟨hb, .inl ⟨rfl, ha⟩⟩
 ·injection h with h; subst h
  simp only [RelA,RelD] at ha hb
  exact ⟨hb, .inr ⟨rfl, _, ha.1⟩⟩
 ·injection h with h; subst h
  simp only [RelA,RelD] at ha hb
  obtain ⟨bl, o, rfl, _⟩ := ha
  exact ⟨hb, .inr ⟨rfl, _, rfl⟩⟩
theorem good_binZi {op : BinOp} {a b r : AV} {va vb : Value} (h : binZero true op a b = some r) (ha : RelA E a va) (hb : RelA E b vb) {t : TypeId} {ms : Array (String × TypeId)} (ht : P.underlying t = some (.interface ms)) (x y : Operand) (hy : isConst y = true) :
  ∃ v, (do eqGuard op t x y va vb; binOp op t va vb : Sem Value).run P E.w = .ok v E.w ∧ RelA E r v := by
 unfold binZero at h
 split at h
 ·rename_i z hz
  obtain ⟨rfl, hv⟩ := nilZ_iface hz ha hb
  cases y with
  | const c =>
   rcases hv with ⟨rfl, rfl⟩ | ⟨rfl, u, p, rfl⟩
   ·have he0 : ∀ d : Nat, (Op.equalIn (d + 1) t .nilIface .nilIface).run P E.w = .ok true E.w := fun d => by
     simp only [Op.equalIn,Sem.run_bind,run_underlying ht,Result.andThen_ok]
     rfl
    have he : (Op.equal t .nilIface .nilIface).run P E.w = .ok true E.w := he0 9999
    split at h
    ·injection h with h; subst h
     exact ⟨.bool true, by simp [eqGuard, binOp, he], by simp only [RelA,RelD]⟩
    ·injection h with h; subst h
     exact ⟨.bool false, by simp [eqGuard, binOp, he], by simp only [RelA,RelD,Bool.not_true]⟩
    ·cases h
   ·have he0 : ∀ d : Nat, (Op.equalIn (d + 1) t (.iface u p) .nilIface).run P E.w = .ok false E.w := fun d => by
     simp only [Op.equalIn,Sem.run_bind,run_underlying ht,Result.andThen_ok]
     rfl
    have he : (Op.equal t (.iface u p) .nilIface).run P E.w = .ok false E.w := he0 9999
    split at h
    ·injection h with h; subst h
     exact ⟨.bool false, by simp [eqGuard, binOp, he], by simp only [RelA,RelD]⟩
    ·injection h with h; subst h
     exact ⟨.bool true, by simp [eqGuard, binOp, he], by simp only [RelA,RelD,Bool.not_false]⟩
    ·cases h
  | _ => simp [isConst] at hy
 ·cases h
theorem good_binZp {op : BinOp} {a b r : AV} {va vb : Value} (h : binZero false op a b = some r) (ha : RelA E a va) (hb : RelA E b vb) {t e : TypeId} (ht : P.underlying t = some (.pointer e)) (x y : Operand) :
  ∃ v, (do eqGuard op t x y va vb; binOp op t va vb : Sem Value).run P E.w = .ok v E.w ∧ RelA E r v := by
 unfold binZero at h
 split at h
 ·rename_i z hz
  obtain ⟨rfl, hv⟩ := nilZ_place hz ha hb
  rcases hv with ⟨rfl, rfl⟩ | ⟨rfl, p, rfl⟩
  ·have he0 : ∀ d : Nat, (Op.equalIn (d + 1) t (.pointer none) (.pointer none)).run P E.w = .ok true E.w := fun d => by
    simp only [Op.equalIn,Sem.run_bind,run_underlying ht,Result.andThen_ok]
    rfl
   have he : (Op.equal t (.pointer none) (.pointer none)).run P E.w = .ok true E.w := he0 9999
   split at h
   ·injection h with h; subst h
    exact ⟨.bool true, by simp [eqGuard, binOp, he], by simp only [RelA,RelD]⟩
   ·injection h with h; subst h
    exact ⟨.bool false, by simp [eqGuard, binOp, he], by simp only [RelA,RelD,Bool.not_true]⟩
   ·cases h
  ·have he0 : ∀ d : Nat, (Op.equalIn (d + 1) t (.pointer (some p)) (.pointer none)).run P E.w = .ok false E.w := fun d => by
    simp only [Op.equalIn,Sem.run_bind,run_underlying ht,Result.andThen_ok]
    rfl
   have he : (Op.equal t (.pointer (some p)) (.pointer none)).run P E.w = .ok false E.w := he0 9999
   split at h
   ·injection h with h; subst h
    exact ⟨.bool false, by simp [eqGuard, binOp, he], by simp only [RelA,RelD]⟩
   ·injection h with h; subst h
    exact ⟨.bool true, by simp [eqGuard, binOp, he], by simp only [RelA,RelD,Bool.not_false]⟩
   ·cases h
 ·cases h
theorem good_binS {op : BinOp} {ks : List Nat} {a b r : AV} {va vb : Value} (h : binStru op ks a b = some r) (ha : RelA E a va) (hb : RelA E b vb) {t : TypeId} {fs : Array Field} (ht : P.underlying t = some (.struct fs)) (hk : flatS P t fs.toList = some ks) (x y : Operand) :
  ∃ v, (do eqGuard op t x y va vb; binOp op t va vb : Sem Value).run P E.w = .ok v E.w ∧ RelA E r v := by
 unfold binStru at h
 split at h
 ·rename_i as has
  split at h
  ·rename_i bs hbs
   split at h
   ·rename_i z hz
    have h1 := relD_of_toDat a va _ ha has
    have h2 := relD_of_toDat b vb _ hb hbs
    simp only [RelD] at h1 h2
    obtain ⟨xs, rfl, h1⟩ := h1
    obtain ⟨ys, rfl, h2⟩ := h2
    unfold flatS at hk
    split at hk
    ·rename_i hc
     have hfs : P.fieldsOf t = fs := by simp [Program.fieldsOf, ht]
     have hr : (Op.equalIn 10000 t (.agg ⟨xs⟩) (.agg ⟨ys⟩)).run P E.w = .ok z E.w := by
      rw [show (10000 : Nat) = 9999 + 1 from rfl, run_equalIn_struct E.w 9999 t _ _ (by rw [hfs]; exact ht) hc.1, hfs]
      exact run_eqFields (P := P) 9998 fs.toList [] [] 0 ks as bs xs ys z hk rfl rfl h1 h2 hz
     have hg := run_eqGuard_agg (P := P) E.w op t x y ⟨xs⟩ ⟨ys⟩ hc.2
     split at h
     ·injection h with h; subst h
      refine ⟨.bool z, ?_, by simp only [RelA,RelD]⟩
      simp only [Sem.run_bind,hg,Result.andThen_ok,run_eql_struct,hr]
     ·injection h with h; subst h
      refine ⟨.bool (!z), ?_, by simp only [RelA,RelD]⟩
      simp only [Sem.run_bind,hg,Result.andThen_ok,run_neq_struct,hr]
     ·cases h
    ·cases hk
   ·cases h
  ·cases h
 ·cases h
theorem cellD_of_toDat {a : AV} {d : Dat} (hk : cellOk a = true) (h : toDat a = some d) : cellD d = true := by
 cases a with
 | im d' =>
  simp only [toDat] at h; injection h with h; subst h
  cases d' <;> first | rfl | (simp [cellOk] at hk)
 | nils => simp only [toDat] at h; injection h with h; subst h; rfl
 | em => simp only [toDat] at h; injection h with h; subst h; rfl
 | asl s es tok => simp only [toDat] at h; injection h with h; subst h; rfl
 | agg cs => simp [cellOk] at hk
 | _ => simp [toDat] at h
theorem toDats_get : ∀ {l : List AV} {ds : List Dat}, toDats l = some ds → ds.length = l.length ∧ ∀ (j : Nat) (d : Dat), ds[j]? = some d → ∃ a, l[j]? = some a ∧ toDat a = some d
 | [], ds, h => by simp only [toDats] at h; injection h with h; subst h; simp
 | a :: l, ds, h => by
  simp only [toDats] at h
  cases ha : toDat a with
  | none => rw [ha] at h; simp at h
  | some d =>
   cases hl : toDats l with
   | none => rw [ha, hl] at h; simp at h
   | some r =>
    rw [ha, hl] at h; simp only [Option.some.injEq] at h; subst h
    obtain ⟨h1, h2⟩ := toDats_get hl
    refine ⟨by simp [h1], fun j d' hd => ?_⟩
    cases j with
    | zero => simp at hd; subst hd; exact ⟨a, rfl, ha⟩
    | succ j => simpa using h2 j d' (by simpa using hd)
theorem toDatss_get : ∀ {l : List (List AV)} {ds : List (List Dat)}, toDatss l = some ds → ds.length = l.length ∧ ∀ (j : Nat) (d : List Dat), ds[j]? = some d → ∃ a, l[j]? = some a ∧ toDats a = some d
 | [], ds, h => by simp only [toDatss] at h; injection h with h; subst h; simp
 | a :: l, ds, h => by
  simp only [toDatss] at h
  cases ha : toDats a with
  | none => rw [ha] at h; simp at h
  | some d =>
   cases hl : toDatss l with
   | none => rw [ha, hl] at h; simp at h
   | some r =>
    rw [ha, hl] at h; simp only [Option.some.injEq] at h; subst h
    obtain ⟨h1, h2⟩ := toDatss_get hl
    refine ⟨by simp [h1], fun j d' hd => ?_⟩
    cases j with
    | zero => simp at hd; subst hd; exact ⟨a, rfl, ha⟩
    | succ j => simpa using h2 j d' (by simpa using hd)
theorem rows_vals {w : World} {S : Nat → Nat → Prop} {es : List (List Dat)} {s b o : Nat}
  (h : ∀ (i : Nat) (e : List Dat), es[i]? = some e → e.length = s ∧ ∀ (j : Nat) (d : Dat), e[j]? = some d → ∃ v, w.cell? ⟨b, o + i * s + j, none⟩ = some v ∧ RelD w S d v ∧ v.oneCell' = true) :
  ∃ vs, RelL w S es.flatten vs ∧ vs.length = es.length * s ∧ (∀ v ∈ vs, v.oneCell' = true) ∧ ∀ (j : Nat) v, vs[j]? = some v → w.cell? ⟨b, o + j, none⟩ = some v := by
 induction es generalizing o with
 | nil => exact ⟨[], by simp only [List.flatten_nil,RelL], by simp, by simp, by simp⟩
 | cons e es ih =>
  obtain ⟨h1, h2⟩ := h 0 e rfl
  have row : ∀ (l : List Dat) (k : Nat), (∀ (j : Nat) (d : Dat), l[j]? = some d → ∃ v, w.cell? ⟨b, k + j, none⟩ = some v ∧ RelD w S d v ∧ v.oneCell' = true) →
    ∃ vs, RelL w S l vs ∧ (∀ v ∈ vs, v.oneCell' = true) ∧ ∀ (j : Nat) v, vs[j]? = some v → w.cell? ⟨b, k + j, none⟩ = some v := by
   intro l
   induction l with
   | nil => intro k _; exact ⟨[], by simp only [RelL], by simp, by simp⟩
   | cons d l ihl =>
    intro k hk
    obtain ⟨v, hv, hd, h1⟩ := hk 0 d rfl
    obtain ⟨vs, a1, a2, a3⟩ := ihl (k + 1) fun j d' hd' => by
     have := hk (j + 1) d' (by simpa using hd')
     rwa [show k + (j + 1) = k + 1 + j by omega] at this
    refine ⟨v :: vs, by simp only [RelL]; exact ⟨v, vs, rfl, hd, a1⟩, ?_, ?_⟩
    ·intro u hu
     rcases List.mem_cons.1 hu with rfl | hu
     ·exact h1
     ·exact a2 u hu
    ·intro j u hu
     cases j with
     | zero => simp at hu; subst hu; simpa using hv
     | succ j =>
      have := a3 j u (by simpa using hu)
      rwa [show k + (j + 1) = k + 1 + j by omega]
  obtain ⟨vs, a1, a2, a3⟩ := row e o (by simpa using h2)
  obtain ⟨us, b1, b2, b3, b4⟩ := ih (o := o + s) fun i e' he' => by
   obtain ⟨c1, c2⟩ := h (i + 1) e' (by simpa using he')
   refine ⟨c1, fun j d hd => ?_⟩
   have := c2 j d hd
   rwa [show o + (i + 1) * s = o + s + i * s by rw [Nat.add_mul]; omega] at this
  have hvl := relL_length a1
  refine ⟨vs ++ us, by simpa using relL_append a1 b1, ?_, ?_, ?_⟩
  ·simp only [List.length_append,List.length_cons,b2,hvl,h1,Nat.add_mul]; omega
  ·intro v hv
   rcases List.mem_append.1 hv with hv | hv
   ·exact a2 v hv
   ·exact b3 v hv
  ·intro j v hv
   by_cases hj : j < vs.length
   ·rw [List.getElem?_append_left hj] at hv
    exact a3 j v hv
   ·rw [List.getElem?_append_right (by omega)] at hv
    have := b4 _ v hv
    rwa [show o + s + (j - vs.length) = o + j by omega] at this
theorem gives_sl {s : Nat} {b o c : Nat} {n : Nat} {vs : List Value} (hn : vs.length = n * s) (h1 : ∀ v ∈ vs, v.oneCell' = true) (hc : ∀ (j : Nat) v, vs[j]? = some v → E.w.cell? ⟨b, o + j, none⟩ = some v) :
  Gives P s E.w (.slice (some ⟨b, o, none⟩) n c) n vs where
 len w' := by simp [Builtin.lenOf]
 cells w' hw := by
  have := run_firstCells_some (P := P) w' s n ⟨b, o, none⟩ n c vs hn (fun j v hv => by
   rw [addr_add]
   have := hc j v hv
   simpa only [World.cell?, hw] using this)
  simpa using this
 num := hn
 one := h1
theorem gives_nil {s : Nat} {b : Option Addr} {c : Nat} : Gives P s E.w (.slice b 0 c) 0 [] where
 len w' := by simp [Builtin.lenOf]
 cells w' _ := by cases b <;> simp [Builtin.firstCells, loadCells, loadCellsFrom]
 num := by simp
 one := by simp
theorem gives_str {l : List UInt8} : Gives P 1 E.w (.string ⟨l.toArray⟩) l.length (l.map fun b => .int .u8 b.toNat) where
 len w' := by simp [Builtin.lenOf, ByteArray.size]
 cells w' _ := by
  have : (ByteArray.mk l.toArray).extract 0 l.length = ByteArray.mk l.toArray := by
   rw [ByteArray.extract_mk]; simp
  simp [Builtin.firstCells, this]
 num := by simp
 one := by intro v hv; simp at hv; obtain ⟨b, _, rfl⟩ := hv; rfl
theorem relL_bytes {w : World} {S : Nat → Nat → Prop} : ∀ l : List UInt8, RelL w S (l.map fun c => [byteDat c]).flatten (l.map fun b => .int .u8 b.toNat)
 | [] => by simp only [List.map_nil,List.flatten_nil,RelL]
 | c :: l => by
  simp only [List.map_cons,List.flatten_cons,List.singleton_append,RelL]
  exact ⟨_, _, rfl, by simp only [byteDat,RelD], relL_bytes l⟩
theorem elems_spec (I : Inv B E) {s : Nat} {y : AV} {v : Value} {ys : List (List Dat)} (h : elems E.H s y = some ys) (hr : RelA E y v) : ∃ news, Elems E s ys news ∧ Gives P s E.w v ys.length news := by
 unfold elems at h
 split at h
 ·rename_i s' es
  simp only [RelA,RelD] at hr
  obtain ⟨b, c, rfl, _, he⟩ := hr
  cases es with
  | nil =>
   simp only at h; injection h with h; subst h
   exact ⟨[], ⟨by simp, by simp, by simp only [List.flatten_nil,RelL], by simp, by simp⟩, gives_nil⟩
  | cons e es =>
   simp only at h
   split at h
   ·rename_i hs
    subst hs
    injection h with h; subst h
    rcases he with he | ⟨bl, o, rfl, he⟩
    ·simp at he
    ·obtain ⟨vs, a1, a2, a3, a4⟩ := relE_vals he
     exact ⟨vs, ⟨relE_len he, relE_cellD he, a1, a2, a3⟩, gives_sl a2 a3 a4⟩
   ·simp at h
 ·rename_i s' es tok
  split at h
  ·rename_i hs
   subst hs
   injection h with h; subst h
   simp only [RelA] at hr
   obtain ⟨b, c, rfl, _, he, _⟩ := hr
   rcases he with rfl | ⟨bl, o, rfl, he⟩
   ·exact ⟨[], ⟨by simp, by simp, by simp only [List.flatten_nil,RelL], by simp, by simp⟩, gives_nil⟩
   ·obtain ⟨vs, a1, a2, a3, a4⟩ := relE_vals he
    exact ⟨vs, ⟨relE_len he, relE_cellD he, a1, a2, a3⟩, gives_sl a2 a3 a4⟩
  ·simp at h
 ·injection h with h; subst h
  simp only [RelA] at hr
  subst hr
  exact ⟨[], ⟨by simp, by simp, by simp only [List.flatten_nil,RelL], by simp, by simp⟩, gives_nil⟩
 ·injection h with h; subst h
  simp only [RelA] at hr
  obtain ⟨b, rfl⟩ := hr
  exact ⟨[], ⟨by simp, by simp, by simp only [List.flatten_nil,RelL], by simp, by simp⟩, gives_nil⟩
 ·rename_i l
  split at h
  ·rename_i hs
   subst hs
   injection h with h; subst h
   simp only [RelA,RelD] at hr
   subst hr
   refine ⟨l.map fun b => .int .u8 b.toNat, ⟨?_, ?_, relL_bytes l, by simp, ?_⟩, by simpa using gives_str (P := P) (E := E) (l := l)⟩
   ·intro e he; simp at he; obtain ⟨c, _, rfl⟩ := he; rfl
   ·intro e he d hd; simp at he; obtain ⟨c, _, rfl⟩ := he; simp at hd; subst hd; rfl
   ·intro v hv; simp at hv; obtain ⟨c, _, rfl⟩ := hv; rfl
  ·simp at h
 ·rename_i s' id off n
  split at h
  ·rename_i hs
   subst hs
   simp only [RelA] at hr
   obtain ⟨c, rfl, hle, hs, _⟩ := hr
   split at h
   ·rename_i _ es hes
    split at h
    ·rename_i hfit
     obtain ⟨own, _, hO⟩ := I.obj id _ es hes
     obtain ⟨hl, hget⟩ := toDatss_get h
     have hlen : ys.length = n := by rw [hl]; simp; omega
     obtain ⟨vs, a1, a2, a3, a4⟩ := rows_vals (w := E.w) (S := E.S) (es := ys) (s := s') (b := (E.m id).1) (o := (E.m id).2.1 + off * s') fun i e he => by
      obtain ⟨a, ha, hd⟩ := hget i e he
      obtain ⟨hdl, hdg⟩ := toDats_get hd
      rw [List.getElem?_take] at ha
      split at ha
      ·rw [List.getElem?_drop] at ha
       obtain ⟨b1, b2⟩ := hO _ a ha
       refine ⟨by rw [hdl, b1, hs], fun j d hj => ?_⟩
       obtain ⟨x, hx, hxd⟩ := hdg j d hj
       obtain ⟨v, hv, hrv, hk⟩ := b2 j x hx
       refine ⟨v, ?_, relD_of_toDat x v d hrv hxd, (cellOk_one hrv hk).1⟩
       rw [hs] at hv
       rw [show (E.m id).2.1 + off * s' + i * s' + j = (E.m id).2.1 + (off + i) * s' + j by rw [Nat.add_mul]; omega]
       exact hv
      ·simp at ha
     refine ⟨vs, ⟨?_, ?_, a1, a2, a3⟩, by rw [hlen] at a2 ⊢; exact gives_sl a2 a3 a4⟩
     ·intro e he
      obtain ⟨i, hi⟩ := List.mem_iff_getElem?.1 he
      obtain ⟨a, ha, hd⟩ := hget i e hi
      rw [List.getElem?_take] at ha
      split at ha
      ·rw [List.getElem?_drop] at ha
       rw [(toDats_get hd).1, (hO _ a ha).1, hs]
      ·simp at ha
     ·intro e he d hd'
      obtain ⟨i, hi⟩ := List.mem_iff_getElem?.1 he
      obtain ⟨a, ha, hd⟩ := hget i e hi
      obtain ⟨j, hj⟩ := List.mem_iff_getElem?.1 hd'
      obtain ⟨x, hx, hxd⟩ := (toDats_get hd).2 j d hj
      rw [List.getElem?_take] at ha
      split at ha
      ·rw [List.getElem?_drop] at ha
       obtain ⟨_, _, _, hk⟩ := (hO _ a ha).2 j x hx
       exact cellD_of_toDat hk hxd
      ·simp at ha
    ·simp at h
   ·simp at h
  ·simp at h
 ·simp at h
theorem good_append (I : Inv B E) {t u e : TypeId} {i : TypeInfo} {du : TypeDesc} (ht : P.underlying t = some (.slice e)) (hi : P.info? e = some i) (hu : P.underlying u = some du) (hdu : notInt du = true)
  {z : List AV} (hz : zeroOf P e = some z) (ty : TypeId) {x y r : AV} {vx vy : Value} (hx : RelA E x vx) (hy : RelA E y vy) {ys : List (List Dat)} (hys : elems E.H i.size y = some ys) {H' : Heap}
  (h : appendA E.H e i.bytes i.size x ys = some (r, H')) : Good P B E (Builtin.append_ #[t, u] ty #[vx, vy]) r H' := by
 obtain ⟨i', zv, hi', hzero, _, _, hzs⟩ := zeroOf_spec hz
 rw [hi] at hi'; injection hi' with hi'; subst hi'
 have hdu' : ∀ k, du ≠ .int k := fun k e => by subst e; simp [notInt] at hdu
 obtain ⟨news, hE, g⟩ := elems_spec (P := P) I hys hy
 unfold appendA at h
 split at h
 ·simp only [RelA] at hx
  subst hx
  cases ys with
  | nil =>
   simp only [Option.some.injEq,Prod.mk.injEq] at h
   obtain ⟨rfl, rfl⟩ := h
   have hn : news = [] := by have := hE.num; simpa using this
   subst hn
   exact good_same I (run_append_none (P := P) ty ht hu hdu' hi g) (by simp only [RelA])
  | cons y0 ys =>
   simp only at h
   split at h
   ·rename_i hb
    simp only [Option.some.injEq,Prod.mk.injEq] at h
    obtain ⟨rfl, rfl⟩ := h
    obtain ⟨v, E', h1, h2, I', X, hr⟩ := append_new (P := P) I (b := none) ty ht hu hdu' hi hzero hzs hE g (by simp) (by simpa using hb.1) hb.2
    exact ⟨v, E', h1, by simpa using h2, I', X, hr⟩
   ·simp at h
 ·simp only [RelA] at hx
  obtain ⟨b, rfl⟩ := hx
  cases ys with
  | nil =>
   simp only [Option.some.injEq,Prod.mk.injEq] at h
   obtain ⟨rfl, rfl⟩ := h
   have hn : news = [] := by have := hE.num; simpa using this
   subst hn
   exact good_same I (run_append_none (P := P) ty ht hu hdu' hi g) (by simp only [RelA]; exact ⟨b, rfl⟩)
  | cons y0 ys =>
   simp only at h
   split at h
   ·rename_i hb
    simp only [Option.some.injEq,Prod.mk.injEq] at h
    obtain ⟨rfl, rfl⟩ := h
    obtain ⟨v, E', h1, h2, I', X, hr⟩ := append_new (P := P) I (b := b) ty ht hu hdu' hi hzero hzs hE g (by simp) (by simpa using hb.1) hb.2
    exact ⟨v, E', h1, by simpa using h2, I', X, hr⟩
   ·simp at h
 ·rename_i s' es tok
  split at h
  ·rename_i _ n hn
   split at h
   ·rename_i hc
    obtain ⟨rfl, rfl, hb, hb0, rfl⟩ := hc
    simp only [Option.some.injEq,Prod.mk.injEq] at h
    obtain ⟨rfl, rfl⟩ := h
    obtain ⟨v, E', h1, h2, I', X, hr⟩ := append_on (P := P) I ty ht hu hdu' hi hzero hzs hx hn hE g hb hb0
    exact ⟨v, E', h1, h2, I', X, hr⟩
   ·simp at h
  ·simp at h
 ·simp at h
theorem cellOk_im {d : Dat} (h : cellD d = true) : cellOk (.im d) = true := by
 cases d <;> first | rfl | (simp [cellD] at h)
theorem Inv.kill (I : Inv B E) {id : Nat} {ty : Option (TypeId × Nat)} {es : List (List AV)} (ho : E.H[id]? = some (.obj ty es)) :
  Inv B ⟨E.w, E.S, E.m, E.H.set id .dead⟩ ∧ Ext B E ⟨E.w, E.S, E.m, E.H.set id .dead⟩ := by
 have hid := (List.getElem?_eq_some_iff.1 ho).1
 have X : Ext B E ⟨E.w, E.S, E.m, E.H.set id .dead⟩ := {
  ss := fun _ _ h => h
  cell := fun _ _ _ => rfl
  size := Nat.le_refl _
  low := fun _ _ => rfl
  there := fun _ _ h => h
  snew := fun _ _ h => .inl h
  os := rfl
  tape := rfl
  output := rfl
  len := by simp
  obj := fun i hi => ⟨isObj_set hi fun _ => trivial, rfl⟩
  hw := fun i _ n hn => ⟨n, by
   simp only
   rw [List.getElem?_set_ne (fun e => by subst e; rw [ho] at hn; simp at hn)]
   exact hn, Nat.le_refl _, fun _ => rfl⟩ }
 have hne : ∀ i (x : HO), (E.H.set id .dead)[i]? = some x → x ≠ .dead → E.H[i]? = some x := fun i x hi hx => by
  by_cases e : id = i
  ·subst e
   rw [List.getElem?_set_self hid] at hi
   injection hi with hi
   exact absurd hi.symm hx
  ·rwa [List.getElem?_set_ne e] at hi
 refine ⟨⟨I.szB, I.sS, fun i ty2 es2 h2 => ?_, fun i ty2 n hn => ?_, InjH.set I.inj (fun _ => rfl) ho nofun _, I.tab, fun i s q hit => ?_⟩, X⟩
 ·obtain ⟨a1, a2, a3⟩ := I.obj i ty2 es2 (hne i _ h2 nofun)
  exact ⟨a1, a2, a3.ext X fun _ => rfl⟩
 ·exact I.hw i ty2 n (hne i _ hn nofun)
 ·exact I.it i s q (hne i _ hit nofun)
theorem Inv.adopt (I : Inv B E) {bl : Nat} (own : Own B E.w bl 0 (fun _ => True)) (nS : ∀ k, ¬ E.S bl k) (free : ∀ i x, E.H[i]? = some x → x ≠ .dead → (E.m i).1 ≠ bl) (at' : Nat) (news : List Value) (base s : Nat) (rows : List (List AV))
  (hrows : ∀ i e, rows[i]? = some e → e.length = s ∧ ∀ j a, e[j]? = some a → ∃ v, (E.w.setCells bl at' news).cell? ⟨bl, base + i * s + j, none⟩ = some v ∧ RelA E a v ∧ cellOk a = true) :
  ∃ E', E'.w = E.w.setCells bl at' news ∧ E'.H = E.H ++ [.obj none rows] ∧ E'.m E.H.length = (bl, base, s) ∧ Inv B E' ∧ Ext B E E' := by
 have hm : ∀ i, i < E.H.length → (fun k => if k = E.H.length then (bl, base, s) else E.m k) i = E.m i := fun i hi => by simp only; rw [if_neg (by omega)]
 have X : Ext B E ⟨E.w.setCells bl at' news, E.S, fun k => if k = E.H.length then (bl, base, s) else E.m k, E.H ++ [.obj none rows]⟩ := {
  ss := fun _ _ h => h
  cell := fun b k hs => cell_setCells_ne (fun e => nS k (e ▸ hs))
  size := by simp only [size_setCells]; exact Nat.le_refl _
  low := fun k hk => block_setCells (fun e => own.base (by subst e; exact hk))
  there := fun b k h => there_setCells h
  snew := fun _ _ h => .inl h
  os := same_setCells.1
  tape := same_setCells.2.1
  output := same_setCells.2.2
  len := by simp
  obj := fun i hi => ⟨isObj_append hi _, hm i (isObj_lt hi)⟩
  hw := fun i _ n hn => ⟨n, by simp only; rw [List.getElem?_append_left (List.getElem?_eq_some_iff.1 hn).1]; exact hn, Nat.le_refl _, fun _ => hm i (List.getElem?_eq_some_iff.1 hn).1⟩ }
 have hold : ∀ i (x : HO), (E.H ++ [.obj none rows])[i]? = some x → i ≠ E.H.length → i < E.H.length ∧ E.H[i]? = some x := fun i x hi hne => by
  have := (List.getElem?_eq_some_iff.1 hi).1
  simp at this
  have hlt : i < E.H.length := by omega
  rw [List.getElem?_append_left hlt] at hi
  exact ⟨hlt, hi⟩
 refine ⟨⟨E.w.setCells bl at' news, E.S, fun k => if k = E.H.length then (bl, base, s) else E.m k, E.H ++ [.obj none rows]⟩, rfl, rfl, by simp, ⟨by simp only [size_setCells]; exact I.szB, fun b k hs => by simp only [size_setCells]; exact I.sS b k hs, fun i ty2 es2 h2 => ?_, fun i ty2 n hn => ?_, InjH.push I.inj (fun k hk => congrArg Prod.fst (hm k hk)) (n := bl) (by simp) (fun i y hi hy => free i y hi hy) _, X.tab I.tab, fun i s' q hit => ?_⟩, X⟩
 ·by_cases hi : i = E.H.length
  ·subst hi
   simp at h2
   obtain ⟨rfl, rfl⟩ := h2
   simp only [if_true]
   have hset := own_setCells own bl at' news
   refine ⟨⟨hset.base, hset.lt, hset.free, ?_⟩, nS, fun i e he => ?_⟩
   ·obtain ⟨x, hx, _⟩ := hset.shape
    exact ⟨x, hx, .inl rfl⟩
   ·obtain ⟨hl, hj⟩ := hrows i e he
    refine ⟨hl, fun j a ha => ?_⟩
    obtain ⟨v, hv, hr, hk⟩ := hj j a ha
    exact ⟨v, hv, relA_ext X a v hr, hk⟩
  ·obtain ⟨hlt, h2'⟩ := hold i _ h2 hi
   obtain ⟨a1, a2, a3⟩ := I.obj i ty2 es2 h2'
   simp only [if_neg hi]
   exact ⟨own_setCells a1 _ _ _, a2, a3.ext X fun k => cell_setCells_ne (free i _ h2' nofun)⟩
 ·by_cases hi : i = E.H.length
  ·subst hi; simp at hn
  ·obtain ⟨hlt, hn'⟩ := hold i _ hn hi
   obtain ⟨a1, a2⟩ := I.hw i ty2 n hn'
   simp only [if_neg hi]
   exact ⟨own_setCells a1 _ _ _, a2⟩
 ·by_cases hi : i = E.H.length
  ·subst hi; simp at hit
  ·obtain ⟨hlt, hit'⟩ := hold i _ hit hi
   obtain ⟨a1, a2⟩ := I.it i s' q hit'
   simp only [if_neg hi]
   exact ⟨a1.same (block_setCells (free i _ hit' nofun)), a2⟩
theorem relO_vals {rows : List (List AV)} {b o s : Nat} (h : RelO E rows b o s) : ∃ vs : List Value, vs.length = rows.length * s ∧ (∀ j v, vs[j]? = some v → E.w.cell? ⟨b, o + j, none⟩ = some v) ∧
  ∀ i e j a, rows[i]? = some e → e[j]? = some a → ∃ v, vs[i * s + j]? = some v ∧ RelA E a v ∧ cellOk a = true := by
 have hcell : ∀ k, k < rows.length * s → ∃ v, E.w.cell? ⟨b, o + k, none⟩ = some v := fun k hk => by
  have hs : 0 < s := by
   rcases Nat.eq_zero_or_pos s with h0 | h0
   ·rw [h0] at hk; omega
   ·exact h0
  have hq : k / s < rows.length := (Nat.div_lt_iff_lt_mul hs).2 hk
  obtain ⟨hl, hj⟩ := h (k / s) _ (List.getElem?_eq_getElem hq)
  have hr : k % s < (rows[k / s]).length := by rw [hl]; exact Nat.mod_lt _ hs
  obtain ⟨v, hv, _⟩ := hj (k % s) _ (List.getElem?_eq_getElem hr)
  have : o + k / s * s + k % s = o + k := by
   have := Nat.div_add_mod k s
   rw [Nat.mul_comm] at this; omega
  rw [this] at hv
  exact ⟨v, hv⟩
 have hget : ∀ k, k < rows.length * s → ((List.range (rows.length * s)).map fun k => (E.w.cell? ⟨b, o + k, none⟩).getD (.bool false))[k]? = E.w.cell? ⟨b, o + k, none⟩ := fun k hk => by
  obtain ⟨v, hv⟩ := hcell k hk
  rw [List.getElem?_map, List.getElem?_range hk]
  simp [hv]
 refine ⟨(List.range (rows.length * s)).map fun k => (E.w.cell? ⟨b, o + k, none⟩).getD (.bool false), by simp, fun j v hv => ?_, fun i e j a he ha => ?_⟩
 ·have hj : j < rows.length * s := by simpa using (List.getElem?_eq_some_iff.1 hv).1
  rw [hget j hj] at hv
  exact hv
 ·obtain ⟨hl, hj⟩ := h i e he
  obtain ⟨v, hv, hr, hk⟩ := hj j a ha
  have hi := (List.getElem?_eq_some_iff.1 he).1
  have hj' := (List.getElem?_eq_some_iff.1 ha).1
  have : i * s + s ≤ rows.length * s := by rw [← Nat.succ_mul]; exact Nat.mul_le_mul_right _ hi
  refine ⟨v, ?_, hr, hk⟩
  rw [hget _ (by omega), ← Nat.add_assoc]
  exact hv
theorem elems_at {s : Nat} {ys : List (List Dat)} {news : List Value} (hy : Elems E s ys news) {i j : Nat} {e : List AV} {a : AV} (he : (imss ys)[i]? = some e) (ha : e[j]? = some a) :
  e.length = s ∧ ∃ v, news[i * s + j]? = some v ∧ RelA E a v ∧ cellOk a = true := by
 unfold imss at he
 rw [List.getElem?_map] at he
 cases hyi : ys[i]? with
 | none => rw [hyi] at he; simp at he
 | some d =>
  rw [hyi] at he
  simp at he
  subst he
  rw [List.getElem?_map] at ha
  cases hd : d[j]? with
  | none => rw [hd] at ha; simp at ha
  | some x =>
   rw [hd] at ha
   simp at ha
   subst ha
   have hmem := List.mem_of_getElem? hyi
   obtain ⟨v, hv, hr⟩ := relL_get hy.rel (flat_get hy.size hyi hd)
   exact ⟨by rw [List.length_map]; exact hy.size d hmem, v, hv, by simp only [RelA]; exact hr, cellOk_im (hy.cell d hmem x (List.mem_of_getElem? hd))⟩
theorem imss_row {s : Nat} {ys : List (List Dat)} {news : List Value} (hy : Elems E s ys news) {i : Nat} {e : List AV} (he : (imss ys)[i]? = some e) : e.length = s := by
 unfold imss at he
 rw [List.getElem?_map] at he
 cases hyi : ys[i]? with
 | none => rw [hyi] at he; simp at he
 | some d =>
  rw [hyi] at he
  simp at he
  subst he
  rw [List.length_map]; exact hy.size d (List.mem_of_getElem? hyi)
theorem Elems.ext {E E' : Env} {s : Nat} {ys : List (List Dat)} {news : List Value} (X : Ext B E E') (h : Elems E s ys news) : Elems E' s ys news :=
 ⟨h.size, h.cell, relL_mono ⟨X.ss, X.cell⟩ _ _ h.rel, h.num, h.one⟩
theorem good_appendM (I : Inv B E) {t u e : TypeId} {i : TypeInfo} {du : TypeDesc} (ht : P.underlying t = some (.slice e)) (hi : P.info? e = some i) (hu : P.underlying u = some du) (hdu : notInt du = true)
  {z : List AV} (hz : zeroOf P e = some z) (ty : TypeId) {x y r : AV} {vx vy : Value} (hx : RelA E x vx) (hy : RelA E y vy) {ys : List (List Dat)} (hys : elems E.H i.size y = some ys) {H' : Heap}
  (h : appendMA E.H i.bytes i.size x ys = some (r, H')) : Good P B E (Builtin.append_ #[t, u] ty #[vx, vy]) r H' := by
 obtain ⟨i', zv, hi', hzero, _, _, hzs⟩ := zeroOf_spec hz
 rw [hi] at hi'; injection hi' with hi'; subst hi'
 have hdu' : ∀ k, du ≠ .int k := fun k e => by subst e; simp [notInt] at hdu
 obtain ⟨news, hE, g⟩ := elems_spec (P := P) I hys hy
 unfold appendMA at h
 cases ys with
 | nil =>
  have hn : news = [] := by have := hE.num; simpa using this
  subst hn
  simp only at h
  split at h
  ·simp only [Option.some.injEq,Prod.mk.injEq] at h
   obtain ⟨rfl, rfl⟩ := h
   simp only [RelA] at hx
   subst hx
   exact good_same I (run_append_none (P := P) ty ht hu hdu' hi g) (by simp only [RelA])
  ·rename_i s' id off n
   simp only [Option.some.injEq,Prod.mk.injEq] at h
   obtain ⟨rfl, rfl⟩ := h
   have hx' := hx
   simp only [RelA] at hx
   obtain ⟨c, rfl, hle, _⟩ := hx
   have hrun := run_append_room2 (P := P) (w := E.w) (w2 := E.w) (a := ⟨(E.m id).1, (E.m id).2.1 + off * s', none⟩) (sLen := n) (sCap := c) ty ht hu hdu' hi g (by simpa using hle) (by simp [storeCells])
   exact good_same I hrun hx'
  ·simp at h
 | cons y0 ys =>
  simp only at h
  generalize hyy : y0 :: ys = yy at *
  have hylen : ys.length + 1 = yy.length := by rw [← hyy]; rfl
  rw [hylen] at h
  have hy1 : 0 < yy.length := by omega
  split at h
  ·-- nil: a new block
   simp only [RelA] at hx
   subst hx
   split at h
   ·rename_i hb
    simp only [Option.some.injEq,Prod.mk.injEq] at h
    obtain ⟨rfl, rfl⟩ := h
    have hold : ∀ w', w'.heap = E.w.heap → (Builtin.firstCells i.size 0 (.slice none 0 0)).run P w' = .ok ⟨[]⟩ w' := by
     intro w' _
     simp [Builtin.firstCells]
    obtain ⟨cap, cs, hcap, hlen, hcs, hrun⟩ := run_append_grow2 (P := P) (w := E.w) ty ht hu hdu' hi hzero g hold (by omega) (by simpa using hb.1) hb.2
    simp only [Nat.zero_add,List.length_nil,List.nil_append] at hcap hlen hcs hrun
    obtain ⟨E', h1, h2, h3, I', X⟩ := I.push_obj (Push.drew E.w cs e) none (by simp) (imss yy) i.size (fun k e' he => by
     refine ⟨imss_row hE he, fun j a ha => ?_⟩
     obtain ⟨_, v, hv, hr, hk⟩ := elems_at hE he ha
     exact ⟨v, by rw [hcs _ (List.getElem?_eq_some_iff.1 hv).1]; exact hv, hr, hk⟩)
    refine ⟨_, E', by rw [h1]; exact hrun, h2, I', X, ?_⟩
    simp only [RelA,h3]
    refine ⟨cap, by simp, hcap, trivial, isObj_mk (ty := none) (es := imss yy) (by rw [h2]; simp), fun k hk => ?_⟩
    rw [h1]
    have hnew := (Push.drew E.w cs e).toPush.new
    simp only [Nat.zero_mul,Nat.zero_add,Nat.add_zero]
    rw [hnew]
    have : k < cs.length := by
     rw [hlen, hE.num, hzs, ← Nat.add_mul]
     have : yy.length + (cap - yy.length) = cap := by omega
     rw [this]; exact hk
    simp [this]
   ·simp at h
  ·-- one that is written
   rename_i s' id off n
   split at h
   ·rename_i es hes
    split at h
    ·rename_i hb
     obtain ⟨rfl, hfit, hb, hb0⟩ := hb
     simp only [Option.some.injEq,Prod.mk.injEq] at h
     obtain ⟨rfl, rfl⟩ := h
     simp only [RelA] at hx
     obtain ⟨c, rfl, hle, hms, hob, hroom⟩ := hx
     have hid := (List.getElem?_eq_some_iff.1 hes).1
     obtain ⟨own, nS, hO⟩ := I.obj id _ _ hes
     obtain ⟨I1, X1⟩ := I.kill hes
     have hE1 : Elems ⟨E.w, E.S, E.m, E.H.set id .dead⟩ i.size yy news := hE.ext X1
     rw [hms] at hO
     have hold0 : RelO E ((es.drop off).take n) (E.m id).1 ((E.m id).2.1 + off * i.size) i.size := fun k e' he => by
      rw [List.getElem?_take] at he
      split at he
      ·rw [List.getElem?_drop] at he
       obtain ⟨b1, b2⟩ := hO _ e' he
       refine ⟨b1, fun j a ha => ?_⟩
       obtain ⟨v, hv, hr, hk⟩ := b2 j a ha
       rw [show (E.m id).2.1 + (off + k) * i.size + j = (E.m id).2.1 + off * i.size + k * i.size + j by rw [Nat.add_mul]; omega] at hv
       exact ⟨v, hv, hr, hk⟩
      ·simp at he
     have hrl : ((es.drop off).take n).length = n := by simp; omega
     obtain ⟨olds, o1, o2, o3⟩ := relO_vals hold0
     rw [hrl] at o1
     generalize hbl : (E.m id).1 = bl at *
     generalize hbase : (E.m id).2.1 + off * i.size = base at *
     have hlen' : (E.H.set id HO.dead).length = E.H.length := by simp
     by_cases hroom2 : n + yy.length ≤ c
     ·-- in its room
      have hmul : n * i.size + yy.length * i.size ≤ c * i.size := by rw [← Nat.add_mul]; exact Nat.mul_le_mul_right _ hroom2
      have hth : ∀ j, j < news.length → (E.w.cell? ⟨bl, base + n * i.size + 0 + j, none⟩).isSome = true := fun j hj => by
       have := hroom (n * i.size + j) (by rw [hE.num] at hj; omega)
       rwa [show base + n * i.size + 0 + j = base + (n * i.size + j) by omega]
      have hst := run_storeCells_cells (P := P) bl (base + n * i.size) news 0 E.w hth (fun j _ => own.free _ (by omega)) hE.one
      simp only [Nat.add_zero] at hst
      have hrun := run_append_room2 (P := P) (w := E.w) (a := ⟨bl, base, none⟩) (sLen := n) (sCap := c) ty ht hu hdu' hi g hroom2 (by rw [addr_add]; exact hst)
      obtain ⟨E', h1, h2, h3, I', X'⟩ := I1.adopt (bl := bl) ⟨own.base, own.lt, own.free, by obtain ⟨x, hx, _⟩ := own.shape; exact ⟨x, hx, trivial⟩⟩ nS (fun k y hk hy e' => by
       simp only at hk e'
       by_cases hk' : id = k
       ·subst hk'
        rw [List.getElem?_set_self hid] at hk
        injection hk with hk
        exact hy hk.symm
       ·rw [List.getElem?_set_ne hk'] at hk
        exact hk' (I.inj k id _ _ hk hes hy nofun (e'.trans hbl.symm)).symm) (base + n * i.size) news base i.size ((es.drop off).take n ++ imss yy) (fun k e' he => by
       by_cases hk : k < n
       ·rw [List.getElem?_append_left (by omega)] at he
        obtain ⟨b1, b2⟩ := hold0 k e' he
        refine ⟨b1, fun j a ha => ?_⟩
        obtain ⟨v, hv, hr, hok⟩ := b2 j a ha
        have hj := (List.getElem?_eq_some_iff.1 ha).1
        have : k * i.size + i.size ≤ n * i.size := by rw [← Nat.succ_mul]; exact Nat.mul_le_mul_right _ hk
        exact ⟨v, by simp only; rw [World.cell?_setCells_out _ _ _ _ _ (fun _ _ => .inl (by simp only; omega))]; exact hv, relA_ext X1 a v hr, hok⟩
       ·rw [List.getElem?_append_right (by omega), hrl] at he
        refine ⟨imss_row hE he, fun j a ha => ?_⟩
        obtain ⟨_, v, hv, hr, hok⟩ := elems_at hE1 he ha
        have hvn := (List.getElem?_eq_some_iff.1 hv).1
        refine ⟨v, ?_, hr, hok⟩
        have := World.cell?_setCells_in bl news (base + n * i.size) E.w (fun k hk => by simpa using hth k hk) ((k - n) * i.size + j) hvn
        have hkn : n * i.size + (k - n) * i.size = k * i.size := by rw [← Nat.add_mul]; congr 1; omega
        simp only
        rw [show base + k * i.size + j = base + n * i.size + ((k - n) * i.size + j) by omega, this, ← hv, List.getElem?_eq_getElem hvn])
      simp only [hlen'] at h2 h3
      refine ⟨_, E', by rw [h1]; exact hrun, h2, I', X1.trans X', ?_⟩
      simp only [RelA,h3]
      refine ⟨c, by simp, hroom2, trivial, isObj_mk (ty := none) (es := (es.drop off).take n ++ imss yy) (by rw [h2, ← hlen']; simp), fun k hk => ?_⟩
      rw [h1]
      simp only [Nat.zero_mul,Nat.add_zero]
      exact there_setCells (hroom k hk)
     ·-- in a new block
      have hold : ∀ w', w'.heap = E.w.heap → (Builtin.firstCells i.size n (.slice (some ⟨bl, base, none⟩) n c)).run P w' = .ok ⟨olds⟩ w' := fun w' hw => by
       have := run_firstCells_some (P := P) w' i.size n ⟨bl, base, none⟩ n c olds o1 (fun j v hv => by
        rw [addr_add]
        have := o2 j v hv
        simpa only [World.cell?, hw] using this)
       simpa using this
      obtain ⟨cap, cs, hcap, hlen, hcs, hrun⟩ := run_append_grow2 (P := P) (w := E.w) ty ht hu hdu' hi hzero g hold (by omega) hb hb0
      obtain ⟨E', h1, h2, h3, I', X'⟩ := I1.push_obj (Push.drew E.w cs e) none (by simp) ((es.drop off).take n ++ imss yy) i.size (fun k e' he => by
       by_cases hk : k < n
       ·rw [List.getElem?_append_left (by omega)] at he
        obtain ⟨b1, b2⟩ := hold0 k e' he
        refine ⟨b1, fun j a ha => ?_⟩
        obtain ⟨v, hv, hr, hok⟩ := o3 k e' j a he ha
        have hvn := (List.getElem?_eq_some_iff.1 hv).1
        exact ⟨v, by rw [hcs _ (by omega), List.getElem?_append_left hvn]; exact hv, relA_ext X1 a v hr, hok⟩
       ·rw [List.getElem?_append_right (by omega), hrl] at he
        refine ⟨imss_row hE he, fun j a ha => ?_⟩
        obtain ⟨_, v, hv, hr, hok⟩ := elems_at hE1 he ha
        have hvn := (List.getElem?_eq_some_iff.1 hv).1
        have hkn : n * i.size + (k - n) * i.size = k * i.size := by rw [← Nat.add_mul]; congr 1; omega
        refine ⟨v, ?_, hr, hok⟩
        rw [show k * i.size + j = olds.length + ((k - n) * i.size + j) by rw [o1]; omega, hcs _ (by omega), List.getElem?_append_right (by omega), Nat.add_sub_cancel_left]
        exact hv)
      simp only [hlen'] at h2 h3
      refine ⟨_, E', by rw [h1]; exact hrun, h2, I', X1.trans X', ?_⟩
      simp only [RelA,h3]
      refine ⟨cap, by simp, hcap, trivial, isObj_mk (ty := none) (es := (es.drop off).take n ++ imss yy) (by rw [h2, ← hlen']; simp), fun k hk => ?_⟩
      rw [h1]
      have hnew := (Push.drew E.w cs e).toPush.new
      simp only [Nat.zero_mul,Nat.zero_add,Nat.add_zero]
      rw [hnew]
      have : k < cs.length := by
       rw [hlen, o1, hE.num, hzs, ← Nat.add_mul, ← Nat.add_mul]
       have : n + yy.length + (cap - (n + yy.length)) = cap := by omega
       rw [this]; exact hk
      simp [this]
    ·simp at h
   ·simp at h
  ·simp at h
end
end Go.Abs
end
section
set_option linter.unusedVariables false
set_option linter.unusedSimpArgs false
namespace Go.Abs
section
variable {P : Program} {B : Low} {E : Env}
inductive All2 {α β : Type} (R : α → β → Prop) : List α → List β → Prop where
 | nil : All2 R [] []
 | cons {a : α} {b : β} {l : List α} {m : List β} : R a b → All2 R l m → All2 R (a :: l) (b :: m)
theorem foldl_setAt : ∀ (l : List Value) (k off : Nat) (arr : Array Value), ((l.zipIdx k).foldl (fun cs (p : Value × Nat) => cs.setIfInBounds (off + p.2) p.1) arr).toList = setAt arr.toList (off + k) l
 | [], _, _, _ => rfl
 | v :: l, k, off, arr => by
  simp only [List.zipIdx_cons,List.foldl_cons]
  rw [foldl_setAt l (k + 1) off]
  simp only [setAt,Array.toList_setIfInBounds,Nat.add_assoc]
theorem foldl_zipIdx (v : Value) (off : Nat) (arr : Array Value) : (v.cells.zipIdx.foldl (fun cs (p : Value × Nat) => cs.setIfInBounds (off + p.2) p.1) arr).toList = setAt arr.toList off v.cells.toList := by
 rw [← Array.foldl_toList, Array.toList_zipIdx]
 simpa using foldl_setAt v.cells.toList 0 off arr
theorem relAs_setAt {cs new : List AV} {vs us : List Value} (h : RelAs E cs vs) (hn : RelAs E new us) {off : Nat} (hfit : off + new.length ≤ cs.length) : RelAs E (setAt cs off new) (setAt vs off us) := by
 have hl := relAs_length h
 have hnl := relAs_length hn
 refine relAs_mk (by rw [setAt_length, setAt_length, hl]) fun j a v ha hv => ?_
 by_cases hj : off ≤ j ∧ j < off + new.length
 ·rw [show j = off + (j - off) by omega] at ha hv
  rw [setAt_in _ _ _ _ (by omega) (by omega)] at ha
  rw [setAt_in _ _ _ _ (by omega) (by omega)] at hv
  obtain ⟨u, hu, hr⟩ := relAs_get hn ha
  rw [hu] at hv; injection hv with hv; subst hv; exact hr
 ·rw [setAt_out _ _ _ _ (by omega)] at ha
  rw [setAt_out _ _ _ _ (by omega)] at hv
  obtain ⟨u, hu, hr⟩ := relAs_get h ha
  rw [hu] at hv; injection hv with hv; subst hv; exact hr
theorem fill_spec {place : Nat → Option (Nat × Nat)} {ρ : Operand → Value} {ρa : AOpd → AV} (hρ : ∀ x, RelA E (ρa (cO x)) (ρ x)) :
  ∀ (parts : List (Nat × Operand)) (aps : List (Nat × Nat × AOpd)) (cells : List AV) (vs : Array Value) (r : List AV), RelAs E cells vs.toList →
   All2 (fun p q => place p.1 = some (q.1, q.2.1) ∧ q.2.2 = cO p.2) parts aps → fillA cells (aps.map fun p => (p.1, p.2.1, ρa p.2.2)) = some r →
   ∃ us : Array Value, Instr.fill place vs (parts.map fun p => (p.1, ρ p.2)) = some us ∧ RelAs E r us.toList
 | [], aps, cells, vs, r, h, hp, hf => by
  cases hp
  simp only [List.map_nil,fillA] at hf; injection hf with hf; subst hf
  exact ⟨vs, rfl, h⟩
 | p :: parts, q :: aps, cells, vs, r, h, hp, hf => by
  cases hp with
  | cons h1 h2 =>
  obtain ⟨h1, h3⟩ := h1
  simp only [List.map_cons,fillA] at hf
  split at hf
  ·rename_i hc
   obtain ⟨c1, c2, c3⟩ := hc
   have hr := hρ p.2
   rw [← h3] at hr
   have hcs := relAs_cells hr c3
   have hcl := relAs_length hcs
   have hl := relAs_length h
   obtain ⟨us, hu, hru⟩ := fill_spec (place := place) hρ parts aps _ ((ρ p.2).cells.zipIdx.foldl (fun cs (x : Value × Nat) => cs.setIfInBounds (q.1 + x.2) x.1) vs) r
    (by rw [foldl_zipIdx]; exact relAs_setAt h hcs (by omega)) h2 hf
   refine ⟨us, ?_, hru⟩
   simp only [List.map_cons,Instr.fill,h1]
   have s1 : (ρ p.2).cells.size = q.2.1 := by rw [← c1, ← hcl]; simp
   have s2 : q.1 + (ρ p.2).cells.size ≤ vs.size := by rw [s1]; simp at hl; omega
   rw [if_neg (by simp [s1]; simp at hl; omega)]
   exact hu
  ·simp at hf
theorem mapM_run {α β : Type} (f : α → Sem β) (g : α → β) (w : World) : ∀ l : List α, (∀ x ∈ l, (f x).run P w = .ok (g x) w) → (l.mapM f).run P w = .ok (l.map g) w
 | [], _ => by simp
 | x :: l, h => by
  have h0 := h x (by simp)
  have ih := mapM_run f g w l fun y hy => h y (by simp [hy])
  simp [List.mapM_cons, h0, ih]
theorem compParts_spec {fs : Array Field} : ∀ {parts : List (Nat × Operand)} {aps : List (Nat × Nat × AOpd)}, compParts P fs parts = some aps →
  All2 (fun p q => (fs.map fun f => (f.offset, ((P.info? f.type).map (·.size)).getD 0))[p.1]? = some (q.1, q.2.1) ∧ q.2.2 = cO p.2) parts aps
 | [], aps, h => by simp only [compParts] at h; injection h with h; subst h; exact .nil
 |(i, x) :: l, aps, h => by
  simp only [compParts] at h
  split at h
  ·rename_i f r hf hr
   split at h
   ·rename_i q hq
    injection h with h; subst h
    exact .cons ⟨by simp [hf, hq], rfl⟩ (compParts_spec hr)
   ·simp at h
  ·simp at h
theorem run_zeroValue {t : TypeId} {i : TypeInfo} {z : Value} (hi : P.info? t = some i) (hz : i.zero = some z) (w : World) : (zeroValue t).run P w = .ok z w := by
 simp [zeroValue, typeInfo, hi, hz]
theorem good_build (I : Inv B E) {t : TypeId} {parts : Array (Nat × Operand)} {ρ : Operand → Value} {ρa : AOpd → AV} (hρ : ∀ x, RelA E (ρa (cO x)) (ρ x)) {r : AV} {H' : Heap}
  (h : aop E.H ρa (compBuild P t parts.toList) = some (r, H')) : Good P B E (Instr.build t (parts.map fun p => (p.1, ρ p.2))) r H' := by
 unfold compBuild at h
 split at h
 ·rename_i z fs hz hu
  obtain ⟨i, zv, hi, hzero, rfl, hok, hzs⟩ := zeroOf_spec hz
  split at h
  ·rename_i hall
   split at h
   ·rename_i ps hps
    simp only [aop] at h
    split at h
    ·rename_i cs hcs
     simp only [Option.some.injEq,Prod.mk.injEq] at h
     obtain ⟨rfl, rfl⟩ := h
     have hF := compParts_spec hps
     obtain ⟨us, hus, hru⟩ := fill_spec hρ parts.toList ps _ zv.cells cs (relAs_ofVals E zv.cells.toList) hF hcs
     refine good_same I (v := .agg us) ?_ (mkAgg_ok hru)
     have hpl : (fs.mapM (fun f => do pure (f.offset, ← sizeOf f.type) : Field → Sem (Nat × Nat))).run P E.w = .ok (fs.map fun f => (f.offset, ((P.info? f.type).map (·.size)).getD 0)) E.w := by
      rw [Array.mapM_eq_mapM_toList]
      have := mapM_run (P := P) (fun f : Field => (do pure (f.offset, ← sizeOf f.type) : Sem (Nat × Nat))) (fun f => (f.offset, ((P.info? f.type).map (·.size)).getD 0)) E.w fs.toList (fun f hf => by
       have := List.all_eq_true.1 hall f hf
       obtain ⟨q, hq⟩ := Option.isSome_iff_exists.1 this
       simp [run_sizeOf hq, hq])
      simp only [Sem.run_map,this,Result.andThen_ok]
      congr 1
      apply Array.ext'
      simp
     simp only [Instr.build,Sem.run_bind,run_zeroValue hi hzero,Result.andThen_ok,run_underlying hu,hpl]
     have e1 : (parts.map fun p => (p.1, ρ p.2)).toList = parts.toList.map fun p => (p.1, ρ p.2) := by simp
     rw [e1]
     simp only [hus]
     rfl
    ·simp at h
   ·simp [aop] at h
  ·simp [aop] at h
 ·rename_i z n e hz hu
  obtain ⟨i, zv, hi, hzero, rfl, hok, hzs⟩ := zeroOf_spec hz
  split at h
  ·rename_i q hq
   simp only [aop] at h
   split at h
   ·rename_i cs hcs
    simp only [Option.some.injEq,Prod.mk.injEq] at h
    obtain ⟨rfl, rfl⟩ := h
    have hF : All2 (fun (p : Nat × Operand) (a : Nat × Nat × AOpd) => (fun k => some (k * q.size, q.size)) p.1 = some (a.1, a.2.1) ∧ a.2.2 = cO p.2) parts.toList (parts.toList.map fun p => (p.1 * q.size, q.size, cO p.2)) := by
     induction parts.toList with
     | nil => exact .nil
     | cons p l ih => exact .cons ⟨rfl, rfl⟩ ih
    obtain ⟨us, hus, hru⟩ := fill_spec (place := fun k => some (k * q.size, q.size)) hρ parts.toList _ _ zv.cells cs (relAs_ofVals E zv.cells.toList) hF hcs
    refine good_same I (v := .agg us) ?_ (mkAgg_ok hru)
    have e1 : (parts.map fun p => (p.1, ρ p.2)).toList = parts.toList.map fun p => (p.1, ρ p.2) := by simp
    simp only [Instr.build,Sem.run_bind,run_zeroValue hi hzero,Result.andThen_ok,run_underlying hu,run_sizeOf hq]
    rw [e1]
    simp only [hus]
    rfl
   ·simp at h
  ·simp [aop] at h
 ·simp [aop] at h
def Laid (E : Env) (es : List (List AV)) (s : Nat) (vs : List Value) : Prop :=
 vs.length = es.length * s ∧ ∀ (q : Nat) (e : List AV), es[q]? = some e → e.length = s ∧ ∀ (r : Nat) (a : AV), e[r]? = some a → ∃ v, vs[q * s + r]? = some v ∧ RelA E a v
theorem laid_set {es : List (List AV)} {s : Nat} {vs us : List Value} (h : Laid E es s vs) {cs : List AV} (hc : RelAs E cs us) (hcs : cs.length = s) {q : Nat} (hq : q < es.length) : Laid E (es.set q cs) s (setAt vs (q * s) us) := by
 obtain ⟨hl, hg⟩ := h
 have hul := relAs_length hc
 have hqs : q * s + s ≤ vs.length := by
  rw [hl, show q * s + s = (q + 1) * s by rw [Nat.add_mul]; omega]
  exact Nat.mul_le_mul_right _ hq
 refine ⟨by rw [setAt_length, List.length_set]; exact hl, fun k e he => ?_⟩
 by_cases hk : k = q
 ·subst hk
  rw [List.getElem?_set_self hq] at he
  injection he with he; subst he
  refine ⟨hcs, fun r a ha => ?_⟩
  obtain ⟨v, hv, hr⟩ := relAs_get hc ha
  have hrlt := (List.getElem?_eq_some_iff.1 ha).1
  exact ⟨v, by rw [setAt_in _ _ _ _ (by omega) (by omega)]; exact hv, hr⟩
 ·rw [List.getElem?_set_ne (fun e => hk e.symm)] at he
  obtain ⟨h1, h2⟩ := hg k e he
  refine ⟨h1, fun r a ha => ?_⟩
  obtain ⟨v, hv, hr⟩ := h2 r a ha
  have hrlt := (List.getElem?_eq_some_iff.1 ha).1
  refine ⟨v, ?_, hr⟩
  rw [setAt_out _ _ _ _ ?_]
  ·exact hv
  ·rcases Nat.lt_or_gt_of_ne hk with h | h
   ·left
    have : (k + 1) * s ≤ q * s := Nat.mul_le_mul_right _ h
    rw [Nat.add_mul] at this; omega
   ·right
    have : (q + 1) * s ≤ k * s := Nat.mul_le_mul_right _ h
    rw [Nat.add_mul] at this; omega
theorem laid_zero {n s : Nat} {z : Array Value} (hz : z.size = s) : Laid E (List.replicate n (ofVals z.toList)) s ((Array.range (n * s)).map fun k => z[k % z.size]!).toList := by
 refine ⟨by simp, fun q e he => ?_⟩
 rw [List.getElem?_replicate] at he
 split at he
 ·rename_i hq
  injection he with he; subst he
  refine ⟨by rw [ofVals_length]; simpa using hz, fun r a ha => ?_⟩
  have hr := (List.getElem?_eq_some_iff.1 ha).1
  rw [ofVals_length] at hr
  have hrs : r < s := by simp at hr; omega
  have hlt : q * s + r < n * s := by
   have : (q + 1) * s ≤ n * s := Nat.mul_le_mul_right _ hq
   rw [Nat.add_mul] at this; omega
  obtain ⟨v, hv, hrel⟩ := relAs_get (relAs_ofVals E z.toList) ha
  refine ⟨v, ?_, hrel⟩
  have hmod : (q * s + r) % z.size = r := by
   rw [hz, Nat.mul_comm, Nat.mul_add_mod, Nat.mod_eq_of_lt hrs]
  simp [hlt, hmod]
  rw [Array.getElem?_toList] at hv
  simp [getElem!_def, hv]
 ·simp at he
theorem fillE_spec {ρ : Operand → Value} {ρa : AOpd → AV} (hρ : ∀ x, RelA E (ρa (cO x)) (ρ x)) {s : Nat} :
  ∀ (parts : List (Nat × Operand)) (es : List (List AV)) (vs : Array Value) (r : List (List AV)), Laid E es s vs.toList → fillE s es ((parts.map fun p => (p.1, cO p.2)).map fun p => (p.1, ρa p.2)) = some r →
   ∃ us : Array Value, Instr.fill (fun i => some (i * s, s)) vs (parts.map fun p => (p.1, ρ p.2)) = some us ∧ Laid E r s us.toList ∧ r.length = es.length ∧ (es.all (fun e => e.all cellOk) = true → r.all (fun e => e.all cellOk) = true)
 | [], es, vs, r, h, hf => by
  simp only [List.map_nil,fillE] at hf; injection hf with hf; subst hf
  exact ⟨vs, rfl, h, rfl, fun h => h⟩
 | p :: parts, es, vs, r, h, hf => by
  simp only [List.map_cons,fillE] at hf
  split at hf
  ·rename_i hc
   obtain ⟨c1, c2, c3⟩ := hc
   have hcs := relAs_cells (hρ p.2) c3
   have hcl := relAs_length hcs
   obtain ⟨us, hu, hru, hlen, hall⟩ := fillE_spec hρ parts _ ((ρ p.2).cells.zipIdx.foldl (fun cs (x : Value × Nat) => cs.setIfInBounds (p.1 * s + x.2) x.1) vs) r
    (by rw [foldl_zipIdx]; exact laid_set h hcs c1 c2) hf
   refine ⟨us, ?_, hru, by rw [hlen]; simp, fun hes => hall ?_⟩
   ·simp only [List.map_cons,Instr.fill]
    have s1 : (ρ p.2).cells.size = s := by rw [← c1, ← hcl]; simp
    have s2 : p.1 * s + s ≤ vs.size := by
     have := h.1
     simp only [Array.length_toList] at this
     rw [this, show p.1 * s + s = (p.1 + 1) * s by rw [Nat.add_mul]; omega]
     exact Nat.mul_le_mul_right _ c2
    rw [if_neg (by simp [s1]; omega)]
    exact hu
   ·rw [List.all_eq_true] at hes ⊢
    intro e he
    rcases List.mem_or_eq_of_mem_set he with he | rfl
    ·exact hes e he
    ·exact c3
  ·simp at hf
theorem good_bsliceA (I : Inv B E) {lit : Lit} {t : TypeId} {n : Nat} {parts : Array (Nat × Operand)} {ρ : Operand → Value} {ρa : AOpd → AV} (hρ : ∀ x, RelA E (ρa (cO x)) (ρ x)) {r : AV} {H' : Heap}
  (hdeg : lit.deg = true) (hsz1 : ∀ e i, elemInfo P t = some (e, i) → i.size = 1) (hnp : 0 < n) (h : aop E.H ρa (compSlice P lit t n parts.toList) = some (r, H')) : Good P B E (Instr.buildSlice t n (parts.map fun p => (p.1, ρ p.2))) r H' := by
 unfold compSlice at h
 split at h
 ·rename_i e i he
  have hu : P.underlying t = some (.slice e) ∧ P.info? e = some i := by
   unfold elemInfo at he
   split at he
   ·rename_i e' hue
    split at he
    ·rename_i i' hi'
     simp only [Option.some.injEq,Prod.mk.injEq] at he
     obtain ⟨rfl, rfl⟩ := he
     exact ⟨hue, hi'⟩
    ·simp at he
   ·simp at he
  obtain ⟨hu, hi⟩ := hu
  split at h
  ·rename_i z hz
   obtain ⟨i', zv, hi', hzero, rfl, hok, hzs⟩ := zeroOf_spec hz
   rw [hi] at hi'; injection hi' with hi'; subst hi'
   split at h
   ·rename_i hsz
    rw [if_pos ⟨hdeg, hsz1 _ _ he, hnp⟩] at h
    simp only [aop] at h
    split at h
    ·rename_i es hes
     have hL := laid_zero (E := E) (n := n) hzs
     obtain ⟨us, hus, hru, hlen, hall⟩ := fillE_spec hρ parts.toList _ ((Array.range (n * i.size)).map fun k => zv.cells[k % zv.cells.size]!) es hL hes
     have e1 : (parts.map fun p => (p.1, ρ p.2)).toList = parts.toList.map fun p => (p.1, ρ p.2) := by simp
     have hrun : (Instr.buildSlice t n (parts.map fun p => (p.1, ρ p.2))).run P E.w = .ok (.slice (some ⟨E.w.heap.size, 0, none⟩) n n) (E.w.alloc (.cells us e)) := by
      have e2 : ((Array.range (n * i.size)).map fun k => (if n * i.size = 0 then #[] else zv.cells)[k % (if n * i.size = 0 then #[] else zv.cells).size]!) = (Array.range (n * i.size)).map fun k => zv.cells[k % zv.cells.size]! := by
       by_cases h0 : n * i.size = 0
       ·simp [h0]
       ·simp [h0]
      have hle : ¬ (n * i.size > 2 ^ 24) := by omega
      simp only [Instr.buildSlice,Sem.run_bind,run_underlying hu,Result.andThen_ok,run_sizeOf hi]
      rw [if_neg hle]
      by_cases h0 : n * i.size = 0
      ·simp only [h0,if_true,Sem.run_bind,Sem.run_pure,Result.andThen_ok] at e2 ⊢
       rw [e2, e1]
       simp only [h0] at hus
       simp only [hus]
       rfl
      ·simp only [h0,if_false,Sem.run_bind,run_zeroValue hi hzero,Result.andThen_ok,Sem.run_pure] at e2 ⊢
       rw [e1]
       simp only [hus]
       rfl
     have hp : PushF E.w (E.w.alloc (.cells us e)) us.toList := by
      have := Push.alloc E.w us.toList e
      simpa using this
     have hn : es.length = n := by rw [hlen]; simp
     split at h
     ·rename_i ds hds
      split at h
      ·rename_i hn1
       simp only [Option.some.injEq,Prod.mk.injEq] at h
       obtain ⟨rfl, rfl⟩ := h
       obtain ⟨hdl, hdg⟩ := toDatss_get hds
       have hul := hru.1
       obtain ⟨I', X⟩ := I.push hp (fun b o => E.S b o ∨ (b = E.w.heap.size ∧ o < n * i.size)) (fun _ _ h => .inl h) (fun b o h => h.imp id And.left) (n * i.size, 0) (.hw e n)
        (fun _ es he => by simp at he) (fun ty' n' hn' => ⟨Own.new hp I.szB ⟨(e, us.toList.length), shape_alloc, by injection hn'⟩, fun o ho hs => by
         rcases hs with hs | hs
         ·have := I.sS _ _ hs; omega
         ·have := hs.2; simp only at ho; omega⟩) (fun _ _ => by simp)
       refine ⟨_, _, hrun, rfl, I', X, ?_⟩
       simp only [RelA]
       refine ⟨_, n, by rw [hdl, hn], by omega, .inr ⟨E.w.heap.size, 0, rfl, relE_mk fun q d hd => ?_⟩, e, n, by simp, by omega, fun _ => ⟨E.w.heap.size, 0, rfl, by simp, by simp [hdl, hn], fun k hk => ?_⟩⟩
       ·obtain ⟨e', he', hde⟩ := hdg q d hd
        obtain ⟨a1, a2⟩ := hru.2 q e' he'
        obtain ⟨b1, b2⟩ := toDats_get hde
        have hq : q < n := by have := (List.getElem?_eq_some_iff.1 he').1; omega
        refine ⟨by rw [b1, a1], relC_mk fun j x hx => ?_⟩
        obtain ⟨a, ha, hxa⟩ := b2 j x hx
        obtain ⟨v, hv, hr⟩ := a2 j a ha
        have hj : j < i.size := by have := (List.getElem?_eq_some_iff.1 ha).1; omega
        refine ⟨v, ?_, .inr ⟨rfl, ?_⟩, ?_, relD_mono ⟨X.ss, X.cell⟩ _ _ (relD_of_toDat a v x hr hxa)⟩
        ·rw [Nat.zero_add]
         show (E.w.alloc (.cells us e)).cell? _ = _
         rw [hp.toPush.new]
         exact hv
        ·have : (q + 1) * i.size ≤ n * i.size := Nat.mul_le_mul_right _ hq
         rw [Nat.add_mul, Nat.one_mul] at this
         omega
        ·have hok2 : es.all (fun e => e.all cellOk) = true := hall (by
          rw [List.all_eq_true]; intro e he
          rw [List.mem_replicate] at he
          rw [he.2]; exact hok)
         exact cellD_of_toDat (all_get (List.all_eq_true.1 hok2 e' (List.mem_of_getElem? he')) ha) hxa
       ·rw [Nat.zero_add, hp.toPush.new, List.getElem?_eq_getElem (by rw [hul, hn]; exact hk)]
        rfl
      ·first | omega | (simp at h; done) | (rename_i hx _; exact absurd hnp hx) | (rename_i hx; exact absurd hnp hx)
     ·simp at h
    ·simp at h
   ·simp [aop] at h
  ·simp [aop] at h
 ·simp [aop] at h
theorem good_bslice0 (I : Inv B E) {lit : Lit} {t : TypeId} {n : Nat} {parts : Array (Nat × Operand)} {ρ : Operand → Value} {ρa : AOpd → AV} (hρ : ∀ x, RelA E (ρa (cO x)) (ρ x)) {r : AV} {H' : Heap}
  (hnd : ∀ e i, elemInfo P t = some (e, i) → ¬ (lit.deg = true ∧ i.size = 1 ∧ 0 < n)) (h : aop E.H ρa (compSlice P lit t n parts.toList) = some (r, H')) : Good P B E (Instr.buildSlice t n (parts.map fun p => (p.1, ρ p.2))) r H' := by
 unfold compSlice at h
 split at h
 ·rename_i e i he
  have hu : P.underlying t = some (.slice e) ∧ P.info? e = some i := by
   unfold elemInfo at he
   split at he
   ·rename_i e' hue
    split at he
    ·rename_i i' hi'
     simp only [Option.some.injEq,Prod.mk.injEq] at he
     obtain ⟨rfl, rfl⟩ := he
     exact ⟨hue, hi'⟩
    ·simp at he
   ·simp at he
  obtain ⟨hu, hi⟩ := hu
  split at h
  ·rename_i z hz
   obtain ⟨i', zv, hi', hzero, rfl, hok, hzs⟩ := zeroOf_spec hz
   rw [hi] at hi'; injection hi' with hi'; subst hi'
   split at h
   ·rename_i hsz
    rw [if_neg (hnd _ _ he)] at h
    simp only [aop] at h
    split at h
    ·rename_i es hes
     have hL := laid_zero (E := E) (n := n) hzs
     obtain ⟨us, hus, hru, hlen, hall⟩ := fillE_spec hρ parts.toList _ ((Array.range (n * i.size)).map fun k => zv.cells[k % zv.cells.size]!) es hL hes
     have e1 : (parts.map fun p => (p.1, ρ p.2)).toList = parts.toList.map fun p => (p.1, ρ p.2) := by simp
     have hrun : (Instr.buildSlice t n (parts.map fun p => (p.1, ρ p.2))).run P E.w = .ok (.slice (some ⟨E.w.heap.size, 0, none⟩) n n) (E.w.alloc (.cells us e)) := by
      have e2 : ((Array.range (n * i.size)).map fun k => (if n * i.size = 0 then #[] else zv.cells)[k % (if n * i.size = 0 then #[] else zv.cells).size]!) = (Array.range (n * i.size)).map fun k => zv.cells[k % zv.cells.size]! := by
       by_cases h0 : n * i.size = 0
       ·simp [h0]
       ·simp [h0]
      have hle : ¬ (n * i.size > 2 ^ 24) := by omega
      simp only [Instr.buildSlice,Sem.run_bind,run_underlying hu,Result.andThen_ok,run_sizeOf hi]
      rw [if_neg hle]
      by_cases h0 : n * i.size = 0
      ·simp only [h0,if_true,Sem.run_bind,Sem.run_pure,Result.andThen_ok] at e2 ⊢
       rw [e2, e1]
       simp only [h0] at hus
       simp only [hus]
       rfl
      ·simp only [h0,if_false,Sem.run_bind,run_zeroValue hi hzero,Result.andThen_ok,Sem.run_pure] at e2 ⊢
       rw [e1]
       simp only [hus]
       rfl
     have hp : PushF E.w (E.w.alloc (.cells us e)) us.toList := by
      have := Push.alloc E.w us.toList e
      simpa using this
     have hn : es.length = n := by rw [hlen]; simp
     cases hmu : lit.mu with
     | true =>
      rw [hmu] at h
      simp only [if_true,Option.some.injEq,Prod.mk.injEq] at h
      obtain ⟨rfl, rfl⟩ := h
      have hok2 : es.all (fun e => e.all cellOk) = true := hall (by
       rw [List.all_eq_true]; intro e he
       rw [List.mem_replicate] at he
       rw [he.2]; exact hok)
      obtain ⟨E', h1, h2, h3, I', X⟩ := I.push_obj hp none (fun x hx => by simp at hx) es i.size fun q e he => by
       obtain ⟨a1, a2⟩ := hru.2 q e he
       refine ⟨a1, fun j a ha => ?_⟩
       obtain ⟨v, hv, hr⟩ := a2 j a ha
       exact ⟨v, hv, hr, all_get (List.all_eq_true.1 hok2 e (List.mem_of_getElem? he)) ha⟩
      refine ⟨_, E', by rw [h1]; exact hrun, h2, I', X, ?_⟩
      simp only [RelA,h3]
      refine ⟨n, by simp, Nat.le_refl _, trivial, isObj_mk (ty := none) (es := es) (by rw [h2]; simp), fun k hk => ?_⟩
      have hul := hru.1
      rw [h1]
      simp only [Nat.zero_mul,Nat.zero_add,Nat.add_zero]
      rw [hp.toPush.new, List.getElem?_eq_getElem (by rw [hul, hn]; exact hk)]
      rfl
     | false =>
      rw [hmu] at h
      simp only [Bool.false_eq_true,if_false] at h
      by_cases hn0 : n = 0
      ·rw [if_pos hn0] at h
       simp only [Option.some.injEq,Prod.mk.injEq] at h
       obtain ⟨rfl, rfl⟩ := h
       obtain ⟨I', X⟩ := I.push_im hp.toPush
       refine ⟨_, ⟨E.w.alloc (.cells us e), fun b o => E.S b o ∨ b = E.w.heap.size, E.m, E.H⟩, hrun, rfl, I', X, ?_⟩
       simp only [RelA]
       exact ⟨_, by rw [hn0]⟩
      rw [if_neg hn0] at h
      split at h
      ·rename_i ds hds
       simp only [Option.some.injEq,Prod.mk.injEq] at h
       obtain ⟨rfl, rfl⟩ := h
       obtain ⟨I', X⟩ := I.push_im hp.toPush
       obtain ⟨hdl, hdg⟩ := toDatss_get hds
       refine ⟨_, ⟨E.w.alloc (.cells us e), fun b o => E.S b o ∨ b = E.w.heap.size, E.m, E.H⟩, hrun, rfl, I', X, ?_⟩
       simp only [RelA,RelD]
       refine ⟨_, n, by rw [hdl, hn], by omega, .inr ⟨E.w.heap.size, 0, rfl, relE_mk fun q d hd => ?_⟩⟩
       obtain ⟨e', he', hde⟩ := hdg q d hd
       obtain ⟨a1, a2⟩ := hru.2 q e' he'
       obtain ⟨b1, b2⟩ := toDats_get hde
       refine ⟨by rw [b1, a1], relC_mk fun j x hx => ?_⟩
       obtain ⟨a, ha, hxa⟩ := b2 j x hx
       obtain ⟨v, hv, hr⟩ := a2 j a ha
       refine ⟨v, ?_, .inr rfl, ?_, relD_mono ⟨X.ss, X.cell⟩ _ _ (relD_of_toDat a v x hr hxa)⟩
       ·rw [Nat.zero_add]
        show (E.w.alloc (.cells us e)).cell? _ = _
        rw [hp.toPush.new]
        exact hv
       ·have hok2 : es.all (fun e => e.all cellOk) = true := hall (by
         rw [List.all_eq_true]; intro e he
         rw [List.mem_replicate] at he
         rw [he.2]; exact hok)
        exact cellD_of_toDat (all_get (List.all_eq_true.1 hok2 e' (List.mem_of_getElem? he')) ha) hxa
      ·simp at h
    ·simp at h
   ·simp [aop] at h
  ·simp [aop] at h
 ·simp [aop] at h
theorem good_bslice (I : Inv B E) {lit : Lit} {t : TypeId} {n : Nat} {parts : Array (Nat × Operand)} {ρ : Operand → Value} {ρa : AOpd → AV} (hρ : ∀ x, RelA E (ρa (cO x)) (ρ x)) {r : AV} {H' : Heap}
  (h : aop E.H ρa (compSlice P lit t n parts.toList) = some (r, H')) : Good P B E (Instr.buildSlice t n (parts.map fun p => (p.1, ρ p.2))) r H' := by
 by_cases hd : lit.deg = true ∧ (∀ e i, elemInfo P t = some (e, i) → i.size = 1) ∧ 0 < n
 ·exact good_bsliceA I hρ hd.1 hd.2.1 hd.2.2 h
 ·refine good_bslice0 I hρ (fun e i he hx => hd ⟨hx.1, fun e' i' he' => ?_, hx.2.2⟩) h
  rw [he] at he'
  simp only [Option.some.injEq,Prod.mk.injEq] at he'
  rw [← he'.2]; exact hx.2.1
end
end Go.Abs
end
section
set_option linter.unusedVariables false
set_option linter.unusedSimpArgs false
namespace Go.Abs
section
variable {P : Program} {B : Low} {E : Env}
theorem elemInfo_spec {t e : TypeId} {i : TypeInfo} (h : elemInfo P t = some (e, i)) : P.underlying t = some (.slice e) ∧ P.info? e = some i := by
 unfold elemInfo at h
 split at h
 ·rename_i e' hue
  split at h
  ·rename_i i' hi'
   simp only [Option.some.injEq,Prod.mk.injEq] at h
   obtain ⟨rfl, rfl⟩ := h
   exact ⟨hue, hi'⟩
  ·simp at h
 ·simp at h
theorem wrap_small {n : Int} (h0 : 0 ≤ n) (h : n ≤ 2 ^ 62) : IntKind.i64.wrap n = n := by
 simp [IntKind.wrap, IntKind.bits, IntKind.signed]
 omega
theorem good_mkslice (I : Inv B E) {t e : TypeId} {i : TypeInfo} (he : elemInfo P t = some (e, i)) {z : List AV} (hz : zeroOf P e = some z) {n m : Int} {k k' : IntKind} (hnm : n = m) (h0 : 0 ≤ n) (hb : (i.bytes : Int) * n ≤ 2 ^ 46) (hn : n ≤ 2 ^ 46) :
  Good P B E (Instr.makeSlice t (.int k n) (.int k' m)) (.ms i.size E.H.length 0 n.toNat) (E.H ++ [.obj none (List.replicate n.toNat z)]) := by
 subst hnm
 obtain ⟨hu, hi⟩ := elemInfo_spec he
 obtain ⟨i', zv, hi', hzero, rfl, hok, hzs⟩ := zeroOf_spec hz
 rw [hi] at hi'; injection hi' with hi'; subst hi'
 have hw := wrap_small h0 (by omega)
 have hL := laid_zero (E := E) (n := n.toNat) hzs
 have hp : PushF E.w (E.w.alloc (.cells ((Array.range (n.toNat * i.size)).map fun k => zv.cells[k % zv.cells.size]!) e)) ((Array.range (n.toNat * i.size)).map fun k => zv.cells[k % zv.cells.size]!).toList := by
  have := Push.alloc E.w ((Array.range (n.toNat * i.size)).map fun k => zv.cells[k % zv.cells.size]!).toList e
  simpa only [Array.toArray_toList] using this
 obtain ⟨E', h1, h2, h3, I', X⟩ := I.push_obj hp none (fun x hx => by simp at hx) (List.replicate n.toNat (ofVals zv.cells.toList)) i.size fun q e he => by
  obtain ⟨a1, a2⟩ := hL.2 q e he
  refine ⟨a1, fun j a ha => ?_⟩
  obtain ⟨v, hv, hr⟩ := a2 j a ha
  have := List.mem_of_getElem? he
  rw [List.mem_replicate] at this
  exact ⟨v, hv, hr, all_get (by rw [this.2]; exact hok) ha⟩
 refine ⟨.slice (some ⟨E.w.heap.size, 0, none⟩) n.toNat n.toNat, E', ?_, h2, I', X, ?_⟩
 ·rw [h1]
  have c1 : ¬ (n < 0) := by omega
  have c2 : ¬ (281474976710656 < (i.bytes : Int) * n) := by omega
  have e2 : ∀ (zz : Array Value), (n.toNat * i.size = 0 → True) → (n.toNat * i.size ≠ 0 → zz = zv.cells) → ((Array.range (n.toNat * i.size)).map fun k => zz[k % zz.size]!) = (Array.range (n.toNat * i.size)).map fun k => zv.cells[k % zv.cells.size]! := by
   intro zz _ h
   by_cases h0 : n.toNat * i.size = 0
   ·simp [h0]
   ·rw [h h0]
  simp only [Instr.makeSlice,Sem.run_bind,run_underlying hu,Result.andThen_ok,asInt,asIntOf,Sem.run_pure,typeInfo,run_program,hi,hw]
  simp [c1, c2, run_sizeOf hi]
  by_cases h0 : n.toNat * i.size = 0
  ·rw [if_pos h0]
   simp only [h0,Array.range_zero',Array.map_empty]
   rfl
  ·rw [if_neg h0, run_zeroValue hi hzero]
   rfl
 ·simp only [RelA,h3]
  refine ⟨n.toNat, by simp, Nat.le_refl _, trivial, isObj_mk (ty := none) (es := List.replicate n.toNat (ofVals zv.cells.toList)) (by rw [h2]; simp), fun k hk => ?_⟩
  rw [h1]
  simp only [Nat.zero_mul,Nat.zero_add,Nat.add_zero]
  rw [hp.toPush.new]
  simp [hk]
theorem good_clear (I : Inv B E) {t e : TypeId} {i : TypeInfo} (he : elemInfo P t = some (e, i)) {z : List AV} (hz : zeroOf P e = some z) (ty : TypeId) {a r : AV} {v : Value} (ha : RelA E a v) {H' : Heap} {ρa : AOpd → AV} {x : AOpd} (hx : ρa x = a)
  (h : aop E.H ρa (.clear i.size z x) = some (r, H')) : r = undefA ∧ ∃ E', (Builtin.clear_ #[t] ty #[v]).run P E.w = .ok (.tuple #[]) E'.w ∧ E'.H = H' ∧ Inv B E' ∧ Ext B E E' := by
 obtain ⟨hu, hi⟩ := elemInfo_spec he
 obtain ⟨i', zv, hi', hzero, rfl, hok, hzs⟩ := zeroOf_spec hz
 rw [hi] at hi'; injection hi' with hi'; subst hi'
 simp only [aop,hx] at h
 split at h
 ·rename_i s' id off n
  split at h
  ·rename_i hc
   obtain ⟨rfl, hzl⟩ := hc
   split at h
   ·rename_i ty0 es hes
    split at h
    ·rename_i hfit
     simp only [Option.some.injEq,Prod.mk.injEq] at h
     obtain ⟨rfl, rfl⟩ := h
     refine ⟨rfl, ?_⟩
     simp only [RelA] at ha
     obtain ⟨c, rfl, hle, hs, _⟩ := ha
     obtain ⟨own, nS, hO⟩ := I.obj id _ es hes
     let us : List Value := (Builtin.zeroCells zv.cells n).toList
     have hul : us.length = n * i.size := by simp [us, Builtin.zeroCells, hzs]
     have hth : ∀ j, j < us.length → (E.w.cell? ⟨(E.m id).1, (E.m id).2.1 + off * i.size + j, none⟩).isSome = true := fun j hj => by
      have hsz : 0 < i.size := by
       rcases Nat.eq_zero_or_pos i.size with h0 | h0
       ·rw [hul, h0] at hj; omega
       ·exact h0
      have hq : j / i.size < n := (Nat.div_lt_iff_lt_mul hsz).2 (by rw [← hul]; exact hj)
      have hlt : off + j / i.size < es.length := by omega
      obtain ⟨b1, b2⟩ := hO _ _ (List.getElem?_eq_getElem hlt)
      have hr : j % i.size < (es[off + j / i.size]).length := by rw [b1, hs]; exact Nat.mod_lt _ hsz
      obtain ⟨u, hu, _⟩ := b2 _ _ (List.getElem?_eq_getElem hr)
      have e1 : (E.m id).2.1 + (off + j / i.size) * (E.m id).2.2 + j % i.size = (E.m id).2.1 + off * i.size + j := by
       have := Nat.div_add_mod j i.size
       rw [hs, Nat.add_mul]
       rw [Nat.mul_comm] at this; omega
      rw [e1] at hu
      rw [hu]; rfl
     have hone : ∀ v ∈ us, v.oneCell' = true := fun v hv => by
      simp only [us,Builtin.zeroCells] at hv
      simp at hv
      obtain ⟨k, hk, rfl⟩ := hv
      have hsz : 0 < zv.cells.size := by
       rcases Nat.eq_zero_or_pos zv.cells.size with h0 | h0
       ·rw [h0] at hk; simp at hk
       ·exact h0
      have hlt : k % zv.cells.size < zv.cells.size := Nat.mod_lt _ hsz
      have hget : zv.cells.toList[k % zv.cells.size]? = some zv.cells[k % zv.cells.size]! := by
       rw [Array.getElem?_toList]; simp [hlt]
      obtain ⟨a, ha⟩ : ∃ a, (ofVals zv.cells.toList)[k % zv.cells.size]? = some a := ⟨_, List.getElem?_eq_getElem (by rw [ofVals_length]; simpa using hlt)⟩
      obtain ⟨u, hu, hr⟩ := relAs_get (relAs_ofVals E zv.cells.toList) ha
      rw [hget] at hu; injection hu with hu
      rw [hu]
      exact (cellOk_one hr (all_get hok ha)).1
     have hst := run_storeCells_cells (P := P) (E.m id).1 ((E.m id).2.1 + off * i.size) us 0 E.w (fun j hj => by simpa using hth j hj) (fun j _ => own.free _ (Nat.zero_le _)) hone
     simp only [Nat.add_zero] at hst
     have X := ext_write (es' := es.take off ++ List.replicate n (ofVals zv.cells.toList) ++ es.drop (off + n)) I hes ((E.m id).2.1 + off * i.size) us
     have hO' : RelO ⟨E.w.setCells (E.m id).1 ((E.m id).2.1 + off * i.size) us, E.S, E.m, E.H.set id (.obj ty0 (es.take off ++ List.replicate n (ofVals zv.cells.toList) ++ es.drop (off + n)))⟩ (es.take off ++ List.replicate n (ofVals zv.cells.toList) ++ es.drop (off + n)) (E.m id).1 (E.m id).2.1 (E.m id).2.2 := by
      intro q e' he'
      have hold : ∀ (q0 : Nat), (es[q0]? = some e') → (q0 < off ∨ off + n ≤ q0) → q = q0 → e'.length = (E.m id).2.2 ∧ ∀ j a, e'[j]? = some a → ∃ v, (E.w.setCells (E.m id).1 ((E.m id).2.1 + off * i.size) us).cell? ⟨(E.m id).1, (E.m id).2.1 + q * (E.m id).2.2 + j, none⟩ = some v ∧ RelA ⟨E.w.setCells (E.m id).1 ((E.m id).2.1 + off * i.size) us, E.S, E.m, E.H.set id (.obj ty0 (es.take off ++ List.replicate n (ofVals zv.cells.toList) ++ es.drop (off + n)))⟩ a v ∧ cellOk a = true := by
       intro q0 hq0 hout hqq
       subst hqq
       obtain ⟨b1, b2⟩ := hO q e' hq0
       refine ⟨b1, fun j a ha => ?_⟩
       obtain ⟨v, hv, hr, hk⟩ := b2 j a ha
       refine ⟨v, ?_, relA_ext X a v hr, hk⟩
       have hj := (List.getElem?_eq_some_iff.1 ha).1
       rw [World.cell?_setCells_out _ _ _ _ _ (fun _ _ => ?_)]
       ·exact hv
       ·simp only
        rw [hul, hs]
        rw [b1, hs] at hj
        rcases hout with h | h
        ·left
         have : (q + 1) * i.size ≤ off * i.size := Nat.mul_le_mul_right _ h
         rw [Nat.add_mul] at this; omega
        ·right
         have : (off + n) * i.size ≤ q * i.size := Nat.mul_le_mul_right _ h
         rw [Nat.add_mul] at this; omega
      have htl : (es.take off).length = off := by simp; omega
      by_cases h1 : q < off
      ·rw [List.append_assoc, List.getElem?_append_left (by omega), List.getElem?_take, if_pos h1] at he'
       exact hold q he' (.inl h1) rfl
      ·by_cases h2 : q < off + n
       ·rw [List.append_assoc, List.getElem?_append_right (by omega), htl, List.getElem?_append_left (by simp; omega), List.getElem?_replicate, if_pos (by omega)] at he'
        injection he' with he'; subst he'
        refine ⟨by rw [hs]; exact hzl, fun j a ha => ?_⟩
        have hj := (List.getElem?_eq_some_iff.1 ha).1
        rw [ofVals_length] at hj
        obtain ⟨v, hv, hr⟩ := relAs_get (relAs_ofVals ⟨E.w.setCells (E.m id).1 ((E.m id).2.1 + off * i.size) us, E.S, E.m, E.H.set id (.obj ty0 (es.take off ++ List.replicate n (ofVals zv.cells.toList) ++ es.drop (off + n)))⟩ zv.cells.toList) ha
        refine ⟨v, ?_, hr, all_get hok ha⟩
        have hjs : j < i.size := by simp at hj; omega
        have hk : (q - off) * i.size + j < us.length := by
         rw [hul]
         have : (q - off + 1) * i.size ≤ n * i.size := Nat.mul_le_mul_right _ (by omega)
         rw [Nat.add_mul] at this; omega
        have := World.cell?_setCells_in (E.m id).1 us ((E.m id).2.1 + off * i.size) E.w hth ((q - off) * i.size + j) hk
        rw [hs, show (E.m id).2.1 + q * i.size + j = (E.m id).2.1 + off * i.size + ((q - off) * i.size + j) by
         have : q * i.size = off * i.size + (q - off) * i.size := by rw [← Nat.add_mul]; congr 1; omega
         omega]
        rw [this]
        have hmod : ((q - off) * i.size + j) % zv.cells.size = j := by rw [hzs, Nat.mul_comm, Nat.mul_add_mod, Nat.mod_eq_of_lt hjs]
        simp only [us,Builtin.zeroCells]
        simp [hmod]
        rw [Array.getElem?_toList] at hv
        simp [getElem!_def, hv]
       ·rw [List.getElem?_append_right (by simp; omega)] at he'
        simp only [List.length_append,htl,List.length_replicate,List.getElem?_drop] at he'
        exact hold q (by rw [← he']; congr 1; omega) (.inr (by omega)) rfl
     obtain ⟨I', X'⟩ := I.store hes _ _ hO'
     refine ⟨_, ?_, rfl, I', X'⟩
     cases n with
     | zero =>
      have hu0 : us = [] := List.length_eq_zero_iff.1 (by rw [hul]; simp)
      rw [hu0]
      simp [Builtin.clear_, run_underlying hu, World.setCells]
     | succ n =>
      simp [Builtin.clear_, run_underlying hu, run_zeroValue hi hzero]
      have e3 : (Builtin.zeroCells zv.cells (n + 1)).toList = us := rfl
      rw [e3, hst]
      simp
    ·simp at h
   ·simp at h
  ·simp at h
 ·simp only [Option.some.injEq,Prod.mk.injEq] at h
  obtain ⟨rfl, rfl⟩ := h
  simp only [RelA] at ha
  subst ha
  refine ⟨rfl, E, ?_, rfl, I, Ext.refl B E⟩
  simp [Builtin.clear_, run_underlying hu]
 ·simp only [Option.some.injEq,Prod.mk.injEq] at h
  obtain ⟨rfl, rfl⟩ := h
  simp only [RelA] at ha
  obtain ⟨b, rfl⟩ := ha
  refine ⟨rfl, E, ?_, rfl, I, Ext.refl B E⟩
  cases b <;> simp [Builtin.clear_, run_underlying hu]
 ·simp only [Option.some.injEq,Prod.mk.injEq] at h
  obtain ⟨rfl, rfl⟩ := h
  simp only [RelA,RelD] at ha
  obtain ⟨b, c, rfl, _⟩ := ha
  refine ⟨rfl, E, ?_, rfl, I, Ext.refl B E⟩
  cases b <;> simp [Builtin.clear_, run_underlying hu]
 ·simp at h
end
end Go.Abs
end
section
set_option linter.unusedVariables false
set_option linter.unusedSimpArgs false
namespace Go.Abs
def GoodO (P : Program) (B : Low) (E : Env) (s : Sem Next) (r : AV) (H' : Heap) : Prop :=
 ∃ nx v E', s.run P E.w = .ok nx E'.w ∧ (nx = .value v ∨ (nx = .skip ∧ v = undef)) ∧ E'.H = H' ∧ Inv B E' ∧ Ext B E E' ∧ RelA E' r v
section
variable {P : Program} {B : Low} {E : Env} {ρ : Operand → Value} {ρa : AOpd → AV}
theorem goodO {s : Sem Value} {r : AV} {H' : Heap} (h : Good P B E s r H') : GoodO P B E (do pure (.value (← s))) r H' := by
 obtain ⟨v, E', h1, h2, h3, h4, h5⟩ := h
 exact ⟨.value v, v, E', by simp [h1], .inl rfl, h2, h3, h4, h5⟩
theorem goodO_val (I : Inv B E) {r : AV} {v : Value} (h : RelA E r v) : GoodO P B E (pure (.value v)) r E.H :=
 ⟨.value v, v, E, rfl, .inl rfl, rfl, I, Ext.refl B E, h⟩
theorem relA_undef {E : Env} : RelA E undefA undef := by
 simp only [undefA,undef,RelA,RelAs]
 exact ⟨[], rfl, rfl⟩
theorem bytesOf_spec {w : World} {S : Nat → Nat → Prop} : ∀ {es : List (List Dat)} {bs : List UInt8}, bytesOf es = some bs → ∃ ns : List Int, es = ns.map (fun n => [Dat.int .u8 n]) ∧ bs = ns.map (fun n => UInt8.ofNat n.toNat)
 | [], bs, h => by simp only [bytesOf] at h; injection h with h; subst h; exact ⟨[], rfl, rfl⟩
 | e :: l, bs, h => by
  unfold bytesOf at h
  split at h
  ·rename_i heq; simp at heq
  ·rename_i n l' heq
   simp only [List.cons.injEq] at heq
   obtain ⟨rfl, rfl⟩ := heq
   split at h
   ·rename_i bs' hb
    injection h with h; subst h
    obtain ⟨ns, rfl, rfl⟩ := bytesOf_spec (w := w) (S := S) hb
    exact ⟨n :: ns, rfl, rfl⟩
   ·simp at h
  ·simp at h
theorem foldl_push : ∀ (l : List Int) (r : ByteArray), l.foldl (fun r n => r.push (UInt8.ofNat n.toNat)) r = ⟨r.data ++ (l.map fun n => UInt8.ofNat n.toNat).toArray⟩
 | [], r => by simp
 | b :: l, r => by
  simp only [List.foldl_cons,List.map_cons]
  rw [foldl_push l]
  simp [ByteArray.push]
theorem relL_u8 {w : World} {S : Nat → Nat → Prop} : ∀ {ns : List Int} {vs : List Value}, RelL w S (ns.map (fun n => [Dat.int .u8 n])).flatten vs → vs = ns.map (Value.int .u8)
 | [], vs, h => by simpa only [List.map_nil, List.flatten_nil, RelL] using h
 | n :: ns, vs, h => by
  simp only [List.map_cons,List.flatten_cons,List.singleton_append,RelL] at h
  obtain ⟨v, r, rfl, hv, hl⟩ := h
  simp only [RelD] at hv
  rw [hv, relL_u8 hl]; rfl
theorem run_b2s {src dst e : TypeId} (hs : P.underlying src = some (.slice e)) (he : P.underlying e = some (.int .u8)) (hd : P.underlying dst = some .string) {es : List (List Dat)} {b : Option Addr} {c : Nat}
  (hr : es = [] ∨ ∃ bl o, b = some ⟨bl, o, none⟩ ∧ RelE E.w E.S es bl o 1) {bs : List UInt8} (hb : bytesOf es = some bs) :
  (convert src dst (.slice b es.length c)).run P E.w = .ok (.string ⟨bs.toArray⟩) E.w := by
 have key : (Conv.bytesToString (.slice b es.length c)).run P E.w = .ok (.string ⟨bs.toArray⟩) E.w := by
  obtain ⟨ns, rfl, rfl⟩ := bytesOf_spec (w := E.w) (S := E.S) hb
  rcases hr with h | ⟨bl, o, rfl, h⟩
  ·have hn : ns = [] := by simpa using h
   subst hn
   cases b with
   | none => simp [Conv.bytesToString]; rfl
   | some a =>
    have := run_bytesToString (P := P) E.w a 0 c [] (by simp [loadCells, loadCellsFrom])
    exact this
  ·obtain ⟨vs, a1, a2, a3, a4⟩ := relE_vals h
   have hvs := relL_u8 a1
   subst hvs
   have hl := run_loadCells_rel (P := P) a4
   simp only [List.length_map] at hl
   have := run_bytesToString (P := P) E.w ⟨bl, o, none⟩ ns.length c ns (by simpa using hl)
   simp only [List.length_map]
   rw [this, foldl_push]
   simp
 cases b <;> simp [convert, run_underlying hs, run_underlying hd, run_underlying he, key]
theorem good_conv (I : Inv B E) (hρ : ∀ x, RelA E (ρa (cO x)) (ρ x)) {src dst : TypeId} {x : Operand} {r : AV} {H' : Heap} (h : aop E.H ρa (compConv P src dst x) = some (r, H')) :
  Good P B E (convert src dst (ρ x)) r H' := by
 have hx := hρ x
 unfold compConv at h
 split at h
 ·rename_i k1 k2 hs hd
  simp only [aop] at h
  split at h
  ·rename_i k n he
   rw [he] at hx; simp only [RelA,RelD] at hx
   simp only [Option.some.injEq,Prod.mk.injEq] at h
   obtain ⟨rfl, rfl⟩ := h
   exact good_same I (v := .int k2 (k2.wrap n)) (by rw [hx]; simp [convert, run_underlying hs, run_underlying hd, Conv.intToInt]) (by simp only [RelA,RelD])
  ·simp at h
 ·rename_i k1 k2 hs hd
  simp only [aop] at h
  split at h
  ·rename_i k n he
   rw [he] at hx; simp only [RelA,RelD] at hx
   simp only [Option.some.injEq,Prod.mk.injEq] at h
   obtain ⟨rfl, rfl⟩ := h
   exact good_same I (v := .float k2 (k2.nearest n)) (by rw [hx]; simp [convert, run_underlying hs, run_underlying hd, Conv.intToFloat]) (by simp only [RelA,RelD])
  ·simp at h
 ·rename_i k1 k2 hs hd
  simp only [aop] at h
  split at h
  ·rename_i s b he
   rw [he] at hx; simp only [RelA,RelD] at hx
   split at h
   ·rename_i n hn
    split at h
    ·rename_i hc
     simp only [Option.some.injEq,Prod.mk.injEq] at h
     obtain ⟨rfl, rfl⟩ := h
     exact good_same I (v := .int k2 n) (by rw [hx]; simp [convert, run_underlying hs, run_underlying hd, Conv.floatToInt, hn, hc]) (by simp only [RelA,RelD])
    ·simp at h
   ·simp at h
  ·simp at h
 ·rename_i hs hd
  simp only [aop] at h
  split at h
  ·rename_i b he
   rw [he] at hx; simp only [RelA,RelD] at hx
   simp only [Option.some.injEq,Prod.mk.injEq] at h
   obtain ⟨rfl, rfl⟩ := h
   exact good_same I (v := .string ⟨b.toArray⟩) (by rw [hx]; simp [convert, run_underlying hs, run_underlying hd]) (by simp only [RelA,RelD])
  ·simp at h
 ·rename_i k1 hs hd
  simp only [aop] at h
  split at h
  ·rename_i k n he
   rw [he] at hx; simp only [RelA,RelD] at hx
   simp only [Option.some.injEq,Prod.mk.injEq] at h
   obtain ⟨rfl, rfl⟩ := h
   exact good_same I (v := .string (Utf8.encode n)) (by rw [hx]; simp [convert, run_underlying hs, run_underlying hd, Conv.intToString]) (by simp only [RelA,RelD])
  ·simp at h
 ·rename_i e hs hd
  split at h
  ·rename_i he8
   simp only [aop] at h
   split at h
   ·rename_i b he
    rw [he] at hx; simp only [RelA,RelD] at hx
    simp only [Option.some.injEq,Prod.mk.injEq] at h
    obtain ⟨rfl, rfl⟩ := h
    have hrun := run_bytes_of_string (P := P) E.w src dst e ⟨b.toArray⟩ hs hd he8
    obtain ⟨C, hC⟩ : ∃ C, C = bytesRow ⟨b.toArray⟩ (grownCap E.w (ByteArray.mk b.toArray).size 0 e) := ⟨_, rfl⟩
    rw [← hC] at hrun
    have hp : Push E.w (E.w.drew.alloc (.cells C e (C.size, C.size + 1))) C.toList := ⟨⟨e, (C.size, C.size + 1), rfl⟩, rfl, rfl, rfl⟩
    obtain ⟨I', X⟩ := I.push_im hp
    refine ⟨_, ⟨E.w.drew.alloc (.cells C e (C.size, C.size + 1)), fun b o => E.S b o ∨ b = E.w.heap.size, E.m, E.H⟩, by rw [hx]; exact hrun, rfl, I', X, ?_⟩
    simp only [RelA,RelD]
    have hsz : (ByteArray.mk b.toArray).size = b.length := by simp [ByteArray.size]
    refine ⟨_, grownCap E.w (ByteArray.mk b.toArray).size 0 e, by rw [List.length_map, hsz], ?_, .inr ⟨E.w.heap.size, 0, rfl, relE_mk fun q d hd => ?_⟩⟩
    ·rw [List.length_map, ← hsz]; exact grownCap_ge _ _ _ _
    ·rw [List.getElem?_map] at hd
     cases hq : b[q]? with
     | none => rw [hq] at hd; simp at hd
     | some c =>
      rw [hq] at hd
      simp only [Option.map_some,Option.some.injEq] at hd
      subst hd
      have hql := (List.getElem?_eq_some_iff.1 hq).1
      refine ⟨rfl, relC_mk fun j x hj => ?_⟩
      have hj0 : j = 0 := by have := (List.getElem?_eq_some_iff.1 hj).1; simpa using this
      subst hj0
      simp at hj; subst hj
      refine ⟨.int .u8 c.toNat, ?_, .inr rfl, rfl, by simp only [byteDat,RelD]⟩
      have := bytesRow_at ⟨b.toArray⟩ (grownCap E.w (ByteArray.mk b.toArray).size 0 e) q (by simpa using hql)
      rw [hp.new]
      rw [List.getElem?_eq_getElem hql] at hq
      injection hq with hq
      simp only [Nat.zero_add,Nat.mul_one,Nat.add_zero,Array.getElem?_toList]
      rw [hC, this]
      simp [hq]
   ·simp at h
  ·simp [aop] at h
 ·rename_i e hs hd
  split at h
  ·rename_i he8
   simp only [aop] at h
   split at h
   ·rename_i s es he
    rw [he] at hx; simp only [RelA,RelD] at hx
    obtain ⟨b, c, hv, _, hre⟩ := hx
    split at h
    ·rename_i h1
     split at h
     ·rename_i bs hbs
      simp only [Option.some.injEq,Prod.mk.injEq] at h
      obtain ⟨rfl, rfl⟩ := h
      rcases h1 with rfl | rfl
      ·exact good_same I (by rw [hv]; exact run_b2s hs he8 hd hre hbs) (by simp only [RelA,RelD])
      ·exact good_same I (by rw [hv]; exact run_b2s (es := []) hs he8 hd (.inl rfl) hbs) (by simp only [RelA,RelD])
     ·simp at h
    ·simp at h
   ·rename_i s es tok he
    rw [he] at hx; simp only [RelA] at hx
    obtain ⟨b, c, hv, _, hre, _⟩ := hx
    split at h
    ·rename_i h1
     subst h1
     split at h
     ·rename_i bs hbs
      simp only [Option.some.injEq,Prod.mk.injEq] at h
      obtain ⟨rfl, rfl⟩ := h
      exact good_same I (by rw [hv]; exact run_b2s hs he8 hd hre hbs) (by simp only [RelA,RelD])
     ·simp at h
    ·simp at h
   ·rename_i he
    rw [he] at hx; simp only [RelA] at hx
    have hv := hx
    simp only [Option.some.injEq,Prod.mk.injEq] at h
    obtain ⟨rfl, rfl⟩ := h
    exact good_same I (by rw [hv]; exact run_b2s (es := []) hs he8 hd (.inl rfl) rfl) (by simp only [RelA,RelD])
   ·rename_i he
    rw [he] at hx; simp only [RelA] at hx
    obtain ⟨b, hv⟩ := hx
    simp only [Option.some.injEq,Prod.mk.injEq] at h
    obtain ⟨rfl, rfl⟩ := h
    exact good_same I (by rw [hv]; exact run_b2s (es := []) hs he8 hd (.inl rfl) rfl) (by simp only [RelA,RelD])
   ·simp at h
  ·simp [aop] at h
 ·simp [aop] at h
theorem map1 {α β : Type} (f : α → β) (x : α) : (⟨[x]⟩ : Array α).map f = #[f x] := by simp
theorem map2 {α β : Type} (f : α → β) (x y : α) : (⟨[x, y]⟩ : Array α).map f = #[f x, f y] := by simp
theorem good_len (I : Inv B E) {a : AV} {v : Value} (ha : RelA E a v) {n : Nat} (h : lenA a = some n) {t e : TypeId} (ht : P.underlying t = some (.slice e)) (ty : TypeId) : Good P B E (Builtin.len_ #[t] ty #[v]) (.im (.int .i64 n)) E.H := by
 have key : ∀ (b : Option Addr) (c : Nat), v = .slice b n c → Good P B E (Builtin.len_ #[t] ty #[v]) (.im (.int .i64 n)) E.H := by
  intro b c hv
  subst hv
  exact good_same I (v := .int .i64 n) (by simp [Builtin.len_, run_underlying ht, goInt]) (by simp only [RelA,RelD])
 unfold lenA at h
 split at h <;> first
  |(simp at h; done)
  |(injection h with h; subst h
    simp only [RelA,RelD] at ha
    first
     |(obtain ⟨b, c, hv, _⟩ := ha; exact key b c hv)
     |(obtain ⟨c, hv, _⟩ := ha; exact key _ c hv)
     |(obtain ⟨b, hv⟩ := ha; exact key b 0 hv)
     | exact key none 0 ha)
theorem good_builtin (I : Inv B E) (hρ : ∀ x, RelA E (ρa (cO x)) (ρ x)) {b : Builtin} {ts : Array TypeId} {args : Array Operand} {r : AV} {H' : Heap} (ty : TypeId) (cs : Array Bool)
  {lit : Lit} (h : aop E.H ρa (compBuiltin P lit b ts args) = some (r, H')) : GoodO P B E (builtin b ts ty cs (args.map ρ)) r H' := by
 unfold compBuiltin at h
 split at h
 ·-- len
  rename_i t x
  rw [map1]
  split at h
  ·rename_i ht
   simp only [aop] at h
   have hx := hρ x
   split at h
   ·rename_i l he
    rw [he] at hx; simp only [RelA,RelD] at hx
    simp only [Option.some.injEq,Prod.mk.injEq] at h
    obtain ⟨rfl, rfl⟩ := h
    refine goodO (s := Builtin.len_ #[t] ty #[ρ x]) (good_same I (v := .int .i64 l.length) ?_ (by simp only [RelA,RelD]))
    rw [hx]
    rw [run_len_string E.w t ty _ ht]
    have hsz : (ByteArray.mk l.toArray).size = l.length := by simp [ByteArray.size]
    rw [hsz]; rfl
   ·simp at h
  ·rename_i e ht
   simp only [aop] at h
   split at h
   ·rename_i n hn
    simp only [Option.some.injEq,Prod.mk.injEq] at h
    obtain ⟨rfl, rfl⟩ := h
    exact goodO (s := Builtin.len_ #[t] ty #[ρ x]) (good_len I (hρ x) hn ht ty)
   ·simp at h
  ·simp [aop] at h
 ·-- append
  rename_i t u x y
  rw [map2]
  split at h
  ·rename_i e i d he hu
   obtain ⟨ht, hi⟩ := elemInfo_spec he
   split at h
   ·rename_i z hz
    split at h
    ·rename_i hd
     cases hmu : lit.mu with
     | false =>
      rw [hmu] at h
      simp only [Bool.false_eq_true,if_false,aop] at h
      split at h
      ·rename_i ys hys
       exact goodO (s := Builtin.append_ #[t, u] ty #[ρ x, ρ y]) (good_append I ht hi hu hd hz ty (hρ x) (hρ y) hys h)
      ·simp at h
     | true =>
      rw [hmu] at h
      simp only [if_true] at h
      split at h
      ·simp only [aop] at h
       split at h
       ·rename_i ys hys
        exact goodO (s := Builtin.append_ #[t, u] ty #[ρ x, ρ y]) (good_appendM I ht hi hu hd hz ty (hρ x) (hρ y) hys h)
       ·simp at h
      ·simp [aop] at h
    ·simp [aop] at h
   ·simp [aop] at h
  ·simp [aop] at h
 ·-- real
  rename_i x
  rw [map1]
  simp only [aop] at h
  have hx := hρ x
  split at h
  ·rename_i k a c he
   rw [he] at hx; simp only [RelA,RelD] at hx
   simp only [Option.some.injEq,Prod.mk.injEq] at h
   obtain ⟨rfl, rfl⟩ := h
   exact goodO (s := Builtin.real_ ts ty #[ρ x]) (good_same I (v := .float k a) (by rw [hx]; rfl) (by simp only [RelA,RelD]))
  ·simp at h
 ·rename_i x
  rw [map1]
  simp only [aop] at h
  have hx := hρ x
  split at h
  ·rename_i k a c he
   rw [he] at hx; simp only [RelA,RelD] at hx
   simp only [Option.some.injEq,Prod.mk.injEq] at h
   obtain ⟨rfl, rfl⟩ := h
   exact goodO (s := Builtin.imag_ ts ty #[ρ x]) (good_same I (v := .float k c) (by rw [hx]; rfl) (by simp only [RelA,RelD]))
  ·simp at h
 ·rename_i x y
  rw [map2]
  simp only [aop] at h
  have hx := hρ x
  have hy := hρ y
  split at h
  ·rename_i k a k' c he he'
   rw [he] at hx; rw [he'] at hy; simp only [RelA,RelD] at hx hy
   split at h
   ·rename_i hk
    simp only [Option.some.injEq,Prod.mk.injEq] at h
    obtain ⟨rfl, rfl⟩ := h
    exact goodO (s := Builtin.complex_ ts ty #[ρ x, ρ y]) (good_same I (v := .complex k a c) (by
     subst hk
     rw [hx, hy]
     show (if k = k then pure (.complex k a c) else stuck "complex: parts of different kinds" : Sem Value).run P E.w = _
     rw [if_pos rfl]; rfl) (by simp only [RelA,RelD]))
   ·simp at h
  ·simp at h
 ·rename_i x y
  rw [map2]
  simp only [aop] at h
  split at h
  ·rename_i v hv
   simp only [Option.some.injEq,Prod.mk.injEq] at h
   obtain ⟨rfl, rfl⟩ := h
   obtain ⟨u, h1, h2⟩ := good_min (P := P) hv (hρ x) (hρ y) ts ty
   exact goodO (s := Builtin.min_ ts ty #[ρ x, ρ y]) (good_same I h1 h2)
  ·simp at h
 ·rename_i x y
  rw [map2]
  simp only [aop] at h
  split at h
  ·rename_i v hv
   simp only [Option.some.injEq,Prod.mk.injEq] at h
   obtain ⟨rfl, rfl⟩ := h
   obtain ⟨u, h1, h2⟩ := good_max (P := P) hv (hρ x) (hρ y) ts ty
   exact goodO (s := Builtin.max_ ts ty #[ρ x, ρ y]) (good_same I h1 h2)
  ·simp at h
 ·-- clear
  rename_i t x
  rw [map1]
  split at h
  ·rename_i e i he
   split at h
   ·rename_i z hz
    obtain ⟨hr, E', h1, h2, h3, h4⟩ := good_clear I he hz ty (hρ x) rfl h
    subst hr
    refine ⟨.value (.tuple #[]), .tuple #[], E', ?_, .inl rfl, h2, h3, h4, relA_undef⟩
    simp [builtin, h1]
   ·simp [aop] at h
  ·simp [aop] at h
 ·simp [aop] at h
end
end Go.Abs
end
section
set_option linter.unusedVariables false
set_option linter.unusedSimpArgs false
namespace Go.Abs
section
variable {P : Program} {B : Low} {E : Env} {ρ : Operand → Value} {ρa : AOpd → AV}
theorem relAs_map (hρ : ∀ x, RelA E (ρa (cO x)) (ρ x)) : ∀ l : List Operand, RelAs E ((l.map cO).map ρa) (l.map ρ)
 | [] => by simp only [List.map_nil,RelAs]
 | x :: l => by simp only [List.map_cons,RelAs]; exact ⟨_, _, rfl, hρ x, relAs_map hρ l⟩
theorem run_next_at (w : World) (k : Nat) (s : ByteArray) (pos : Nat) (ty : TypeId) (hk : w.heap[k]? = some (.stringIter s pos)) (h : pos < s.size) :
  (Instr.next (.pointer (some ⟨k, 0, none⟩)) true ty).run P w =
   .ok (.tuple #[.bool true, .int .i64 pos, .int .i32 (Utf8.decode s pos).1]) { w with heap := w.heap.setIfInBounds k (.stringIter s (pos + (Utf8.decode s pos).2)) } := by
 simp only [Instr.next,getObj,setObj,Sem.run_bind,Sem.run,hk,Result.andThen,h,if_true]
 simp [goInt]
theorem run_next_stop (w : World) (k : Nat) (s : ByteArray) (pos : Nat) (ty : TypeId) (hk : w.heap[k]? = some (.stringIter s pos)) (h : ¬ pos < s.size) :
  (Instr.next (.pointer (some ⟨k, 0, none⟩)) true ty).run P w = .ok (.tuple #[.bool false]) w := by
 simp [Instr.next, getObj, Sem.run, hk, h]
theorem good_range (I : Inv B E) (b : List UInt8) :
  Inv B ⟨E.w.alloc (.stringIter ⟨b.toArray⟩ 0), E.S, fun i => if i = E.H.length then (E.w.heap.size, 0, 0) else E.m i, E.H ++ [.it b 0]⟩ ∧
  Ext B E ⟨E.w.alloc (.stringIter ⟨b.toArray⟩ 0), E.S, fun i => if i = E.H.length then (E.w.heap.size, 0, 0) else E.m i, E.H ++ [.it b 0]⟩ ∧
  RelA ⟨E.w.alloc (.stringIter ⟨b.toArray⟩ 0), E.S, fun i => if i = E.H.length then (E.w.heap.size, 0, 0) else E.m i, E.H ++ [.it b 0]⟩ (.ptr E.H.length 0 0) (.pointer (some ⟨E.w.heap.size, 0, none⟩)) := by
 have hold : ∀ k, k < E.w.heap.size → (E.w.alloc (.stringIter ⟨b.toArray⟩ 0)).heap[k]? = E.w.heap[k]? := fun k hk => by
  show (E.w.heap.push _)[k]? = _
  rw [Array.getElem?_push, if_neg (by omega)]
 have hnew : (E.w.alloc (.stringIter ⟨b.toArray⟩ 0)).heap[E.w.heap.size]? = some (.stringIter ⟨b.toArray⟩ 0) := by
  show (E.w.heap.push _)[E.w.heap.size]? = _
  rw [Array.getElem?_push, if_pos rfl]
 have hsz : (E.w.alloc (.stringIter ⟨b.toArray⟩ 0)).heap.size = E.w.heap.size + 1 := by
  show (E.w.heap.push _).size = _
  simp
 have hcell : ∀ k o, k < E.w.heap.size → (E.w.alloc (.stringIter ⟨b.toArray⟩ 0)).cell? ⟨k, o, none⟩ = E.w.cell? ⟨k, o, none⟩ := fun k o hk => by simp only [World.cell?,hold k hk]
 have hown : ∀ k fr T, Own B E.w k fr T → Own B (E.w.alloc (.stringIter ⟨b.toArray⟩ 0)) k fr T := fun k fr T h =>
  ⟨h.base, by rw [hsz]; have := h.lt; omega, fun o ho => by simp only [World.frozen?,hold k h.lt]; exact h.free o ho, by simp only [World.shape?,hold k h.lt]; exact h.shape⟩
 have X : Ext B E ⟨E.w.alloc (.stringIter ⟨b.toArray⟩ 0), E.S, fun i => if i = E.H.length then (E.w.heap.size, 0, 0) else E.m i, E.H ++ [.it b 0]⟩ := {
  ss := fun _ _ h => h
  cell := fun k o hs => hcell k o (I.sS k o hs)
  size := by simp only [hsz]; omega
  low := fun k hk => hold k (I.szB k hk)
  there := fun k o h => by
   have hlt : k < E.w.heap.size := by
    rcases Nat.lt_or_ge k E.w.heap.size with h1 | h1
    ·exact h1
    ·simp only [World.cell?,Array.getElem?_eq_none h1] at h
     simp at h
   simp only [hcell k o hlt]
   exact h
  snew := fun _ _ h => .inl h
  os := rfl
  tape := rfl
  output := rfl
  len := by simp
  obj := fun id h => ⟨isObj_append h _, by have := isObj_lt h; simp only; rw [if_neg (by omega)]⟩
  hw := fun id _ n h => ⟨n, by simp only; rw [List.getElem?_append_left (List.getElem?_eq_some_iff.1 h).1]; exact h, Nat.le_refl _, fun _ => by have := (List.getElem?_eq_some_iff.1 h).1; simp only; rw [if_neg (by omega)]⟩ }
 have hlast : ∀ id x, (E.H ++ [HO.it b 0])[id]? = some x → E.H[id]? = some x ∧ id ≠ E.H.length ∨ id = E.H.length ∧ x = .it b 0 := fun id x h => by
  rcases Nat.lt_or_ge id E.H.length with h1 | h1
  ·rw [List.getElem?_append_left h1] at h; exact .inl ⟨h, by omega⟩
  ·rw [List.getElem?_append_right h1] at h
   have := (List.getElem?_eq_some_iff.1 h).1
   simp at this
   have : id = E.H.length := by omega
   subst this
   simp at h
   exact .inr ⟨rfl, h.symm⟩
 refine ⟨⟨fun k hk => by simp only [hsz]; have := I.szB k hk; omega, fun k o hs => by simp only [hsz]; have := I.sS k o hs; omega, fun id ty es he => ?_, fun id ty n he => ?_, InjH.push I.inj (fun k hk => by simp only; rw [if_neg (by omega)]) (n := E.w.heap.size) (by simp) (fun i y hi hy => by have := I.block_lt hi hy; omega) _, X.tab I.tab, fun id s p he => ?_⟩, X, ?_⟩
 ·rcases hlast _ _ he with ⟨h, hne⟩ | ⟨_, h⟩
  ·obtain ⟨h1, h2, h3⟩ := I.obj id ty es h
   simp only [if_neg hne]
   exact ⟨hown _ _ _ h1, h2, h3.ext X fun k => hcell _ k h1.lt⟩
  ·simp at h
 ·rcases hlast _ _ he with ⟨h, hne⟩ | ⟨_, h⟩
  ·obtain ⟨h1, h2⟩ := I.hw id ty n h
   simp only [if_neg hne]
   exact ⟨hown _ _ _ h1, h2⟩
  ·simp at h
 ·rcases hlast _ _ he with ⟨h, hne⟩ | ⟨rfl, h⟩
  ·obtain ⟨h1, h2⟩ := I.it id s p h
   simp only [if_neg hne]
   exact ⟨h1.same (hold _ h1.lt), h2⟩
  ·injection h with h1 h2
   subst h1; subst h2
   simp only [if_true]
   exact ⟨⟨fun hb => by have := I.szB _ hb; omega, rfl, hnew⟩, fun o ho => by have := I.sS _ _ ho; omega⟩
 ·simp only [RelA,if_true]
  exact ⟨by simp, ⟨.it b 0, by simp, trivial⟩⟩
theorem good_next (I : Inv B E) {id : Nat} {b : List UInt8} {p : Nat} (ho : E.H[id]? = some (.it b p)) (q : Nat) :
  Inv B ⟨{ E.w with heap := E.w.heap.setIfInBounds (E.m id).1 (.stringIter ⟨b.toArray⟩ q) }, E.S, E.m, E.H.set id (.it b q)⟩ ∧
  Ext B E ⟨{ E.w with heap := E.w.heap.setIfInBounds (E.m id).1 (.stringIter ⟨b.toArray⟩ q) }, E.S, E.m, E.H.set id (.it b q)⟩ := by
 obtain ⟨hI, hS⟩ := I.it id b p ho
 have hid := (List.getElem?_eq_some_iff.1 ho).1
 have hold : ∀ k, k ≠ (E.m id).1 → (E.w.heap.setIfInBounds (E.m id).1 (.stringIter ⟨b.toArray⟩ q))[k]? = E.w.heap[k]? := fun k hk => by
  rw [Array.getElem?_setIfInBounds_ne (fun e => hk e.symm)]
 have hnew : (E.w.heap.setIfInBounds (E.m id).1 (.stringIter ⟨b.toArray⟩ q))[(E.m id).1]? = some (.stringIter ⟨b.toArray⟩ q) := by
  rw [Array.getElem?_setIfInBounds_self_of_lt hI.lt]
 have hcell : ∀ k o, k ≠ (E.m id).1 → World.cell? { E.w with heap := E.w.heap.setIfInBounds (E.m id).1 (.stringIter ⟨b.toArray⟩ q) } ⟨k, o, none⟩ = E.w.cell? ⟨k, o, none⟩ := fun k o hk => by simp only [World.cell?,hold k hk]
 have hsz : (E.w.heap.setIfInBounds (E.m id).1 (.stringIter ⟨b.toArray⟩ q)).size = E.w.heap.size := by simp
 have hown : ∀ k fr T, k ≠ (E.m id).1 → Own B E.w k fr T → Own B { E.w with heap := E.w.heap.setIfInBounds (E.m id).1 (.stringIter ⟨b.toArray⟩ q) } k fr T := fun k fr T hk h =>
  ⟨h.base, by simp only [hsz]; exact h.lt, fun o ho => by simp only [World.frozen?,hold k hk]; exact h.free o ho, by simp only [World.shape?,hold k hk]; exact h.shape⟩
 have hnocell : ∀ o, E.w.cell? ⟨(E.m id).1, o, none⟩ = none := fun o => by simp [World.cell?, hI.at0]
 have X : Ext B E ⟨{ E.w with heap := E.w.heap.setIfInBounds (E.m id).1 (.stringIter ⟨b.toArray⟩ q) }, E.S, E.m, E.H.set id (.it b q)⟩ := {
  ss := fun _ _ h => h
  cell := fun k o hs => hcell k o (fun e => hS o (e ▸ hs))
  size := by simp only [hsz]; exact Nat.le_refl _
  low := fun k hk => hold k (fun e => hI.base (e ▸ hk))
  there := fun k o h => by
   have hne : k ≠ (E.m id).1 := fun e => by rw [e, hnocell] at h; simp at h
   simp only [hcell k o hne]
   exact h
  snew := fun _ _ h => .inl h
  os := rfl
  tape := rfl
  output := rfl
  len := by simp
  obj := fun i h => ⟨isObj_set h fun _ => trivial, rfl⟩
  hw := fun i _ n h => ⟨n, by simp only; rw [List.getElem?_set_ne (fun e => by subst e; rw [ho] at h; simp at h)]; exact h, Nat.le_refl _, fun _ => rfl⟩ }
 have hne : ∀ i (x : HO), E.H[i]? = some x → x ≠ .dead → i ≠ id → (E.m i).1 ≠ (E.m id).1 := fun i x h hd hi e => hi (I.inj i id _ _ h ho hd nofun e)
 refine ⟨⟨fun k hk => by simp only [hsz]; exact I.szB k hk, fun k o hs => by simp only [hsz]; exact I.sS k o hs, fun i ty es he => ?_, fun i ty n he => ?_, InjH.set I.inj (fun _ => rfl) ho nofun _, X.tab I.tab, fun i s r he => ?_⟩, X⟩
 ·have hi : i ≠ id := fun e => by subst e; simp only [List.getElem?_set_self hid] at he; simp at he
  simp only [List.getElem?_set_ne hi.symm] at he
  obtain ⟨h1, h2, h3⟩ := I.obj i ty es he
  exact ⟨hown _ _ _ (hne i _ he nofun hi) h1, h2, h3.ext X fun k => hcell _ k (hne i _ he nofun hi)⟩
 ·have hi : i ≠ id := fun e => by subst e; simp only [List.getElem?_set_self hid] at he; simp at he
  simp only [List.getElem?_set_ne hi.symm] at he
  obtain ⟨h1, h2⟩ := I.hw i ty n he
  exact ⟨hown _ _ _ (hne i _ he nofun hi) h1, h2⟩
 ·by_cases hi : i = id
  ·subst hi
   simp only [List.getElem?_set_self hid] at he
   injection he with he
   injection he with h1 h2
   subst h1; subst h2
   exact ⟨⟨hI.base, hI.zero, hnew⟩, hS⟩
  ·simp only [List.getElem?_set_ne (fun e => hi e.symm)] at he
   obtain ⟨h1, h2⟩ := I.it i s r he
   exact ⟨h1.same (hold _ (hne i _ he nofun hi)), h2⟩
theorem op_sound (I : Inv B E) (hρ : ∀ x, RelA E (ρa (cO x)) (ρ x)) {lit : Lit} {o : Oper} {r : AV} {H' : Heap} (h : aop E.H ρa (compOp P lit o.op) = some (r, H')) : GoodO P B E (execOp ρ o) r H' := by
 obtain ⟨dst, op, type, pos, after, guard⟩ := o
 simp only at h
 cases op <;> simp only [compOp] at h
 case move x =>
  simp only [aop,Option.some.injEq,Prod.mk.injEq] at h
  obtain ⟨rfl, rfl⟩ := h
  exact goodO_val I (hρ x)
 case assign x =>
  simp only [aop,Option.some.injEq,Prod.mk.injEq] at h
  obtain ⟨rfl, rfl⟩ := h
  exact goodO_val I (hρ x)
 case pick c a b =>
  simp only [aop] at h
  have hc := hρ c
  split at h
  ·rename_i t he
   rw [he] at hc; simp only [RelA,RelD] at hc
   simp only [Option.some.injEq,Prod.mk.injEq] at h
   obtain ⟨rfl, rfl⟩ := h
   cases t
   ·exact ⟨.value (ρ b), ρ b, E, by simp [execOp, hc, asBool], .inl rfl, rfl, I, Ext.refl B E, by simpa using hρ b⟩
   ·exact ⟨.value (ρ a), ρ a, E, by simp [execOp, hc, asBool], .inl rfl, rfl, I, Ext.refl B E, by simpa using hρ a⟩
  ·simp at h
 case alloc e =>
  split at h
  ·rename_i z hz
   simp only [aop,Option.some.injEq,Prod.mk.injEq] at h
   obtain ⟨rfl, rfl⟩ := h
   exact goodO (good_alloc I hz)
  ·simp [aop] at h
 case box e x =>
  simp only [aop] at h
  split at h
  ·rename_i hok
   simp only [Option.some.injEq,Prod.mk.injEq] at h
   obtain ⟨rfl, rfl⟩ := h
   exact goodO (good_box I e (hρ x) hok)
  ·simp at h
 case build t parts => exact goodO (good_build I hρ h)
 case buildSlice t n parts => exact goodO (good_bslice I hρ h)
 case load t x =>
  split at h
  ·rename_i k hk
   simp only [aop] at h
   split at h
   ·rename_i v hv
    simp only [Option.some.injEq,Prod.mk.injEq] at h
    obtain ⟨rfl, rfl⟩ := h
    exact goodO (good_load I hk (hρ x) hv)
   ·simp at h
  ·simp [aop] at h
 case store t x v =>
  split at h
  ·rename_i i hi
   simp only [aop] at h
   split at h
   ·rename_i H2 hH
    simp only [Option.some.injEq,Prod.mk.injEq] at h
    obtain ⟨rfl, rfl⟩ := h
    obtain ⟨E', h1, h2, h3, h4⟩ := good_store I hi (hρ x) (hρ v) hH
    exact ⟨.skip, undef, E', by simp [execOp, h1], .inr ⟨rfl, rfl⟩, h2, h3, h4, relA_undef⟩
   ·simp at h
  ·simp [aop] at h
 case nilCheck x =>
  simp only [aop] at h
  have hx := hρ x
  split at h
  ·rename_i id i j he
   simp only [Option.some.injEq,Prod.mk.injEq] at h
   obtain ⟨rfl, rfl⟩ := h
   rw [he] at hx
   have hx' := hx
   simp only [RelA] at hx
   refine ⟨.value (ρ x), ρ x, E, ?_, .inl rfl, rfl, I, Ext.refl B E, hx'⟩
   simp [execOp, hx.1]
  ·rename_i cs he
   simp only [Option.some.injEq,Prod.mk.injEq] at h
   obtain ⟨rfl, rfl⟩ := h
   rw [he] at hx
   have hx' := hx
   simp only [RelA,RelD] at hx
   obtain ⟨bl, ob, hv, _⟩ := hx
   refine ⟨.value (ρ x), ρ x, E, ?_, .inl rfl, rfl, I, Ext.refl B E, hx'⟩
   simp [execOp, hv]
  ·simp at h
 case binOp op t x y yt =>
  unfold compBin at h
  split at h
  ·rename_i ht
   simp only [aop] at h
   split at h
   ·rename_i v hv
    simp only [Option.some.injEq,Prod.mk.injEq] at h
    obtain ⟨rfl, rfl⟩ := h
    obtain ⟨u, h1, h2⟩ := good_binB (P := P) hv (hρ x) (hρ y) ht x y
    exact goodO (good_same I h1 h2)
   ·simp at h
  ·rename_i e ht
   simp only [aop] at h
   have hy := hρ y
   split at h
   ·rename_i hyn
    rw [hyn] at hy
    simp only [RelA] at hy
    split at h
    ·rename_i v hv
     simp only [Option.some.injEq,Prod.mk.injEq] at h
     obtain ⟨rfl, rfl⟩ := h
     obtain ⟨u, h1, h2⟩ := good_binN (P := P) hv (hρ x) ht x y
     rw [← hy] at h1
     exact goodO (good_same I h1 h2)
    ·simp at h
   ·simp at h
  ·rename_i ms ht
   split at h
   ·rename_i hyc
    simp only [aop] at h
    split at h
    ·rename_i v hv
     simp only [Option.some.injEq,Prod.mk.injEq] at h
     obtain ⟨rfl, rfl⟩ := h
     obtain ⟨u, h1, h2⟩ := good_binZi (P := P) hv (hρ x) (hρ y) ht x y hyc
     exact goodO (good_same I h1 h2)
    ·simp at h
   ·simp only [aop] at h
    split at h
    ·rename_i v hv
     simp only [Option.some.injEq,Prod.mk.injEq] at h
     obtain ⟨rfl, rfl⟩ := h
     obtain ⟨u, h1, h2⟩ := good_bin (P := P) hv (hρ x) (hρ y) t x y
     exact goodO (good_same I h1 h2)
    ·simp at h
  ·rename_i e ht
   simp only [aop] at h
   split at h
   ·rename_i v hv
    simp only [Option.some.injEq,Prod.mk.injEq] at h
    obtain ⟨rfl, rfl⟩ := h
    obtain ⟨u, h1, h2⟩ := good_binZp (P := P) hv (hρ x) (hρ y) ht x y
    exact goodO (good_same I h1 h2)
   ·simp at h
  ·rename_i fs ht
   split at h
   ·rename_i ks hks
    simp only [aop] at h
    split at h
    ·rename_i v hv
     simp only [Option.some.injEq,Prod.mk.injEq] at h
     obtain ⟨rfl, rfl⟩ := h
     obtain ⟨u, h1, h2⟩ := good_binS (P := P) hv (hρ x) (hρ y) ht hks x y
     exact goodO (good_same I h1 h2)
    ·simp at h
   ·simp only [aop] at h
    split at h
    ·rename_i v hv
     simp only [Option.some.injEq,Prod.mk.injEq] at h
     obtain ⟨rfl, rfl⟩ := h
     obtain ⟨u, h1, h2⟩ := good_bin (P := P) hv (hρ x) (hρ y) t x y
     exact goodO (good_same I h1 h2)
    ·simp at h
  ·simp only [aop] at h
   split at h
   ·rename_i v hv
    simp only [Option.some.injEq,Prod.mk.injEq] at h
    obtain ⟨rfl, rfl⟩ := h
    obtain ⟨u, h1, h2⟩ := good_bin (P := P) hv (hρ x) (hρ y) t x y
    exact goodO (good_same I h1 h2)
   ·simp at h
 case unOp op t x =>
  simp only [aop] at h
  split at h
  ·rename_i v hv
   simp only [Option.some.injEq,Prod.mk.injEq] at h
   obtain ⟨rfl, rfl⟩ := h
   obtain ⟨u, h1, h2⟩ := good_un (P := P) hv (hρ x)
   exact goodO (good_same I h1 h2)
  ·simp at h
 case convert src dst x => exact goodO (good_conv I hρ h)
 case makeFunc fn first cap =>
  unfold compFunc at h
  split at h
  ·rename_i f
   simp only [aop,Option.some.injEq,Prod.mk.injEq] at h
   obtain ⟨rfl, rfl⟩ := h
   refine ⟨.value (.func (.func f) #[] (cap.map ρ)), .func (.func f) #[] (cap.map ρ), E, ?_, .inl rfl, rfl, I, Ext.refl B E, ?_⟩
   ·simp [execOp, Instr.makeFunc]
   ·simp only [RelA]
    refine ⟨cap.toList.map ρ, ?_, relAs_map hρ _⟩
    congr 1
    apply Array.ext'
    simp
  ·simp [aop] at h
 case range t x =>
  split at h
  ·rename_i ht
   simp only [aop] at h
   have hx := hρ x
   split at h
   ·rename_i b he
    rw [he] at hx; simp only [RelA,RelD] at hx
    simp only [Option.some.injEq,Prod.mk.injEq] at h
    obtain ⟨rfl, rfl⟩ := h
    obtain ⟨I', X, hr⟩ := good_range I b
    refine goodO (s := Instr.range t (ρ x)) ⟨_, ⟨E.w.alloc (.stringIter ⟨b.toArray⟩ 0), E.S, fun i => if i = E.H.length then (E.w.heap.size, 0, 0) else E.m i, E.H ++ [.it b 0]⟩, ?_, rfl, I', X, hr⟩
    rw [hx]
    simp [Instr.range, run_underlying ht, newObj, Sem.run, Result.andThen]
   ·simp at h
  ·simp [aop] at h
 case next it isS =>
  split at h
  ·rename_i hs
   subst hs
   simp only [aop] at h
   have hx := hρ it
   split at h
   ·rename_i id he
    rw [he] at hx
    simp only [RelA] at hx
    split at h
    ·rename_i b p ho
     obtain ⟨hI, hS⟩ := I.it id b p ho
     have hv : ρ it = .pointer (some ⟨(E.m id).1, 0, none⟩) := by rw [hx.1, hI.zero]; rfl
     split at h
     ·rename_i hp
      simp only [Option.some.injEq,Prod.mk.injEq] at h
      obtain ⟨rfl, rfl⟩ := h
      obtain ⟨I', X⟩ := good_next I ho (p + (Utf8.decode ⟨b.toArray⟩ p).2)
      refine goodO (s := Instr.next (ρ it) true type) ⟨.tuple #[.bool true, .int .i64 (p : Int), .int .i32 (Utf8.decode ⟨b.toArray⟩ p).1], ⟨{ E.w with heap := E.w.heap.setIfInBounds (E.m id).1 (.stringIter ⟨b.toArray⟩ (p + (Utf8.decode ⟨b.toArray⟩ p).2)) }, E.S, E.m, E.H.set id (.it b (p + (Utf8.decode ⟨b.toArray⟩ p).2))⟩, ?_, rfl, I', X, ?_⟩
      ·rw [hv]
       exact run_next_at _ _ _ _ _ hI.at0 (by simpa [ByteArray.size] using hp)
      ·simp only [RelA,RelAs,RelD]
       exact ⟨_, rfl, _, _, rfl, rfl, _, _, rfl, rfl, _, _, rfl, rfl, rfl⟩
     ·rename_i hp
      simp only [Option.some.injEq,Prod.mk.injEq] at h
      obtain ⟨rfl, rfl⟩ := h
      refine goodO (s := Instr.next (ρ it) true type) (good_same I (v := .tuple #[.bool false]) ?_ ?_)
      ·rw [hv]
       exact run_next_stop _ _ _ _ _ hI.at0 (by simpa [ByteArray.size] using hp)
      ·simp only [RelA,RelAs,RelD]
       exact ⟨_, rfl, _, _, rfl, rfl, rfl⟩
    ·simp at h
   ·simp at h
  ·simp [aop] at h
 case makeSlice t l c =>
  split at h
  ·rename_i e i he
   split at h
   ·rename_i z hz
    split at h
    ·simp only [aop] at h
     split at h
     ·rename_i n m hn hm
      split at h
      ·rename_i hc
       simp only [Option.some.injEq,Prod.mk.injEq] at h
       obtain ⟨rfl, rfl⟩ := h
       obtain ⟨k, hk⟩ := relA_intOf hn (hρ l)
       obtain ⟨k', hk'⟩ := relA_intOf hm (hρ c)
       have := good_mkslice (k := k) (k' := k') I he hz hc.1 hc.2.1 hc.2.2.1 hc.2.2.2
       rw [← hk, ← hk'] at this
       exact goodO this
      ·simp at h
     ·simp at h
    ·simp [aop] at h
   ·simp [aop] at h
  ·simp [aop] at h
 case slice t x lo hi mx =>
  unfold compSliceE at h
  split at h
  ·rename_i ht
   split at h
   ·simp only [aop] at h
    have hx := hρ x
    split at h
    ·rename_i b he
     rw [he] at hx; simp only [RelA,RelD] at hx
     split at h
     ·rename_i l k hl hk
      split at h
      ·rename_i hc
       simp only [Option.some.injEq,Prod.mk.injEq] at h
       obtain ⟨rfl, rfl⟩ := h
       refine goodO (s := Instr.sliceAt t (ρ x) (lo.map ρ) (hi.map ρ) (none : Option Value)) (good_same I (v := .string ⟨((b.drop l).take (k - l)).toArray⟩) ?_ (by simp only [RelA,RelD]))
       have hsz : (ByteArray.mk b.toArray).size = b.length := by simp [ByteArray.size]
       have hex : (ByteArray.mk b.toArray).extract l k = ⟨((b.drop l).take (k - l)).toArray⟩ := ByteArray.extract_mk b l k
       rw [hx]
       simp only [Instr.sliceAt,Sem.run_bind,run_underlying ht,Result.andThen_ok,Instr.slice,Instr.sliceBounds,hsz]
       cases hi with
       | none =>
        simp only [Option.map_none,boundA] at hk; injection hk with hk; subst hk
        cases lo with
        | none => simp only [Option.map_none,boundA] at hl; injection hl with hl; subst hl; simp [hex]
        | some z => have hb := run_bound (P := P) hρ hl hc.1 .sliceB; simp [hb, hex]
       | some y =>
        have hb1 := run_bound (P := P) hρ hk hc.2 .sliceAlen
        cases lo with
        | none => simp only [Option.map_none,boundA] at hl; injection hl with hl; subst hl; simp [hb1, hex]
        | some z => have hb := run_bound (P := P) hρ hl hc.1 .sliceB; simp [hb, hb1, hex]
      ·simp at h
     ·simp at h
    ·simp at h
   ·simp [aop] at h
  ·rename_i e ht
   split at h
   ·rename_i q hq
    have key : ∀ (hmx : mx.isSome = true → hi.isSome = true), aop E.H ρa (.slice q.size (cO x) (lo.map cO) (hi.map cO) (mx.map cO)) = some (r, H') → GoodO P B E (execOp ρ ⟨dst, .slice t x lo hi mx, type, pos, after, guard⟩) r H' := by
     intro hmx h
     simp only [aop] at h
     split at h
     ·rename_i l hl
      split at h
      ·rename_i v hv
       simp only [Option.some.injEq,Prod.mk.injEq] at h
       obtain ⟨rfl, rfl⟩ := h
       obtain ⟨u, h1, h2⟩ := good_slice (P := P) ht hq hρ (hρ x) hl hmx hv
       exact goodO (good_same I h1 h2)
      ·simp at h
     ·simp at h
    split at h
    ·simp [aop] at h
    ·rename_i hno
     refine key (fun hm => ?_) h
     cases hi with
     | some y => rfl
     | none =>
      cases mx with
      | none => simp at hm
      | some m => exact absurd rfl (hno m rfl)
   ·simp [aop] at h
  ·simp [aop] at h
 case fieldAddr s x f =>
  unfold compFieldAddr at h
  split at h
  ·rename_i fs hs
   split at h
   ·rename_i fl hf
    split at h
    ·rename_i i hi
     split at h
     ·simp [aop] at h
     ·rename_i h0
      simp only [aop] at h
      have hx := hρ x
      split at h
      ·rename_i id p j he
       rw [he] at hx; simp only [RelA] at hx
       simp only [Option.some.injEq,Prod.mk.injEq] at h
       obtain ⟨rfl, rfl⟩ := h
       refine goodO (s := Instr.fieldAt s (ρ x) f) (good_same I (good_fieldAddr hs hf hi h0 hx.1) ?_)
       simp only [RelA]
       exact ⟨by congr 3; omega, hx.2⟩
      ·rename_i cs he
       rw [he] at hx; simp only [RelA,RelD] at hx
       obtain ⟨bl, ob, hv, hC⟩ := hx
       simp only [Option.some.injEq,Prod.mk.injEq] at h
       obtain ⟨rfl, rfl⟩ := h
       refine goodO (s := Instr.fieldAt s (ρ x) f) (good_same I (good_fieldAddr hs hf hi h0 hv) ?_)
       simp only [RelA,RelD]
       exact ⟨bl, _, rfl, relC_drop hC _⟩
      ·simp at h
    ·simp [aop] at h
   ·simp [aop] at h
  ·simp [aop] at h
 case field s x f =>
  unfold compField at h
  split at h
  ·rename_i fs hs
   split at h
   ·rename_i fl hf
    split at h
    ·rename_i k hk
     simp only [aop] at h
     split at h
     ·rename_i cs hcs
      split at h
      ·rename_i v hv
       simp only [Option.some.injEq,Prod.mk.injEq] at h
       obtain ⟨rfl, rfl⟩ := h
       obtain ⟨vs, hvs, hrel⟩ := aggCells_spec hcs (hρ x)
       obtain ⟨u, h1, h2⟩ := good_part (P := P) hk hrel hv
       refine goodO (s := Instr.field s (ρ x) f) (good_same I ?_ h2)
       simp [Instr.field, run_underlying hs, hf, hvs, asAgg, h1]
      ·simp at h
     ·simp at h
    ·simp [aop] at h
   ·simp [aop] at h
  ·simp [aop] at h
 case indexAddr t x i =>
  unfold compIndexAddr at h
  split at h
  ·rename_i e ht
   split at h
   ·rename_i q hq
    simp only [aop] at h
    have hx := hρ x
    split at h
    ·rename_i s' es he
     rw [he] at hx; simp only [RelA,RelD] at hx
     obtain ⟨b, c, hv, hle, hes⟩ := hx
     split at h
     ·rename_i hs
      subst hs
      split at h
      ·rename_i n hn
       obtain ⟨ik, z, hz, h0, h1, h2, h3⟩ := idx_spec hn (hρ i)
       split at h
       ·rename_i row hrow
        simp only [Option.some.injEq,Prod.mk.injEq] at h
        obtain ⟨rfl, rfl⟩ := h
        rcases hes with rfl | ⟨bl, ob, rfl, hE⟩
        ·simp at hrow
        ·refine goodO (s := Instr.indexAt t (ρ x) (ρ i)) (good_same I (by rw [hv, hz]; exact run_indexAt_sl ht hq h0 h1) ?_)
         simp only [RelA,RelD]
         exact ⟨bl, _, rfl, by rw [h2]; exact (relE_get hE hrow).2⟩
       ·simp at h
      ·simp at h
     ·simp at h
    ·rename_i s' es tok he
     rw [he] at hx; simp only [RelA] at hx
     obtain ⟨b, c, hv, hle, hes, _⟩ := hx
     split at h
     ·rename_i hs
      subst hs
      split at h
      ·rename_i n hn
       obtain ⟨ik, z, hz, h0, h1, h2, h3⟩ := idx_spec hn (hρ i)
       split at h
       ·rename_i row hrow
        simp only [Option.some.injEq,Prod.mk.injEq] at h
        obtain ⟨rfl, rfl⟩ := h
        rcases hes with rfl | ⟨bl, ob, rfl, hE⟩
        ·simp at hrow
        ·refine goodO (s := Instr.indexAt t (ρ x) (ρ i)) (good_same I (by rw [hv, hz]; exact run_indexAt_sl ht hq h0 h1) ?_)
         simp only [RelA,RelD]
         exact ⟨bl, _, rfl, by rw [h2]; exact (relE_get hE hrow).2⟩
       ·simp at h
      ·simp at h
     ·simp at h
    ·rename_i s' id off n he
     rw [he] at hx; simp only [RelA] at hx
     obtain ⟨c, hv, hle, hs', ho⟩ := hx
     split at h
     ·rename_i hs
      subst hs
      split at h
      ·rename_i k hk
       simp only [Option.some.injEq,Prod.mk.injEq] at h
       obtain ⟨rfl, rfl⟩ := h
       obtain ⟨ik, z, hz, h0, h1, h2, h3⟩ := idx_spec hk (hρ i)
       refine goodO (s := Instr.indexAt t (ρ x) (ρ i)) (good_same I (by rw [hv, hz]; exact run_indexAt_sl ht hq h0 h1) ?_)
       simp only [RelA]
       refine ⟨?_, ho.1⟩
       rw [h2, hs', Nat.add_mul]
       congr 3; omega
      ·simp at h
     ·simp at h
    ·simp at h
   ·simp [aop] at h
  ·rename_i len e ht
   split at h
   ·rename_i q hq
    simp only [aop] at h
    have hx := hρ x
    split at h
    ·rename_i id p j he
     rw [he] at hx; simp only [RelA] at hx
     split at h
     ·rename_i k hk
      simp only [Option.some.injEq,Prod.mk.injEq] at h
      obtain ⟨rfl, rfl⟩ := h
      obtain ⟨ik, z, hz, h0, h1, h2, h3⟩ := idx_spec hk (hρ i)
      refine goodO (s := Instr.indexAt t (ρ x) (ρ i)) (good_same I (by rw [hx.1, hz]; exact run_indexAt_arr ht hq h0 h1) ?_)
      simp only [RelA]
      refine ⟨?_, hx.2⟩
      rw [h2]
      congr 3; omega
     ·simp at h
    ·rename_i cs he
     rw [he] at hx; simp only [RelA,RelD] at hx
     obtain ⟨bl, ob, hv, hC⟩ := hx
     split at h
     ·rename_i k hk
      simp only [Option.some.injEq,Prod.mk.injEq] at h
      obtain ⟨rfl, rfl⟩ := h
      obtain ⟨ik, z, hz, h0, h1, h2, h3⟩ := idx_spec hk (hρ i)
      refine goodO (s := Instr.indexAt t (ρ x) (ρ i)) (good_same I (by rw [hv, hz]; exact run_indexAt_arr ht hq h0 h1) ?_)
      simp only [RelA,RelD]
      exact ⟨bl, _, rfl, by rw [h2]; exact relC_drop hC _⟩
     ·simp at h
    ·simp at h
   ·simp [aop] at h
  ·simp [aop] at h
 case index t x i =>
  unfold compIndex at h
  split at h
  ·rename_i ht
   simp only [aop] at h
   have hx := hρ x
   split at h
   ·rename_i b he
    rw [he] at hx; simp only [RelA,RelD] at hx
    split at h
    ·rename_i n hn
     split at h
     ·rename_i h0
      split at h
      ·rename_i c hc
       simp only [Option.some.injEq,Prod.mk.injEq] at h
       obtain ⟨rfl, rfl⟩ := h
       obtain ⟨k, hk⟩ := relA_intOf hn (hρ i)
       refine goodO (s := Instr.index t (ρ x) (ρ i)) (good_same I (v := .int .u8 c.toNat) ?_ (by simp only [RelA,byteDat,RelD]))
       have hget : (ByteArray.mk b.toArray)[n.toNat]? = some c := by
        have hlt := (List.getElem?_eq_some_iff.1 hc).1
        rw [ByteArray.getElem?_lt' _ _ (by simpa [ByteArray.size] using hlt)]
        rw [List.getElem?_eq_getElem hlt] at hc
        injection hc with hc
        congr 1
       rw [hx, hk]
       simp only [Instr.index,asIntOf,Sem.run_bind,Sem.run_pure,Result.andThen_ok,run_underlying ht]
       rw [if_pos h0, hget]
       rfl
      ·simp at h
     ·simp at h
    ·simp at h
   ·simp at h
  ·rename_i len e ht
   split at h
   ·rename_i q k hq hk
    simp only [aop] at h
    split at h
    ·rename_i cs hcs
     split at h
     ·rename_i n hn
      split at h
      ·rename_i v hv
       simp only [Option.some.injEq,Prod.mk.injEq] at h
       obtain ⟨rfl, rfl⟩ := h
       obtain ⟨vs, hvs, hrel⟩ := aggCells_spec hcs (hρ x)
       obtain ⟨ik, z, hz, h0, h1, h2, h3⟩ := idx_spec hn (hρ i)
       obtain ⟨u, h4, h5⟩ := good_part (P := P) hk hrel hv
       refine goodO (s := Instr.index t (ρ x) (ρ i)) (good_same I ?_ h5)
       rw [hvs, hz]
       simp only [Instr.index,asIntOf,Sem.run_bind,Sem.run_pure,Result.andThen_ok,run_underlying ht]
       rw [if_pos ⟨h0, h1⟩]
       simp [run_sizeOf hq, h2, h4]
      ·simp at h
     ·simp at h
    ·simp at h
   ·simp [aop] at h
  ·simp [aop] at h
 case extract x i =>
  simp only [aop] at h
  have hx := hρ x
  split at h
  ·rename_i cs he
   rw [he] at hx; simp only [RelA] at hx
   obtain ⟨vs, hv, hl⟩ := hx
   split at h
   ·rename_i v hv'
    simp only [Option.some.injEq,Prod.mk.injEq] at h
    obtain ⟨rfl, rfl⟩ := h
    obtain ⟨u, hu, hr⟩ := relAs_get hl hv'
    refine goodO (s := Instr.extract (ρ x) i) (good_same I (v := u) ?_ hr)
    rw [hv]
    simp [Instr.extract, hu]
   ·simp at h
  ·simp at h
 case call c =>
  split at h
  ·rename_i b hb
   have := good_builtin (P := P) I hρ type (c.args.map fun | .const _ => true | _ => false) h
   obtain ⟨nx, v, E', h1, h2⟩ := this
   refine ⟨nx, v, E', ?_, h2⟩
   simp only [execOp,resolve,hb,Sem.run_bind,Sem.run_pure,Result.andThen_ok,invoke]
   exact h1
  ·simp [aop] at h
  ·simp [aop] at h
 all_goals simp [aop] at h
end
end Go.Abs
end
section
set_option linter.unusedVariables false
set_option linter.unusedSimpArgs false
namespace Go.Abs
def partOpds (l : List (Nat × Nat × AOpd)) : List AOpd := l.map fun p => p.2.2
def part2Opds (l : List (Nat × AOpd)) : List AOpd := l.map fun p => p.2
def opnds : AOp → List AOpd
 | .move x => [x]
 | .pick c a b => [c, a, b]
 | .alloc _ _ => []
 | .box _ x => [x]
 | .build _ ps => partOpds ps
 | .bslice _ _ _ _ ps => part2Opds ps
 | .bsliceA _ _ _ _ ps => part2Opds ps
 | .load _ x => [x]
 | .store _ x v => [x, v]
 | .nilCheck x => [x]
 | .bin _ x y => [x, y]
 | .binB _ x y => [x, y]
 | .binN _ x y => [x, y]
 | .binS _ _ x y => [x, y]
 | .binZ _ _ x y => [x, y]
 | .un _ x => [x]
 | .i2i _ x => [x]
 | .i2f _ x => [x]
 | .f2i _ x => [x]
 | .s2b x => [x]
 | .b2s x => [x]
 | .strId x => [x]
 | .i2s x => [x]
 | .rangeS x => [x]
 | .nextS x => [x]
 | .mkfunc _ cap => cap
 | .mkslice _ _ _ l c => [l, c]
 | .slice _ x lo hi mx => x :: (lo.toList ++ hi.toList ++ mx.toList)
 | .sliceStr x lo hi => x :: (lo.toList ++ hi.toList)
 | .fieldAddr _ x => [x]
 | .field _ _ x => [x]
 | .indexSl _ x i => [x, i]
 | .indexArr _ _ x i => [x, i]
 | .elemArr _ _ _ x i => [x, i]
 | .indexStr x i => [x, i]
 | .extract _ x => [x]
 | .lenStr x => [x]
 | .lenSl x => [x]
 | .append _ _ _ x y => [x, y]
 | .appendM _ _ x y => [x, y]
 | .real x => [x]
 | .imag x => [x]
 | .complex x y => [x, y]
 | .min x y => [x, y]
 | .max x y => [x, y]
 | .clear _ _ x => [x]
 | .call _ f args => f :: args
 | .bad => []
section
variable {ρ ρ' : AOpd → AV}
theorem map_part {l : List (Nat × Nat × AOpd)} (h : ∀ x ∈ partOpds l, ρ x = ρ' x) : (l.map fun p => (p.1, p.2.1, ρ p.2.2)) = l.map fun p => (p.1, p.2.1, ρ' p.2.2) :=
 List.map_congr_left fun p hp => by rw [h p.2.2 (List.mem_map.2 ⟨p, hp, rfl⟩)]
theorem map_part2 {l : List (Nat × AOpd)} (h : ∀ x ∈ part2Opds l, ρ x = ρ' x) : (l.map fun p => (p.1, ρ p.2)) = l.map fun p => (p.1, ρ' p.2) :=
 List.map_congr_left fun p hp => by rw [h p.2 (List.mem_map.2 ⟨p, hp, rfl⟩)]
theorem bound_congr {d : Nat} {x : Option AOpd} (h : ∀ y ∈ x.toList, ρ y = ρ' y) : boundA ρ d x = boundA ρ' d x := by
 cases x with
 | none => rfl
 | some y => simp only [boundA,h y (by simp)]
theorem aop_congr (H : Heap) {op : AOp} (h : ∀ x ∈ opnds op, ρ x = ρ' x) : aop H ρ op = aop H ρ' op := by
 cases op <;> simp only [opnds] at h <;> simp only [aop]
 case build z ps => rw [map_part h]
 case bslice mu s n z ps => rw [map_part2 h]
 case bsliceA ty s n z ps => rw [map_part2 h]
 case mkfunc f cap => rw [List.map_congr_left h]
 case slice s x lo hi mx =>
  have hx := h x (by simp)
  have hl : boundA ρ 0 lo = boundA ρ' 0 lo := bound_congr fun y hy => h y (by simp at hy ⊢; simp [hy])
  have hh : (fun n => boundA ρ n hi) = fun n => boundA ρ' n hi := funext fun n => bound_congr fun y hy => h y (by simp at hy ⊢; simp [hy])
  rw [hx, hl, hh]
  cases mx with
  | none => rfl
  | some m =>
   have hm : boundA ρ 0 (some m) = boundA ρ' 0 (some m) := bound_congr fun y hy => h y (by simp at hy ⊢; simp [hy])
   simp only [hm]
 case sliceStr x lo hi =>
  have hx := h x (by simp)
  have hl : boundA ρ 0 lo = boundA ρ' 0 lo := bound_congr fun y hy => h y (by simp at hy ⊢; simp [hy])
  have hh : ∀ n, boundA ρ n hi = boundA ρ' n hi := fun n => bound_congr fun y hy => h y (by simp at hy ⊢; simp [hy])
  simp only [hx,hl,hh]
 all_goals first
  | rfl
  |(simp only [h _ (List.mem_singleton.2 rfl)]; done)
  |(simp only [h _ (List.mem_cons_self),h _ (List.mem_cons_of_mem _ (List.mem_singleton.2 rfl))]; done)
  |(simp only [h _ (List.mem_cons_self),h _ (List.mem_cons_of_mem _ List.mem_cons_self),h _ (List.mem_cons_of_mem _ (List.mem_cons_of_mem _ (List.mem_singleton.2 rfl)))])
end
theorem aopc_congr (Φ : Oracle) (H : Heap) {tm tm' : List AV} {op : AOp} (h : ∀ x ∈ opnds op, ev tm x = ev tm' x) : aopc Φ H tm op = aopc Φ H tm' op := by
 cases op
 case call d f args =>
  simp only [opnds] at h
  simp only [aopc]
  have hm : args.map (fun x => dgA d (ev tm x)) = args.map (fun x => dgA d (ev tm' x)) := List.map_congr_left fun x hx => by rw [h x (by simp [hx])]
  rw [h f (by simp), hm]
 all_goals exact aop_congr H h
def cls : AOp → Nat
 | .load _ _ => 1
 | .alloc _ _ => 2
 | .box _ _ => 2
 | .bslice mu _ _ _ _ => if mu then 2 else 0
 | .store _ _ _ => 2
 | .mkslice _ _ _ _ _ => 2
 | .append _ _ _ _ _ => 2
 | .appendM _ _ _ _ => 2
 | .clear _ _ _ => 2
 | .rangeS _ => 2
 | .nextS _ => 2
 | .bsliceA _ _ _ _ _ => 2
 | .call _ _ _ => 2
 | _ => 0
theorem pure_indep {op : AOp} (hc : cls op = 0) {H H' : Heap} {ρ : AOpd → AV} {r : AV} (h : aop H ρ op = some (r, H')) : H' = H ∧ ∀ H2, aop H2 ρ op = some (r, H2) := by
 cases op <;> simp only [cls] at hc <;> try (simp at hc; done)
 case bslice mu s n z ps =>
  cases mu with
  | true => simp at hc
  | false =>
   simp only [aop] at h ⊢
   split at h
   ·simp only [Bool.false_eq_true,if_false] at h ⊢
    by_cases hn : n = 0
    ·rw [if_pos hn] at h
     simp only [Option.some.injEq,Prod.mk.injEq] at h
     exact ⟨h.2.symm, fun H2 => by rw [if_pos hn, h.1]⟩
    rw [if_neg hn] at h
    split at h
    ·simp only [Option.some.injEq,Prod.mk.injEq] at h
     exact ⟨h.2.symm, fun H2 => by rw [if_neg hn]; simp only [h.1]⟩
    ·simp at h
   ·simp at h
 all_goals
  simp only [aop] at h ⊢
  (repeat' split at h) <;> first
   |(simp at h; done)
   |(simp only [Option.some.injEq,Prod.mk.injEq] at h
     obtain ⟨rfl, rfl⟩ := h
     refine ⟨rfl, fun H2 => ?_⟩
     first
      | rfl
      |(simp only [*,if_true,and_self]; done)
      |(simp_all; done))
theorem load_indep {k : Option Nat} {x : AOpd} {H H' : Heap} {ρ : AOpd → AV} {r : AV} (h : aop H ρ (.load k x) = some (r, H')) : H' = H ∧ loadAt H k (ρ x) = some r := by
 simp only [aop] at h
 split at h
 ·rename_i v hv
  simp only [Option.some.injEq,Prod.mk.injEq] at h
  exact ⟨h.2.symm, by rw [hv, h.1]⟩
 ·simp at h
end Go.Abs
end
