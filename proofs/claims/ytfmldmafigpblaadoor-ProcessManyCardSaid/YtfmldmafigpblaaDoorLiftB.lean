/-
  The evaluator: what each operation does to a symbolic state.
-/
import Derived.Test.YtfmldmafigpblaaDoorLiftA
namespace Go.Lift

inductive TyI where
  | bad
  | bool
  | int (k : IntKind)
  | string
  | slice (E esz eb : Nat)
  | one
  | ptr
  | struct (fs : List (Nat × Bool × Nat)) (n : Nat)
  | array (len : Nat) (agg : Bool) (esz : Nat)
  | mapI (k1 k2 : IntKind)
instance : Inhabited TyI := ⟨.bad⟩

def TyI.agg : TyI → Bool
  | .struct .. => true
  | .array .. => true
  | _ => false
def TyI.size : TyI → Nat
  | .bad => 0
  | .struct _ n => n
  | .array l _ e => l * e
  | _ => 1

structure Out where
  v : SV
  B : List Own
  vc : Prop
def bad : Out := ⟨.any, [], False⟩

def SV.solid : SV → Bool
  | .any => false
  | .agg _ => false
  | .tup _ => false
  | .opt _ _ => false
  | .val v => v.oneCell'
  | _ => true
def solids : List SV → Bool
  | [] => true
  | c :: r => c.solid && solids r
def SV.cells : SV → List SV
  | .agg cs => cs
  | v => [v]
def SV.strip : SV → SV
  | .opt _ v => v
  | v => v
def SV.cond : SV → Bool
  | .opt c _ => c
  | _ => true
def SV.ofCell : Value → SV
  | .int k n => .int k n
  | .bool b => .bool b
  | .string s => .str s.data.toList
  | .slice none 0 0 => .sl true 0 0 fun _ => []
  | v => .val v
def SV.ofCells : List Value → List SV
  | [] => []
  | v :: r => SV.ofCell v :: SV.ofCells r
def SV.ofVal : Value → SV
  | .agg cs => .agg (SV.ofCells cs.toList)
  | v => SV.ofCell v

def putL (cs : List SV) (off : Nat) : List SV → List SV
  | [] => cs
  | x :: r => putL (cs.set off x) (off + 1) r

def evLoad (a : Bool) (n : Nat) (B : List Own) : SV → Out
  | .xp cs => match a with
    | true => ⟨.agg (cs.take n), B, n ≤ cs.length⟩
    | false => ⟨cs.getD 0 .any, B, 0 < cs.length⟩
  | .rptr i h esz k off => match getD' B i with
    | .row h' _ esz' xs => match a with
      | true => ⟨.agg (((xs.getD k []).drop off).take n), B, h' = h ∧ esz' = esz ∧ k < xs.length ∧ off + n ≤ esz⟩
      | false => ⟨(xs.getD k []).getD off .any, B, h' = h ∧ esz' = esz ∧ k < xs.length ∧ off < esz⟩
    | .gone => bad
  | _ => bad

def evStore (n : Nat) (B : List Own) (p v : SV) : Out :=
  match p with
  | .rptr i h esz k off => match getD' B i with
    | .row h' E esz' xs => ⟨.any, B.set i (.row h E esz (xs.set k (putL (xs.getD k []) off v.cells))),
        h' = h ∧ esz' = esz ∧ k < xs.length ∧ off + n ≤ esz ∧ v.cells.length = n ∧ solids v.cells = true⟩
    | .gone => bad
  | _ => bad

def evIndexAddr (ti : TyI) (B : List Own) (x i : SV) : Out :=
  match i with
  | .int _ k => match ti with
    | .slice _ e _ => match x with
      | .sl _ esz n f => ⟨.xp (f k.toNat), B, 0 ≤ k ∧ k < n ∧ esz = e⟩
      | .row j h esz lo n => ⟨.rptr j h esz (lo + k.toNat) 0, B, 0 ≤ k ∧ k < n ∧ esz = e⟩
      | _ => bad
    | .array len _ e => match x with
      | .rptr j h esz k0 off => ⟨.rptr j h esz k0 (off + k.toNat * e), B, 0 ≤ k ∧ k < len⟩
      | .xp cs => ⟨.xp (cs.drop (k.toNat * e)), B, 0 ≤ k ∧ k < len ∧ k.toNat * e ≤ cs.length⟩
      | _ => bad
    | _ => bad
  | _ => bad

def evFieldAddr (ti : TyI) (B : List Own) (f : Nat) (x : SV) : Out :=
  match ti with
  | .struct fs _ => match fs[f]? with
    | some (o, _, n) => match x with
      | .rptr j h esz k0 off => ⟨.rptr j h esz k0 (off + o), B, 0 < n⟩
      | .xp cs => ⟨.xp (cs.drop o), B, 0 < n ∧ o ≤ cs.length⟩
      | _ => bad
    | none => bad
  | _ => bad

def evField (ti : TyI) (B : List Own) (f : Nat) (x : SV) : Out :=
  match ti with
  | .struct fs _ => match fs[f]? with
    | some (o, a, n) => match x with
      | .agg cs => match a with
        | true => ⟨.agg ((cs.drop o).take n), B, o + n ≤ cs.length⟩
        | false => ⟨cs.getD o .any, B, o < cs.length⟩
      | _ => bad
    | none => bad
  | _ => bad

def evIndex (ti : TyI) (B : List Own) (x i : SV) : Out :=
  match i with
  | .int _ k => match ti with
    | .array len a e => match x with
      | .agg cs => match a with
        | true => ⟨.agg ((cs.drop (k.toNat * e)).take e), B, 0 ≤ k ∧ k < len ∧ k.toNat * e + e ≤ cs.length⟩
        | false => ⟨cs.getD k.toNat .any, B, 0 ≤ k ∧ k < len ∧ e = 1 ∧ k.toNat < cs.length⟩
      | _ => bad
    | .string => match x with
      | .str l => ⟨.int .u8 ((l.getD k.toNat 0).toNat : Int), B, 0 ≤ k ∧ k < l.length⟩
      | _ => bad
    | _ => bad
  | _ => bad

/-- A part of a slice's elements; behind it what lies behind the slice. -/
def sub (f : Nat → List SV) (n lo m k : Nat) : List SV := if k < m then f (lo + k) else f n
/-- An owned row has so many elements. -/
def rowHas (B : List Own) (j : Nat) (h : RowH) (esz hi : Nat) : Prop := match getD' B j with
  | .row h' _ e' xs => h' = h ∧ e' = esz ∧ hi ≤ xs.length
  | .gone => False
/-- The bounds of a slice expression. With 'kp' a slice of an owned row may become longer again. -/
def evSliceB (kp : Bool) (ti : TyI) (B : List Own) (x : SV) (lo hi : Nat) (mx : Option Nat) : Out :=
  match ti with
  | .slice _ e _ => match x with
    | .sl _ esz n f => match mx with
      | none => ⟨.sl false esz (hi - lo) (sub f n lo (hi - lo)), B, lo ≤ hi ∧ hi ≤ n ∧ (n = 0 ∨ esz = e)⟩
      | some m => ⟨.sl true esz (hi - lo) (sub f n lo (hi - lo)), B, lo ≤ hi ∧ hi ≤ n ∧ m = hi ∧ (n = 0 ∨ esz = e)⟩
    | .row j h esz l0 n => match mx with
      | none => ⟨.row j h esz (l0 + lo) (hi - lo), B, lo ≤ hi ∧ (match kp with | true => hi ≤ n ∨ (l0 = 0 ∧ rowHas B j h esz hi) | false => hi ≤ n) ∧ esz = e⟩
      | some m => match kp with
        | true => ⟨.any, B, lo ≤ hi ∧ hi ≤ m ∧ m ≤ n ∧ esz = e⟩
        | false => bad
    | _ => bad
  | .string => match x with
    | .str l => ⟨.str ((l.drop lo).take (hi - lo)), B, lo ≤ hi ∧ hi ≤ l.length ∧ mx = none⟩
    | _ => bad
  | _ => bad
def SV.len : SV → Nat
  | .sl _ _ n _ => n
  | .row _ _ _ _ n => n
  | .str l => l.length
  | _ => 0
def evSlice (kp : Bool) (ti : TyI) (B : List Own) (x : SV) (lo hi mx : Option SV) : Out :=
  match lo, hi, mx with
  | none, none, none => evSliceB kp ti B x 0 x.len none
  | some (.int _ l), none, none => match evSliceB kp ti B x l.toNat x.len none with
    | ⟨v, B', c⟩ => ⟨v, B', 0 ≤ l ∧ c⟩
  | none, some (.int _ h), none => match evSliceB kp ti B x 0 h.toNat none with
    | ⟨v, B', c⟩ => ⟨v, B', 0 ≤ h ∧ c⟩
  | some (.int _ l), some (.int _ h), none => match evSliceB kp ti B x l.toNat h.toNat none with
    | ⟨v, B', c⟩ => ⟨v, B', 0 ≤ l ∧ 0 ≤ h ∧ c⟩
  | none, some (.int _ h), some (.int _ m) => match evSliceB kp ti B x 0 h.toNat (some m.toNat) with
    | ⟨v, B', c⟩ => ⟨v, B', 0 ≤ h ∧ 0 ≤ m ∧ c⟩
  | some (.int _ l), some (.int _ h), some (.int _ m) => match evSliceB kp ti B x l.toNat h.toNat (some m.toNat) with
    | ⟨v, B', c⟩ => ⟨v, B', 0 ≤ l ∧ 0 ≤ h ∧ 0 ≤ m ∧ c⟩
  | _, _, _ => bad

/-- What is appended or copied: the elements, and when they are there. -/
def srcOf (esz : Nat) (B : List Own) : SV → List (List SV) × Prop
  | .sl _ e m f => ((List.range m).map f, m = 0 ∨ e = esz)
  | .row i h e lo m => match getD' B i with
    | .row h2 _ e2 xs => ((xs.drop lo).take m, h2 = h ∧ e2 = e ∧ e = esz ∧ lo + m ≤ xs.length)
    | .gone => ([], False)
  | .str l => (l.map fun b => [.int .u8 (b.toNat : Int)], esz = 1)
  | _ => ([], False)

def srcSolid (B : List Own) : SV → Prop
  | .sl _ _ m f => ∀ k, k < m → solids (f k) = true
  | .row i _ _ _ _ => match getD' B i with
    | .row _ _ _ xs => ∀ x ∈ xs, solids x = true
    | .gone => False
  | _ => True

def tailK (kp : Bool) (xs : List (List SV)) (k : Nat) : List (List SV) := match kp with
  | true => xs.drop k
  | false => []
def evAppendL (kp : Bool) (h' : RowH) (E esz eb : Nat) (B : List Own) (dst : SV) (ys : List (List SV)) (c : Prop) : Out :=
  match dst with
  | .sl full e n f => ⟨.row B.length h' esz 0 (n + ys.length), B ++ [.row h' E esz ((List.range n).map f ++ ys)],
      full = true ∧ (n = 0 ∨ (e = esz ∧ 0 < ys.length)) ∧ c ∧ (n + ys.length) * eb ≤ 140737488355328⟩
  | .row i h e 0 n => match getD' B i with
    | .row h2 E2 e2 xs => ⟨.row i h' esz 0 (n + ys.length), B.set i (.row h' E esz (xs.take n ++ ys ++ tailK kp xs (n + ys.length))),
        h2 = h ∧ e2 = e ∧ e = esz ∧ E2 = E ∧ n ≤ xs.length ∧ c ∧ (n + ys.length) * eb ≤ 140737488355328⟩
    | .gone => bad
  | _ => bad
def srcTy : TyI → Bool
  | .slice .. => true
  | .string => true
  | _ => false
def evAppend (kp : Bool) (ti ti2 : TyI) (h' : RowH) (B : List Own) (dst src : SV) : Out :=
  match ti with
  | .slice E esz eb => match srcOf esz B src with
    | (ys, c) => evAppendL kp h' E esz eb B dst ys (c ∧ srcSolid B src ∧ 0 < esz ∧ 0 < eb ∧ srcTy ti2 = true)
  | _ => bad

def evCopy (ti : TyI) (B : List Own) (dst src : SV) : Out :=
  match ti with
  | .slice _ esz _ => match srcOf esz B src with
    | (ys, c) => match dst with
      | .row i h e lo n => match getD' B i with
        | .row h2 E e2 xs => ⟨.int .i64 (min n ys.length : Nat), B.set i (.row h E esz (xs.take lo ++ ys.take (min n ys.length) ++ xs.drop (lo + min n ys.length))),
            h2 = h ∧ e2 = e ∧ e = esz ∧ lo + n ≤ xs.length ∧ c ∧ srcSolid B src ∧ 0 < esz⟩
        | .gone => bad
      | _ => bad
  | _ => bad

def evClear (ti : TyI) (zr : Nat → List SV) (B : List Own) (x : SV) : Out :=
  match ti with
  | .slice el esz _ => match x with
    | .row i h e lo n => match getD' B i with
      | .row h2 E e2 xs => ⟨.tup [], B.set i (.row h E esz (xs.take lo ++ List.replicate n (zr el) ++ xs.drop (lo + n))),
          h2 = h ∧ e2 = e ∧ e = esz ∧ lo + n ≤ xs.length ∧ 0 < esz ∧ (zr el).length = esz ∧ solids (zr el) = true⟩
      | .gone => bad
    | _ => bad
  | _ => bad

def fillL (cs : List (List SV)) : List (Nat × SV) → List (List SV)
  | [] => cs
  | (i, x) :: r => fillL (cs.set i x.cells) r
def fillC (n esz : Nat) : List (Nat × SV) → Prop
  | [] => True
  | (i, x) :: r => i < n ∧ x.cells.length = esz ∧ solids x.cells = true ∧ fillC n esz r
def evBuildSlice (ti : TyI) (zr : Nat → List SV) (h' : RowH) (B : List Own) (len : Nat) (parts : List (Nat × SV)) : Out :=
  match ti with
  | .slice E esz _ => ⟨.row B.length h' esz 0 len, B ++ [.row h' E esz (fillL (List.replicate len (zr E)) parts)], fillC len esz parts ∧ 0 < esz ∧ (zr E).length = esz ∧ len * esz ≤ 16777216⟩
  | _ => bad

def evMakeSlice (ti : TyI) (zr : Nat → List SV) (h' : RowH) (B : List Own) (len cap : SV) : Out :=
  match ti with
  | .slice E esz eb => match len, cap with
    | .int _ l, .int _ c => ⟨.row B.length h' esz 0 l.toNat, B ++ [.row h' E esz (List.replicate l.toNat (zr E))],
        0 ≤ l ∧ l ≤ c ∧ c * eb ≤ 140737488355328 ∧ 0 < esz ∧ 0 < eb ∧ (zr E).length = esz⟩
    | _, _ => bad
  | _ => bad

def buildL (ti : TyI) (cs : List SV) : List (Nat × SV) → List SV × Prop
  | [] => (cs, True)
  | (i, x) :: r => match ti with
    | .struct fs _ => match fs[i]? with
      | some (o, _, n) => match buildL ti (putL cs o x.cells) r with
        | (cs', c) => (cs', x.cells.length = n ∧ o + n ≤ cs.length ∧ solids x.cells = true ∧ c)
      | none => (cs, False)
    | .array len _ e => match buildL ti (putL cs (i * e) x.cells) r with
        | (cs', c) => (cs', i < len ∧ x.cells.length = e ∧ i * e + e ≤ cs.length ∧ solids x.cells = true ∧ c)
    | _ => (cs, False)
def evBuild (ti : TyI) (z : List SV) (B : List Own) (parts : List (Nat × SV)) : Out :=
  match buildL ti z parts with
  | (cs, c) => ⟨.agg cs, B, c ∧ z.length = ti.size ∧ ti.agg = true⟩

def mkey : List SV → Int
  | [.int _ a, _] => a
  | _ => 0
def mval : List SV → Int
  | [_, .int _ v] => v
  | _ => 0
/-- The entries of an owned map. -/
def entsOf (xs : List (List SV)) : List (Int × Int) := xs.map fun x => (mkey x, mval x)
def aget (a : Int) : List (Int × Int) → Option Int
  | [] => none
  | e :: r => if e.1 = a then some e.2 else aget a r
def aput (a v : Int) : List (Int × Int) → List (Int × Int)
  | [] => [(a, v)]
  | e :: r => if e.1 = a then (a, v) :: r else e :: aput a v r
def evMakeMap (ti : TyI) (h : RowH) (T : Nat) (B : List Own) : Out :=
  match ti with
  | .mapI k1 k2 => ⟨.om B.length h k1 k2, B ++ [.row h T 0 []], True⟩
  | _ => bad
def evInsert (ti : TyI) (B : List Own) (m k x : SV) : Out :=
  match ti with
  | .mapI k1 k2 => match m with
    | .om i h j1 j2 => match k with
      | .int c1 a => match x with
        | .int c2 v => match getD' B i with
          | .row h' E e xs => ⟨.any, B.set i (.row h E e ((aput a v (entsOf xs)).map (mC k1 k2))), h' = h ∧ j1 = k1 ∧ j2 = k2 ∧ c1 = k1 ∧ c2 = k2 ∧ xs = (entsOf xs).map (mC k1 k2)⟩
          | .gone => bad
        | _ => bad
      | _ => bad
    | _ => bad
  | _ => bad
def lkO (k2 : IntKind) (B : List Own) (r : Option Int) (ok : Bool) (c : Prop) : Out :=
  match ok with
  | true => ⟨.tup [.int k2 (r.getD 0), .bool r.isSome], B, c⟩
  | false => ⟨.int k2 (r.getD 0), B, c⟩
def evLookup (ti : TyI) (B : List Own) (m k : SV) (ok : Bool) : Out :=
  match ti with
  | .mapI k1 k2 => match k with
    | .int c1 a => match m with
      | .xm j1 j2 es => lkO k2 B (aget a es) ok (j1 = k1 ∧ j2 = k2 ∧ c1 = k1)
      | .om i h j1 j2 => match getD' B i with
        | .row h' _ _ xs => lkO k2 B (aget a (entsOf xs)) ok (h' = h ∧ j1 = k1 ∧ j2 = k2 ∧ c1 = k1 ∧ xs = (entsOf xs).map (mC k1 k2))
        | .gone => bad
      | _ => bad
    | _ => bad
  | _ => bad

def SV.isStr : SV → Bool
  | .str _ => true
  | _ => false
def byteOf : List SV → UInt8
  | [.int .u8 n] => UInt8.ofNat n.toNat
  | _ => 0
def isByte : List SV → Bool
  | [.int .u8 _] => true
  | _ => false
def bytesOf (xs : List (List SV)) : List UInt8 := xs.map byteOf
def evConvert (src te dst : TyI) (B : List Own) (x : SV) : Out :=
  match dst with
  | .int k => match x with
    | .int _ n => ⟨.int k (k.wrap n), B, True⟩
    | _ => bad
  | .string => match src with
    | .string => ⟨x, B, x.isStr = true⟩
    | .slice _ 1 1 => match te with
      | .int .u8 => match srcOf 1 B x with
        | (ys, c) => ⟨.str (bytesOf ys), B, c ∧ (∀ y ∈ ys, isByte y = true) ∧ x.isStr = false⟩
      | _ => bad
    | _ => bad
  | _ => bad

def cmpI (op : BinOp) (x y : Int) : Bool := match op with
  | .eql => x == y
  | .neq => x != y
  | .lss => decide (x < y)
  | .leq => decide (x ≤ y)
  | .gtr => decide (x > y)
  | .geq => decide (x ≥ y)
  | _ => false
def bitI (op : BinOp) (k : IntKind) (x y : Int) : Int :=
  let a := BitVec.ofInt k.bits x
  let b := BitVec.ofInt k.bits y
  match op with
  | .and => k.wrap ((a &&& b).toNat : Int)
  | .or => k.wrap ((a ||| b).toNat : Int)
  | .xor => k.wrap ((a ^^^ b).toNat : Int)
  | _ => k.wrap ((a &&& ~~~b).toNat : Int)
def evInt (op : BinOp) (k : IntKind) (B : List Own) (a b : Int) (same : Prop) : Out :=
  match op with
  | .add => ⟨.int k (k.wrap (a + b)), B, same⟩
  | .sub => ⟨.int k (k.wrap (a - b)), B, same⟩
  | .mul => ⟨.int k (k.wrap (a * b)), B, same⟩
  | .quo => ⟨.int k (k.wrap (a.tdiv b)), B, same ∧ b ≠ 0⟩
  | .rem => ⟨.int k (a.tmod b), B, same ∧ b ≠ 0⟩
  | .shl => ⟨.int k (k.wrap (a * 2 ^ (min b.toNat k.bits))), B, 0 ≤ b⟩
  | .shr => ⟨.int k (a.fdiv (2 ^ (min b.toNat k.bits))), B, 0 ≤ b⟩
  | .and => ⟨.int k (bitI .and k a b), B, same⟩
  | .or => ⟨.int k (bitI .or k a b), B, same⟩
  | .xor => ⟨.int k (bitI .xor k a b), B, same⟩
  | .andNot => ⟨.int k (bitI .andNot k a b), B, same⟩
  | .eql => ⟨.bool (a == b), B, same⟩
  | .neq => ⟨.bool (a != b), B, same⟩
  | .lss => ⟨.bool (decide (a < b)), B, same⟩
  | .leq => ⟨.bool (decide (a ≤ b)), B, same⟩
  | .gtr => ⟨.bool (decide (b < a)), B, same⟩
  | .geq => ⟨.bool (decide (b ≤ a)), B, same⟩
/-- Equality of cells, and that they are of a comparable kind. -/
def eqCell : SV → SV → Bool × Prop
  | .int k a, .int k' b => (a == b, k = k')
  | .bool a, .bool b => (a == b, True)
  | .str a, .str b => (a == b, True)
  | _, _ => (false, False)
def eqCells : List SV → List SV → Bool × Prop
  | [], [] => (true, True)
  | x :: xs, y :: ys => match eqCell x y, eqCells xs ys with
    | (p, c), (q, d) => (p && q, c ∧ d)
  | _, _ => (false, False)
/-- The kinds of cells: 0: truth values, 1: integers, 2: strings. -/
def kinds : List SV → List Nat
  | [] => []
  | .bool _ :: r => 0 :: kinds r
  | .int _ _ :: r => 1 :: kinds r
  | .str _ :: r => 2 :: kinds r
  | _ :: r => 9 :: kinds r
/-- 'lv': the kinds of the cells of a type whose values can be compared cell by cell. -/
def evBin (ti : TyI) (lv : List Nat) (op : BinOp) (B : List Own) (x y : SV) : Out :=
  match x, y with
  | .int k a, .int k' b => evInt op k B a b (k = k')
  | .bool a, .bool b => match ti with
    | .bool => match op with
      | .eql => ⟨.bool (a == b), B, True⟩
      | .neq => ⟨.bool (a != b), B, True⟩
      | _ => bad
    | _ => bad
  | .str a, .str b => match op with
    | .eql => ⟨.bool (a == b), B, True⟩
    | .neq => ⟨.bool (a != b), B, True⟩
    | .add => ⟨.str (a ++ b), B, (a.length + b.length : Int) ≤ 9223372036854775807⟩
    | .lss => ⟨.bool (Op.bytesLess a b), B, True⟩
    | .leq => ⟨.bool (Op.bytesLess a b || a == b), B, True⟩
    | .gtr => ⟨.bool !(Op.bytesLess a b || a == b), B, True⟩
    | .geq => ⟨.bool !Op.bytesLess a b, B, True⟩
    | _ => bad
  | .agg a, .agg b => match eqCells a b with
    | (p, c) => match op with
      | .eql => ⟨.bool p, B, c ∧ kinds a = lv ∧ lv ≠ []⟩
      | .neq => ⟨.bool (!p), B, c ∧ kinds a = lv ∧ lv ≠ []⟩
      | _ => bad
  | _, _ => bad
def evUn (op : UnOp) (B : List Own) : SV → Out
  | .bool b => match op with
    | .not => ⟨.bool (!b), B, True⟩
    | _ => bad
  | .int k n => match op with
    | .neg => ⟨.int k (k.wrap (0 - n)), B, True⟩
    | .xor => ⟨.int k (bitI .xor k (if k.signed then -1 else k.max) n), B, True⟩
    | _ => bad
  | _ => bad

def boolOf : SV → Option (Bool × Bool)
  | .bool b => some (true, b)
  | .opt c (.bool b) => some (c, b)
  | _ => none
/-- The arm of a pick: whether it is there, and its truth value. -/
def armOf : SV → Bool × Bool
  | .bool b => (true, b)
  | .opt c (.bool b) => (c, b)
  | _ => (false, false)
/-- A pick between truth values: the arm that is picked must be there. -/
def evPick (B : List Own) (c a b : SV) : Out :=
  match boolOf c with
  | some (gc, p) => ⟨.bool (bif p then (armOf a).2 else (armOf b).2), B, gc = true ∧ (p = true → (armOf a).1 = true) ∧ (p = false → (armOf b).1 = true)⟩
  | none => bad

/-- Whether an oracle says that an empty slice is nil. -/
def orc : RowH → Bool
  | .void none => true
  | _ => false
def nilOpd : Operand → Bool
  | .const (.slice none 0 0) => true
  | _ => false
def nilOf (h : RowH) : SV → Option Bool
  | .sl _ _ n _ => some (bif n == 0 then orc h else false)
  | .row _ (.at _ _) _ 0 _ => some false
  | _ => none
def nilPOpd : Operand → Bool
  | .const (.pointer none) => true
  | _ => false
def nilPOf : SV → Option Bool
  | .rptr .. => some false
  | .xp _ => some false
  | .val (.pointer none) => some true
  | _ => none
def evEqB (op : BinOp) (B : List Own) (b : Bool) : Out := match op with
  | .eql => ⟨.bool b, B, True⟩
  | .neq => ⟨.bool (!b), B, True⟩
  | _ => bad
/-- A slice is compared with nil: an empty one may or may not be nil. -/
def evNil (op : BinOp) (h : RowH) (B : List Own) (x : SV) (y : Operand) : Out :=
  match nilOpd y, nilOf h x with
  | true, some b => evEqB op B b
  | _, _ => bad
def evNilP (op : BinOp) (B : List Own) (x : SV) (y : Operand) : Out :=
  match nilPOpd y, nilPOf x with
  | true, some b => evEqB op B b
  | _, _ => bad
def evCmp (ti : TyI) (lv : List Nat) (op : BinOp) (h : RowH) (B : List Own) (a b : SV) (y : Operand) : Out :=
  match ti with
  | .slice .. => evNil op h B a y
  | .ptr => evNilP op B a y
  | ti => evBin ti lv op B a b
def max2I (a b : Int) : Int := if b > a then b else a
def min2I (a b : Int) : Int := if b < a then b else a

end Go.Lift
