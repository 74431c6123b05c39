/- Part 0: LiftA, LiftB, LiftC, LiftD, LiftE, LiftF, LiftG, LiftH, LiftI, LiftJ, LiftK, LiftL. -/
import Derived.WalkKit
import Derived.MapKept
import Derived.Laws.Cover3
section
namespace Go.Lift

inductive RowH where
  | at (b cap : Nat)
  | void (a : Option Addr)
  | mp (b : Nat)

instance : Inhabited RowH := ⟨.void none⟩
inductive SV where
  | any
  | int (k : IntKind) (n : Int)
  | bool (b : Bool)
  | str (l : List UInt8)
  | agg (cs : List SV)
  | tup (cs : List SV)
  | sl (full : Bool) (esz n : Nat) (f : Nat → List SV)
  | xp (cs : List SV)
  | row (i : Nat) (h : RowH) (esz lo n : Nat)
  | rptr (i : Nat) (h : RowH) (esz k off : Nat)
  | fn (f : FuncId) (caps : List SV)
  | bm (f : FuncId) (first : List SV)
  | val (v : Value)
  | opt (c : Bool) (v : SV)
  | om (i : Nat) (h : RowH) (k1 k2 : IntKind)
  | xm (k1 k2 : IntKind) (es : List (Int × Int))
instance : Inhabited SV := ⟨.any⟩

inductive Own where
  | row (h : RowH) (E esz : Nat) (xs : List (List SV))
  | gone
instance : Inhabited Own := ⟨.gone⟩

def mC (k1 k2 : IntKind) (e : Int × Int) : List SV := [.int k1 e.1, .int k2 e.2]
def entX : List MapEntry → List (List SV) → Prop
  | [], [] => True
  | e :: es, x :: xs => (∃ k1 k2 a v, e.key = .int k1 a ∧ e.val = .int k2 v ∧ x = [.int k1 a, .int k2 v]) ∧ entX es xs
  | _, _ => False
inductive Den (X : Nat → Prop) (w : World) : SV → Value → Prop
  | any (v) : Den X w .any v
  | int (k n) : Den X w (.int k n) (.int k n)
  | bool (b) : Den X w (.bool b) (.bool b)
  | str (l : List UInt8) : Den X w (.str l) (.string ⟨l.toArray⟩)
  | agg {cs : List SV} {vs : Array Value} (hs : vs.size = cs.length) (h : ∀ i c, cs[i]? = some c → Den X w c (vs.getD i undef)) : Den X w (.agg cs) (.agg vs)
  | tup {cs : List SV} {vs : Array Value} (hs : vs.size = cs.length) (h : ∀ i c, cs[i]? = some c → Den X w c (vs.getD i undef)) : Den X w (.tup cs) (.tuple vs)
  | slNil {full : Bool} {esz : Nat} {f : Nat → List SV} {a : Option Addr} {cap : Nat} (hf : full = true → cap = 0) : Den X w (.sl full esz 0 f) (.slice a 0 cap)
  | slAt {full : Bool} {esz n : Nat} {f : Nat → List SV} {b off cap : Nat} (g : Nat → Nat → Value) (hn : 0 < n) (hc : n ≤ cap) (hf : full = true → cap = n) (hX : X b)
      (hl : ∀ k, k < n → (f k).length = esz) (hw : ∀ k j, k < n → j < esz → w.cell? ⟨b, off + (k * esz + j), none⟩ = some (g k j))
      (h : ∀ k j c, k < n → (f k)[j]? = some c → Den X w c (g k j)) : Den X w (.sl full esz n f) (.slice (some ⟨b, off, none⟩) n cap)
  | xp {cs : List SV} {b off : Nat} (g : Nat → Value) (hX : X b) (hw : ∀ j, j < cs.length → w.cell? ⟨b, off + j, none⟩ = some (g j))
      (h : ∀ (j : Nat) (c : SV), cs[j]? = some c → Den X w c (g j)) : Den X w (.xp cs) (.pointer (some ⟨b, off, none⟩))
  | rowVoid (i : Nat) (a : Option Addr) (esz lo : Nat) : Den X w (.row i (.void a) esz lo 0) (.slice a 0 0)
  | rowAt (i b cap esz n : Nat) (h : n ≤ cap) : Den X w (.row i (.at b cap) esz 0 n) (.slice (some ⟨b, 0, none⟩) n cap)
  | rowLo (i b cap esz lo n c : Nat) (hn : 0 < n) (h : n ≤ c) : Den X w (.row i (.at b cap) esz (lo + 1) n) (.slice (some ⟨b, (lo + 1) * esz, none⟩) n c)
  | rowLo0 (i b cap esz lo c : Nat) (a : Option Addr) : Den X w (.row i (.at b cap) esz (lo + 1) 0) (.slice a 0 c)
  | rptr (i b cap esz k off : Nat) : Den X w (.rptr i (.at b cap) esz k off) (.pointer (some ⟨b, k * esz + off, none⟩))
  | fn {f : FuncId} {cs : List SV} {vs : Array Value} (hs : vs.size = cs.length) (h : ∀ i c, cs[i]? = some c → Den X w c (vs.getD i undef)) : Den X w (.fn f cs) (.func (.func f) #[] vs)
  | bm {f : FuncId} {cs : List SV} {vs : Array Value} (hs : vs.size = cs.length) (h : ∀ i c, cs[i]? = some c → Den X w c (vs.getD i undef)) : Den X w (.bm f cs) (.func (.func f) vs #[])
  | val (v) : Den X w (.val v) v
  | opt {c : Bool} {s : SV} {v : Value} (h : c = true → Den X w s v) (hu : c = false → v = undef) : Den X w (.opt c s) v
  | om (i b : Nat) (k1 k2 : IntKind) : Den X w (.om i (.mp b) k1 k2) (.map (some b))
  | xm {k1 k2 : IntKind} {es : List (Int × Int)} {b clock : Nat} {arr : Array MapEntry} (hX : X b) (hw : w.heap[b]? = some (.map arr clock)) (he : entX arr.toList (es.map (mC k1 k2))) : Den X w (.xm k1 k2 es) (.map (some b))

theorem Den.mono {X X' : Nat → Prop} {w w' : World} {s : SV} {v : Value} (h : Den X w s v) (hX : ∀ b, X b → X' b) (hw : ∀ b, X b → w'.heap[b]? = w.heap[b]?) : Den X' w' s v := by
  have hc : ∀ (b o : Nat), X b → w'.cell? ⟨b, o, none⟩ = w.cell? ⟨b, o, none⟩ := fun b o hb => World.cell?_of_block (w := w) (hw b hb)
  induction h with
  | any v => exact .any v
  | int k n => exact .int k n
  | bool b => exact .bool b
  | str l => exact .str l
  | agg hs _ ih => exact .agg hs ih
  | tup hs _ ih => exact .tup hs ih
  | slNil hf => exact .slNil hf
  | slAt g hn hcap hf hx hl hcell _ ih => exact .slAt g hn hcap hf (hX _ hx) hl (fun k j hk hj => by rw [hc _ _ hx]; exact hcell k j hk hj) ih
  | xp g hx hcell _ ih => exact .xp g (hX _ hx) (fun j hj => by rw [hc _ _ hx]; exact hcell j hj) ih
  | rowVoid i a esz lo => exact .rowVoid i a esz lo
  | rowAt i b cap esz n h => exact .rowAt i b cap esz n h
  | rowLo i b cap esz lo n c hn h => exact .rowLo i b cap esz lo n c hn h
  | rowLo0 i b cap esz lo c a => exact .rowLo0 i b cap esz lo c a
  | rptr i b cap esz k off => exact .rptr i b cap esz k off
  | fn hs _ ih => exact .fn hs ih
  | bm hs _ ih => exact .bm hs ih
  | val v => exact .val v
  | opt _ hu ih => exact .opt ih hu
  | om i b k1 k2 => exact .om i b k1 k2
  | xm hx hheap he => exact .xm (hX _ hx) (by rw [hw _ hx]; exact hheap) he

def Own.blocks : Own → List Nat
  | .row (.at b _) _ _ _ => [b]
  | .row (.mp b) _ _ _ => [b]
  | _ => []
def getD' (B : List Own) (i : Nat) : Own := B.getD i .gone
def owns (B : List Own) (b : Nat) : Prop := ∃ i, b ∈ (getD' B i).blocks

def Own.ok (X : Nat → Prop) (w : World) : Own → Prop
  | .row (.at b cap) E esz xs => ∃ vs : Array Value, w.heap[b]? = some (.cells vs E (0, 0)) ∧ vs.size = cap * esz ∧ xs.length ≤ cap ∧ (∀ (k : Nat) (x : List SV), xs[k]? = some x → x.length = esz) ∧
      ∀ (k j : Nat) (x : List SV) (c : SV), xs[k]? = some x → x[j]? = some c → Den X w c (vs.getD (k * esz + j) undef)
  | .row (.void _) _ _ xs => xs = []
  | .row (.mp b) _ _ xs => ∃ arr clock, w.heap[b]? = some (.map arr clock) ∧ entX arr.toList xs
  | .gone => True

def GV : Nat → List SV := fun | 0 => [.str [110, 111, 112], .str [], .str [115, 101, 116], .str [114, 110], .str [109, 111, 118, 101], .str [114, 114], .str [97, 100, 100], .str [114, 114, 114], .str [115, 117, 98], .str [114, 114, 114], .str [109, 117, 108], .str [114, 114, 114], .str [108, 101, 115, 115], .str [114, 114, 114], .str [101, 113, 117, 97, 108], .str [114, 114, 114], .str [106, 117, 109, 112], .str [116], .str [105, 102], .str [114, 116], .str [108, 111, 97, 100], .str [114, 114, 111], .str [115, 116, 111, 114, 101], .str [114, 114, 111], .str [99, 97, 108, 108], .str [99]] | _ => []
def XG (X : Nat → Prop) (w : World) : Prop := (∀ b, X b → b < w.heap.size) ∧ ∀ g, GV g ≠ [] → Den X w (.xp (GV g)) (.pointer (some ⟨g, 0, none⟩))
theorem XG.mono {X X' : Nat → Prop} {w w' : World} (h : XG X w) (hX : ∀ b, X b → X' b) (hw : ∀ b, X b → w'.heap[b]? = w.heap[b]?) (hlt : ∀ b, X' b → b < w'.heap.size) : XG X' w' :=
  ⟨hlt, fun g hg => (h.2 g hg).mono hX hw⟩
structure Sat (X : Nat → Prop) (w : World) (B : List Own) : Prop where
  inj : ∀ i j b, b ∈ (getD' B i).blocks → b ∈ (getD' B j).blocks → i = j
  lt : ∀ i b, b ∈ (getD' B i).blocks → b < w.heap.size
  xg : XG X w
  apart : ∀ b, X b → ¬ owns B b
  ok : ∀ i, Own.ok X w (getD' B i)

theorem Sat.xlt {X : Nat → Prop} {w : World} {B : List Own} (h : Sat X w B) : ∀ b, X b → b < w.heap.size := h.xg.1
structure Ext (X : Nat → Prop) (w : World) (B : List Own) (X' : Nat → Prop) (w' : World) (B' : List Own) : Prop where
  os : w'.os = w.os
  tape : w'.tape = w.tape
  output : w'.output = w.output
  size : w.heap.size ≤ w'.heap.size
  block : ∀ b, b < w.heap.size → ¬ owns B b → w'.heap[b]? = w.heap[b]?
  xin : ∀ b, X b → X' b
  xout : ∀ b, X' b → X b ∨ owns B b ∨ w.heap.size ≤ b
  own : ∀ b, owns B' b → owns B b ∨ w.heap.size ≤ b

theorem Ext.refl (X w B) : Ext X w B X w B := ⟨rfl, rfl, rfl, Nat.le_refl _, fun _ _ _ => rfl, fun _ h => h, fun _ h => .inl h, fun _ h => .inl h⟩

theorem Ext.trans {X w B X1 w1 B1 X2 w2 B2} (h : Ext X w B X1 w1 B1) (k : Ext X1 w1 B1 X2 w2 B2) : Ext X w B X2 w2 B2 where
  os := k.os.trans h.os
  tape := k.tape.trans h.tape
  output := k.output.trans h.output
  size := Nat.le_trans h.size k.size
  block b hb hn := (k.block b (Nat.lt_of_lt_of_le hb h.size) fun hm => (h.own b hm).elim hn (fun hl => by omega)).trans (h.block b hb hn)
  xin b hb := k.xin b (h.xin b hb)
  xout b hb := by
    rcases k.xout b hb with h1 | h1 | h1
    · exact h.xout b h1
    · exact (h.own b h1).elim (fun h => .inr (.inl h)) (fun h => .inr (.inr h))
    · exact .inr (.inr (Nat.le_trans h.size h1))
  own b hb := by
    rcases k.own b hb with h1 | h1
    · exact h.own b h1
    · exact .inr (Nat.le_trans h.size h1)

theorem Den.ext {X w B X' w' B' s v} (h : Den X w s v) (hs : Sat X w B) (he : Ext X w B X' w' B') : Den X' w' s v :=
  h.mono he.xin fun b hb => he.block b (hs.xlt b hb) (hs.apart b hb)

def lkp : List (Nat × SV) → Nat → SV
  | [], _ => .any
  | (j, v) :: r, i => if i = j then v else lkp r i

def DenT (X : Nat → Prop) (w : World) (t : List (Nat × SV)) (n : Nat) (tmps : Array Value) : Prop :=
  tmps.size = n ∧ ∀ i, Den X w (lkp t i) (tmps.getD i undef)

end Go.Lift
end
section
namespace Go.Lift

inductive TyI where
  | bad
  | bool
  | int (k : IntKind)
  | string
  | slice (E esz eb : Nat)
  | one
  | ptr
  | struct (fs : List (Nat × Bool × Nat)) (n : Nat)
  | array (len : Nat) (agg : Bool) (esz : Nat)
  | mapI (k1 k2 : IntKind)
instance : Inhabited TyI := ⟨.bad⟩

def TyI.agg : TyI → Bool
  | .struct .. => true
  | .array .. => true
  | _ => false
def TyI.size : TyI → Nat
  | .bad => 0
  | .struct _ n => n
  | .array l _ e => l * e
  | _ => 1

structure Out where
  v : SV
  B : List Own
  vc : Prop
def bad : Out := ⟨.any, [], False⟩

def SV.solid : SV → Bool
  | .any => false
  | .agg _ => false
  | .tup _ => false
  | .opt _ _ => false
  | .val v => v.oneCell'
  | _ => true
def solids : List SV → Bool
  | [] => true
  | c :: r => c.solid && solids r
def SV.cells : SV → List SV
  | .agg cs => cs
  | v => [v]
def SV.strip : SV → SV
  | .opt _ v => v
  | v => v
def SV.cond : SV → Bool
  | .opt c _ => c
  | _ => true
def SV.ofCell : Value → SV
  | .int k n => .int k n
  | .bool b => .bool b
  | .string s => .str s.data.toList
  | .slice none 0 0 => .sl true 0 0 fun _ => []
  | v => .val v
def SV.ofCells : List Value → List SV
  | [] => []
  | v :: r => SV.ofCell v :: SV.ofCells r
def SV.ofVal : Value → SV
  | .agg cs => .agg (SV.ofCells cs.toList)
  | v => SV.ofCell v

def putL (cs : List SV) (off : Nat) : List SV → List SV
  | [] => cs
  | x :: r => putL (cs.set off x) (off + 1) r

def evLoad (a : Bool) (n : Nat) (B : List Own) : SV → Out
  | .xp cs => match a with
    | true => ⟨.agg (cs.take n), B, n ≤ cs.length⟩
    | false => ⟨cs.getD 0 .any, B, 0 < cs.length⟩
  | .rptr i h esz k off => match getD' B i with
    | .row h' _ esz' xs => match a with
      | true => ⟨.agg (((xs.getD k []).drop off).take n), B, h' = h ∧ esz' = esz ∧ k < xs.length ∧ off + n ≤ esz⟩
      | false => ⟨(xs.getD k []).getD off .any, B, h' = h ∧ esz' = esz ∧ k < xs.length ∧ off < esz⟩
    | .gone => bad
  | _ => bad

def evStore (n : Nat) (B : List Own) (p v : SV) : Out :=
  match p with
  | .rptr i h esz k off => match getD' B i with
    | .row h' E esz' xs => ⟨.any, B.set i (.row h E esz (xs.set k (putL (xs.getD k []) off v.cells))),
        h' = h ∧ esz' = esz ∧ k < xs.length ∧ off + n ≤ esz ∧ v.cells.length = n ∧ solids v.cells = true⟩
    | .gone => bad
  | _ => bad

def evIndexAddr (ti : TyI) (B : List Own) (x i : SV) : Out :=
  match i with
  | .int _ k => match ti with
    | .slice _ e _ => match x with
      | .sl _ esz n f => ⟨.xp (f k.toNat), B, 0 ≤ k ∧ k < n ∧ esz = e⟩
      | .row j h esz lo n => ⟨.rptr j h esz (lo + k.toNat) 0, B, 0 ≤ k ∧ k < n ∧ esz = e⟩
      | _ => bad
    | .array len _ e => match x with
      | .rptr j h esz k0 off => ⟨.rptr j h esz k0 (off + k.toNat * e), B, 0 ≤ k ∧ k < len⟩
      | .xp cs => ⟨.xp (cs.drop (k.toNat * e)), B, 0 ≤ k ∧ k < len ∧ k.toNat * e ≤ cs.length⟩
      | _ => bad
    | _ => bad
  | _ => bad

def evFieldAddr (ti : TyI) (B : List Own) (f : Nat) (x : SV) : Out :=
  match ti with
  | .struct fs _ => match fs[f]? with
    | some (o, _, n) => match x with
      | .rptr j h esz k0 off => ⟨.rptr j h esz k0 (off + o), B, 0 < n⟩
      | .xp cs => ⟨.xp (cs.drop o), B, 0 < n ∧ o ≤ cs.length⟩
      | _ => bad
    | none => bad
  | _ => bad

def evField (ti : TyI) (B : List Own) (f : Nat) (x : SV) : Out :=
  match ti with
  | .struct fs _ => match fs[f]? with
    | some (o, a, n) => match x with
      | .agg cs => match a with
        | true => ⟨.agg ((cs.drop o).take n), B, o + n ≤ cs.length⟩
        | false => ⟨cs.getD o .any, B, o < cs.length⟩
      | _ => bad
    | none => bad
  | _ => bad

def evIndex (ti : TyI) (B : List Own) (x i : SV) : Out :=
  match i with
  | .int _ k => match ti with
    | .array len a e => match x with
      | .agg cs => match a with
        | true => ⟨.agg ((cs.drop (k.toNat * e)).take e), B, 0 ≤ k ∧ k < len ∧ k.toNat * e + e ≤ cs.length⟩
        | false => ⟨cs.getD k.toNat .any, B, 0 ≤ k ∧ k < len ∧ e = 1 ∧ k.toNat < cs.length⟩
      | _ => bad
    | .string => match x with
      | .str l => ⟨.int .u8 ((l.getD k.toNat 0).toNat : Int), B, 0 ≤ k ∧ k < l.length⟩
      | _ => bad
    | _ => bad
  | _ => bad

def sub (f : Nat → List SV) (n lo m k : Nat) : List SV := if k < m then f (lo + k) else f n
def rowHas (B : List Own) (j : Nat) (h : RowH) (esz hi : Nat) : Prop := match getD' B j with
  | .row h' _ e' xs => h' = h ∧ e' = esz ∧ hi ≤ xs.length
  | .gone => False
def evSliceB (kp : Bool) (ti : TyI) (B : List Own) (x : SV) (lo hi : Nat) (mx : Option Nat) : Out :=
  match ti with
  | .slice _ e _ => match x with
    | .sl _ esz n f => match mx with
      | none => ⟨.sl false esz (hi - lo) (sub f n lo (hi - lo)), B, lo ≤ hi ∧ hi ≤ n ∧ (n = 0 ∨ esz = e)⟩
      | some m => ⟨.sl true esz (hi - lo) (sub f n lo (hi - lo)), B, lo ≤ hi ∧ hi ≤ n ∧ m = hi ∧ (n = 0 ∨ esz = e)⟩
    | .row j h esz l0 n => match mx with
      | none => ⟨.row j h esz (l0 + lo) (hi - lo), B, lo ≤ hi ∧ (match kp with | true => hi ≤ n ∨ (l0 = 0 ∧ rowHas B j h esz hi) | false => hi ≤ n) ∧ esz = e⟩
      | some m => match kp with
        | true => ⟨.any, B, lo ≤ hi ∧ hi ≤ m ∧ m ≤ n ∧ esz = e⟩
        | false => bad
    | _ => bad
  | .string => match x with
    | .str l => ⟨.str ((l.drop lo).take (hi - lo)), B, lo ≤ hi ∧ hi ≤ l.length ∧ mx = none⟩
    | _ => bad
  | _ => bad
def SV.len : SV → Nat
  | .sl _ _ n _ => n
  | .row _ _ _ _ n => n
  | .str l => l.length
  | _ => 0
def evSlice (kp : Bool) (ti : TyI) (B : List Own) (x : SV) (lo hi mx : Option SV) : Out :=
  match lo, hi, mx with
  | none, none, none => evSliceB kp ti B x 0 x.len none
  | some (.int _ l), none, none => match evSliceB kp ti B x l.toNat x.len none with
    | ⟨v, B', c⟩ => ⟨v, B', 0 ≤ l ∧ c⟩
  | none, some (.int _ h), none => match evSliceB kp ti B x 0 h.toNat none with
    | ⟨v, B', c⟩ => ⟨v, B', 0 ≤ h ∧ c⟩
  | some (.int _ l), some (.int _ h), none => match evSliceB kp ti B x l.toNat h.toNat none with
    | ⟨v, B', c⟩ => ⟨v, B', 0 ≤ l ∧ 0 ≤ h ∧ c⟩
  | none, some (.int _ h), some (.int _ m) => match evSliceB kp ti B x 0 h.toNat (some m.toNat) with
    | ⟨v, B', c⟩ => ⟨v, B', 0 ≤ h ∧ 0 ≤ m ∧ c⟩
  | some (.int _ l), some (.int _ h), some (.int _ m) => match evSliceB kp ti B x l.toNat h.toNat (some m.toNat) with
    | ⟨v, B', c⟩ => ⟨v, B', 0 ≤ l ∧ 0 ≤ h ∧ 0 ≤ m ∧ c⟩
  | _, _, _ => bad

def srcOf (esz : Nat) (B : List Own) : SV → List (List SV) × Prop
  | .sl _ e m f => ((List.range m).map f, m = 0 ∨ e = esz)
  | .row i h e lo m => match getD' B i with
    | .row h2 _ e2 xs => ((xs.drop lo).take m, h2 = h ∧ e2 = e ∧ e = esz ∧ lo + m ≤ xs.length)
    | .gone => ([], False)
  | .str l => (l.map fun b => [.int .u8 (b.toNat : Int)], esz = 1)
  | _ => ([], False)

def srcSolid (B : List Own) : SV → Prop
  | .sl _ _ m f => ∀ k, k < m → solids (f k) = true
  | .row i _ _ _ _ => match getD' B i with
    | .row _ _ _ xs => ∀ x ∈ xs, solids x = true
    | .gone => False
  | _ => True

def tailK (kp : Bool) (xs : List (List SV)) (k : Nat) : List (List SV) := match kp with
  | true => xs.drop k
  | false => []
def evAppendL (kp : Bool) (h' : RowH) (E esz eb : Nat) (B : List Own) (dst : SV) (ys : List (List SV)) (c : Prop) : Out :=
  match dst with
  | .sl full e n f => ⟨.row B.length h' esz 0 (n + ys.length), B ++ [.row h' E esz ((List.range n).map f ++ ys)],
      full = true ∧ (n = 0 ∨ (e = esz ∧ 0 < ys.length)) ∧ c ∧ (n + ys.length) * eb ≤ 140737488355328⟩
  | .row i h e 0 n => match getD' B i with
    | .row h2 E2 e2 xs => ⟨.row i h' esz 0 (n + ys.length), B.set i (.row h' E esz (xs.take n ++ ys ++ tailK kp xs (n + ys.length))),
        h2 = h ∧ e2 = e ∧ e = esz ∧ E2 = E ∧ n ≤ xs.length ∧ c ∧ (n + ys.length) * eb ≤ 140737488355328⟩
    | .gone => bad
  | _ => bad
def srcTy : TyI → Bool
  | .slice .. => true
  | .string => true
  | _ => false
def evAppend (kp : Bool) (ti ti2 : TyI) (h' : RowH) (B : List Own) (dst src : SV) : Out :=
  match ti with
  | .slice E esz eb => match srcOf esz B src with
    | (ys, c) => evAppendL kp h' E esz eb B dst ys (c ∧ srcSolid B src ∧ 0 < esz ∧ 0 < eb ∧ srcTy ti2 = true)
  | _ => bad

def evCopy (ti : TyI) (B : List Own) (dst src : SV) : Out :=
  match ti with
  | .slice _ esz _ => match srcOf esz B src with
    | (ys, c) => match dst with
      | .row i h e lo n => match getD' B i with
        | .row h2 E e2 xs => ⟨.int .i64 (min n ys.length : Nat), B.set i (.row h E esz (xs.take lo ++ ys.take (min n ys.length) ++ xs.drop (lo + min n ys.length))),
            h2 = h ∧ e2 = e ∧ e = esz ∧ lo + n ≤ xs.length ∧ c ∧ srcSolid B src ∧ 0 < esz⟩
        | .gone => bad
      | _ => bad
  | _ => bad

def evClear (ti : TyI) (zr : Nat → List SV) (B : List Own) (x : SV) : Out :=
  match ti with
  | .slice el esz _ => match x with
    | .row i h e lo n => match getD' B i with
      | .row h2 E e2 xs => ⟨.tup [], B.set i (.row h E esz (xs.take lo ++ List.replicate n (zr el) ++ xs.drop (lo + n))),
          h2 = h ∧ e2 = e ∧ e = esz ∧ lo + n ≤ xs.length ∧ 0 < esz ∧ (zr el).length = esz ∧ solids (zr el) = true⟩
      | .gone => bad
    | _ => bad
  | _ => bad

def fillL (cs : List (List SV)) : List (Nat × SV) → List (List SV)
  | [] => cs
  | (i, x) :: r => fillL (cs.set i x.cells) r
def fillC (n esz : Nat) : List (Nat × SV) → Prop
  | [] => True
  | (i, x) :: r => i < n ∧ x.cells.length = esz ∧ solids x.cells = true ∧ fillC n esz r
def evBuildSlice (ti : TyI) (zr : Nat → List SV) (h' : RowH) (B : List Own) (len : Nat) (parts : List (Nat × SV)) : Out :=
  match ti with
  | .slice E esz _ => ⟨.row B.length h' esz 0 len, B ++ [.row h' E esz (fillL (List.replicate len (zr E)) parts)], fillC len esz parts ∧ 0 < esz ∧ (zr E).length = esz ∧ len * esz ≤ 16777216⟩
  | _ => bad

def evMakeSlice (ti : TyI) (zr : Nat → List SV) (h' : RowH) (B : List Own) (len cap : SV) : Out :=
  match ti with
  | .slice E esz eb => match len, cap with
    | .int _ l, .int _ c => ⟨.row B.length h' esz 0 l.toNat, B ++ [.row h' E esz (List.replicate l.toNat (zr E))],
        0 ≤ l ∧ l ≤ c ∧ c * eb ≤ 140737488355328 ∧ 0 < esz ∧ 0 < eb ∧ (zr E).length = esz⟩
    | _, _ => bad
  | _ => bad

def buildL (ti : TyI) (cs : List SV) : List (Nat × SV) → List SV × Prop
  | [] => (cs, True)
  | (i, x) :: r => match ti with
    | .struct fs _ => match fs[i]? with
      | some (o, _, n) => match buildL ti (putL cs o x.cells) r with
        | (cs', c) => (cs', x.cells.length = n ∧ o + n ≤ cs.length ∧ solids x.cells = true ∧ c)
      | none => (cs, False)
    | .array len _ e => match buildL ti (putL cs (i * e) x.cells) r with
        | (cs', c) => (cs', i < len ∧ x.cells.length = e ∧ i * e + e ≤ cs.length ∧ solids x.cells = true ∧ c)
    | _ => (cs, False)
def evBuild (ti : TyI) (z : List SV) (B : List Own) (parts : List (Nat × SV)) : Out :=
  match buildL ti z parts with
  | (cs, c) => ⟨.agg cs, B, c ∧ z.length = ti.size ∧ ti.agg = true⟩

def mkey : List SV → Int
  | [.int _ a, _] => a
  | _ => 0
def mval : List SV → Int
  | [_, .int _ v] => v
  | _ => 0
def entsOf (xs : List (List SV)) : List (Int × Int) := xs.map fun x => (mkey x, mval x)
def aget (a : Int) : List (Int × Int) → Option Int
  | [] => none
  | e :: r => if e.1 = a then some e.2 else aget a r
def aput (a v : Int) : List (Int × Int) → List (Int × Int)
  | [] => [(a, v)]
  | e :: r => if e.1 = a then (a, v) :: r else e :: aput a v r
def evMakeMap (ti : TyI) (h : RowH) (T : Nat) (B : List Own) : Out :=
  match ti with
  | .mapI k1 k2 => ⟨.om B.length h k1 k2, B ++ [.row h T 0 []], True⟩
  | _ => bad
def evInsert (ti : TyI) (B : List Own) (m k x : SV) : Out :=
  match ti with
  | .mapI k1 k2 => match m with
    | .om i h j1 j2 => match k with
      | .int c1 a => match x with
        | .int c2 v => match getD' B i with
          | .row h' E e xs => ⟨.any, B.set i (.row h E e ((aput a v (entsOf xs)).map (mC k1 k2))), h' = h ∧ j1 = k1 ∧ j2 = k2 ∧ c1 = k1 ∧ c2 = k2 ∧ xs = (entsOf xs).map (mC k1 k2)⟩
          | .gone => bad
        | _ => bad
      | _ => bad
    | _ => bad
  | _ => bad
def lkO (k2 : IntKind) (B : List Own) (r : Option Int) (ok : Bool) (c : Prop) : Out :=
  match ok with
  | true => ⟨.tup [.int k2 (r.getD 0), .bool r.isSome], B, c⟩
  | false => ⟨.int k2 (r.getD 0), B, c⟩
def evLookup (ti : TyI) (B : List Own) (m k : SV) (ok : Bool) : Out :=
  match ti with
  | .mapI k1 k2 => match k with
    | .int c1 a => match m with
      | .xm j1 j2 es => lkO k2 B (aget a es) ok (j1 = k1 ∧ j2 = k2 ∧ c1 = k1)
      | .om i h j1 j2 => match getD' B i with
        | .row h' _ _ xs => lkO k2 B (aget a (entsOf xs)) ok (h' = h ∧ j1 = k1 ∧ j2 = k2 ∧ c1 = k1 ∧ xs = (entsOf xs).map (mC k1 k2))
        | .gone => bad
      | _ => bad
    | _ => bad
  | _ => bad

def SV.isStr : SV → Bool
  | .str _ => true
  | _ => false
def byteOf : List SV → UInt8
  | [.int .u8 n] => UInt8.ofNat n.toNat
  | _ => 0
def isByte : List SV → Bool
  | [.int .u8 _] => true
  | _ => false
def bytesOf (xs : List (List SV)) : List UInt8 := xs.map byteOf
def evConvert (src te dst : TyI) (B : List Own) (x : SV) : Out :=
  match dst with
  | .int k => match x with
    | .int _ n => ⟨.int k (k.wrap n), B, True⟩
    | _ => bad
  | .string => match src with
    | .string => ⟨x, B, x.isStr = true⟩
    | .slice _ 1 1 => match te with
      | .int .u8 => match srcOf 1 B x with
        | (ys, c) => ⟨.str (bytesOf ys), B, c ∧ (∀ y ∈ ys, isByte y = true) ∧ x.isStr = false⟩
      | _ => bad
    | _ => bad
  | _ => bad

def bitI (op : BinOp) (k : IntKind) (x y : Int) : Int :=
  let a := BitVec.ofInt k.bits x
  let b := BitVec.ofInt k.bits y
  match op with
  | .and => k.wrap ((a &&& b).toNat : Int)
  | .or => k.wrap ((a ||| b).toNat : Int)
  | .xor => k.wrap ((a ^^^ b).toNat : Int)
  | _ => k.wrap ((a &&& ~~~b).toNat : Int)
def evInt (op : BinOp) (k : IntKind) (B : List Own) (a b : Int) (same : Prop) : Out :=
  match op with
  | .add => ⟨.int k (k.wrap (a + b)), B, same⟩
  | .sub => ⟨.int k (k.wrap (a - b)), B, same⟩
  | .mul => ⟨.int k (k.wrap (a * b)), B, same⟩
  | .quo => ⟨.int k (k.wrap (a.tdiv b)), B, same ∧ b ≠ 0⟩
  | .rem => ⟨.int k (a.tmod b), B, same ∧ b ≠ 0⟩
  | .shl => ⟨.int k (k.wrap (a * 2 ^ (min b.toNat k.bits))), B, 0 ≤ b⟩
  | .shr => ⟨.int k (a.fdiv (2 ^ (min b.toNat k.bits))), B, 0 ≤ b⟩
  | .and => ⟨.int k (bitI .and k a b), B, same⟩
  | .or => ⟨.int k (bitI .or k a b), B, same⟩
  | .xor => ⟨.int k (bitI .xor k a b), B, same⟩
  | .andNot => ⟨.int k (bitI .andNot k a b), B, same⟩
  | .eql => ⟨.bool (a == b), B, same⟩
  | .neq => ⟨.bool (a != b), B, same⟩
  | .lss => ⟨.bool (decide (a < b)), B, same⟩
  | .leq => ⟨.bool (decide (a ≤ b)), B, same⟩
  | .gtr => ⟨.bool (decide (b < a)), B, same⟩
  | .geq => ⟨.bool (decide (b ≤ a)), B, same⟩
def eqCell : SV → SV → Bool × Prop
  | .int k a, .int k' b => (a == b, k = k')
  | .bool a, .bool b => (a == b, True)
  | .str a, .str b => (a == b, True)
  | _, _ => (false, False)
def eqCells : List SV → List SV → Bool × Prop
  | [], [] => (true, True)
  | x :: xs, y :: ys => match eqCell x y, eqCells xs ys with
    | (p, c), (q, d) => (p && q, c ∧ d)
  | _, _ => (false, False)
def kinds : List SV → List Nat
  | [] => []
  | .bool _ :: r => 0 :: kinds r
  | .int _ _ :: r => 1 :: kinds r
  | .str _ :: r => 2 :: kinds r
  | _ :: r => 9 :: kinds r
def evBin (ti : TyI) (lv : List Nat) (op : BinOp) (B : List Own) (x y : SV) : Out :=
  match x, y with
  | .int k a, .int k' b => evInt op k B a b (k = k')
  | .bool a, .bool b => match ti with
    | .bool => match op with
      | .eql => ⟨.bool (a == b), B, True⟩
      | .neq => ⟨.bool (a != b), B, True⟩
      | _ => bad
    | _ => bad
  | .str a, .str b => match op with
    | .eql => ⟨.bool (a == b), B, True⟩
    | .neq => ⟨.bool (a != b), B, True⟩
    | .add => ⟨.str (a ++ b), B, (a.length + b.length : Int) ≤ 9223372036854775807⟩
    | .lss => ⟨.bool (Op.bytesLess a b), B, True⟩
    | .leq => ⟨.bool (Op.bytesLess a b || a == b), B, True⟩
    | .gtr => ⟨.bool !(Op.bytesLess a b || a == b), B, True⟩
    | .geq => ⟨.bool !Op.bytesLess a b, B, True⟩
    | _ => bad
  | .agg a, .agg b => match eqCells a b with
    | (p, c) => match op with
      | .eql => ⟨.bool p, B, c ∧ kinds a = lv ∧ lv ≠ []⟩
      | .neq => ⟨.bool (!p), B, c ∧ kinds a = lv ∧ lv ≠ []⟩
      | _ => bad
  | _, _ => bad
def evUn (op : UnOp) (B : List Own) : SV → Out
  | .bool b => match op with
    | .not => ⟨.bool (!b), B, True⟩
    | _ => bad
  | .int k n => match op with
    | .neg => ⟨.int k (k.wrap (0 - n)), B, True⟩
    | .xor => ⟨.int k (bitI .xor k (if k.signed then -1 else k.max) n), B, True⟩
    | _ => bad
  | _ => bad

def boolOf : SV → Option (Bool × Bool)
  | .bool b => some (true, b)
  | .opt c (.bool b) => some (c, b)
  | _ => none
def armOf : SV → Bool × Bool
  | .bool b => (true, b)
  | .opt c (.bool b) => (c, b)
  | _ => (false, false)
def evPick (B : List Own) (c a b : SV) : Out :=
  match boolOf c with
  | some (gc, p) => ⟨.bool (bif p then (armOf a).2 else (armOf b).2), B, gc = true ∧ (p = true → (armOf a).1 = true) ∧ (p = false → (armOf b).1 = true)⟩
  | none => bad

def orc : RowH → Bool
  | .void none => true
  | _ => false
def nilOpd : Operand → Bool
  | .const (.slice none 0 0) => true
  | _ => false
def nilOf (h : RowH) : SV → Option Bool
  | .sl _ _ n _ => some (bif n == 0 then orc h else false)
  | .row _ (.at _ _) _ 0 _ => some false
  | _ => none
def nilPOpd : Operand → Bool
  | .const (.pointer none) => true
  | _ => false
def nilPOf : SV → Option Bool
  | .rptr .. => some false
  | .xp _ => some false
  | .val (.pointer none) => some true
  | _ => none
def evEqB (op : BinOp) (B : List Own) (b : Bool) : Out := match op with
  | .eql => ⟨.bool b, B, True⟩
  | .neq => ⟨.bool (!b), B, True⟩
  | _ => bad
def evNil (op : BinOp) (h : RowH) (B : List Own) (x : SV) (y : Operand) : Out :=
  match nilOpd y, nilOf h x with
  | true, some b => evEqB op B b
  | _, _ => bad
def evNilP (op : BinOp) (B : List Own) (x : SV) (y : Operand) : Out :=
  match nilPOpd y, nilPOf x with
  | true, some b => evEqB op B b
  | _, _ => bad
def evCmp (ti : TyI) (lv : List Nat) (op : BinOp) (h : RowH) (B : List Own) (a b : SV) (y : Operand) : Out :=
  match ti with
  | .slice .. => evNil op h B a y
  | .ptr => evNilP op B a y
  | ti => evBin ti lv op B a b
def max2I (a b : Int) : Int := if b > a then b else a
def min2I (a b : Int) : Int := if b < a then b else a

end Go.Lift
end
section
namespace Go.Lift

def aggB (P : Program) (T : TypeId) : Bool := match P.underlying T with
  | some (.struct _) => true
  | some (.array _ _) => true
  | _ => false
def sizeB (P : Program) (T n : Nat) : Bool := match P.info? T with
  | some i => i.size == n
  | none => false
def tyB (P : Program) (T : TypeId) (ti : TyI) : Bool :=
  match ti with
  | .bad => true
  | ti => sizeB P T ti.size && (P.underlying T).isSome && aggB P T == ti.agg && match ti with
    | .bool => (match P.underlying T with | some .bool => true | _ => false)
    | .int k => (match P.underlying T with | some (.int k') => k == k' | _ => false)
    | .string => (match P.underlying T with | some .string => true | _ => false)
    | .ptr => (match P.underlying T with | some (.pointer _) => true | _ => false)
    | .slice E esz eb => (match P.underlying T with
      | some (.slice E') => E == E' && (match P.info? E with | some i => i.size == esz && i.bytes == eb && (match i.zero with | some z => z.cells.size == esz | none => false) | none => false)
      | _ => false)
    | .struct fs _ => (match P.underlying T with
      | some (.struct F) => F.size == fs.length && (List.range fs.length).all fun j => match F[j]?, fs[j]? with
        | some fl, some (o, a, m) => fl.offset == o && sizeB P fl.type m && aggB P fl.type == a && (P.underlying fl.type).isSome
        | _, _ => false
      | _ => false)
    | .array len a e => (match P.underlying T with
      | some (.array len' E) => len == len' && sizeB P E e && aggB P E == a && (P.underlying E).isSome
      | _ => false)
    | .mapI k1 k2 => (match P.underlying T with
      | some (.map A E) => (match P.underlying A with | some (.int k) => k == k1 | _ => false) && (match P.info? E with | some i => (match i.zero with | some (.int k n) => k == k2 && n == 0 | _ => false) | none => false)
      | _ => false)
    | _ => true

section
variable {P : Program} {T : TypeId} {ti : TyI}

theorem sizeB_spec {n : Nat} (h : sizeB P T n = true) (w : World) : (sizeOf T).run P w = .ok n w := by
  unfold sizeB at h
  cases hi : P.info? T with
  | none => simp [hi] at h
  | some i =>
    simp only [hi, beq_iff_eq] at h
    subst h
    simp [sizeOf, typeInfo, hi]

theorem isAgg_spec (h : (P.underlying T).isSome = true) (w : World) : (isAgg T).run P w = .ok (aggB P T) w := by
  obtain ⟨d, hd⟩ := Option.isSome_iff_exists.1 h
  unfold aggB isAgg
  simp only [Sem.run_bind, run_underlying hd, Result.andThen_ok, hd]
  cases d <;> rfl

theorem tyB_size (h : tyB P T ti = true) (hb : ti ≠ .bad) : sizeB P T ti.size = true := by
  cases ti <;> first | exact absurd rfl hb | (simp only [tyB, Bool.and_eq_true] at h; exact h.1.1.1)
theorem tyB_und (h : tyB P T ti = true) (hb : ti ≠ .bad) : (P.underlying T).isSome = true := by
  cases ti <;> first | exact absurd rfl hb | (simp only [tyB, Bool.and_eq_true] at h; exact h.1.1.2)
theorem tyB_agg (h : tyB P T ti = true) (hb : ti ≠ .bad) : aggB P T = ti.agg := by
  cases ti <;> first | exact absurd rfl hb | (simp only [tyB, Bool.and_eq_true, beq_iff_eq] at h; exact h.1.2)
theorem tyB_run_agg (h : tyB P T ti = true) (hb : ti ≠ .bad) (w : World) : (isAgg T).run P w = .ok ti.agg w := by
  rw [isAgg_spec (tyB_und h hb), tyB_agg h hb]
theorem tyB_run_size (h : tyB P T ti = true) (hb : ti ≠ .bad) (w : World) : (sizeOf T).run P w = .ok ti.size w := sizeB_spec (tyB_size h hb) w
theorem tyB_slice {E esz eb : Nat} (h : tyB P T (.slice E esz eb) = true) : P.underlying T = some (.slice E) ∧ ∃ i z, P.info? E = some i ∧ i.size = esz ∧ i.bytes = eb ∧ i.zero = some z ∧ z.cells.size = esz := by
  simp only [tyB, Bool.and_eq_true] at h
  have h := h.2
  cases hu : P.underlying T with
  | none => simp [hu] at h
  | some d =>
    cases d <;> simp only [hu, Bool.false_eq_true] at h
    case slice E' =>
      simp only [Bool.and_eq_true, beq_iff_eq] at h
      obtain ⟨rfl, h⟩ := h
      cases hi : P.info? E with
      | none => simp [hi] at h
      | some i =>
        simp only [hi, Bool.and_eq_true, beq_iff_eq] at h
        cases hz : i.zero with
        | none => simp [hz] at h
        | some z =>
          simp only [hz, beq_iff_eq] at h
          exact ⟨rfl, i, z, rfl, h.1.1, h.1.2, hz, h.2⟩
theorem tyB_string (h : tyB P T .string = true) : P.underlying T = some .string := by
  simp only [tyB, Bool.and_eq_true] at h
  have h := h.2
  cases hu : P.underlying T with
  | none => simp [hu] at h
  | some d => cases d <;> simp [hu] at h ⊢
theorem tyB_ptr (h : tyB P T .ptr = true) : ∃ e, P.underlying T = some (.pointer e) := by
  simp only [tyB, Bool.and_eq_true] at h
  have := h.2
  split at this
  · exact ⟨_, by assumption⟩
  · cases this
theorem tyB_bool (h : tyB P T .bool = true) : P.underlying T = some .bool := by
  simp only [tyB, Bool.and_eq_true] at h
  have h := h.2
  cases hu : P.underlying T with
  | none => simp [hu] at h
  | some d => cases d <;> simp [hu] at h ⊢
theorem tyB_int {k : IntKind} (h : tyB P T (.int k) = true) : P.underlying T = some (.int k) := by
  simp only [tyB, Bool.and_eq_true] at h
  have h := h.2
  cases hu : P.underlying T with
  | none => simp [hu] at h
  | some d => cases d <;> simp [hu] at h ⊢; exact h.symm
theorem tyB_struct {fs : List (Nat × Bool × Nat)} {n : Nat} (h : tyB P T (.struct fs n) = true) :
    ∃ F, P.underlying T = some (.struct F) ∧ F.size = fs.length ∧ ∀ (j o : Nat) (a : Bool) (m : Nat), fs[j]? = some (o, a, m) →
      ∃ fl : Field, F[j]? = some fl ∧ fl.offset = o ∧ sizeB P fl.type m = true ∧ (∀ w, (isAgg fl.type).run P w = .ok a w) := by
  simp only [tyB, Bool.and_eq_true] at h
  have h := h.2
  cases hu : P.underlying T with
  | none => simp [hu] at h
  | some d =>
    cases d <;> simp only [hu, Bool.false_eq_true] at h
    case struct F =>
      simp only [Bool.and_eq_true, beq_iff_eq, List.all_eq_true, List.mem_range] at h
      refine ⟨F, rfl, h.1, fun j o a m hj => ?_⟩
      have hlt : j < fs.length := by
        rcases Nat.lt_or_ge j fs.length with h' | h'
        · exact h'
        · simp [List.getElem?_eq_none h'] at hj
      have h2 := h.2 j hlt
      rw [hj] at h2
      cases hF : F[j]? with
      | none => simp [hF] at h2
      | some fl =>
        simp only [hF, Bool.and_eq_true, beq_iff_eq] at h2
        obtain ⟨⟨⟨h3, h4⟩, h5⟩, h6⟩ := h2
        exact ⟨fl, rfl, h3, h4, fun w => by rw [isAgg_spec h6, h5]⟩
theorem tyB_array {len : Nat} {a : Bool} {e : Nat} (h : tyB P T (.array len a e) = true) :
    ∃ E, P.underlying T = some (.array len E) ∧ sizeB P E e = true ∧ (∀ w, (isAgg E).run P w = .ok a w) := by
  simp only [tyB, Bool.and_eq_true] at h
  have h := h.2
  cases hu : P.underlying T with
  | none => simp [hu] at h
  | some d =>
    cases d <;> simp only [hu, Bool.false_eq_true] at h
    case array len' E =>
      simp only [Bool.and_eq_true, beq_iff_eq] at h
      obtain ⟨⟨⟨rfl, h4⟩, h5⟩, h6⟩ := h
      exact ⟨E, rfl, h4, fun w => by rw [isAgg_spec h6, h5]⟩
end

def ev (t : List (Nat × SV)) : Operand → SV
  | .tmp i => lkp t i
  | .const v => .ofVal v
  | .func f => .fn f []
  | .global g => match GV g with
    | [] => .any
    | cs => .xp cs

section
variable {X : Nat → Prop} {w : World} {B : List Own}

theorem den_ofCell (v : Value) : Den X w (SV.ofCell v) v := by
  unfold SV.ofCell
  split
  · exact .int ..
  · exact .bool ..
  · rename_i s
    have : Value.string s = .string ⟨s.data.toList.toArray⟩ := by simp
    rw [this]; exact .str _
  · exact .slNil (fun _ => rfl)
  · exact .val _
theorem den_ofCells : ∀ (vs : List Value) (i : Nat) (c : SV), (SV.ofCells vs)[i]? = some c → Den X w c (vs.getD i undef)
  | [], i, c, h => by simp [SV.ofCells] at h
  | v :: r, 0, c, h => by simp [SV.ofCells] at h; subst h; simpa using den_ofCell v
  | v :: r, i + 1, c, h => by simpa using den_ofCells r i c (by simpa [SV.ofCells] using h)
theorem length_ofCells : ∀ (vs : List Value), (SV.ofCells vs).length = vs.length
  | [] => rfl
  | v :: r => by simp [SV.ofCells, length_ofCells r]
theorem den_ofVal (v : Value) : Den X w (SV.ofVal v) v := by
  unfold SV.ofVal
  split
  · rename_i cs
    exact .agg (by simp [length_ofCells]) fun i c h => by
      have := den_ofCells (X := X) (w := w) cs.toList i c h
      simpa using this
  · exact den_ofCell _

theorem den_ev {t : List (Nat × SV)} {n : Nat} {a : Act} (hg : XG X w) (h : DenT X w t n a.tmps) (x : Operand) : Den X w (ev t x) (a.eval x) := by
  cases x with
  | tmp i => exact h.2 i
  | const v => exact den_ofVal v
  | func f => exact .fn (by simp) (by simp)
  | global g =>
    show Den X w (match GV g with | [] => .any | cs => .xp cs) _
    cases e : GV g with
    | nil => exact .any _
    | cons c cs => have := hg.2 g (by rw [e]; simp); rw [e] at this; exact this

theorem getD'_lt {i : Nat} {h E esz xs} (hg : getD' B i = .row h E esz xs) : i < B.length := by
  unfold getD' at hg
  rcases Nat.lt_or_ge i B.length with hi | hi
  · rw [List.getD_eq_getElem?_getD, List.getElem?_eq_getElem hi] at hg
    simp at hg
    exact hi
  · rw [List.getD_eq_getElem?_getD, List.getElem?_eq_none hi] at hg
    simp at hg

theorem Sat.row (hs : Sat X w B) {i b cap E esz xs} (hg : getD' B i = .row (.at b cap) E esz xs) :
    ∃ vs : Array Value, w.heap[b]? = some (.cells vs E (0, 0)) ∧ vs.size = cap * esz ∧ xs.length ≤ cap ∧ (∀ (k : Nat) (x : List SV), xs[k]? = some x → x.length = esz) ∧
      ∀ (k j : Nat) (x : List SV) (c : SV), xs[k]? = some x → x[j]? = some c → Den X w c (vs.getD (k * esz + j) undef) := by
  have := hs.ok i
  rw [hg] at this
  exact this
theorem Sat.rowVoid (hs : Sat X w B) {i a E esz xs} (hg : getD' B i = .row (.void a) E esz xs) : xs = [] := by
  have := hs.ok i
  rw [hg] at this
  exact this

theorem getD_of_get? {α : Type} {l : List α} {i : Nat} {d c : α} (h : l[i]? = some c) : l.getD i d = c := by simp [List.getD, h]
theorem get?_of_lt {α : Type} {l : List α} {i : Nat} (d : α) (h : i < l.length) : l[i]? = some (l.getD i d) := by simp [List.getD, List.getElem?_eq_getElem h]
theorem agetD_of_lt {vs : Array Value} {i : Nat} (h : i < vs.size) : vs[i]? = some (vs.getD i undef) := by simp [h]

theorem idx_lt {k j esz m : Nat} (hk : k < m) (hj : j < esz) : k * esz + j < m * esz := by
  have : (k + 1) * esz ≤ m * esz := Nat.mul_le_mul_right _ hk
  rw [Nat.succ_mul] at this
  omega

theorem cell_of_heap {b E off : Nat} {vs : Array Value} {fz} (hb : w.heap[b]? = some (.cells vs E fz)) (ho : off < vs.size) : w.cell? ⟨b, off, none⟩ = some (vs.getD off undef) := by
  unfold World.cell?
  simp [hb, ho]

theorem add_none (b off n : Nat) : (⟨b, off, none⟩ : Addr).add n = ⟨b, off + n, none⟩ := by
  unfold Addr.add
  split
  · simp_all
  · rfl

theorem getD'_set {i j : Nat} {o : Own} (hi : i < B.length) : getD' (B.set i o) j = if j = i then o else getD' B j := by
  unfold getD'
  simp only [List.getD, List.getElem?_set]
  by_cases h : j = i
  · subst h; simp [hi]
  · have : i ≠ j := fun e => h e.symm
    simp [h, this]
theorem getD'_push {j : Nat} {o : Own} : getD' (B ++ [o]) j = if j = B.length then o else getD' B j := by
  unfold getD'
  simp only [List.getD]
  by_cases h : j = B.length
  · subst h; simp
  · rcases Nat.lt_or_ge j B.length with h1 | h1
    · simp [h, List.getElem?_append_left h1]
    · have h2 : B.length + 1 ≤ j := by omega
      rw [List.getElem?_eq_none (by simp; omega), List.getElem?_eq_none h1]; simp [h]

theorem Own.ok_mono {X' : Nat → Prop} {w' : World} {o : Own} (h : o.ok X w) (hX : ∀ b, X b → X' b) (hw : ∀ b, X b → w'.heap[b]? = w.heap[b]?) (hb : ∀ b ∈ o.blocks, w'.heap[b]? = w.heap[b]?) : o.ok X' w' := by
  cases o with
  | gone => trivial
  | row h' E esz xs =>
    cases h' with
    | void a => exact h
    | mp b =>
      obtain ⟨arr, clock, h1, h2⟩ := h
      exact ⟨arr, clock, by rw [hb b (by simp [Own.blocks])]; exact h1, h2⟩
    | «at» b cap =>
      obtain ⟨vs, h1, h2, h3, h4, h5⟩ := h
      exact ⟨vs, by rw [hb b (by simp [Own.blocks])]; exact h1, h2, h3, h4, fun k j x c hx hc => (h5 k j x c hx hc).mono hX hw⟩

theorem Sat.replace {w' : World} {i : Nat} {o' : Own} (hs : Sat X w B) (hi : i < B.length) (hsize : w.heap.size ≤ w'.heap.size)
    (hblk : ∀ c, c < w.heap.size → c ∉ (getD' B i).blocks → w'.heap[c]? = w.heap[c]?)
    (hnew : ∀ c ∈ o'.blocks, c ∈ (getD' B i).blocks ∨ (w.heap.size ≤ c ∧ c < w'.heap.size)) (hok : Own.ok X w' o') : Sat X w' (B.set i o') := by
  have hX : ∀ b, X b → w'.heap[b]? = w.heap[b]? := fun b hb => hblk b (hs.xlt b hb) fun hm => hs.apart b hb ⟨i, hm⟩
  refine ⟨fun j k b hj hk => ?_, fun j b hj => ?_, hs.xg.mono (fun _ h => h) hX fun b hb => Nat.lt_of_lt_of_le (hs.xlt b hb) hsize, fun b hb ⟨j, hj⟩ => ?_, fun j => ?_⟩
  · rw [getD'_set hi] at hj hk
    by_cases e1 : j = i <;> by_cases e2 : k = i
    · omega
    · simp only [e1, e2, if_true, if_false] at hj hk
      rcases hnew b hj with h | h
      · exact absurd (hs.inj _ _ _ h hk).symm e2
      · have := hs.lt _ _ hk; omega
    · simp only [e1, e2, if_true, if_false] at hj hk
      rcases hnew b hk with h | h
      · exact absurd (hs.inj _ _ _ h hj).symm e1
      · have := hs.lt _ _ hj; omega
    · simp only [e1, e2, if_false] at hj hk
      exact hs.inj _ _ _ hj hk
  · rw [getD'_set hi] at hj
    by_cases e1 : j = i
    · simp only [e1, if_true] at hj
      rcases hnew b hj with h | h
      · exact Nat.lt_of_lt_of_le (hs.lt _ _ h) hsize
      · exact h.2
    · simp only [e1, if_false] at hj
      exact Nat.lt_of_lt_of_le (hs.lt _ _ hj) hsize
  · rw [getD'_set hi] at hj
    by_cases e1 : j = i
    · simp only [e1, if_true] at hj
      rcases hnew b hj with h | h
      · exact hs.apart b hb ⟨i, h⟩
      · have := hs.xlt b hb; omega
    · simp only [e1, if_false] at hj
      exact hs.apart b hb ⟨j, hj⟩
  · rw [getD'_set hi]
    by_cases e1 : j = i
    · simp only [e1, if_true]; exact hok
    · simp only [e1, if_false]
      exact Own.ok_mono (hs.ok j) (fun _ h => h) hX fun b hb => hblk b (hs.lt _ _ hb) fun hm => e1 (hs.inj _ _ _ hb hm)
theorem Ext.replace {w' : World} {i : Nat} {o' : Own} (hi : i < B.length) (ho : w'.os = w.os) (ht : w'.tape = w.tape) (hu : w'.output = w.output) (hsize : w.heap.size ≤ w'.heap.size)
    (hblk : ∀ c, c < w.heap.size → c ∉ (getD' B i).blocks → w'.heap[c]? = w.heap[c]?)
    (hnew : ∀ c ∈ o'.blocks, c ∈ (getD' B i).blocks ∨ (w.heap.size ≤ c ∧ c < w'.heap.size)) : Ext X w B X w' (B.set i o') := by
  refine ⟨ho, ht, hu, hsize, fun b hb hn => hblk b hb fun hm => hn ⟨i, hm⟩, fun _ h => h, fun _ h => .inl h, fun b ⟨j, hj⟩ => ?_⟩
  rw [getD'_set hi] at hj
  by_cases e1 : j = i
  · simp only [e1, if_true] at hj
    rcases hnew b hj with h | h
    · exact .inl ⟨i, h⟩
    · exact .inr h.1
  · simp only [e1, if_false] at hj
    exact .inl ⟨j, hj⟩
theorem Sat.push {w' : World} {o' : Own} (hs : Sat X w B) (hsize : w.heap.size ≤ w'.heap.size) (hblk : ∀ c, c < w.heap.size → w'.heap[c]? = w.heap[c]?)
    (hnew : ∀ c ∈ o'.blocks, w.heap.size ≤ c ∧ c < w'.heap.size) (hok : Own.ok X w' o') : Sat X w' (B ++ [o']) := by
  have hX : ∀ b, X b → w'.heap[b]? = w.heap[b]? := fun b hb => hblk b (hs.xlt b hb)
  refine ⟨fun j k b hj hk => ?_, fun j b hj => ?_, hs.xg.mono (fun _ h => h) hX fun b hb => Nat.lt_of_lt_of_le (hs.xlt b hb) hsize, fun b hb ⟨j, hj⟩ => ?_, fun j => ?_⟩
  · rw [getD'_push] at hj hk
    by_cases e1 : j = B.length <;> by_cases e2 : k = B.length
    · omega
    · simp only [e1, e2, if_true, if_false] at hj hk
      have := hs.lt _ _ hk; have := hnew _ hj; omega
    · simp only [e1, e2, if_true, if_false] at hj hk
      have := hs.lt _ _ hj; have := hnew _ hk; omega
    · simp only [e1, e2, if_false] at hj hk
      exact hs.inj _ _ _ hj hk
  · rw [getD'_push] at hj
    by_cases e1 : j = B.length
    · simp only [e1, if_true] at hj; exact (hnew _ hj).2
    · simp only [e1, if_false] at hj
      exact Nat.lt_of_lt_of_le (hs.lt _ _ hj) hsize
  · rw [getD'_push] at hj
    by_cases e1 : j = B.length
    · simp only [e1, if_true] at hj
      have := hs.xlt b hb; have := hnew _ hj; omega
    · simp only [e1, if_false] at hj
      exact hs.apart b hb ⟨j, hj⟩
  · rw [getD'_push]
    by_cases e1 : j = B.length
    · simp only [e1, if_true]; exact hok
    · simp only [e1, if_false]
      exact Own.ok_mono (hs.ok j) (fun _ h => h) hX fun b hb => hblk b (hs.lt _ _ hb)
theorem Ext.push {w' : World} {o' : Own} (ho : w'.os = w.os) (ht : w'.tape = w.tape) (hu : w'.output = w.output) (hsize : w.heap.size ≤ w'.heap.size)
    (hblk : ∀ c, c < w.heap.size → w'.heap[c]? = w.heap[c]?) (hnew : ∀ c ∈ o'.blocks, w.heap.size ≤ c ∧ c < w'.heap.size) : Ext X w B X w' (B ++ [o']) := by
  refine ⟨ho, ht, hu, hsize, fun b hb _ => hblk b hb, fun _ h => h, fun _ h => .inl h, fun b ⟨j, hj⟩ => ?_⟩
  rw [getD'_push] at hj
  by_cases e1 : j = B.length
  · simp only [e1, if_true] at hj; exact .inr (hnew _ hj).1
  · simp only [e1, if_false] at hj
    exact .inl ⟨j, hj⟩
end
end Go.Lift
end
section
namespace Go.Lift
section
variable {P : Program} {T : TypeId} {ti : TyI} {X : Nat → Prop} {w : World} {B : List Own}

theorem size_of_not_agg (ha : ti.agg = false) (hb : ti ≠ .bad) : ti.size = 1 := by
  cases ti
  case bad => exact absurd rfl hb
  case struct => cases ha
  case array => cases ha
  all_goals rfl

theorem loadVar_run (ht : tyB P T ti = true) (hb : ti ≠ .bad) (b off : Nat) (g : Nat → Value) (h : ∀ j, j < ti.size → w.cell? ⟨b, off + j, none⟩ = some (g j)) :
    (loadVar T ⟨b, off, none⟩).run P w = .ok (if ti.agg = true then .agg ((List.range ti.size).map g).toArray else g 0) w := by
  unfold loadVar
  rw [Sem.run_bind, tyB_run_agg ht hb]
  simp only [Result.andThen_ok]
  by_cases ha : ti.agg = true
  · simp only [ha, if_true, Sem.run_bind, tyB_run_size ht hb, Result.andThen_ok]
    rw [run_loadCells w ⟨b, off, none⟩ ti.size g fun j hj => by rw [add_none]; exact h j hj]
    rfl
  · have ha' : ti.agg = false := by simpa using ha
    have h1 := size_of_not_agg ha' hb
    have h0 := h 0 (by omega)
    simp only [Nat.add_zero] at h0
    simp only [ha', Bool.false_eq_true, if_false]
    rw [run_load]
    simp [h0]

theorem den_take {cs : List SV} {g : Nat → Value} {n o : Nat} (hn : o + n ≤ cs.length) (h : ∀ (j : Nat) (c : SV), cs[j]? = some c → Den X w c (g j)) :
    Den X w (.agg ((cs.drop o).take n)) (.agg ((List.range n).map fun j => g (o + j)).toArray) := by
  refine .agg (by simp; omega) fun i c hc => ?_
  have hi : i < n := by
    rcases Nat.lt_or_ge i n with h1 | h1
    · exact h1
    · rw [List.getElem?_eq_none (by simp; omega)] at hc; cases hc
  rw [List.getElem?_take_of_lt hi, List.getElem?_drop] at hc
  have := h _ _ hc
  simpa [hi] using this

theorem load_uni (ht : tyB P T ti = true) (hb : ti ≠ .bad) (hs : Sat X w B) {p : SV} {v : Value} (hp : Den X w p v) (hc : (evLoad ti.agg ti.size B p).vc) :
    ∃ u, (∀ w' : World, (∀ b, X b ∨ owns B b → w'.heap[b]? = w.heap[b]?) → (Instr.loadAt T v).run P w' = .ok u w') ∧ Den X w (evLoad ti.agg ti.size B p).v u ∧ (evLoad ti.agg ti.size B p).B = B := by
  cases hp <;> try (simp only [evLoad, bad] at hc)
  case xp cs b off g hX hw h =>
    cases ha : ti.agg
    · simp only [ha] at hc
      have h1 := size_of_not_agg ha hb
      refine ⟨g 0, fun w' hw' => ?_, ?_, ?_⟩
      · simp only [Instr.loadAt, Instr.sureAddr, Sem.run_bind, Sem.run_pure, Result.andThen_ok]
        rw [loadVar_run ht hb b off g fun j hj => by rw [World.cell?_of_block (w := w) (hw' b (.inl hX))]; exact hw j (by omega)]
        simp [ha]
      · simp only [evLoad]
        exact h 0 _ (get?_of_lt _ hc)
      · simp only [evLoad]
    · simp only [ha] at hc
      refine ⟨.agg ((List.range ti.size).map g).toArray, fun w' hw' => ?_, ?_, ?_⟩
      · simp only [Instr.loadAt, Instr.sureAddr, Sem.run_bind, Sem.run_pure, Result.andThen_ok]
        rw [loadVar_run ht hb b off g fun j hj => by rw [World.cell?_of_block (w := w) (hw' b (.inl hX))]; exact hw j (by omega)]
        simp [ha]
      · simp only [evLoad]
        have := den_take (X := X) (w := w) (o := 0) (n := ti.size) (by omega) h
        simpa using this
      · simp only [evLoad]
  case rptr i b cap esz k off =>
    cases hg : getD' B i with
    | gone => simp [hg] at hc
    | row h' E esz' xs =>
      simp only [hg] at hc
      cases ha : ti.agg
      all_goals
        simp only [ha] at hc
        obtain ⟨rfl, rfl, hk, ho⟩ := hc
        obtain ⟨vs, h1, h2, h3, h4, h5⟩ := hs.row hg
        have hx := get?_of_lt (α := List SV) [] hk
        have hl := h4 k _ hx
      · have h1' := size_of_not_agg ha hb
        refine ⟨vs.getD (k * esz' + off) undef, fun w' hw' => ?_, ?_, ?_⟩
        · simp only [Instr.loadAt, Instr.sureAddr, Sem.run_bind, Sem.run_pure, Result.andThen_ok]
          rw [loadVar_run ht hb b (k * esz' + off) (fun j => vs.getD (k * esz' + off + j) undef) fun j hj => cell_of_heap (by rw [hw' b (.inr ⟨i, by simp [hg, Own.blocks]⟩)]; exact h1) (by have := idx_lt (m := cap) (esz := esz') (show k < cap by omega) ho; omega)]
          simp [ha]
        · simp only [evLoad, hg]
          exact h5 k off _ _ hx (get?_of_lt _ (by omega))
        · simp only [evLoad, hg]
      · refine ⟨.agg ((List.range ti.size).map fun j => vs.getD (k * esz' + (off + j)) undef).toArray, fun w' hw' => ?_, ?_, ?_⟩
        · simp only [Instr.loadAt, Instr.sureAddr, Sem.run_bind, Sem.run_pure, Result.andThen_ok]
          rw [loadVar_run ht hb b (k * esz' + off) (fun j => vs.getD (k * esz' + (off + j)) undef) fun j hj => by
            rw [Nat.add_assoc]
            exact cell_of_heap (by rw [hw' b (.inr ⟨i, by simp [hg, Own.blocks]⟩)]; exact h1) (by have := idx_lt (m := cap) (esz := esz') (show k < cap by omega) (show off + j < esz' by omega); omega)]
          simp [ha]
        · simp only [evLoad, hg]
          exact den_take (g := fun j => vs.getD (k * esz' + j) undef) (by omega) (fun j c hc => h5 k j _ _ hx hc)
        · simp only [evLoad, hg]

theorem load_sound (ht : tyB P T ti = true) (hb : ti ≠ .bad) (hs : Sat X w B) {p : SV} {v : Value} (hp : Den X w p v) (hc : (evLoad ti.agg ti.size B p).vc) :
    ∃ u, (Instr.loadAt T v).run P w = .ok u w ∧ Den X w (evLoad ti.agg ti.size B p).v u ∧ (evLoad ti.agg ti.size B p).B = B := by
  obtain ⟨u, h1, h2, h3⟩ := load_uni ht hb hs hp hc
  exact ⟨u, h1 w fun _ _ => rfl, h2, h3⟩
theorem solid_one {s : SV} {v : Value} (hs : s.solid = true) (hd : Den X w s v) : v.oneCell' = true := by
  cases hd <;> simp_all [SV.solid, Value.oneCell']
theorem solids_mem {cs : List SV} (h : solids cs = true) : ∀ (i : Nat) (c : SV), cs[i]? = some c → c.solid = true := by
  induction cs with
  | nil => simp
  | cons x r ih =>
    simp only [solids, Bool.and_eq_true] at h
    intro i c hc
    cases i with
    | zero => simp at hc; exact hc ▸ h.1
    | succ i => exact ih h.2 i c (by simpa using hc)
theorem den_cells {s : SV} {v : Value} (hd : Den X w s v) (hs : solids s.cells = true) :
    v.cells.size = s.cells.length ∧ (∀ (i : Nat) (c : SV), s.cells[i]? = some c → Den X w c (v.cells.getD i undef)) ∧ ∀ x ∈ v.cells.toList, x.oneCell' = true := by
  by_cases ha : ∃ cs, s = .agg cs
  · obtain ⟨cs, rfl⟩ := ha
    cases hd with
    | agg hsz h =>
      refine ⟨hsz, h, fun x hx => ?_⟩
      rename_i vs
      obtain ⟨i, hi⟩ := List.mem_iff_getElem?.1 hx
      simp only [Value.cells] at hi
      have hlt : i < cs.length := by
        rcases Nat.lt_or_ge i cs.length with h1 | h1
        · exact h1
        · rw [List.getElem?_eq_none (by simp; omega)] at hi; cases hi
      have hd := h i _ (get?_of_lt .any hlt)
      have : vs.getD i undef = x := by simp at hi; simp [hi]
      rw [this] at hd
      exact solid_one (solids_mem hs i _ (by simpa [SV.cells] using get?_of_lt .any hlt)) hd
  · have hc : s.cells = [s] := by cases s <;> simp [SV.cells] at ha ⊢
    rw [hc] at hs ⊢
    simp only [solids, Bool.and_true] at hs
    have h1 := solid_one hs hd
    have hv : v.cells = #[v] := by cases v <;> simp [Value.cells, Value.oneCell'] at h1 ⊢
    rw [hv]
    refine ⟨rfl, fun i c h => ?_, fun x hx => ?_⟩
    · cases i with
      | zero => simp at h; subst h; simpa using hd
      | succ i => simp at h
    · simp at hx; subst hx; exact h1

theorem heap_setRow (w : World) (b : Nat) (cs vs : Array Value) (E : TypeId) (hb : w.heap[b]? = some (.cells vs E (0, 0))) (c : Nat) :
    (w.setRow b cs).heap[c]? = if c = b then some (.cells cs E (0, 0)) else w.heap[c]? := by
  simp only [World.setRow, Array.getElem?_modify]
  by_cases h : b = c
  · subst h; simp [hb]
  · have : ¬ c = b := fun e => h e.symm
    simp [h, this]
theorem putL_length : ∀ (ys cs : List SV) (off : Nat), (putL cs off ys).length = cs.length
  | [], _, _ => rfl
  | y :: r, cs, off => by simp [putL, putL_length r]
theorem putL_get : ∀ (ys cs : List SV) (off : Nat) (j : Nat) (c : SV), off + ys.length ≤ cs.length → (putL cs off ys)[j]? = some c →
    (off ≤ j ∧ j < off + ys.length ∧ ys[j - off]? = some c) ∨ ((j < off ∨ off + ys.length ≤ j) ∧ cs[j]? = some c)
  | [], cs, off, j, c, _, h => .inr ⟨by simp; omega, h⟩
  | y :: r, cs, off, j, c, hl, h => by
    simp only [List.length_cons] at hl
    rcases putL_get r (cs.set off y) (off + 1) j c (by simp; omega) h with ⟨h1, h2, h3⟩ | ⟨h1, h2⟩
    · refine .inl ⟨by omega, by simp; omega, ?_⟩
      have : j - off = (j - (off + 1)) + 1 := by omega
      rw [this]; simpa using h3
    · by_cases e : j = off
      · subst e
        rw [List.getElem?_set_self (by omega)] at h2
        exact .inl ⟨Nat.le_refl _, by simp, by simpa using h2⟩
      · rw [List.getElem?_set_ne (by omega)] at h2
        exact .inr ⟨by simp; omega, h2⟩

theorem getD_splice (cur new : List Value) (o j : Nat) (h : o + new.length ≤ cur.length) :
    (cur.take o ++ new ++ cur.drop (o + new.length)).toArray.getD j undef = if o ≤ j ∧ j < o + new.length then new.getD (j - o) undef else cur.getD j undef := by
  simp only [Array.getD_eq_getD_getElem?, List.getElem?_toArray, List.getD_eq_getElem?_getD]
  congr 1
  rw [List.append_assoc]
  by_cases h1 : j < o
  · rw [List.getElem?_append_left (by simp; omega), List.getElem?_take_of_lt h1, if_neg (by omega)]
  · rw [List.getElem?_append_right (by simp; omega)]
    have hl : (List.take o cur).length = o := by simp; omega
    rw [hl]
    by_cases h2 : j < o + new.length
    · rw [List.getElem?_append_left (by omega), if_pos (by omega)]
    · rw [List.getElem?_append_right (by omega), List.getElem?_drop, if_neg (by omega)]
      congr 2; omega

theorem store_sound (ht : tyB P T ti = true) (hb : ti ≠ .bad) (hs : Sat X w B) {p s : SV} {v u : Value} (hp : Den X w p v) (hu : Den X w s u) (hc : (evStore ti.size B p s).vc) :
    ∃ w', (Instr.storeAt T v u).run P w = .ok () w' ∧ Sat X w' (evStore ti.size B p s).B ∧ Ext X w B X w' (evStore ti.size B p s).B := by
  cases hp <;> try (simp only [evStore, bad] at hc)
  case rptr i b cap esz k off =>
    cases hg : getD' B i with
    | gone => simp [hg] at hc
    | row h' E esz' xs =>
      simp only [hg] at hc
      obtain ⟨rfl, rfl, hk, ho, hl, hsol⟩ := hc
      obtain ⟨vs, h1, h2, h3, h4, h5⟩ := hs.row hg
      obtain ⟨c1, c2, c3⟩ := den_cells hu hsol
      have hx := get?_of_lt (α := List SV) [] hk
      have hxl := h4 k _ hx
      have hn0 : ti.size = u.cells.toList.length := by simp; omega
      have hle : k * esz' + esz' ≤ cap * esz' := by
        rw [← Nat.succ_mul]; exact Nat.mul_le_mul_right _ (by omega)
      have hi := getD'_lt hg
      let new := (vs.toList.take (k * esz' + off) ++ u.cells.toList ++ vs.toList.drop (k * esz' + off + u.cells.toList.length)).toArray
      have hnew : new.size = vs.size := by simp [new]; omega
      have hrun : (storeCells ⟨b, k * esz' + off, none⟩ u.cells.toList).run P w = .ok () (w.setRow b new) := by
        have := run_storeCells_at (P := P) b (k * esz' + off) E u.cells.toList 0 vs w h1 (by omega) c3
        simpa [new] using this
      have hblk : ∀ c, c < w.heap.size → c ∉ (getD' B i).blocks → (w.setRow b new).heap[c]? = w.heap[c]? := fun c _ hcn => by
        rw [heap_setRow w b new vs E h1, if_neg]
        rw [hg] at hcn; simpa [Own.blocks] using hcn
      refine ⟨w.setRow b new, ?_, ?_, ?_⟩
      · simp only [Instr.storeAt, Instr.sureAddr, Sem.run_bind, Sem.run_pure, Result.andThen_ok, storeVar, tyB_run_size ht hb]
        rw [Sem.run_ite, if_neg (by simp; omega), hrun]
      · simp only [evStore, hg]
        refine hs.replace hi (by simp) hblk (fun c hc => .inl (by rw [hg]; simpa [Own.blocks] using hc)) ?_
        refine ⟨new, by rw [heap_setRow w b new vs E h1, if_pos rfl], by rw [hnew, h2], by simpa using h3, fun k' x hx' => ?_, fun k' j x c hx' hc' => ?_⟩
        · rw [List.getElem?_set] at hx'
          by_cases e : k = k'
          · subst e; simp only [hk, if_true, Option.some.injEq] at hx'; subst hx'; rw [putL_length]; exact hxl
          · simp only [e, if_false] at hx'; exact h4 _ _ hx'
        · rw [show new.getD (k' * esz' + j) undef = _ from getD_splice vs.toList u.cells.toList (k * esz' + off) (k' * esz' + j) (by simp; omega)]
          have hdm : ∀ {s' u'}, Den X w s' u' → Den X (w.setRow b new) s' u' := fun hd => hd.mono (fun _ h => h) fun c hc => hblk c (hs.xlt c hc) fun hm => hs.apart c hc ⟨i, hm⟩
          rw [List.getElem?_set] at hx'
          by_cases e : k = k'
          · subst e
            simp only [hk, if_true, Option.some.injEq] at hx'
            subst hx'
            rcases putL_get s.cells _ off j c (by omega) hc' with ⟨a1, a2, a3⟩ | ⟨a1, a2⟩
            · rw [if_pos (by simp; omega)]
              have hj : k * esz' + j - (k * esz' + off) = j - off := by omega
              rw [hj]
              have := hdm (c2 _ _ a3)
              simpa using this
            · rw [if_neg (by simp; omega)]
              have := hdm (h5 k j _ _ hx a2)
              simpa using this
          · simp only [e, if_false] at hx'
            have hj : j < esz' := by
              have := h4 _ _ hx'
              rcases Nat.lt_or_ge j x.length with h' | h'
              · omega
              · rw [List.getElem?_eq_none h'] at hc'; cases hc'
            have hne : ¬ (k * esz' + off ≤ k' * esz' + j ∧ k' * esz' + j < k * esz' + off + u.cells.toList.length) := by
              intro ⟨a1, a2⟩
              rcases Nat.lt_or_gt_of_ne e with h' | h'
              · have : (k + 1) * esz' ≤ k' * esz' := Nat.mul_le_mul_right _ h'
                rw [Nat.succ_mul] at this; omega
              · have : (k' + 1) * esz' ≤ k * esz' := Nat.mul_le_mul_right _ h'
                rw [Nat.succ_mul] at this; omega
            rw [if_neg hne]
            have := hdm (h5 k' j _ _ hx' hc')
            simpa using this
      · simp only [evStore, hg]
        exact Ext.replace hi rfl rfl rfl (by simp) hblk (fun c hc => .inl (by rw [hg]; simpa [Own.blocks] using hc))
end
end Go.Lift
end
section
namespace Go.Lift
section
variable {P : Program} {T : TypeId} {ti : TyI} {X : Nat → Prop} {w : World} {B : List Own}

theorem fieldAddr_sound (ht : tyB P T ti = true) {f : Nat} {s : SV} {v : Value} (hd : Den X w s v) (hc : (evFieldAddr ti B f s).vc) :
    ∃ u, (∀ w, (Instr.fieldAt T v f).run P w = .ok u w) ∧ Den X w (evFieldAddr ti B f s).v u ∧ (evFieldAddr ti B f s).B = B := by
  unfold evFieldAddr at *
  cases ti <;> simp only [bad] at hc
  case struct fs n =>
    obtain ⟨F, hu, hsz, hf⟩ := tyB_struct ht
    cases hj : fs[f]? with
    | none => simp [hj] at hc
    | some oam =>
      obtain ⟨o, a, m⟩ := oam
      obtain ⟨fl, h1, h2, h3', _⟩ := hf f o a m hj
      have h3 := fun w => sizeB_spec h3' w
      simp only [hj] at hc ⊢
      have hrun : ∀ (w : World) (ad : Addr), 0 < m → (fieldPlace ad fl).run P w = .ok (ad.add o) w := fun w ad hm => by
        simp only [fieldPlace, Sem.run_bind, h3, Result.andThen_ok, Sem.run_ite]
        rw [if_neg (by omega), h2]; rfl
      cases hd <;> simp only at hc
      case xp cs b off g hX hw h =>
        obtain ⟨hm, ho⟩ := hc
        refine ⟨.pointer (some ⟨b, off + o, none⟩), ?_, ?_, rfl⟩
        · intro w; simp only [Instr.fieldAt, Sem.run_bind, run_underlying hu, Result.andThen_ok, h1, Instr.sureAddr, Sem.run_pure, hrun _ _ hm, add_none]
        · exact .xp (fun j => g (o + j)) hX (fun j hj => by rw [Nat.add_assoc]; exact hw _ (by simp at hj; omega)) (fun j c hjc => h _ _ (by simpa using hjc))
      case rptr i b cap esz k off =>
        refine ⟨.pointer (some ⟨b, k * esz + (off + o), none⟩), ?_, .rptr .., rfl⟩
        intro w; simp only [Instr.fieldAt, Sem.run_bind, run_underlying hu, Result.andThen_ok, h1, Instr.sureAddr, Sem.run_pure, hrun _ _ hc, add_none, Nat.add_assoc]

theorem indexAddr_sound (ht : tyB P T ti = true) {s si : SV} {v vi : Value} (hd : Den X w s v) (hi : Den X w si vi) (hc : (evIndexAddr ti B s si).vc) :
    ∃ u, (∀ w, (Instr.indexAt T v vi).run P w = .ok u w) ∧ Den X w (evIndexAddr ti B s si).v u ∧ (evIndexAddr ti B s si).B = B := by
  unfold evIndexAddr at *
  cases hi <;> simp only [bad] at hc
  case int kk k =>
  cases ti <;> simp only at hc
  case slice E e eb =>
    obtain ⟨hu, ie, z, he, hes, _⟩ := tyB_slice ht
    have hsz : ∀ w, (sizeOf E).run P w = .ok e w := fun w => sizeB_spec (by simp [sizeB, he, hes]) w
    cases hd <;> simp only at hc
    case slNil => omega
    case slAt full esz n f b off cap g hn hcap hf hX hl hw h =>
      obtain ⟨h0, h1, rfl⟩ := hc
      have hkn : k.toNat < n := by omega
      refine ⟨.pointer (some ⟨b, off + k.toNat * esz, none⟩), ?_, ?_, rfl⟩
      · intro w; simp only [Instr.indexAt, asIntOf, Sem.run_bind, Sem.run_pure, Result.andThen_ok, run_underlying hu, Sem.run_ite, if_pos (And.intro h0 h1), hsz, add_none]
      · exact .xp (fun j => g k.toNat j) hX (fun j hj => by rw [Nat.add_assoc]; exact hw _ _ hkn (by rw [← hl _ hkn]; exact hj)) (fun j c hjc => h _ _ _ hkn hjc)
    case rowVoid => omega
    case rowLo0 => omega
    case rowAt i b cap esz n hn =>
      obtain ⟨h0, h1, rfl⟩ := hc
      refine ⟨.pointer (some ⟨b, (0 + k.toNat) * esz + 0, none⟩), ?_, .rptr .., rfl⟩
      intro w; simp only [Instr.indexAt, asIntOf, Sem.run_bind, Sem.run_pure, Result.andThen_ok, run_underlying hu, Sem.run_ite, if_pos (And.intro h0 h1), hsz, add_none]
      simp
    case rowLo i b cap esz lo n c hn hnc =>
      obtain ⟨h0, h1, rfl⟩ := hc
      refine ⟨.pointer (some ⟨b, (lo + 1 + k.toNat) * esz + 0, none⟩), ?_, .rptr .., rfl⟩
      intro w; simp only [Instr.indexAt, asIntOf, Sem.run_bind, Sem.run_pure, Result.andThen_ok, run_underlying hu, Sem.run_ite, if_pos (And.intro h0 h1), hsz, add_none, Nat.add_mul]
      simp
  case array len a e =>
    obtain ⟨E, hu, hsz', _⟩ := tyB_array ht
    have hsz := fun w => sizeB_spec hsz' w
    cases hd <;> simp only at hc
    case xp cs b off g hX hw h =>
      obtain ⟨h0, h1, h2⟩ := hc
      refine ⟨.pointer (some ⟨b, off + k.toNat * e, none⟩), ?_, ?_, rfl⟩
      · intro w; simp only [Instr.indexAt, asIntOf, Sem.run_bind, Sem.run_pure, Result.andThen_ok, run_underlying hu, Sem.run_ite, if_pos (And.intro h0 h1), hsz, add_none, Instr.sureAddr]
      · exact .xp (fun j => g (k.toNat * e + j)) hX (fun j hj => by rw [Nat.add_assoc]; exact hw _ (by simp at hj; omega)) (fun j c hjc => h _ _ (by simpa using hjc))
    case rptr i b cap esz k0 off =>
      refine ⟨.pointer (some ⟨b, k0 * esz + (off + k.toNat * e), none⟩), ?_, .rptr .., rfl⟩
      intro w; simp only [Instr.indexAt, asIntOf, Sem.run_bind, Sem.run_pure, Result.andThen_ok, run_underlying hu, Sem.run_ite, if_pos hc, hsz, add_none, Instr.sureAddr, Nat.add_assoc]

theorem part_one {E : TypeId} {o : Nat} (hag : ∀ w, (isAgg E).run P w = .ok false w) {cs : List SV} {vs : Array Value} (hs : vs.size = cs.length)
    (h : ∀ (i : Nat) (c : SV), cs[i]? = some c → Den X w c (vs.getD i undef)) (hc : o < cs.length) :
    ∃ u, (∀ w, (part E vs o).run P w = .ok u w) ∧ Den X w (cs.getD o .any) u := by
  refine ⟨vs.getD o undef, ?_, h o _ (get?_of_lt _ hc)⟩
  intro w; simp only [part, Sem.run_bind, hag, Result.andThen_ok, Bool.false_eq_true, if_false]
  rw [agetD_of_lt (show o < vs.size by omega)]
  rfl
theorem part_agg {E : TypeId} {m o : Nat} (hsz : ∀ w, (sizeOf E).run P w = .ok m w) (hag : ∀ w, (isAgg E).run P w = .ok true w) {cs : List SV} {vs : Array Value} (hs : vs.size = cs.length)
    (h : ∀ (i : Nat) (c : SV), cs[i]? = some c → Den X w c (vs.getD i undef)) (hc : o + m ≤ cs.length) :
    ∃ u, (∀ w, (part E vs o).run P w = .ok u w) ∧ Den X w (.agg ((cs.drop o).take m)) u := by
  refine ⟨.agg (vs.extract o (o + m)), ?_, ?_⟩
  · intro w; simp only [part, Sem.run_bind, hag, Result.andThen_ok, if_true, hsz, Sem.run_pure]
  · have := den_take (X := X) (w := w) (g := fun j => vs.getD j undef) hc h
    have e : vs.extract o (o + m) = ((List.range m).map fun j => vs.getD (o + j) undef).toArray := by
      apply Array.ext
      · simp; omega
      · intro i h1 h2
        simp at h1 h2
        have : o + i < vs.size := by omega
        simp [this]
    rw [e]; exact this

theorem field_sound (ht : tyB P T ti = true) {f : Nat} {s : SV} {v : Value} (hd : Den X w s v) (hc : (evField ti B f s).vc) :
    ∃ u, (∀ w, (Instr.field T v f).run P w = .ok u w) ∧ Den X w (evField ti B f s).v u ∧ (evField ti B f s).B = B := by
  unfold evField at *
  cases ti <;> simp only [bad] at hc
  case struct fs n =>
    obtain ⟨F, hu, hsz, hf⟩ := tyB_struct ht
    cases hj : fs[f]? with
    | none => simp [hj] at hc
    | some oam =>
      obtain ⟨o, a, m⟩ := oam
      obtain ⟨fl, h1, h2, h3', h4⟩ := hf f o a m hj
      have h3 := fun w => sizeB_spec h3' w
      simp only [hj] at hc ⊢
      cases hd <;> simp only at hc
      case agg cs vs hs h =>
        cases a
        case' true => obtain ⟨u, hu1, hu2⟩ := part_agg (X := X) (w := w) h3 h4 hs h hc
        case' false => obtain ⟨u, hu1, hu2⟩ := part_one (X := X) (w := w) h4 hs h hc
        all_goals
          refine ⟨u, ?_, hu2, rfl⟩
          intro w; simp only [Instr.field, Sem.run_bind, run_underlying hu, Result.andThen_ok, h1, asAgg, Sem.run_pure, h2, hu1]

theorem index_sound (ht : tyB P T ti = true) {s si : SV} {v vi : Value} (hd : Den X w s v) (hi : Den X w si vi) (hc : (evIndex ti B s si).vc) :
    ∃ u, (∀ w, (Instr.index T v vi).run P w = .ok u w) ∧ Den X w (evIndex ti B s si).v u ∧ (evIndex ti B s si).B = B := by
  unfold evIndex at *
  cases hi <;> simp only [bad] at hc
  case int kk k =>
  cases ti <;> simp only at hc
  case string =>
    have hu := tyB_string ht
    cases hd <;> simp only at hc
    case str l =>
      obtain ⟨h0, h1⟩ := hc
      have hk : k.toNat < l.length := by omega
      have hg : (ByteArray.mk l.toArray)[k.toNat]? = some (l.getD k.toNat 0) := by
        have h2 : k.toNat < (ByteArray.mk l.toArray).size := by simpa [ByteArray.size] using hk
        rw [getElem?_pos (ByteArray.mk l.toArray) k.toNat h2]
        simp [List.getD, hk]
        rfl
      refine ⟨.int .u8 ((l.getD k.toNat 0).toNat : Int), ?_, .int .., rfl⟩
      intro w; simp only [Instr.index, asIntOf, Sem.run_bind, Sem.run_pure, Result.andThen_ok, run_underlying hu, if_pos h0, hg]
  case array len a e =>
    obtain ⟨E, hu, hsz', hag⟩ := tyB_array ht
    have hsz := fun w => sizeB_spec hsz' w
    cases hd <;> simp only at hc
    case agg cs vs hs h =>
      cases a
      · obtain ⟨h0, h1, rfl, h3⟩ := hc
        obtain ⟨u, hu1, hu2⟩ := part_one (X := X) (w := w) (o := k.toNat) hag hs h h3
        refine ⟨u, ?_, hu2, rfl⟩
        intro w; simp only [Instr.index, asIntOf, Sem.run_bind, Sem.run_pure, Result.andThen_ok, run_underlying hu, Sem.run_ite, if_pos (And.intro h0 h1), hsz, Nat.mul_one, hu1]
      · obtain ⟨h0, h1, h3⟩ := hc
        obtain ⟨u, hu1, hu2⟩ := part_agg (X := X) (w := w) (o := k.toNat * e) hsz hag hs h h3
        refine ⟨u, ?_, hu2, rfl⟩
        intro w; simp only [Instr.index, asIntOf, Sem.run_bind, Sem.run_pure, Result.andThen_ok, run_underlying hu, Sem.run_ite, if_pos (And.intro h0 h1), hsz, hu1]
end
end Go.Lift
end
section
namespace Go.Lift
section
variable {P : Program} {T : TypeId} {ti : TyI} {X : Nat → Prop} {w : World} {B : List Own}

theorem div_idx {k j esz : Nat} (hj : j < esz) : (k * esz + j) / esz = k ∧ (k * esz + j) % esz = j := by
  have h0 : 0 < esz := by omega
  constructor
  · rw [Nat.mul_comm, Nat.mul_add_div h0, Nat.div_eq_of_lt hj, Nat.add_zero]
  · rw [Nat.mul_comm, Nat.mul_add_mod, Nat.mod_eq_of_lt hj]

structure Cells (X : Nat → Prop) (w : World) (esz : Nat) (ys : List (List SV)) (cs : List Value) : Prop where
  len : cs.length = ys.length * esz
  each : ∀ (k : Nat) (x : List SV), ys[k]? = some x → x.length = esz
  den : ∀ (k j : Nat) (x : List SV) (c : SV), ys[k]? = some x → x[j]? = some c → Den X w c (cs.getD (k * esz + j) undef)

theorem cells_of_fun {esz m : Nat} {ys : List (List SV)} (hm : m = ys.length) (g : Nat → Value) (hl : ∀ (k : Nat) (x : List SV), ys[k]? = some x → x.length = esz)
    (h : ∀ (k j : Nat) (x : List SV) (c : SV), ys[k]? = some x → x[j]? = some c → Den X w c (g (k * esz + j))) : Cells X w esz ys ((List.range (m * esz)).map g) := by
  subst hm
  refine ⟨by simp, hl, fun k j x c hx hc => ?_⟩
  have hj : j < esz := by
    have := hl k x hx
    rcases Nat.lt_or_ge j x.length with h' | h'
    · omega
    · rw [List.getElem?_eq_none h'] at hc; cases hc
  have hk : k < ys.length := by
    rcases Nat.lt_or_ge k ys.length with h' | h'
    · exact h'
    · rw [List.getElem?_eq_none h'] at hx; cases hx
  have := idx_lt hk hj
  have h2 := h k j x c hx hc
  simpa [this] using h2

theorem Cells.mono {X' : Nat → Prop} {w' : World} {esz : Nat} {ys : List (List SV)} {cs : List Value} (h : Cells X w esz ys cs) (hX : ∀ b, X b → X' b) (hw : ∀ b, X b → w'.heap[b]? = w.heap[b]?) : Cells X' w' esz ys cs :=
  ⟨h.len, h.each, fun k j x c hx hc => (h.den k j x c hx hc).mono hX hw⟩
theorem Cells.append {esz : Nat} {ys zs : List (List SV)} {cs ds : List Value} (h : Cells X w esz ys cs) (k : Cells X w esz zs ds) : Cells X w esz (ys ++ zs) (cs ++ ds) := by
  refine ⟨by simp [h.len, k.len, Nat.add_mul], fun i x hx => ?_, fun i j x c hx hc => ?_⟩
  · rw [List.getElem?_append] at hx
    split at hx
    · exact h.each _ _ hx
    · exact k.each _ _ hx
  · rw [List.getElem?_append] at hx
    split at hx
    · rename_i hi
      have hd := h.den i j x c hx hc
      have hj : j < esz := by
        have := h.each _ _ hx
        rcases Nat.lt_or_ge j x.length with h' | h'
        · omega
        · rw [List.getElem?_eq_none h'] at hc; cases hc
      have := idx_lt hi hj
      simp only [List.getD_eq_getElem?_getD] at hd ⊢
      rw [List.getElem?_append_left (by rw [h.len]; exact this)]
      exact hd
    · rename_i hi
      have hd := k.den _ j x c hx hc
      have e : i * esz + j - cs.length = (i - ys.length) * esz + j := by
        rw [h.len]
        have : i = ys.length + (i - ys.length) := by omega
        rw [this, Nat.add_mul]; simp; omega
      have hge : cs.length ≤ i * esz + j := by
        rw [h.len]
        have : ys.length * esz ≤ i * esz := Nat.mul_le_mul_right _ (by omega)
        omega
      simp only [List.getD_eq_getElem?_getD] at hd ⊢
      rw [List.getElem?_append_right hge, e]
      exact hd
theorem Cells.take {esz : Nat} {ys : List (List SV)} {cs : List Value} (h : Cells X w esz ys cs) (n : Nat) : Cells X w esz (ys.take n) (cs.take (n * esz)) := by
  refine ⟨?_, fun i x hx => h.each i x ?_, fun i j x c hx hc => ?_⟩
  · simp only [List.length_take, h.len]
    rcases Nat.le_total n ys.length with h1 | h1
    · have := Nat.mul_le_mul_right esz h1; rw [Nat.min_eq_left h1, Nat.min_eq_left this]
    · have := Nat.mul_le_mul_right esz h1; rw [Nat.min_eq_right h1, Nat.min_eq_right this]
  · rw [List.getElem?_take] at hx; split at hx
    · exact hx
    · cases hx
  · rw [List.getElem?_take] at hx
    split at hx
    · rename_i hi
      have hj : j < esz := by
        have := h.each _ _ hx
        rcases Nat.lt_or_ge j x.length with h' | h'
        · omega
        · rw [List.getElem?_eq_none h'] at hc; cases hc
      have hd := h.den i j x c hx hc
      have := idx_lt hi hj
      simp only [List.getD_eq_getElem?_getD, List.getElem?_take, this, if_true] at hd ⊢
      exact hd
    · cases hx
theorem Cells.drop {esz : Nat} {ys : List (List SV)} {cs : List Value} (h : Cells X w esz ys cs) (n : Nat) : Cells X w esz (ys.drop n) (cs.drop (n * esz)) := by
  refine ⟨?_, fun i x hx => h.each (n + i) x (by simpa using hx), fun i j x c hx hc => ?_⟩
  · simp only [List.length_drop, h.len, Nat.sub_mul]
  · have hd := h.den (n + i) j x c (by simpa using hx) hc
    have e : n * esz + (i * esz + j) = (n + i) * esz + j := by rw [Nat.add_mul]; omega
    simp only [List.getD_eq_getElem?_getD, List.getElem?_drop, e] at hd ⊢
    exact hd

theorem ones_of {esz : Nat} (he : 0 < esz) {ys : List (List SV)} {cs : List Value} (h : Cells X w esz ys cs) (hs : ∀ y ∈ ys, solids y = true) : ∀ v ∈ cs, v.oneCell' = true := by
  intro v hv
  obtain ⟨i, hi⟩ := List.mem_iff_getElem?.1 hv
  have hlt : i < cs.length := by
    rcases Nat.lt_or_ge i cs.length with h' | h'
    · exact h'
    · rw [List.getElem?_eq_none h'] at hi; cases hi
  have hm : i % esz < esz := Nat.mod_lt _ he
  have hk : i / esz < ys.length := by
    rw [h.len] at hlt
    exact Nat.div_lt_of_lt_mul (by rw [Nat.mul_comm]; exact hlt)
  have hx := get?_of_lt (α := List SV) [] hk
  have hxl := h.each _ _ hx
  have hc := get?_of_lt (α := SV) .any (show i % esz < (ys.getD (i / esz) []).length by omega)
  have hd := h.den _ _ _ _ hx hc
  have e : i / esz * esz + i % esz = i := by rw [Nat.mul_comm]; exact Nat.div_add_mod i esz
  rw [e, getD_of_get? hi] at hd
  exact solid_one (solids_mem (hs _ (List.mem_of_getElem? hx)) _ _ hc) hd

theorem row_cells (hs : Sat X w B) {i b cap E esz xs} (hg : getD' B i = .row (.at b cap) E esz xs) :
    ∃ vs : Array Value, w.heap[b]? = some (.cells vs E (0, 0)) ∧ vs.size = cap * esz ∧ xs.length ≤ cap ∧ Cells X w esz xs (vs.toList.take (xs.length * esz)) := by
  obtain ⟨vs, h1, h2, h3, h4, h5⟩ := hs.row hg
  refine ⟨vs, h1, h2, h3, ?_, h4, fun k j x c hx hc => ?_⟩
  · have := Nat.mul_le_mul_right esz h3
    simp; omega
  · have hj : j < esz := by
      have := h4 _ _ hx
      rcases Nat.lt_or_ge j x.length with h' | h'
      · omega
      · rw [List.getElem?_eq_none h'] at hc; cases hc
    have hk : k < xs.length := by
      rcases Nat.lt_or_ge k xs.length with h' | h'
      · exact h'
      · rw [List.getElem?_eq_none h'] at hx; cases hx
    have := idx_lt hk hj
    have hd := h5 k j x c hx hc
    simp only [List.getD_eq_getElem?_getD, List.getElem?_take, this, if_true]
    simpa using hd

theorem cell_list {b E : Nat} {vs : Array Value} {fz} (hb : w.heap[b]? = some (.cells vs E fz)) (o n : Nat) (ho : o + n ≤ vs.size) :
    (loadCells ⟨b, o, none⟩ n).run P w = .ok ((vs.toList.drop o).take n).toArray w := by
  have := run_loadCells_list (P := P) w ⟨b, o, none⟩ ((vs.toList.drop o).take n) fun j v hv => by
    rw [add_none]
    have hj : j < n := by
      rcases Nat.lt_or_ge j n with h' | h'
      · exact h'
      · rw [List.getElem?_eq_none (by simp; omega)] at hv; cases hv
    rw [cell_of_heap hb (by omega)]
    rw [List.getElem?_take_of_lt hj, List.getElem?_drop] at hv
    simp at hv
    simp [hv]
  have hl : ((vs.toList.drop o).take n).length = n := by simp; omega
  rwa [hl] at this

theorem src_sound {esz : Nat} (he : 0 < esz) (hs : Sat X w B) {s : SV} {v : Value} (hd : Den X w s v) (hc : (srcOf esz B s).2) :
    (Builtin.lenOf v).run P w = .ok (srcOf esz B s).1.length w ∧
    ∀ m, m ≤ (srcOf esz B s).1.length → ∃ cs : List Value, (Builtin.firstCells esz m v).run P w = .ok cs.toArray w ∧ Cells X w esz ((srcOf esz B s).1.take m) cs := by
  have nilC : Cells X w esz [] [] := ⟨by simp, by simp, by simp⟩
  cases hd <;> simp only [srcOf] at hc
  case str l =>
    subst hc
    refine ⟨by simp [Builtin.lenOf, srcOf, ByteArray.size], fun m hm => ?_⟩
    · simp only [srcOf, List.length_map] at hm
      refine ⟨(l.take m).map fun b => .int .u8 (b.toNat : Int), ?_, ?_, ?_, ?_⟩
      · simp only [Builtin.firstCells, Sem.run_pure]
        congr 1
        apply Array.ext'
        simp [ByteArray.data_extract]
      · simp [srcOf]
      · intro k x hx
        simp only [srcOf, List.getElem?_take, List.getElem?_map] at hx
        split at hx
        · cases h : l[k]? <;> simp [h] at hx; subst hx; rfl
        · cases hx
      · intro k j x c hx hcc
        simp only [srcOf, List.getElem?_take, List.getElem?_map] at hx
        split at hx
        · rename_i hk
          cases h : l[k]? with
          | none => simp [h] at hx
          | some b =>
            simp [h] at hx; subst hx
            cases j with
            | zero =>
              simp at hcc; subst hcc
              simp [List.getD_eq_getElem?_getD, List.getElem?_map, hk, h]
              exact .int ..
            | succ j => simp at hcc
        · cases hx
  case slNil full e f a cap hf =>
    refine ⟨by simp [Builtin.lenOf, srcOf], fun m hm => ?_⟩
    simp only [srcOf, List.range_zero, List.map_nil, List.length_nil, Nat.le_zero] at hm
    subst hm
    refine ⟨[], ?_, by simpa [srcOf] using nilC⟩
    cases a <;> simp [Builtin.firstCells, loadCells, loadCellsFrom]
  case slAt full e n f b off cap g hn hcap hf hX hl hw h =>
    have h1 : e = esz := by omega
    subst h1
    refine ⟨by simp [Builtin.lenOf, srcOf], fun m hm => ?_⟩
    · simp only [srcOf, List.length_map, List.length_range] at hm
      refine ⟨(List.range (m * e)).map fun i => g (i / e) (i % e), ?_, ?_⟩
      · simp only [Builtin.firstCells]
        rw [run_loadCells w ⟨b, off, none⟩ (m * e) (fun i => g (i / e) (i % e)) fun j hj => ?_]
        rw [add_none]
        have hk : j / e < n := Nat.lt_of_lt_of_le (Nat.div_lt_of_lt_mul (by rw [Nat.mul_comm]; exact hj)) hm
        have := hw (j / e) (j % e) hk (Nat.mod_lt _ he)
        rw [Nat.mul_comm (j / e) e, Nat.div_add_mod] at this
        exact this
      · have hl' : ∀ (k : Nat) (x : List SV), (((List.range n).map f).take m)[k]? = some x → k < n ∧ x = f k := by
          intro k x hx
          rw [List.getElem?_take] at hx
          split at hx
          · simp only [List.getElem?_map] at hx
            rcases Nat.lt_or_ge k n with h' | h'
            · simp [h'] at hx; exact ⟨h', hx.symm⟩
            · rw [List.getElem?_eq_none (by simpa using h')] at hx; cases hx
          · cases hx
        refine cells_of_fun (by simp [srcOf]; omega) _ ?_ ?_
        · intro k x hx
          obtain ⟨hk, rfl⟩ := hl' k x (by simpa [srcOf] using hx)
          exact hl k hk
        · intro k j x c hx hcc
          obtain ⟨hk, rfl⟩ := hl' k x (by simpa [srcOf] using hx)
          have hj : j < e := by
            have := hl k hk
            rcases Nat.lt_or_ge j (f k).length with h' | h'
            · omega
            · rw [List.getElem?_eq_none h'] at hcc; cases hcc
          obtain ⟨e1, e2⟩ := div_idx (k := k) hj
          simp only [e1, e2]
          exact h k j c hk hcc
  case rowVoid i a e lo =>
    cases hg : getD' B i with
    | gone => simp [hg] at hc
    | row h2 E e2 xs =>
      simp only [hg] at hc
      obtain ⟨rfl, rfl, rfl, h4⟩ := hc
      have hx := hs.rowVoid hg
      subst hx
      refine ⟨by simp [Builtin.lenOf, srcOf, hg], fun m hm => ?_⟩
      simp only [srcOf, hg, List.drop_nil, List.take_nil, List.length_nil, Nat.le_zero] at hm
      subst hm
      refine ⟨[], ?_, by simpa [srcOf, hg] using nilC⟩
      cases a <;> simp [Builtin.firstCells, loadCells, loadCellsFrom]
  case rowAt i b cap e n hncap =>
    cases hg : getD' B i with
    | gone => simp [hg] at hc
    | row h2 E e2 xs =>
      simp only [hg] at hc
      obtain ⟨rfl, rfl, rfl, h4⟩ := hc
      obtain ⟨vs, a1, a2, a3, a4⟩ := row_cells hs hg
      refine ⟨by simp [Builtin.lenOf, srcOf, hg]; omega, fun m hm => ?_⟩
      · simp only [srcOf, hg, List.length_take, List.length_drop] at hm
        have hb : m * e2 ≤ vs.size := by rw [a2]; exact Nat.mul_le_mul_right _ (by omega)
        refine ⟨(vs.toList.drop 0).take (m * e2), ?_, ?_⟩
        · simp only [Builtin.firstCells]
          exact cell_list a1 0 (m * e2) (by omega)
        · have := a4.take m
          simp only [srcOf, hg, List.drop_zero, List.take_take]
          rw [Nat.min_eq_left (by omega : m ≤ n)]
          have e : min (m * e2) (xs.length * e2) = m * e2 := Nat.min_eq_left (Nat.mul_le_mul_right _ (by omega))
          rw [List.take_take, e] at this
          exact this
  case rowLo i b cap e lo n c hn hnc =>
    cases hg : getD' B i with
    | gone => simp [hg] at hc
    | row h2 E e2 xs =>
      simp only [hg] at hc
      obtain ⟨rfl, rfl, rfl, h4⟩ := hc
      obtain ⟨vs, a1, a2, a3, a4⟩ := row_cells hs hg
      refine ⟨by simp [Builtin.lenOf, srcOf, hg]; omega, fun m hm => ?_⟩
      · simp only [srcOf, hg, List.length_take, List.length_drop] at hm
        have hb : (lo + 1) * e2 + m * e2 ≤ vs.size := by rw [a2, ← Nat.add_mul]; exact Nat.mul_le_mul_right _ (by omega)
        refine ⟨(vs.toList.drop ((lo + 1) * e2)).take (m * e2), ?_, ?_⟩
        · simp only [Builtin.firstCells]
          exact cell_list a1 _ (m * e2) hb
        · have := (a4.drop (lo + 1)).take m
          simp only [srcOf, hg, List.take_take]
          rw [Nat.min_eq_left (by omega : m ≤ n)]
          have e : (List.take (m * e2) (List.drop ((lo + 1) * e2) (List.take (xs.length * e2) vs.toList))) = List.take (m * e2) (List.drop ((lo + 1) * e2) vs.toList) := by
            rw [List.drop_take, List.take_take, Nat.min_eq_left]
            have : (lo + 1) * e2 + m * e2 ≤ xs.length * e2 := by rw [← Nat.add_mul]; exact Nat.mul_le_mul_right _ (by omega)
            omega
          rw [e] at this
          exact this
  case rowLo0 i b cap e lo c a =>
    cases hg : getD' B i with
    | gone => simp [hg] at hc
    | row h2 E e2 xs =>
      refine ⟨by simp [Builtin.lenOf, srcOf, hg], fun m hm => ?_⟩
      simp only [srcOf, hg, List.take_zero, List.length_nil, Nat.le_zero] at hm
      subst hm
      refine ⟨[], ?_, by simpa [srcOf, hg] using nilC⟩
      cases a <;> simp [Builtin.firstCells, loadCells, loadCellsFrom]

theorem src_solid {esz : Nat} {s : SV} (hc : (srcOf esz B s).2) (h : srcSolid B s) : ∀ y ∈ (srcOf esz B s).1, solids y = true := by
  unfold srcOf at *
  cases s <;> simp only at hc ⊢
  case str l => simp [solids, SV.solid]
  case sl full e m f =>
    intro y hy
    simp only [List.mem_map, List.mem_range] at hy
    obtain ⟨k, hk, rfl⟩ := hy
    exact h k hk
  case row i h' e lo m =>
    cases hg : getD' B i with
    | gone => simp [hg] at hc
    | row h2 E e2 xs =>
      simp only [srcSolid, hg] at h ⊢
      exact fun y hy => h y (List.mem_of_mem_drop (List.mem_of_mem_take hy))

theorem Sat.drew (hs : Sat X w B) : Sat X w.drew B := ⟨hs.inj, hs.lt, hs.xg.mono (w' := w.drew) (fun _ h => h) (fun _ _ => rfl) hs.xlt, hs.apart, fun i => (Own.ok_mono (w' := w.drew) (hs.ok i) (fun _ h => h) (fun _ _ => rfl) (fun _ _ => rfl))⟩
theorem Ext.drew : Ext X w B X w.drew B := ⟨rfl, rfl, rfl, Nat.le_refl _, fun _ _ _ => rfl, fun _ h => h, fun _ h => .inl h, fun _ h => .inl h⟩
theorem Den.drew {s v} (h : Den X w s v) : Den X w.drew s v := h.mono (fun _ h => h) fun _ _ => rfl

theorem heap_alloc (w : World) (o : Obj) (c : Nat) (h : c < w.heap.size) : (w.alloc o).heap[c]? = w.heap[c]? := RowKit.Below.heap_alloc w o c h
theorem heap_alloc_new (w : World) (o : Obj) : (w.alloc o).heap[w.heap.size]? = some o := by
  show (w.heap.push o)[w.heap.size]? = some o
  simp
theorem size_zeroCells (z : Array Value) (n : Nat) : (Builtin.zeroCells z n).size = n * z.size := by simp [Builtin.zeroCells]

theorem append_grow {E esz eb : Nat} {T2 : TypeId} {d2 : TypeDesc} (ht : tyB P T (.slice E esz eb) = true) (h2 : P.underlying T2 = some d2) (hd2 : ∀ k, d2 ≠ .int k) {ty : TypeId}
    {base : Option Addr} {n cap m : Nat} {x : Value} (hm : (Builtin.lenOf x).run P w = .ok m w) (hg : cap < n + m) (hsz : (n + m) * eb ≤ 140737488355328) (heb : 0 < eb)
    {olds news : List Value} (ho : (Builtin.firstCells esz n (.slice base n cap)).run P w.drew = .ok olds.toArray w.drew) (hn : (Builtin.firstCells esz m x).run P w.drew = .ok news.toArray w.drew) :
    ∃ c r, n + m ≤ c ∧ r.length = (c - (n + m)) * esz ∧
      (Builtin.append_ #[T, T2] ty #[.slice base n cap, x]).run P w = .ok (.slice (some ⟨w.heap.size, 0, none⟩) (n + m) c) (w.drew.alloc (.cells (olds ++ news ++ r).toArray E)) := by
  obtain ⟨hu, i, z, hi, h3, h4, h5, h6⟩ := tyB_slice ht
  subst h3 h4
  let q : Question := .appendCap (n + m) cap E
  refine ⟨q.cut (w.tape w.drawn q), (Builtin.zeroCells z.cells (q.cut (w.tape w.drawn q) - (n + m))).toList, ?_, by simp [size_zeroCells, h6], ?_⟩
  · simp only [q, Question.cut]; omega
  · have hfit := growslice_fits hg hsz
    have hmul : n + m ≤ (n + m) * i.bytes := Nat.le_mul_of_pos_right _ heb
    have h63 : ¬ (((n + m : Nat) : Int) > IntKind.i64.max ∧ (False ∨ i.bytes = 0)) := by rintro ⟨_, h | h⟩ <;> omega
    have hnf : Question.forced q = false := rfl
    simp only [Builtin.append_]
    simp only [List.getElem?_toArray, List.getElem?_cons_zero, List.getElem?_cons_succ, Sem.run_bind, run_underlying hu, run_underlying h2, Result.andThen_ok, sizeOf, typeInfo, run_program, hi, Sem.run_pure, Bool.false_eq_true, if_false, hm, Sem.run_ite]
    rw [if_neg (by omega), if_neg (by simpa using h63), if_neg (by omega)]
    simp only [Result.andThen_ok, run_choose, run_askRoom]
    simp only [q] at *
    simp only [hnf, ho, hn, zeroValue, typeInfo, hi, h5, newRow, World.drew_eq, Bool.false_eq_true, if_false, Result.andThen_ok, Sem.run_bind, run_program, Sem.run_pure, run_newObj, World.alloc_eq, Bool.not_false, if_true, World.size_drew]
    congr 3
    apply Array.ext'
    simp

theorem append_room {E esz eb : Nat} {T2 : TypeId} {d2 : TypeDesc} (ht : tyB P T (.slice E esz eb) = true) (h2 : P.underlying T2 = some d2) (hd2 : ∀ k, d2 ≠ .int k) {ty : TypeId}
    {base : Option Addr} {n cap m : Nat} {x : Value} (hm : (Builtin.lenOf x).run P w = .ok m w) (hg : n + m ≤ cap) {news : List Value} (hn : (Builtin.firstCells esz m x).run P w = .ok news.toArray w) :
    (Builtin.append_ #[T, T2] ty #[.slice base n cap, x]).run P w = (match base with
      | some a => ((storeCells (a.add (n * esz)) news).run P w).andThen fun _ w' => .ok (.slice base (n + m) cap) w'
      | none => .ok (.slice base (n + m) cap) w) := by
  obtain ⟨hu, i, z, hi, h3, h4, h5, h6⟩ := tyB_slice ht
  subst h3 h4
  simp only [Builtin.append_]
  simp only [List.getElem?_toArray, List.getElem?_cons_zero, List.getElem?_cons_succ, Sem.run_bind, run_underlying hu, run_underlying h2, Result.andThen_ok, sizeOf, typeInfo, run_program, hi, Sem.run_pure, Bool.false_eq_true, if_false, hm, Sem.run_ite]
  rw [if_pos hg]
  simp only [Bool.not_false, if_true, hn, Result.andThen_ok]
  cases base <;> simp

theorem srcTy_und {T2 : TypeId} {ti2 : TyI} (ht2 : tyB P T2 ti2 = true) (h : srcTy ti2 = true) : ∃ d2, P.underlying T2 = some d2 ∧ ∀ k, d2 ≠ .int k := by
  cases ti2 <;> simp only [srcTy, Bool.false_eq_true] at h
  case string => exact ⟨_, tyB_string ht2, fun k => by simp⟩
  case slice E esz eb => exact ⟨_, (tyB_slice ht2).1, fun k => by simp⟩

theorem fresh_row {E esz c : Nat} {xs : List (List SV)} {cs r : List Value} {w' : World} (hc : Cells X w esz xs cs) (hr : r.length = (c - xs.length) * esz) (hle : xs.length ≤ c)
    (hX : ∀ b, X b → w'.heap[b]? = w.heap[b]?) (hb : w'.heap[w.heap.size]? = some (.cells (cs ++ r).toArray E (0, 0))) : Own.ok X w' (.row (.at w.heap.size c) E esz xs) := by
  refine ⟨_, hb, ?_, hle, hc.each, fun k j x s hx hs => ?_⟩
  · simp only [List.size_toArray, List.length_append, hc.len, hr, ← Nat.add_mul]
    congr 1; omega
  · have hd := (hc.den k j x s hx hs).mono (X' := X) (w' := w') (fun _ h => h) hX
    have hk : k < xs.length := by
      rcases Nat.lt_or_ge k xs.length with h' | h'
      · exact h'
      · rw [List.getElem?_eq_none h'] at hx; cases hx
    have hj : j < esz := by
      have := hc.each _ _ hx
      rcases Nat.lt_or_ge j x.length with h' | h'
      · omega
      · rw [List.getElem?_eq_none h'] at hs; cases hs
    have := idx_lt hk hj
    simp only [Array.getD_eq_getD_getElem?, List.getElem?_toArray]
    rw [List.getElem?_append_left (by rw [hc.len]; exact this)]
    simpa [List.getD_eq_getElem?_getD] using hd

theorem append_sound {kp : Bool} {ti2 : TyI} {T2 : TypeId} {ty : TypeId} (ht : tyB P T ti = true) (ht2 : tyB P T2 ti2 = true) (hs : Sat X w B) {s sx : SV} {v x : Value} (hd : Den X w s v) (hx : Den X w sx x) :
    ∃ h', (evAppend kp ti ti2 h' B s sx).vc → ∃ u w', (Builtin.append_ #[T, T2] ty #[v, x]).run P w = .ok u w' ∧ Sat X w' (evAppend kp ti ti2 h' B s sx).B ∧
      Den X w' (evAppend kp ti ti2 h' B s sx).v u ∧ Ext X w B X w' (evAppend kp ti ti2 h' B s sx).B := by
  by_cases hti : ∃ E esz eb, ti = .slice E esz eb
  case neg =>
    refine ⟨.void none, fun hc => ?_⟩
    exfalso
    cases ti <;> simp [evAppend, bad] at hc hti
  obtain ⟨E, esz, eb, rfl⟩ := hti
  simp only [evAppend]
  have hsrc := fun he hcc => src_sound (P := P) (esz := esz) he hs hx hcc
  have hsrcD := fun he hcc => src_sound (P := P) (esz := esz) he hs.drew hx.drew hcc
  have hsol := fun hcc hss => src_solid (B := B) (esz := esz) (s := sx) hcc hss
  generalize srcOf esz B sx = yc at *
  obtain ⟨ys, c⟩ := yc
  simp only at *
  have grow : ∀ (cap n : Nat) (base : Option Addr) (olds : List (List SV)), c ∧ srcSolid B sx ∧ 0 < esz ∧ 0 < eb ∧ srcTy ti2 = true → (n + ys.length) * eb ≤ 140737488355328 → cap < n + ys.length → olds.length = n →
      (∃ cs : List Value, (Builtin.firstCells esz n (.slice base n cap)).run P w.drew = .ok cs.toArray w.drew ∧ Cells X w.drew esz olds cs) →
      ∃ (cp : Nat) (r : List Value), n + ys.length ≤ cp ∧ r.length = (cp - (n + ys.length)) * esz ∧ ∃ w', (Builtin.append_ #[T, T2] ty #[.slice base n cap, x]).run P w = .ok (.slice (some ⟨w.heap.size, 0, none⟩) (n + ys.length) cp) w' ∧
        w'.heap.size = w.heap.size + 1 ∧ (∀ b, b < w.heap.size → w'.heap[b]? = w.heap[b]?) ∧ w'.os = w.os ∧ w'.tape = w.tape ∧ w'.output = w.output ∧ Own.ok X w' (.row (.at w.heap.size cp) E esz (olds ++ ys)) := by
    intro cap n base olds ⟨hc1, hc2, he, heb, hc3⟩ hsz hg holds ⟨cs, ho1, ho2⟩
    obtain ⟨d2, h21, h22⟩ := srcTy_und ht2 hc3
    obtain ⟨hl, _⟩ := hsrc he hc1
    obtain ⟨_, hf⟩ := hsrcD he hc1
    obtain ⟨ns, hn1, hn2⟩ := hf ys.length (Nat.le_refl _)
    rw [List.take_length] at hn2
    obtain ⟨cp, r, g1, g2, g3⟩ := append_grow (ty := ty) ht h21 h22 hl hg hsz heb ho1 hn1
    have hlen : (olds ++ ys).length = n + ys.length := by simp [holds]
    refine ⟨cp, r, g1, g2, _, g3, by simp, fun b hb => by rw [heap_alloc _ _ _ (by simpa using hb)]; rfl, rfl, rfl, rfl, ?_⟩
    refine fresh_row (cs := cs ++ ns) (r := r) ((ho2.append hn2).mono (fun _ h => h) fun _ _ => rfl) (by rw [hlen]; exact g2) (by omega) (fun b hb => ?_) ?_
    · rw [heap_alloc _ _ _ (by simpa using hs.xlt b hb)]; rfl
    · have := heap_alloc_new w.drew (.cells (cs ++ ns ++ r).toArray E)
      simpa using this
  cases hd
  all_goals try (refine ⟨.void none, fun hc => ?_⟩; simp only [evAppendL, bad] at hc; done)
  case slNil full e f a cap hf =>
    by_cases hy : ys.length = 0
    · have hy' : ys = [] := List.length_eq_zero_iff.1 hy
      subst hy'
      refine ⟨.void a, fun hc => ?_⟩
      simp only [evAppendL] at hc ⊢
      obtain ⟨hfull, _, ⟨hc1, hc2, he, heb, hc3⟩, hsz⟩ := hc
      have hcap := hf hfull
      subst hcap
      obtain ⟨d2, h21, h22⟩ := srcTy_und ht2 hc3
      obtain ⟨hl, hff⟩ := hsrc he hc1
      obtain ⟨ns, hn1, hn2⟩ := hff 0 (Nat.zero_le _)
      have hns : ns = [] := by have := hn2.len; simpa using this
      subst hns
      have hrun := append_room (ty := ty) (base := a) (n := 0) (cap := 0) ht h21 h22 hl (by simp) hn1
      have hrun' : (Builtin.append_ #[T, T2] ty #[.slice a 0 0, x]).run P w = .ok (.slice a 0 0) w := by
        rw [hrun]; cases a <;> simp [storeCells]
      refine ⟨_, w, hrun', ?_, ?_, ?_⟩
      · exact hs.push (Nat.le_refl _) (fun _ _ => rfl) (by simp [Own.blocks]) (by simp [Own.ok])
      · exact .rowVoid ..
      · exact Ext.push rfl rfl rfl (Nat.le_refl _) (fun _ _ => rfl) (by simp [Own.blocks])
    · by_cases hvc : full = true ∧ (c ∧ srcSolid B sx ∧ 0 < esz ∧ 0 < eb ∧ srcTy ti2 = true) ∧ (0 + ys.length) * eb ≤ 140737488355328
      · obtain ⟨hfull, hcc, hsz⟩ := hvc
        have hcap := hf hfull
        subst hcap
        obtain ⟨cp, r, g1, g2, w', g3, g4, g5, g6, g7, g8, g9⟩ := grow 0 0 a [] hcc hsz (by omega) rfl ⟨[], by cases a <;> simp [Builtin.firstCells, loadCells, loadCellsFrom], by simp, by simp, by simp⟩
        refine ⟨.at w.heap.size cp, fun _ => ⟨_, w', g3, ?_, ?_, ?_⟩⟩
        · simp only [evAppendL]
          exact hs.push (by omega) g5 (by simp [Own.blocks, g4]) (by simpa using g9)
        · simp only [evAppendL]
          exact .rowAt _ _ _ _ _ g1
        · simp only [evAppendL]
          exact Ext.push g6 g7 g8 (by omega) g5 (by simp [Own.blocks, g4])
      · refine ⟨.void none, fun hc => ?_⟩
        simp only [evAppendL] at hc
        exact absurd ⟨hc.1, hc.2.2.1, hc.2.2.2⟩ hvc
  case slAt full e n f b off cap g hn hcap hf hX hl hw h =>
    by_cases hvc : full = true ∧ (e = esz ∧ 0 < ys.length) ∧ (c ∧ srcSolid B sx ∧ 0 < esz ∧ 0 < eb ∧ srcTy ti2 = true) ∧ (n + ys.length) * eb ≤ 140737488355328
    · obtain ⟨hfull, ⟨rfl, hy⟩, hcc, hsz⟩ := hvc
      have hcap' := hf hfull
      subst hcap'
      have hden : Den X w (.sl full e cap f) (.slice (some ⟨b, off, none⟩) cap cap) := .slAt g hn hcap hf hX hl hw h
      obtain ⟨_, hff⟩ := src_sound (P := P) (esz := e) hcc.2.2.1 hs.drew hden.drew (by simp [srcOf])
      obtain ⟨cs, hc1, hc2⟩ := hff cap (by simp [srcOf])
      obtain ⟨cp, r, g1, g2, w', g3, g4, g5, g6, g7, g8, g9⟩ := grow cap cap (some ⟨b, off, none⟩) ((List.range cap).map f) hcc hsz (by omega) (by simp) ⟨cs, hc1, by
        have : List.take cap (srcOf e B (SV.sl full e cap f)).fst = (List.range cap).map f := by simp [srcOf, ← List.map_take]
        rwa [this] at hc2⟩
      refine ⟨.at w.heap.size cp, fun _ => ⟨_, w', g3, ?_, ?_, ?_⟩⟩
      · simp only [evAppendL]
        exact hs.push (by omega) g5 (by simp [Own.blocks, g4]) g9
      · simp only [evAppendL]
        exact .rowAt _ _ _ _ _ g1
      · simp only [evAppendL]
        exact Ext.push g6 g7 g8 (by omega) g5 (by simp [Own.blocks, g4])
    · refine ⟨.void none, fun hc => ?_⟩
      simp only [evAppendL] at hc
      exact absurd ⟨hc.1, hc.2.1.resolve_left (by omega), hc.2.2.1, hc.2.2.2⟩ hvc
  case rowVoid i a e lo =>
    cases lo with
    | succ lo => exact ⟨.void none, fun hc => by simp [evAppendL, bad] at hc⟩
    | zero =>
    cases hg : getD' B i with
    | gone => exact ⟨.void none, fun hc => by simp [evAppendL, hg, bad] at hc⟩
    | row h2 E2 e2 xs =>
      have hi := getD'_lt hg
      by_cases hvc : h2 = .void a ∧ e2 = e ∧ e = esz ∧ E2 = E ∧ 0 ≤ xs.length ∧ (c ∧ srcSolid B sx ∧ 0 < esz ∧ 0 < eb ∧ srcTy ti2 = true) ∧ (0 + ys.length) * eb ≤ 140737488355328
      case neg =>
        refine ⟨.void none, fun hc => ?_⟩
        simp only [evAppendL, hg] at hc
        exact absurd hc hvc
      obtain ⟨rfl, rfl, rfl, rfl, _, hcc, hsz⟩ := hvc
      have hxs := hs.rowVoid hg
      subst hxs
      by_cases hy : ys.length = 0
      · have hy' : ys = [] := List.length_eq_zero_iff.1 hy
        subst hy'
        obtain ⟨hc1, hc2, he, heb, hc3⟩ := hcc
        obtain ⟨d2, h21, h22⟩ := srcTy_und ht2 hc3
        obtain ⟨hl, hff⟩ := hsrc he hc1
        obtain ⟨ns, hn1, hn2⟩ := hff 0 (Nat.zero_le _)
        have hns : ns = [] := by have := hn2.len; simpa using this
        subst hns
        have hrun := append_room (ty := ty) (base := a) (n := 0) (cap := 0) ht h21 h22 hl (by simp) hn1
        have hrun' : (Builtin.append_ #[T, T2] ty #[.slice a 0 0, x]).run P w = .ok (.slice a 0 0) w := by
          rw [hrun]; cases a <;> simp [storeCells]
        refine ⟨.void a, fun _ => ⟨_, w, hrun', ?_, ?_, ?_⟩⟩
        · simp only [evAppendL, hg]
          exact hs.replace hi (Nat.le_refl _) (fun _ _ _ => rfl) (by simp [Own.blocks]) (by cases kp <;> simp [Own.ok, tailK])
        · simp only [evAppendL, hg]
          exact .rowVoid ..
        · simp only [evAppendL, hg]
          exact Ext.replace hi rfl rfl rfl (Nat.le_refl _) (fun _ _ _ => rfl) (by simp [Own.blocks])
      · obtain ⟨cp, r, g1, g2, w', g3, g4, g5, g6, g7, g8, g9⟩ := grow 0 0 a [] hcc hsz (by omega) rfl ⟨[], by cases a <;> simp [Builtin.firstCells, loadCells, loadCellsFrom], by simp, by simp, by simp⟩
        refine ⟨.at w.heap.size cp, fun _ => ⟨_, w', g3, ?_, ?_, ?_⟩⟩
        · simp only [evAppendL, hg]
          exact hs.replace hi (by omega) (fun c hc _ => g5 c hc) (by simp [Own.blocks, g4]) (by cases kp <;> simpa [tailK] using g9)
        · simp only [evAppendL, hg]
          exact .rowAt _ _ _ _ _ g1
        · simp only [evAppendL, hg]
          exact Ext.replace hi g6 g7 g8 (by omega) (fun c hc _ => g5 c hc) (by simp [Own.blocks, g4])
  case rowAt i b cap e n hncap =>
    cases hg : getD' B i with
    | gone => exact ⟨.void none, fun hc => by simp [evAppendL, hg, bad] at hc⟩
    | row h2 E2 e2 xs =>
      have hi := getD'_lt hg
      by_cases hvc : h2 = .at b cap ∧ e2 = e ∧ e = esz ∧ E2 = E ∧ n ≤ xs.length ∧ (c ∧ srcSolid B sx ∧ 0 < esz ∧ 0 < eb ∧ srcTy ti2 = true) ∧ (n + ys.length) * eb ≤ 140737488355328
      case neg =>
        refine ⟨.void none, fun hc => ?_⟩
        simp only [evAppendL, hg] at hc
        exact absurd hc hvc
      obtain ⟨rfl, rfl, rfl, rfl, hnx, hcc, hsz⟩ := hvc
      have hden : Den X w (.row i (.at b cap) e2 0 n) (.slice (some ⟨b, 0, none⟩) n cap) := .rowAt i b cap e2 n hncap
      have hsc : (srcOf e2 B (.row i (.at b cap) e2 0 n)).2 := by simp [srcOf, hg, hnx]
      by_cases hroom : n + ys.length ≤ cap
      · obtain ⟨hc1, hc2, he, heb, hc3⟩ := hcc
        obtain ⟨d2, h21, h22⟩ := srcTy_und ht2 hc3
        obtain ⟨hl, hff⟩ := hsrc he hc1
        obtain ⟨ns, hn1, hn2⟩ := hff ys.length (Nat.le_refl _)
        rw [List.take_length] at hn2
        have hones := ones_of he hn2 (hsol hc1 hc2)
        obtain ⟨vs, a1, a2, a3, a4⟩ := row_cells hs hg
        have hrun := append_room (ty := ty) (base := some ⟨b, 0, none⟩) (n := n) (cap := cap) ht h21 h22 hl hroom hn1
        have hbound : n * e2 + ys.length * e2 ≤ vs.size := by rw [a2, ← Nat.add_mul]; exact Nat.mul_le_mul_right _ hroom
        let new := (vs.toList.take (n * e2) ++ ns ++ vs.toList.drop (n * e2 + ns.length)).toArray
        have hst : (storeCells ⟨b, n * e2, none⟩ ns).run P w = .ok () (w.setRow b new) := by
          have := run_storeCells_at (P := P) b (n * e2) E2 ns 0 vs w a1 (by rw [hn2.len]; omega) hones
          simpa [new] using this
        have hrun' : (Builtin.append_ #[T, T2] ty #[.slice (some ⟨b, 0, none⟩) n cap, x]).run P w = .ok (.slice (some ⟨b, 0, none⟩) (n + ys.length) cap) (w.setRow b new) := by
          rw [hrun]; simp only [add_none, Nat.zero_add, hst, Result.andThen_ok]
        have hblk : ∀ c, c < w.heap.size → c ∉ (getD' B i).blocks → (w.setRow b new).heap[c]? = w.heap[c]? := fun c _ hcn => by
          rw [heap_setRow w b new vs E2 a1, if_neg]
          rw [hg] at hcn; simpa [Own.blocks] using hcn
        have hnew : new.size = vs.size := by simp [new, hn2.len]; omega
        refine ⟨.at b cap, fun _ => ⟨_, _, hrun', ?_, ?_, ?_⟩⟩
        · simp only [evAppendL, hg]
          refine hs.replace hi (by simp) hblk (fun c hc => .inl (by rw [hg]; simpa [Own.blocks] using hc)) ?_
          have hcl : ∃ tl, Cells X (w.setRow b new) e2 (xs.take n ++ ys ++ tailK kp xs (n + ys.length)) (vs.toList.take (n * e2) ++ ns ++ tl) ∧ ∀ k, k < tl.length → tl[k]? = (vs.toList.drop (n * e2 + ns.length))[k]? := by
            have h1 := a4.take n
            have e1 : min (n * e2) (xs.length * e2) = n * e2 := Nat.min_eq_left (Nat.mul_le_mul_right _ hnx)
            rw [List.take_take, e1] at h1
            cases kp with
            | false => exact ⟨[], by simpa [tailK] using (h1.append hn2).mono (fun _ h => h) fun c hc => hblk c (hs.xlt c hc) fun hm => hs.apart c hc ⟨i, hm⟩, by simp⟩
            | true =>
              have h3 := a4.drop (n + ys.length)
              refine ⟨_, ((h1.append hn2).append h3).mono (fun _ h => h) fun c hc => hblk c (hs.xlt c hc) fun hm => hs.apart c hc ⟨i, hm⟩, fun k hk => ?_⟩
              rw [hn2.len, ← Nat.add_mul]
              simp only [List.length_drop, List.length_take] at hk
              simp only [List.getElem?_drop, List.getElem?_take]
              rw [if_pos (by omega)]
          obtain ⟨tl, hcl, htl⟩ := hcl
          refine ⟨new, by rw [heap_setRow w b new vs E2 a1, if_pos rfl], by rw [hnew, a2], by cases kp <;> simp [tailK] <;> omega, hcl.each, fun k j x' s hx' hs' => ?_⟩
          have hd' := hcl.den k j x' s hx' hs'
          have hk : k < (xs.take n ++ ys ++ tailK kp xs (n + ys.length)).length := by
            rcases Nat.lt_or_ge k (xs.take n ++ ys ++ tailK kp xs (n + ys.length)).length with h' | h'
            · exact h'
            · rw [List.getElem?_eq_none h'] at hx'; cases hx'
          have hj : j < e2 := by
            have := hcl.each _ _ hx'
            rcases Nat.lt_or_ge j x'.length with h' | h'
            · omega
            · rw [List.getElem?_eq_none h'] at hs'; cases hs'
          have hlt := idx_lt hk hj
          rw [← hcl.len] at hlt
          simp only [List.getD_eq_getElem?_getD] at hd'
          simp only [new, Array.getD_eq_getD_getElem?, List.getElem?_toArray]
          rcases Nat.lt_or_ge (k * e2 + j) (vs.toList.take (n * e2) ++ ns).length with h6 | h6
          · rw [List.getElem?_append_left h6] at hd' ⊢
            exact hd'
          · rw [List.getElem?_append_right h6] at hd' ⊢
            rwa [htl _ (by simp only [List.length_append] at hlt h6 ⊢; omega)] at hd'
        · simp only [evAppendL, hg]
          exact .rowAt _ _ _ _ _ hroom
        · simp only [evAppendL, hg]
          exact Ext.replace hi rfl rfl rfl (by simp) hblk (fun c hc => .inl (by rw [hg]; simpa [Own.blocks] using hc))
      · obtain ⟨_, hff⟩ := src_sound (P := P) (esz := e2) hcc.2.2.1 hs.drew hden.drew hsc
        obtain ⟨cs, hc1, hc2⟩ := hff n (by simp [srcOf, hg]; omega)
        obtain ⟨cp, r, g1, g2, w', g3, g4, g5, g6, g7, g8, g9⟩ := grow cap n (some ⟨b, 0, none⟩) (xs.take n) hcc hsz (by omega) (by simp; omega) ⟨cs, hc1, by
          have : List.take n (srcOf e2 B (SV.row i (.at b cap) e2 0 n)).fst = xs.take n := by simp [srcOf, hg, List.take_take]
          rwa [this] at hc2⟩
        refine ⟨.at w.heap.size cp, fun _ => ⟨_, w', g3, ?_, ?_, ?_⟩⟩
        · simp only [evAppendL, hg]
          have e9 : tailK kp xs (n + ys.length) = [] := by
            cases kp
            · rfl
            · have := (row_cells hs hg).choose_spec.2.2.1
              exact List.drop_of_length_le (by omega)
          rw [e9, List.append_nil]
          exact hs.replace hi (by omega) (fun c hc _ => g5 c hc) (by simp [Own.blocks, g4]) g9
        · simp only [evAppendL, hg]
          exact .rowAt _ _ _ _ _ g1
        · simp only [evAppendL, hg]
          exact Ext.replace hi g6 g7 g8 (by omega) (fun c hc _ => g5 c hc) (by simp [Own.blocks, g4])
end
end Go.Lift
end
section
namespace Go.Lift
section
variable {P : Program} {T : TypeId} {ti : TyI} {X : Nat → Prop} {w : World} {B : List Own}

theorem new_row (hs : Sat X w B) {E esz cap : Nat} {xs : List (List SV)} {cs r : List Value} (hc : Cells X w esz xs cs) (hr : r.length = (cap - xs.length) * esz) (hle : xs.length ≤ cap) :
    let w' := w.alloc (.cells (cs ++ r).toArray E)
    Sat X w' (B ++ [.row (.at w.heap.size cap) E esz xs]) ∧ Ext X w B X w' (B ++ [.row (.at w.heap.size cap) E esz xs]) := by
  have h1 : ∀ c, c < w.heap.size → (w.alloc (.cells (cs ++ r).toArray E)).heap[c]? = w.heap[c]? := fun c hc => heap_alloc _ _ _ hc
  exact ⟨hs.push (by simp) h1 (by simp [Own.blocks]) (fresh_row hc hr hle (fun b hb => h1 b (hs.xlt b hb)) (heap_alloc_new _ _)),
    Ext.push rfl rfl rfl (by simp) h1 (by simp [Own.blocks])⟩

theorem cells_one {esz : Nat} {x : List SV} {cs : List Value} (h1 : x.length = esz) (h2 : cs.length = esz) (h : ∀ (i : Nat) (c : SV), x[i]? = some c → Den X w c (cs.getD i undef)) : Cells X w esz [x] cs := by
  refine ⟨by simp [h2], fun k y hy => ?_, fun k j y c hy hc => ?_⟩
  · cases k with
    | zero => simp at hy; exact hy ▸ h1
    | succ k => simp at hy
  · cases k with
    | zero => simp at hy; subst hy; simpa using h j c hc
    | succ k => simp at hy

def cellIs : SV → Value → Bool
  | .int k n, .int k' n' => k == k' && n == n'
  | .bool b, .bool b' => b == b'
  | .str l, .string s => s.data.toList == l
  | .sl _ _ 0 _, .slice none 0 0 => true
  | .val (.pointer none), .pointer none => true
  | .val .nilFunc, .nilFunc => true
  | .val (.map none), .map none => true
  | .val .nilIface, .nilIface => true
  | _, _ => false
theorem cellIs_den {s : SV} {v : Value} (h : cellIs s v = true) : Den X w s v := by
  unfold cellIs at h
  split at h <;> try (cases h; done)
  · simp only [Bool.and_eq_true, beq_iff_eq] at h; obtain ⟨rfl, rfl⟩ := h; exact .int ..
  · simp only [beq_iff_eq] at h; subst h; exact .bool ..
  · rename_i l s'
    simp only [beq_iff_eq] at h; subst h
    have : Value.string s' = .string ⟨s'.data.toList.toArray⟩ := by simp
    rw [this]; exact .str _
  · exact .slNil fun _ => rfl
  · exact .val _
  · exact .val _
  · exact .val _
  · exact .val _
def cellsAre : List SV → List Value → Bool
  | [], [] => true
  | s :: r, v :: q => cellIs s v && cellsAre r q
  | _, _ => false
theorem cellsAre_den : ∀ {ss : List SV} {vs : List Value}, cellsAre ss vs = true → vs.length = ss.length ∧ ∀ (i : Nat) (c : SV), ss[i]? = some c → Den X w c (vs.getD i undef)
  | [], [], _ => ⟨rfl, by simp⟩
  | s :: r, v :: q, h => by
    simp only [cellsAre, Bool.and_eq_true] at h
    obtain ⟨h1, h2⟩ := cellsAre_den h.2
    refine ⟨by simp [h1], fun i c hc => ?_⟩
    cases i with
    | zero => simp at hc; subst hc; simpa using cellIs_den h.1
    | succ i => simpa using h2 i c (by simpa using hc)
def zeroB (P : Program) (T : Nat) (z : List SV) : Bool := match P.info? T with
  | some i => (match i.zero with
    | some v => cellsAre z v.cells.toList && (aggB P T == match v with | .agg _ => true | _ => false)
    | none => false)
  | none => false
theorem zeroB_spec {z : List SV} (h : zeroB P T z = true) : ∃ v, (∀ w, (zeroValue T).run P w = .ok v w) ∧ cellsAre z v.cells.toList = true := by
  unfold zeroB at h
  cases hi : P.info? T with
  | none => simp [hi] at h
  | some i =>
    simp only [hi] at h
    cases hz : i.zero with
    | none => simp [hz] at h
    | some v =>
      simp only [hz, Bool.and_eq_true] at h
      exact ⟨v, fun w => by simp [zeroValue, typeInfo, hi, hz], h.1⟩

theorem alloc_sound (hs : Sat X w B) {z : List SV} (hz : zeroB P T z = true) : ∃ h' u w', (Instr.alloc T true (.tuple #[])).run P w = .ok u w' ∧
    Sat X w' (B ++ [.row h' T z.length [z]]) ∧ Den X w' (.rptr B.length h' z.length 0 0) u ∧ Ext X w B X w' (B ++ [.row h' T z.length [z]]) := by
  obtain ⟨v, h1, h2⟩ := zeroB_spec hz
  obtain ⟨h3, h4⟩ := cellsAre_den (X := X) (w := w) h2
  have hc : Cells X w z.length [z] v.cells.toList := cells_one rfl h3 h4
  obtain ⟨h5, h6⟩ := new_row hs (E := T) (cap := 1) (r := []) hc (by simp) (by simp)
  refine ⟨.at w.heap.size 1, .pointer (some ⟨w.heap.size, 0 * z.length + 0, none⟩), _, ?_, h5, .rptr .., h6⟩
  simp [Instr.alloc, h1, newVar, newRow]

theorem box_sound (hs : Sat X w B) {s : SV} {v : Value} (hd : Den X w s v) (hc : solids s.cells = true) : ∃ h' u w', (Instr.box T v).run P w = .ok u w' ∧
    Sat X w' (B ++ [.row h' T s.cells.length [s.cells]]) ∧ Den X w' (.rptr B.length h' s.cells.length 0 0) u ∧ Ext X w B X w' (B ++ [.row h' T s.cells.length [s.cells]]) := by
  obtain ⟨h1, h2, h3⟩ := den_cells hd hc
  have hcl : Cells X w s.cells.length [s.cells] v.cells.toList := cells_one rfl (by simpa using h1) (by simpa using h2)
  obtain ⟨h5, h6⟩ := new_row hs (E := T) (cap := 1) (r := []) hcl (by simp) (by simp)
  refine ⟨.at w.heap.size 1, .pointer (some ⟨w.heap.size, 0 * s.cells.length + 0, none⟩), _, ?_, h5, .rptr .., h6⟩
  simp [Instr.box, newVar, newRow]

theorem cells_replicate {esz n : Nat} {x : List SV} {v : List Value} (h : Cells X w esz [x] v) : Cells X w esz (List.replicate n x) (List.replicate n v).flatten := by
  induction n with
  | zero => exact ⟨by simp, by simp, by simp⟩
  | succ n ih =>
    have := h.append ih
    simpa [List.replicate_succ] using this
theorem range_mod {z : Array Value} {esz : Nat} (hz : z.size = esz) (n : Nat) : ((Array.range (n * esz)).map fun i => z[i % z.size]!) = ((List.replicate n z.toList).flatten).toArray := by
  apply Array.ext'
  simp only [Array.toList_map, Array.toList_range]
  induction n with
  | zero => simp
  | succ n ih =>
    rw [Nat.succ_mul, List.range_add, List.map_append, ih, List.replicate_succ', List.flatten_append]
    congr 1
    simp only [List.flatten_cons, List.flatten_nil, List.append_nil]
    apply List.ext_getElem
    · simp [hz]
    · intro i h1 h2
      simp at h1 h2
      have e : (n * esz + i) % z.size = i := by rw [hz, Nat.mul_comm, Nat.mul_add_mod, Nat.mod_eq_of_lt (by omega)]
      simp [e, getElem!_pos, h2]

theorem makeSlice_sound {zr : Nat → List SV} (ht : tyB P T ti = true) (hz : ∀ E esz eb, ti = .slice E esz eb → zeroB P E (zr E) = true) (hs : Sat X w B) {sl sc : SV} {vl vc : Value} (hl : Den X w sl vl) (hcp : Den X w sc vc) :
    ∃ h', (evMakeSlice ti zr h' B sl sc).vc → ∃ u w', (Instr.makeSlice T vl vc).run P w = .ok u w' ∧ Sat X w' (evMakeSlice ti zr h' B sl sc).B ∧
      Den X w' (evMakeSlice ti zr h' B sl sc).v u ∧ Ext X w B X w' (evMakeSlice ti zr h' B sl sc).B := by
  by_cases hti : ∃ E esz eb, ti = .slice E esz eb
  case neg =>
    refine ⟨.void none, fun hc => ?_⟩
    exfalso
    cases ti <;> simp [evMakeSlice, bad] at hc hti
  obtain ⟨E, esz, eb, rfl⟩ := hti
  cases hl
  all_goals try (refine ⟨.void none, fun hc => ?_⟩; simp only [evMakeSlice, bad] at hc; done)
  cases hcp
  all_goals try (refine ⟨.void none, fun hc => ?_⟩; simp only [evMakeSlice, bad] at hc; done)
  case int.int kl l kc c =>
    refine ⟨.at w.heap.size c.toNat, fun hc => ?_⟩
    simp only [evMakeSlice] at hc ⊢
    obtain ⟨h0, h1, h2, he, heb, hzl⟩ := hc
    obtain ⟨hu, i, z, hi, h3, h4, h5, h6⟩ := tyB_slice ht
    obtain ⟨z', hz1, hz2⟩ := zeroB_spec (hz E esz eb rfl)
    have hzz : z' = z := by
      have := hz1 w
      simp [zeroValue, typeInfo, hi, h5] at this; exact this.symm
    subst hzz
    obtain ⟨h7, h8⟩ := cellsAre_den (X := X) (w := w) hz2
    have hcl : Cells X w esz [zr E] z'.cells.toList := cells_one hzl (by rw [h7, hzl]) h8
    have hcl2 := cells_replicate (n := l.toNat) hcl
    have hr : ((List.replicate (c.toNat - l.toNat) z'.cells.toList).flatten).length = (c.toNat - l.toNat) * esz := by
      simp [h6]
    obtain ⟨a1, a2⟩ := new_row hs (E := E) (cap := c.toNat) (r := (List.replicate (c.toNat - l.toNat) z'.cells.toList).flatten) hcl2 (by simpa using hr) (by simp; omega)
    have hbound : c ≤ c * eb := by
      have : (1 : Int) ≤ eb := by omega
      calc c = c * 1 := by omega
        _ ≤ c * eb := Int.mul_le_mul_of_nonneg_left this (by omega)
    have wl : IntKind.i64.wrap l = l := IntWalk.i64_in _ (by omega)
    have wc : IntKind.i64.wrap c = c := IntWalk.i64_in _ (by omega)
    have hb2 : ¬ ((i.bytes : Int) * c > 2 ^ 48) := by rw [h4, Int.mul_comm]; omega
    refine ⟨_, _, ?_, a1, .rowAt B.length w.heap.size c.toNat esz l.toNat (by omega), a2⟩
    simp only [Instr.makeSlice, Sem.run_bind, run_underlying hu, Result.andThen_ok, asInt, asIntOf, Sem.run_pure, typeInfo, run_program, hi, wl, wc]
    rw [Sem.run_ite, if_neg (by simp; omega)]
    simp only [Sem.run_bind, run_askRoom, Result.andThen_ok, sizeOf, typeInfo, run_program, hi, Sem.run_pure, h3]
    by_cases hn : c.toNat * esz = 0
    · have hc0 : c.toNat = 0 := by
        rcases Nat.mul_eq_zero.1 hn with h | h <;> omega
      have hl0 : l.toNat = 0 := by omega
      simp only [hc0, hl0, Nat.zero_mul, if_true, Sem.run_pure, Result.andThen_ok, newRow, Sem.run_bind, run_newObj, Nat.sub_zero, List.replicate_zero, List.flatten_nil, List.append_nil]
      have e0 : (Array.map (fun x => (#[] : Array Value)[x % (#[] : Array Value).size]!) (Array.range 0)) = ([] : List Value).toArray := by apply Array.ext'; simp
      rw [e0]
      rfl
    · simp only [if_neg hn, Sem.run_bind, hz1, Result.andThen_ok, Sem.run_pure, newRow, run_newObj]
      rw [range_mod h6]
      have e : c.toNat = l.toNat + (c.toNat - l.toNat) := by omega
      have e2 : (List.replicate c.toNat z'.cells.toList).flatten = (List.replicate l.toNat z'.cells.toList).flatten ++ (List.replicate (c.toNat - l.toNat) z'.cells.toList).flatten := by
        rw [← List.flatten_append, List.replicate_append_replicate, ← e]
      rw [e2]
      rfl

theorem foldl_set (o : Nat) : ∀ (vs : List Value) (s : Nat) (cs : Array Value), o + s + vs.length ≤ cs.size →
    ((vs.zipIdx s).foldl (fun cs (c, j) => cs.setIfInBounds (o + j) c) cs).size = cs.size ∧
    ∀ k, ((vs.zipIdx s).foldl (fun cs (c, j) => cs.setIfInBounds (o + j) c) cs).getD k undef = if o + s ≤ k ∧ k < o + s + vs.length then vs.getD (k - (o + s)) undef else cs.getD k undef
  | [], s, cs, _ => ⟨rfl, fun k => by simp only [List.zipIdx_nil, List.foldl_nil, List.length_nil]; rw [if_neg (by omega)]⟩
  | v :: vs, s, cs, h => by
    simp only [List.length_cons] at h
    obtain ⟨h1, h2⟩ := foldl_set o vs (s + 1) (cs.setIfInBounds (o + s) v) (by simp; omega)
    simp only [List.zipIdx_cons, List.foldl_cons]
    refine ⟨by simpa using h1, fun k => ?_⟩
    rw [h2 k]
    simp only [List.length_cons]
    by_cases e : k = o + s
    · subst e
      rw [if_neg (by omega), if_pos (by omega)]
      simp [show o + s < cs.size by omega]
    · by_cases e2 : o + (s + 1) ≤ k ∧ k < o + (s + 1) + vs.length
      · rw [if_pos e2, if_pos (by omega)]
        have : k - (o + s) = (k - (o + (s + 1))) + 1 := by omega
        rw [this]; simp
      · rw [if_neg e2, if_neg (by omega)]
        have : ¬ o + s = k := fun h => e h.symm
        simp [Array.getD_eq_getD_getElem?, this]

theorem fill_sound {esz : Nat} : ∀ (ps : List (Nat × SV)) (vs : List (Nat × Value)) (xs : List (List SV)) (cs : Array Value), vs.length = ps.length →
    (∀ (i : Nat) (p : Nat × SV) (q : Nat × Value), ps[i]? = some p → vs[i]? = some q → p.1 = q.1 ∧ Den X w p.2 q.2) → fillC xs.length esz ps → Cells X w esz xs cs.toList →
    ∃ cs', Instr.fill (fun i => some (i * esz, esz)) cs vs = some cs' ∧ Cells X w esz (fillL xs ps) cs'.toList
  | [], [], xs, cs, _, _, _, h => ⟨cs, rfl, h⟩
  | [], _ :: _, _, _, h, _, _, _ => by simp at h
  | _ :: _, [], _, _, h, _, _, _ => by simp at h
  | (i, x) :: ps, (j, v) :: vs, xs, cs, hl, hd, hc, h => by
    obtain ⟨hij, hd0⟩ := hd 0 (i, x) (j, v) rfl rfl
    have hij : i = j := hij
    subst hij
    have hd0 : Den X w x v := hd0
    obtain ⟨hi, hxl, hsol, hc'⟩ := hc
    have hi : i < xs.length := hi
    obtain ⟨c1, c2, c3⟩ := den_cells hd0 hsol
    have hlen : v.cells.size = esz := by omega
    have hb : i * esz + esz ≤ cs.size := by
      have := h.len
      have h2 : (i + 1) * esz ≤ xs.length * esz := Nat.mul_le_mul_right _ hi
      rw [Nat.succ_mul] at h2; simp at this; omega
    let cs2 := v.cells.zipIdx.foldl (fun cs (c, j) => cs.setIfInBounds (i * esz + j) c) cs
    have hcs2 : cs2 = (v.cells.toList.zipIdx 0).foldl (fun cs (c, j) => cs.setIfInBounds (i * esz + j) c) cs := by
      simp only [cs2]
      rw [← Array.foldl_toList, Array.toList_zipIdx]
    obtain ⟨hsz2, hget0⟩ := foldl_set (i * esz) v.cells.toList 0 cs (by simp; omega)
    rw [← hcs2] at hsz2 hget0
    have hget : ∀ k, cs2.getD k undef = if i * esz ≤ k ∧ k < i * esz + esz then v.cells.getD (k - i * esz) undef else cs.getD k undef := fun k => by
      rw [hget0 k]
      simp [hlen]
    have hcl : Cells X w esz (xs.set i x.cells) cs2.toList := by
      refine ⟨by simpa [hsz2] using h.len, fun k y hy => ?_, fun k j y c hy hcc => ?_⟩
      · rw [List.getElem?_set] at hy
        by_cases e : i = k
        · subst e; simp only [hi, if_true, Option.some.injEq] at hy; subst hy; exact hxl
        · simp only [e, if_false] at hy; exact h.each _ _ hy
      · have hg := hget (k * esz + j)
        have e1 : cs2.toList.getD (k * esz + j) undef = cs2.getD (k * esz + j) undef := by simp
        rw [e1, hg]
        rw [List.getElem?_set] at hy
        by_cases e : i = k
        · subst e
          simp only [hi, if_true, Option.some.injEq] at hy
          subst hy
          have hj : j < esz := by
            rcases Nat.lt_or_ge j x.cells.length with h' | h'
            · omega
            · rw [List.getElem?_eq_none h'] at hcc; cases hcc
          rw [if_pos (by omega)]
          have := c2 j c hcc
          have e3 : i * esz + j - i * esz = j := by omega
          rw [e3]; exact this
        · simp only [e, if_false] at hy
          have hj : j < esz := by
            have := h.each _ _ hy
            rcases Nat.lt_or_ge j y.length with h' | h'
            · omega
            · rw [List.getElem?_eq_none h'] at hcc; cases hcc
          have hne : ¬ (i * esz ≤ k * esz + j ∧ k * esz + j < i * esz + esz) := by
            intro ⟨a1, a2⟩
            rcases Nat.lt_or_gt_of_ne e with h' | h'
            · have : (i + 1) * esz ≤ k * esz := Nat.mul_le_mul_right _ h'
              rw [Nat.succ_mul] at this; omega
            · have : (k + 1) * esz ≤ i * esz := Nat.mul_le_mul_right _ h'
              rw [Nat.succ_mul] at this; omega
          rw [if_neg hne]
          have := h.den k j y c hy hcc
          simpa using this
    obtain ⟨cs', h1, h2⟩ := fill_sound ps vs (xs.set i x.cells) cs2 (by simpa using hl) (fun k p q hp hq => hd (k + 1) p q (by simpa using hp) (by simpa using hq)) (by simpa using hc') hcl
    refine ⟨cs', ?_, h2⟩
    simp only [Instr.fill]
    rw [if_neg (by simp [hlen]; omega)]
    exact h1
end
end Go.Lift
end
section
namespace Go.Lift
section
variable {P : Program} {T : TypeId} {ti : TyI} {X : Nat → Prop} {w : World} {B : List Own}

theorem buildSlice_sound {zr : Nat → List SV} (ht : tyB P T ti = true) (hz : ∀ E esz eb, ti = .slice E esz eb → zeroB P E (zr E) = true) (hs : Sat X w B) {len : Nat} {ps : List (Nat × SV)} {vs : Array (Nat × Value)}
    (hl : vs.size = ps.length) (hd : ∀ (i : Nat) (p : Nat × SV) (q : Nat × Value), ps[i]? = some p → vs[i]? = some q → p.1 = q.1 ∧ Den X w p.2 q.2) :
    ∃ h', (evBuildSlice ti zr h' B len ps).vc → ∃ u w', (Instr.buildSlice T len vs).run P w = .ok u w' ∧ Sat X w' (evBuildSlice ti zr h' B len ps).B ∧
      Den X w' (evBuildSlice ti zr h' B len ps).v u ∧ Ext X w B X w' (evBuildSlice ti zr h' B len ps).B := by
  by_cases hti : ∃ E esz eb, ti = .slice E esz eb
  case neg =>
    refine ⟨.void none, fun hc => ?_⟩
    exfalso
    cases ti <;> simp [evBuildSlice, bad] at hc hti
  obtain ⟨E, esz, eb, rfl⟩ := hti
  refine ⟨.at w.heap.size len, fun hc => ?_⟩
  simp only [evBuildSlice] at hc ⊢
  obtain ⟨hf, he, hzl, hlim⟩ := hc
  obtain ⟨hu, i, z, hi, h3, h4, h5, h6⟩ := tyB_slice ht
  obtain ⟨z', hz1, hz2⟩ := zeroB_spec (hz E esz eb rfl)
  have hzz : z' = z := by
    have := hz1 w
    simp [zeroValue, typeInfo, hi, h5] at this; exact this.symm
  subst hzz
  obtain ⟨h7, h8⟩ := cellsAre_den (X := X) (w := w) hz2
  have hcl : Cells X w esz [zr E] z'.cells.toList := cells_one hzl (by rw [h7, hzl]) h8
  have hcl2 := cells_replicate (n := len) hcl
  obtain ⟨cs', f1, f2⟩ := fill_sound ps vs.toList (List.replicate len (zr E)) ((List.replicate len z'.cells.toList).flatten).toArray (by simpa using hl)
    (fun i p q hp hq => hd i p q hp (by simpa using hq)) (by simpa using hf) (by simpa using hcl2)
  have hlen' : (fillL (List.replicate len (zr E)) ps).length = len := by
    have : ∀ (ps : List (Nat × SV)) (xs : List (List SV)), (fillL xs ps).length = xs.length := by
      intro ps
      induction ps with
      | nil => intro xs; rfl
      | cons p ps ih => intro xs; obtain ⟨a, b⟩ := p; simp [fillL, ih]
    rw [this]; simp
  obtain ⟨a1, a2⟩ := new_row hs (E := E) (cap := len) (r := []) f2 (by simp [hlen']) (by omega)
  simp only [List.append_nil, Array.toArray_toList] at a1 a2
  refine ⟨_, _, ?_, a1, .rowAt B.length w.heap.size len esz len (Nat.le_refl _), a2⟩
  simp only [Instr.buildSlice, Sem.run_bind, run_underlying hu, Result.andThen_ok, sizeOf, typeInfo, run_program, hi, Sem.run_pure, h3, Sem.run_ite]
  rw [if_neg (by omega)]
  by_cases h0 : len * esz = 0
  · have : len = 0 := by rcases Nat.mul_eq_zero.1 h0 with h | h <;> omega
    subst this
    have e0 : (Array.map (fun x => (#[] : Array Value)[x % (#[] : Array Value).size]!) (Array.range 0)) = ([] : List Value).toArray := by apply Array.ext'; simp
    simp only [Nat.zero_mul, if_true]
    rw [e0]
    simp only [List.replicate_zero, List.flatten_nil] at f1
    simp [f1, newRow]
  · simp only [if_neg h0, hz1, Result.andThen_ok]
    rw [range_mod h6 len, f1]
    simp [newRow]

theorem putCells (cs : List SV) {vs : Array Value} (hs : vs.size = cs.length) (h : ∀ (i : Nat) (c : SV), cs[i]? = some c → Den X w c (vs.getD i undef)) {o : Nat} {s : SV} {v : Value} (hd : Den X w s v)
    (hsol : solids s.cells = true) (ho : o + s.cells.length ≤ cs.length) :
    let vs' := v.cells.zipIdx.foldl (fun cs (c, j) => cs.setIfInBounds (o + j) c) vs
    vs'.size = (putL cs o s.cells).length ∧ v.cells.size = s.cells.length ∧ ∀ (i : Nat) (c : SV), (putL cs o s.cells)[i]? = some c → Den X w c (vs'.getD i undef) := by
  obtain ⟨c1, c2, c3⟩ := den_cells hd hsol
  have he : v.cells.zipIdx.foldl (fun cs (c, j) => cs.setIfInBounds (o + j) c) vs = (v.cells.toList.zipIdx 0).foldl (fun cs (c, j) => cs.setIfInBounds (o + j) c) vs := by
    rw [← Array.foldl_toList, Array.toList_zipIdx]
  obtain ⟨f1, f2⟩ := foldl_set o v.cells.toList 0 vs (by simp; omega)
  simp only [he]
  refine ⟨by rw [f1, putL_length, hs], c1, fun i c hc => ?_⟩
  rw [f2 i]
  rcases putL_get s.cells cs o i c ho hc with ⟨a1, a2, a3⟩ | ⟨a1, a2⟩
  · rw [if_pos (by simp; omega)]
    have := c2 _ _ a3
    simpa using this
  · rw [if_neg (by simp; omega)]
    exact h _ _ a2

theorem fillS_sound {fs : List (Nat × Bool × Nat)} {n : Nat} {pl : Nat → Option (Nat × Nat)} (hp : ∀ (j o : Nat) (a : Bool) (m : Nat), fs[j]? = some (o, a, m) → pl j = some (o, m)) :
    ∀ (ps : List (Nat × SV)) (vs : List (Nat × Value)) (cs : List SV) (cv : Array Value), vs.length = ps.length →
    (∀ (i : Nat) (p : Nat × SV) (q : Nat × Value), ps[i]? = some p → vs[i]? = some q → p.1 = q.1 ∧ Den X w p.2 q.2) → (buildL (.struct fs n) cs ps).2 →
    cv.size = cs.length → (∀ (i : Nat) (c : SV), cs[i]? = some c → Den X w c (cv.getD i undef)) →
    ∃ cv', Instr.fill pl cv vs = some cv' ∧ cv'.size = (buildL (.struct fs n) cs ps).1.length ∧ ∀ (i : Nat) (c : SV), (buildL (.struct fs n) cs ps).1[i]? = some c → Den X w c (cv'.getD i undef)
  | [], [], cs, cv, _, _, _, hs, h => ⟨cv, rfl, hs, h⟩
  | [], _ :: _, _, _, h, _, _, _, _ => by simp at h
  | _ :: _, [], _, _, h, _, _, _, _ => by simp at h
  | (i, x) :: ps, (j, v) :: vs, cs, cv, hl, hd, hc, hs, h => by
    obtain ⟨hij, hd0⟩ := hd 0 (i, x) (j, v) rfl rfl
    have hij : i = j := hij
    subst hij
    have hd0 : Den X w x v := hd0
    simp only [buildL] at hc ⊢
    cases hf : fs[i]? with
    | none => simp [hf] at hc
    | some oam =>
      obtain ⟨o, a, m⟩ := oam
      simp only [hf] at hc ⊢
      obtain ⟨hxl, hb, hsol, hc'⟩ := hc
      obtain ⟨g1, g2, g3⟩ := putCells cs hs h hd0 hsol (o := o) (by omega)
      obtain ⟨cv', r1, r2, r3⟩ := fillS_sound hp ps vs (putL cs o x.cells) _ (by simpa using hl) (fun k p q hp hq => hd (k + 1) p q (by simpa using hp) (by simpa using hq)) hc' g1 g3
      refine ⟨cv', ?_, r2, r3⟩
      simp only [Instr.fill, hp i o a m hf]
      rw [if_neg (by simp [g2, hxl]; omega)]
      exact r1

theorem fillA_sound {len : Nat} {ag : Bool} {e : Nat} :
    ∀ (ps : List (Nat × SV)) (vs : List (Nat × Value)) (cs : List SV) (cv : Array Value), vs.length = ps.length →
    (∀ (i : Nat) (p : Nat × SV) (q : Nat × Value), ps[i]? = some p → vs[i]? = some q → p.1 = q.1 ∧ Den X w p.2 q.2) → (buildL (.array len ag e) cs ps).2 →
    cv.size = cs.length → (∀ (i : Nat) (c : SV), cs[i]? = some c → Den X w c (cv.getD i undef)) →
    ∃ cv', Instr.fill (fun i => some (i * e, e)) cv vs = some cv' ∧ cv'.size = (buildL (.array len ag e) cs ps).1.length ∧ ∀ (i : Nat) (c : SV), (buildL (.array len ag e) cs ps).1[i]? = some c → Den X w c (cv'.getD i undef)
  | [], [], cs, cv, _, _, _, hs, h => ⟨cv, rfl, hs, h⟩
  | [], _ :: _, _, _, h, _, _, _, _ => by simp at h
  | _ :: _, [], _, _, h, _, _, _, _ => by simp at h
  | (i, x) :: ps, (j, v) :: vs, cs, cv, hl, hd, hc, hs, h => by
    obtain ⟨hij, hd0⟩ := hd 0 (i, x) (j, v) rfl rfl
    have hij : i = j := hij
    subst hij
    have hd0 : Den X w x v := hd0
    simp only [buildL] at hc ⊢
    obtain ⟨hi, hxl, hb, hsol, hc'⟩ := hc
    obtain ⟨g1, g2, g3⟩ := putCells cs hs h hd0 hsol (o := i * e) (by omega)
    obtain ⟨cv', r1, r2, r3⟩ := fillA_sound ps vs (putL cs (i * e) x.cells) _ (by simpa using hl) (fun k p q hp hq => hd (k + 1) p q (by simpa using hp) (by simpa using hq)) hc' g1 g3
    refine ⟨cv', ?_, r2, r3⟩
    simp only [Instr.fill]
    rw [if_neg (by simp [g2, hxl]; omega)]
    exact r1

theorem places_eq : ∀ (F : List Field) (fs : List (Nat × Bool × Nat)), F.length = fs.length →
    (∀ (j o : Nat) (a : Bool) (m : Nat), fs[j]? = some (o, a, m) → ∃ fl : Field, F[j]? = some fl ∧ fl.offset = o ∧ sizeB P fl.type m = true) →
    F.mapM (fun f => (P.info? f.type).map fun i => (f.offset, i.size)) = some (fs.map fun x => (x.1, x.2.2))
  | [], [], _, _ => rfl
  | [], _ :: _, h, _ => by simp at h
  | _ :: _, [], h, _ => by simp at h
  | f :: F, (o, a, m) :: fs, hl, h => by
    obtain ⟨fl, h1, h2, h3⟩ := h 0 o a m rfl
    simp at h1
    subst h1
    have ih := places_eq F fs (by simpa using hl) fun j o a m hj => by simpa using h (j + 1) o a m (by simpa using hj)
    unfold sizeB at h3
    cases hi : P.info? f.type with
    | none => simp [hi] at h3
    | some i =>
      simp only [hi, beq_iff_eq] at h3
      simp only [List.mapM_cons, hi, Option.map_some, Option.bind_eq_bind, Option.bind_some, ih, Option.pure_def, h2, h3, List.map_cons]

theorem build_sound {z : List SV} (ht : tyB P T ti = true) (hz : zeroB P T z = true) {ps : List (Nat × SV)} {vs : Array (Nat × Value)} (hl : vs.size = ps.length)
    (hd : ∀ (i : Nat) (p : Nat × SV) (q : Nat × Value), ps[i]? = some p → vs[i]? = some q → p.1 = q.1 ∧ Den X w p.2 q.2) (hc : (evBuild ti z B ps).vc) :
    ∃ u, (∀ w, (Instr.build T vs).run P w = .ok u w) ∧ Den X w (evBuild ti z B ps).v u ∧ (evBuild ti z B ps).B = B := by
  simp only [evBuild] at hc ⊢
  obtain ⟨hc1, hc2, hc3⟩ := hc
  have hbad : ti ≠ .bad := by intro e; subst e; simp [TyI.agg] at hc3
  have hsz := tyB_size ht hbad
  obtain ⟨v, hz1, hz2⟩ := zeroB_spec hz
  obtain ⟨h7, h8⟩ := cellsAre_den (X := X) (w := w) hz2
  have hit : ∃ it, P.info? T = some it ∧ it.zero = some v := by
    have := hz1 w
    simp only [zeroValue, typeInfo] at this
    cases hi : P.info? T with
    | none => simp [hi] at this
    | some it =>
      cases hzz : it.zero with
      | none => simp [hi, hzz] at this
      | some v' => simp [hi, hzz] at this; subst this; exact ⟨it, rfl, hzz⟩
  obtain ⟨it, hi, hzz⟩ := hit
  cases ti <;> simp only [TyI.agg, Bool.false_eq_true] at hc3
  case struct fs n =>
    obtain ⟨F, hu, hF, hf⟩ := tyB_struct ht
    have hpl := places_eq (P := P) F.toList fs (by simpa using hF) fun j o a m hj => by
      obtain ⟨fl, h1, h2, h3, _⟩ := hf j o a m hj
      exact ⟨fl, by simpa using h1, h2, h3⟩
    obtain ⟨cv', r1, r2, r3⟩ := fillS_sound (n := n) (fs := fs) (pl := ((fs.map fun x => (x.1, x.2.2)).toArray[·]?)) (fun j o a m hj => by simp [hj]) ps vs.toList z v.cells (by simpa using hl) (fun i p q hp hq => hd i p q hp (by simpa using hq)) hc1 (by simpa using h7) (by simpa using h8)
    refine ⟨.agg cv', fun w' => run_build w' T vs cv' ?_, .agg r2 r3, trivial⟩
    simp only [Program.built, hi, hu, hzz, hpl]
    exact r1
  case array len ag e =>
    obtain ⟨E, hu, hsE, _⟩ := tyB_array ht
    obtain ⟨cv', r1, r2, r3⟩ := fillA_sound (len := len) (ag := ag) ps vs.toList z v.cells (by simpa using hl) (fun i p q hp hq => hd i p q hp (by simpa using hq)) hc1 (by simpa using h7) (by simpa using h8)
    refine ⟨.agg cv', fun w' => run_build w' T vs cv' ?_, .agg r2 r3, trivial⟩
    unfold sizeB at hsE
    cases hiE : P.info? E with
    | none => simp [hiE] at hsE
    | some ie =>
      simp only [hiE, beq_iff_eq] at hsE
      simp only [Program.built, hi, hu, hzz, hiE, hsE]
      exact r1

theorem copy_sound {T2 ty : TypeId} (ht : tyB P T ti = true) (hs : Sat X w B) {s sx : SV} {v x : Value} (hd : Den X w s v) (hx : Den X w sx x) (hc : (evCopy ti B s sx).vc) :
    ∃ u w', (Builtin.copy_ #[T, T2] ty #[v, x]).run P w = .ok u w' ∧ Sat X w' (evCopy ti B s sx).B ∧ Den X w' (evCopy ti B s sx).v u ∧ Ext X w B X w' (evCopy ti B s sx).B := by
  cases ti <;> simp only [evCopy, bad] at hc
  case slice E esz eb =>
  obtain ⟨hu, i0, z, hi, h3, h4, h5, h6⟩ := tyB_slice ht
  have hsize : (sizeOf E).run P w = .ok esz w := sizeB_spec (by simp [sizeB, hi, h3]) w
  simp only [evCopy] at hc ⊢
  have hsrc := fun he hcc => src_sound (P := P) (esz := esz) he hs hx hcc
  have hsol := fun hcc hss => src_solid (B := B) (esz := esz) (s := sx) hcc hss
  generalize srcOf esz B sx = yc at *
  obtain ⟨ys, c⟩ := yc
  simp only at *
  have main : ∀ (i b cap lo n : Nat) (cp : Nat) (ad : Addr) (E2 : TypeId) (xs : List (List SV)), getD' B i = .row (.at b cap) E2 esz xs → lo + n ≤ xs.length → c → srcSolid B sx → 0 < esz → (0 < n → ad = ⟨b, lo * esz, none⟩) →
      ∃ u w', (Builtin.copy_ #[T, T2] ty #[.slice (some ad) n cp, x]).run P w = .ok u w' ∧ Sat X w' (B.set i (.row (.at b cap) E2 esz (xs.take lo ++ ys.take (min n ys.length) ++ xs.drop (lo + min n ys.length)))) ∧
        Den X w' (.int .i64 (min n ys.length : Nat)) u ∧ Ext X w B X w' (B.set i (.row (.at b cap) E2 esz (xs.take lo ++ ys.take (min n ys.length) ++ xs.drop (lo + min n ys.length)))) := by
    intro i b cap lo n cp ad E2 xs hg hle hc1 hc2 he hadr
    have hi' := getD'_lt hg
    obtain ⟨hl, hff⟩ := hsrc he hc1
    obtain ⟨ns, hn1, hn2⟩ := hff (min n ys.length) (Nat.min_le_right _ _)
    have hones := ones_of he hn2 fun y hy => hsol hc1 hc2 y (List.mem_of_mem_take hy)
    obtain ⟨vs, a1, a2, a3, a4⟩ := row_cells hs hg
    obtain ⟨m, hm⟩ : ∃ m, m = min n ys.length := ⟨_, rfl⟩
    rw [← hm] at hn1 hn2 ⊢
    have hns : ns.length = m * esz := by rw [hn2.len]; simp; rw [hm]; congr 1; omega
    have hbound : lo * esz + m * esz ≤ vs.size := by rw [a2, ← Nat.add_mul]; exact Nat.mul_le_mul_right _ (by omega)
    let new := (vs.toList.take (lo * esz) ++ ns ++ vs.toList.drop (lo * esz + ns.length)).toArray
    have hnew : new.size = vs.size := by simp [new, hns]; omega
    have hself : m = 0 → w.setRow b new = w := by
      intro h0
      have : ns = [] := List.length_eq_zero_iff.1 (by rw [hns, h0]; simp)
      have e : new = vs := by apply Array.ext'; simp [new, this]
      rw [e]; exact setRow_self w b vs E2 (0, 0) a1
    have hst : (storeCells ad ns).run P w = .ok () (w.setRow b new) := by
      by_cases h0 : m = 0
      · have : ns = [] := List.length_eq_zero_iff.1 (by rw [hns, h0]; simp)
        rw [hself h0, this]; simp [storeCells]
      · rw [hadr (by omega)]
        have := run_storeCells_at (P := P) b (lo * esz) E2 ns 0 vs w a1 (by omega) hones
        simpa [new] using this
    have hblk : ∀ c, c < w.heap.size → c ∉ (getD' B i).blocks → (w.setRow b new).heap[c]? = w.heap[c]? := fun c _ hcn => by
      rw [heap_setRow w b new vs E2 a1, if_neg]
      rw [hg] at hcn; simpa [Own.blocks] using hcn
    have hrun : (Builtin.copy_ #[T, T2] ty #[.slice (some ad) n cp, x]).run P w = .ok (.int .i64 (m : Nat)) (w.setRow b new) := by
      have e1 : Nat.min ys.length n = m := by rw [hm]; exact Nat.min_comm _ _
      simp only [Builtin.copy_, List.getElem?_toArray, List.getElem?_cons_zero, List.getElem?_cons_succ, Sem.run_bind, run_underlying hu, Result.andThen_ok, hl, hsize, e1, hn1, hst, Sem.run_pure]
      rfl
    refine ⟨_, _, hrun, ?_, .int .., ?_⟩
    · refine hs.replace hi' (by simp) hblk (fun c hc => .inl (by rw [hg]; simpa [Own.blocks] using hc)) ?_
      have hcl : Cells X (w.setRow b new) esz (xs.take lo ++ ys.take m ++ xs.drop (lo + m)) ((vs.toList.take (xs.length * esz)).take (lo * esz) ++ ns ++ (vs.toList.take (xs.length * esz)).drop ((lo + m) * esz)) := by
        exact (((a4.take lo).append hn2).append (a4.drop (lo + m))).mono (fun _ h => h) fun c hc => hblk c (hs.xlt c hc) fun hm => hs.apart c hc ⟨i, hm⟩
      have hlen2 : (xs.take lo ++ ys.take m ++ xs.drop (lo + m)).length = xs.length := by simp; omega
      refine ⟨new, by rw [heap_setRow w b new vs E2 a1, if_pos rfl], by rw [hnew, a2], by omega, hcl.each, fun k j x' s hx' hs' => ?_⟩
      have hd' := hcl.den k j x' s hx' hs'
      have hk : k < xs.length := by
        rw [← hlen2]
        rcases Nat.lt_or_ge k (xs.take lo ++ ys.take m ++ xs.drop (lo + m)).length with h' | h'
        · exact h'
        · rw [List.getElem?_eq_none h'] at hx'; cases hx'
      have hj : j < esz := by
        have := hcl.each _ _ hx'
        rcases Nat.lt_or_ge j x'.length with h' | h'
        · omega
        · rw [List.getElem?_eq_none h'] at hs'; cases hs'
      have hlt := idx_lt hk hj
      have hxs : xs.length * esz ≤ vs.size := by rw [a2]; exact Nat.mul_le_mul_right _ a3
      have e2 : ((vs.toList.take (xs.length * esz)).take (lo * esz) ++ ns ++ (vs.toList.take (xs.length * esz)).drop ((lo + m) * esz)).getD (k * esz + j) undef = new.getD (k * esz + j) undef := by
        simp only [new, Array.getD_eq_getD_getElem?, List.getElem?_toArray, List.getD_eq_getElem?_getD]
        congr 1
        have hlo : lo * esz ≤ xs.length * esz := Nat.mul_le_mul_right _ (by omega)
        have hlm : (lo + m) * esz ≤ xs.length * esz := Nat.mul_le_mul_right _ (by omega)
        rw [Nat.add_mul] at hlm ⊢
        have ht1 : (vs.toList.take (xs.length * esz)).take (lo * esz) = vs.toList.take (lo * esz) := by rw [List.take_take, Nat.min_eq_left hlo]
        rw [ht1, hns]
        have hl1 : (List.take (lo * esz) vs.toList ++ ns).length = lo * esz + m * esz := by simp [hns]; omega
        by_cases hlt2 : k * esz + j < lo * esz + m * esz
        · rw [List.getElem?_append_left (l₁ := List.take (lo * esz) vs.toList ++ ns) (by omega), List.getElem?_append_left (l₁ := List.take (lo * esz) vs.toList ++ ns) (by omega)]
        · rw [List.getElem?_append_right (l₁ := List.take (lo * esz) vs.toList ++ ns) (by omega), List.getElem?_append_right (l₁ := List.take (lo * esz) vs.toList ++ ns) (by omega), hl1, List.getElem?_drop, List.getElem?_drop, List.getElem?_take_of_lt (by omega)]
      rw [e2] at hd'
      exact hd'
    · exact Ext.replace hi' rfl rfl rfl (by simp) hblk (fun c hc => .inl (by rw [hg]; simpa [Own.blocks] using hc))
  cases hd <;> simp only at hc
  case rowVoid i a e lo =>
    cases hg : getD' B i with
    | gone => simp [hg] at hc
    | row h2 E2 e2 xs =>
      simp only [hg] at hc ⊢
      obtain ⟨rfl, rfl, rfl, hle, hc1, hc2, he⟩ := hc
      have hxs := hs.rowVoid hg
      subst hxs
      have hlo : lo = 0 := by simpa using hle
      subst hlo
      have hi' := getD'_lt hg
      obtain ⟨hl, hff⟩ := hsrc he hc1
      obtain ⟨ns, hn1, hn2⟩ := hff 0 (Nat.zero_le _)
      have hns : ns = [] := by have := hn2.len; simpa using this
      subst hns
      refine ⟨.int .i64 ((min 0 ys.length : Nat) : Int), w, ?_, ?_, .int .., ?_⟩
      · have e1 : Nat.min ys.length 0 = 0 := Nat.min_zero _
        simp only [Builtin.copy_, List.getElem?_toArray, List.getElem?_cons_zero, List.getElem?_cons_succ, Sem.run_bind, run_underlying hu, Result.andThen_ok, hl, hsize, e1, hn1]
        cases a <;> simp [storeCells, goInt]
      · have : (List.take 0 ([] : List (List SV)) ++ List.take (min 0 ys.length) ys ++ List.drop (0 + min 0 ys.length) []) = [] := by simp
        rw [this]
        exact hs.replace hi' (Nat.le_refl _) (fun _ _ _ => rfl) (by simp [Own.blocks]) (by simp [Own.ok])
      · exact Ext.replace hi' rfl rfl rfl (Nat.le_refl _) (fun _ _ _ => rfl) (by simp [Own.blocks])
  case rowAt i b cap e n hncap =>
    cases hg : getD' B i with
    | gone => simp [hg] at hc
    | row h2 E2 e2 xs =>
      simp only [hg] at hc ⊢
      obtain ⟨rfl, rfl, rfl, hle, hc1, hc2, he⟩ := hc
      exact main i b cap 0 n cap ⟨b, 0, none⟩ E2 xs hg hle hc1 hc2 he (fun _ => by simp)
  case rowLo i b cap e lo n cp hn hnc =>
    cases hg : getD' B i with
    | gone => simp [hg] at hc
    | row h2 E2 e2 xs =>
      simp only [hg] at hc ⊢
      obtain ⟨rfl, rfl, rfl, hle, hc1, hc2, he⟩ := hc
      exact main i b cap (lo + 1) n cp _ E2 xs hg hle hc1 hc2 he (fun _ => rfl)
  case rowLo0 i b cap e lo cp a =>
    cases hg : getD' B i with
    | gone => simp [hg] at hc
    | row h2 E2 e2 xs =>
      simp only [hg] at hc ⊢
      obtain ⟨rfl, rfl, rfl, hle, hc1, hc2, he⟩ := hc
      cases a with
      | some ad => exact main i b cap (lo + 1) 0 cp ad E2 xs hg hle hc1 hc2 he (fun h => by omega)
      | none =>
        have hi' := getD'_lt hg
        obtain ⟨hl, hff⟩ := hsrc he hc1
        obtain ⟨ns, hn1, hn2⟩ := hff 0 (Nat.zero_le _)
        have hns : ns = [] := by have := hn2.len; simpa using this
        subst hns
        have hsame : (xs.take (lo + 1) ++ ys.take (min 0 ys.length) ++ xs.drop (lo + 1 + min 0 ys.length)) = xs := by simp
        refine ⟨.int .i64 ((min 0 ys.length : Nat) : Int), w, ?_, ?_, .int .., ?_⟩
        · have e1 : Nat.min ys.length 0 = 0 := Nat.min_zero _
          simp only [Builtin.copy_, List.getElem?_toArray, List.getElem?_cons_zero, List.getElem?_cons_succ, Sem.run_bind, run_underlying hu, Result.andThen_ok, hl, hsize, e1, hn1]
          simp [goInt]
        · rw [hsame, ← hg]
          have := hs.ok i
          exact hs.replace hi' (Nat.le_refl _) (fun _ _ _ => rfl) (fun c hc => .inl hc) this
        · rw [hsame, ← hg]
          exact Ext.replace hi' rfl rfl rfl (Nat.le_refl _) (fun _ _ _ => rfl) (fun c hc => .inl hc)
theorem row_put (hs : Sat X w B) {i b cap lo esz : Nat} {ad : Addr} {E2 : TypeId} {xs ys : List (List SV)} {ns : List Value} (hg : getD' B i = .row (.at b cap) E2 esz xs) (hle : lo + ys.length ≤ xs.length) (hn2 : Cells X w esz ys ns)
    (hones : ∀ v ∈ ns, v.oneCell' = true) (hadr : 0 < ys.length → ad = ⟨b, lo * esz, none⟩) :
    ∃ w', (storeCells ad ns).run P w = .ok () w' ∧ Sat X w' (B.set i (.row (.at b cap) E2 esz (xs.take lo ++ ys ++ xs.drop (lo + ys.length)))) ∧ Ext X w B X w' (B.set i (.row (.at b cap) E2 esz (xs.take lo ++ ys ++ xs.drop (lo + ys.length)))) := by
  have hi' := getD'_lt hg
  obtain ⟨vs, a1, a2, a3, a4⟩ := row_cells hs hg
  obtain ⟨m, hm⟩ : ∃ m, m = ys.length := ⟨_, rfl⟩
  rw [← hm] at hle hadr ⊢
  have hns : ns.length = m * esz := by rw [hn2.len, hm]
  have hbound : lo * esz + m * esz ≤ vs.size := by rw [a2, ← Nat.add_mul]; exact Nat.mul_le_mul_right _ (by omega)
  let new := (vs.toList.take (lo * esz) ++ ns ++ vs.toList.drop (lo * esz + ns.length)).toArray
  have hnew : new.size = vs.size := by simp [new, hns]; omega
  have hself : m = 0 → w.setRow b new = w := by
    intro h0
    have : ns = [] := List.length_eq_zero_iff.1 (by rw [hns, h0]; simp)
    have e : new = vs := by apply Array.ext'; simp [new, this]
    rw [e]; exact setRow_self w b vs E2 (0, 0) a1
  have hst : (storeCells ad ns).run P w = .ok () (w.setRow b new) := by
    by_cases h0 : m = 0
    · have : ns = [] := List.length_eq_zero_iff.1 (by rw [hns, h0]; simp)
      rw [hself h0, this]; simp [storeCells]
    · rw [hadr (by omega)]
      have := run_storeCells_at (P := P) b (lo * esz) E2 ns 0 vs w a1 (by omega) hones
      simpa [new] using this
  have hblk : ∀ c, c < w.heap.size → c ∉ (getD' B i).blocks → (w.setRow b new).heap[c]? = w.heap[c]? := fun c _ hcn => by
    rw [heap_setRow w b new vs E2 a1, if_neg]
    rw [hg] at hcn; simpa [Own.blocks] using hcn
  refine ⟨_, hst, ?_, ?_⟩
  · refine hs.replace hi' (by simp) hblk (fun c hc => .inl (by rw [hg]; simpa [Own.blocks] using hc)) ?_
    have hcl : Cells X (w.setRow b new) esz (xs.take lo ++ ys ++ xs.drop (lo + m)) ((vs.toList.take (xs.length * esz)).take (lo * esz) ++ ns ++ (vs.toList.take (xs.length * esz)).drop ((lo + m) * esz)) := by
      exact (((a4.take lo).append hn2).append (a4.drop (lo + m))).mono (fun _ h => h) fun c hc => hblk c (hs.xlt c hc) fun hm => hs.apart c hc ⟨i, hm⟩
    have hlen2 : (xs.take lo ++ ys ++ xs.drop (lo + m)).length = xs.length := by simp; omega
    refine ⟨new, by rw [heap_setRow w b new vs E2 a1, if_pos rfl], by rw [hnew, a2], by omega, hcl.each, fun k j x' s hx' hs' => ?_⟩
    have hd' := hcl.den k j x' s hx' hs'
    have hk : k < xs.length := by
      rw [← hlen2]
      rcases Nat.lt_or_ge k (xs.take lo ++ ys ++ xs.drop (lo + m)).length with h' | h'
      · exact h'
      · rw [List.getElem?_eq_none h'] at hx'; cases hx'
    have hj : j < esz := by
      have := hcl.each _ _ hx'
      rcases Nat.lt_or_ge j x'.length with h' | h'
      · omega
      · rw [List.getElem?_eq_none h'] at hs'; cases hs'
    have hlt := idx_lt hk hj
    have hxs : xs.length * esz ≤ vs.size := by rw [a2]; exact Nat.mul_le_mul_right _ a3
    have e2 : ((vs.toList.take (xs.length * esz)).take (lo * esz) ++ ns ++ (vs.toList.take (xs.length * esz)).drop ((lo + m) * esz)).getD (k * esz + j) undef = new.getD (k * esz + j) undef := by
      simp only [new, Array.getD_eq_getD_getElem?, List.getElem?_toArray, List.getD_eq_getElem?_getD]
      congr 1
      have hlo : lo * esz ≤ xs.length * esz := Nat.mul_le_mul_right _ (by omega)
      have hlm : (lo + m) * esz ≤ xs.length * esz := Nat.mul_le_mul_right _ (by omega)
      rw [Nat.add_mul] at hlm ⊢
      have ht1 : (vs.toList.take (xs.length * esz)).take (lo * esz) = vs.toList.take (lo * esz) := by rw [List.take_take, Nat.min_eq_left hlo]
      rw [ht1, hns]
      have hl1 : (List.take (lo * esz) vs.toList ++ ns).length = lo * esz + m * esz := by simp [hns]; omega
      by_cases hlt2 : k * esz + j < lo * esz + m * esz
      · rw [List.getElem?_append_left (l₁ := List.take (lo * esz) vs.toList ++ ns) (by omega), List.getElem?_append_left (l₁ := List.take (lo * esz) vs.toList ++ ns) (by omega)]
      · rw [List.getElem?_append_right (l₁ := List.take (lo * esz) vs.toList ++ ns) (by omega), List.getElem?_append_right (l₁ := List.take (lo * esz) vs.toList ++ ns) (by omega), hl1, List.getElem?_drop, List.getElem?_drop, List.getElem?_take_of_lt (by omega)]
    rw [e2] at hd'
    exact hd'
  · exact Ext.replace hi' rfl rfl rfl (by simp) hblk (fun c hc => .inl (by rw [hg]; simpa [Own.blocks] using hc))
theorem zeroCells_flat (z : Array Value) (n : Nat) : (Builtin.zeroCells z n).toList = (List.replicate n z.toList).flatten := by
  have hr : ∀ n, ((List.range (n * z.size)).map fun i => z[i % z.size]!) = (List.replicate n z.toList).flatten := by
    intro n
    induction n with
    | zero => simp
    | succ n ih =>
      rw [List.replicate_succ', List.flatten_append, ← ih, Nat.succ_mul, List.range_add, List.map_append]
      congr 1
      rw [List.map_map]
      simp only [List.flatten_cons, List.flatten_nil, List.append_nil]
      apply List.ext_getElem
      · simp
      · intro k h1 h2
        simp only [List.length_map, List.length_range] at h1
        simp [Nat.mod_eq_of_lt h1, h1]
  rw [← hr]
  simp [Builtin.zeroCells]
theorem clear_sound {zr : Nat → List SV} {ty : TypeId} (ht : tyB P T ti = true) (hz : ∀ E, 0 < (zr E).length → zeroB P E (zr E) = true) (hs : Sat X w B) {s : SV} {v : Value} (hd : Den X w s v) (hc : (evClear ti zr B s).vc) :
    ∃ u w', (Builtin.clear_ #[T] ty #[v]).run P w = .ok u w' ∧ Sat X w' (evClear ti zr B s).B ∧ Den X w' (evClear ti zr B s).v u ∧ Ext X w B X w' (evClear ti zr B s).B := by
  cases ti <;> simp only [evClear, bad] at hc
  case slice E esz eb =>
  obtain ⟨hu, i0, z, hi, h3, h4, h5, h6⟩ := tyB_slice ht
  simp only [evClear] at hc ⊢
  have dn : Den X w (.tup []) (.tuple #[]) := .tup rfl fun i c h => by simp at h
  have main : ∀ (i b cap lo n cp : Nat) (ad : Addr) (E2 : TypeId) (xs : List (List SV)), getD' B i = .row (.at b cap) E2 esz xs → lo + n ≤ xs.length → 0 < esz → (zr E).length = esz → solids (zr E) = true → (0 < n → ad = ⟨b, lo * esz, none⟩) →
      ∃ u w', (Builtin.clear_ #[T] ty #[.slice (some ad) n cp]).run P w = .ok u w' ∧ Sat X w' (B.set i (.row (.at b cap) E2 esz (xs.take lo ++ List.replicate n (zr E) ++ xs.drop (lo + n)))) ∧
        Den X w' (.tup []) u ∧ Ext X w B X w' (B.set i (.row (.at b cap) E2 esz (xs.take lo ++ List.replicate n (zr E) ++ xs.drop (lo + n)))) := by
    intro i b cap lo n cp ad E2 xs hg hle he hzl hsol hadr
    obtain ⟨z', hz1, hz2⟩ := zeroB_spec (hz E (by omega))
    obtain ⟨h7, h8⟩ := cellsAre_den (X := X) (w := w) hz2
    have hsz : z'.cells.size = esz := by have := h7; simp at this; omega
    have hcl := cells_replicate (n := n) (cells_one (X := X) (w := w) hzl (by rw [h7, hzl]) h8)
    have hfl : (Builtin.zeroCells z'.cells n).toList = (List.replicate n z'.cells.toList).flatten := zeroCells_flat _ n
    rw [← hfl] at hcl
    have hones := ones_of he hcl fun y hy => by rw [(List.mem_replicate.1 hy).2]; exact hsol
    have hput := row_put (P := P) (ad := ad) hs hg (ys := List.replicate n (zr E)) (by simpa using hle) hcl hones (by simpa using hadr)
    simp only [List.length_replicate] at hput
    obtain ⟨w', g1, g2, g3⟩ := hput
    have hzero : n = 0 → w' = w := by
      intro h0
      subst h0
      have : (Builtin.zeroCells z'.cells 0).toList = [] := by rw [hfl]; simp
      rw [this] at g1
      simp [storeCells] at g1
      exact g1.symm
    refine ⟨.tuple #[], w', ?_, g2, .tup rfl (fun i c h => by simp at h), g3⟩
    cases n with
    | zero =>
      rw [hzero rfl]
      simp [Builtin.clear_, run_underlying hu]
    | succ n =>
      simp only [Builtin.clear_, List.getElem?_toArray, List.getElem?_cons_zero, Sem.run_bind, run_underlying hu, Result.andThen_ok, hz1, g1, Sem.run_pure]
  cases hd <;> simp only at hc
  case rowVoid i a e lo =>
    cases hg : getD' B i with
    | gone => simp [hg] at hc
    | row h2 E2 e2 xs =>
      simp only [hg] at hc ⊢
      obtain ⟨rfl, rfl, rfl, hle, he, hzl, hsol⟩ := hc
      have hxs := hs.rowVoid hg
      subst hxs
      have hlo : lo = 0 := by simpa using hle
      subst hlo
      have hi' := getD'_lt hg
      refine ⟨.tuple #[], w, ?_, ?_, .tup rfl (fun i c h => by simp at h), ?_⟩
      · cases a <;> simp [Builtin.clear_, run_underlying hu]
      · exact hs.replace hi' (Nat.le_refl _) (fun _ _ _ => rfl) (by simp [Own.blocks]) (by simp [Own.ok])
      · exact Ext.replace hi' rfl rfl rfl (Nat.le_refl _) (fun _ _ _ => rfl) (by simp [Own.blocks])
  case rowAt i b cap e n hncap =>
    cases hg : getD' B i with
    | gone => simp [hg] at hc
    | row h2 E2 e2 xs =>
      simp only [hg] at hc ⊢
      obtain ⟨rfl, rfl, rfl, hle, he, hzl, hsol⟩ := hc
      exact main i b cap 0 n cap ⟨b, 0, none⟩ E2 xs hg hle he hzl hsol (fun _ => by simp)
  case rowLo i b cap e lo n cp hn hnc =>
    cases hg : getD' B i with
    | gone => simp [hg] at hc
    | row h2 E2 e2 xs =>
      simp only [hg] at hc ⊢
      obtain ⟨rfl, rfl, rfl, hle, he, hzl, hsol⟩ := hc
      exact main i b cap (lo + 1) n cp _ E2 xs hg hle he hzl hsol (fun _ => rfl)
  case rowLo0 i b cap e lo cp a =>
    cases hg : getD' B i with
    | gone => simp [hg] at hc
    | row h2 E2 e2 xs =>
      simp only [hg] at hc ⊢
      obtain ⟨rfl, rfl, rfl, hle, he, hzl, hsol⟩ := hc
      cases a with
      | some ad => exact main i b cap (lo + 1) 0 cp ad E2 xs hg hle he hzl hsol (fun h => by omega)
      | none =>
        have hi' := getD'_lt hg
        have hsame : (xs.take (lo + 1) ++ List.replicate 0 (zr E) ++ xs.drop (lo + 1 + 0)) = xs := by simp
        refine ⟨.tuple #[], w, ?_, ?_, .tup rfl (fun i c h => by simp at h), ?_⟩
        · simp [Builtin.clear_, run_underlying hu]
        · rw [hsame, ← hg]
          have := hs.ok i
          exact hs.replace hi' (Nat.le_refl _) (fun _ _ _ => rfl) (fun c hc => .inl hc) this
        · rw [hsame, ← hg]
          exact Ext.replace hi' rfl rfl rfl (Nat.le_refl _) (fun _ _ _ => rfl) (fun c hc => .inl hc)
end
end Go.Lift
end
section
namespace Go.Lift
section
variable {P : Program} {T : TypeId} {ti : TyI} {X : Nat → Prop} {w : World} {B : List Own}

theorem sliceB_sound {kp : Bool} {E esz eb : Nat} {lo hi : Nat} {mx : Option Nat} {s : SV} {a : Option Addr} {n cap : Nat} (hs : Sat X w B) (hd : Den X w s (.slice a n cap)) (hc : (evSliceB kp (.slice E esz eb) B s lo hi mx).vc) :
    lo ≤ hi ∧ hi ≤ cap ∧ n ≤ cap ∧ (∀ m, mx = some m → hi ≤ m ∧ m ≤ cap) ∧
    Den X w (evSliceB kp (.slice E esz eb) B s lo hi mx).v (sliced a lo hi (mx.getD cap) esz) ∧ (evSliceB kp (.slice E esz eb) B s lo hi mx).B = B := by
  cases hd <;> simp only [evSliceB, bad] at hc
  case slNil full e f hf =>
    cases mx with
    | none =>
      obtain ⟨h1, h2, _⟩ := hc
      have : lo = 0 := by omega
      have : hi = 0 := by omega
      subst lo hi
      refine ⟨h1, Nat.zero_le _, Nat.zero_le _, by simp, ?_, by simp [evSliceB]⟩
      simp only [evSliceB, sliced, Option.getD_none]
      exact .slNil (by simp)
    | some m =>
      obtain ⟨h1, h2, rfl, _⟩ := hc
      have : lo = 0 := by omega
      have : m = 0 := by omega
      subst lo m
      refine ⟨h1, Nat.zero_le _, Nat.zero_le _, by simp, ?_, by simp [evSliceB]⟩
      simp only [evSliceB, sliced, Option.getD_some]
      exact .slNil (by simp)
  case slAt full e f b off g hX hn hl hw h hcap hf =>
    have key : lo ≤ hi → hi ≤ n → e = esz → ∀ m, hi ≤ m → m ≤ cap → ∀ full', (full' = true → m = hi) → Den X w (.sl full' e (hi - lo) (sub f n lo (hi - lo))) (sliced (some ⟨b, off, none⟩) lo hi m esz) := by
      intro h1 h2 he m hm1 hm2 full' hfull
      subst he
      by_cases h0 : hi - lo = 0
      · rw [h0]
        simp only [sliced, h0]
        exact .slNil (fun hh => by have := hfull hh; omega)
      · simp only [sliced]
        rw [if_neg (by omega)]
        simp only [Option.map_some, add_none]
        refine .slAt (fun k j => g (lo + k) j) (by omega) (by omega) (fun hh => by have := hfull hh; omega) hX (fun k hk => by simp only [sub, if_pos hk]; exact hl _ (by omega)) (fun k j hk hj => ?_) (fun k j c hk hcc => by simp only [sub, if_pos hk] at hcc; exact h _ _ _ (by omega) hcc)
        have := hw (lo + k) j (by omega) hj
        rw [Nat.add_mul] at this
        rw [← this]; congr 2; omega
    cases mx with
    | none =>
      obtain ⟨h1, h2, h3⟩ := hc
      exact ⟨h1, by omega, hcap, by simp, by simpa [evSliceB] using key h1 h2 (by omega) cap (by omega) (Nat.le_refl _) false (by simp), by simp [evSliceB]⟩
    | some m =>
      obtain ⟨h1, h2, rfl, h3⟩ := hc
      exact ⟨h1, by omega, hcap, fun k hk => by cases hk; omega, by simpa [evSliceB] using key h1 h2 (by omega) m (Nat.le_refl _) (by omega) true (by simp), by simp [evSliceB]⟩
  case rowVoid i e l0 =>
    cases mx with
    | some m =>
      cases kp with
      | false => exact hc.elim
      | true =>
        obtain ⟨h1, h2, h3, _⟩ := hc
        exact ⟨h1, by omega, Nat.le_refl _, fun k hk => by cases hk; omega, .any _, by simp [evSliceB]⟩
    | none =>
      have hh : lo ≤ hi ∧ hi = 0 := by
        cases kp with
        | false => exact ⟨hc.1, by have := hc.2.1; omega⟩
        | true =>
          refine ⟨hc.1, ?_⟩
          rcases hc.2.1 with h | ⟨_, h⟩
          · omega
          · unfold rowHas at h
            split at h
            · rename_i hg
              obtain ⟨rfl, _, h⟩ := h
              rw [hs.rowVoid hg] at h
              simpa using h
            · exact h.elim
      obtain ⟨h1, rfl⟩ := hh
      obtain rfl : lo = 0 := by omega
      exact ⟨h1, Nat.zero_le _, Nat.le_refl _, by simp, by simpa [evSliceB, sliced] using Den.rowVoid (X := X) (w := w) i a e l0, by simp [evSliceB]⟩
  case rowAt i b e hncap =>
    cases mx with
    | some m =>
      cases kp with
      | false => exact hc.elim
      | true =>
        obtain ⟨h1, h2, h3, _⟩ := hc
        exact ⟨h1, by omega, hncap, fun k hk => by cases hk; omega, .any _, by simp [evSliceB]⟩
    | none =>
      have hh : hi ≤ cap := by
        cases kp with
        | false => have := hc.2.1; omega
        | true =>
          rcases hc.2.1 with h | ⟨_, h⟩
          · omega
          · unfold rowHas at h
            split at h
            · rename_i hg
              obtain ⟨rfl, _, h⟩ := h
              obtain ⟨_, _, _, h3, _⟩ := hs.row hg
              omega
            · exact h.elim
      obtain ⟨h1, _, rfl⟩ := hc
      refine ⟨h1, hh, hncap, by simp, ?_, by simp [evSliceB]⟩
      simp only [evSliceB, sliced, Option.getD_none, Nat.zero_add]
      cases lo with
      | zero =>
        have e1 : (if cap = 0 then (some ⟨b, 0, none⟩ : Option Addr) else Option.map (fun (x : Addr) => x.add (0 * e)) (some ⟨b, 0, none⟩)) = some ⟨b, 0, none⟩ := by
          split <;> simp [add_none]
        rw [e1]
        exact .rowAt _ _ _ _ _ (by omega)
      | succ lo =>
        by_cases h0 : hi - (lo + 1) = 0
        · rw [h0]; exact .rowLo0 ..
        · rw [if_neg (by omega)]
          simp only [Option.map_some, add_none, Nat.zero_add]
          exact .rowLo _ _ _ _ _ _ _ (by omega) (by omega)
  case rowLo i b cap' e l0 hn hnc =>
    cases mx with
    | some m =>
      cases kp with
      | false => exact hc.elim
      | true =>
        obtain ⟨h1, h2, h3, _⟩ := hc
        exact ⟨h1, by omega, hnc, fun k hk => by cases hk; omega, .any _, by simp [evSliceB]⟩
    | none =>
      have h2 : hi ≤ n := by
        cases kp with
        | false => exact hc.2.1
        | true =>
          rcases hc.2.1 with h | ⟨h, _⟩
          · exact h
          · omega
      obtain ⟨h1, _, rfl⟩ := hc
      refine ⟨h1, by omega, hnc, by simp, ?_, by simp [evSliceB]⟩
      simp only [evSliceB, sliced, Option.getD_none]
      have e2 : l0 + 1 + lo = (l0 + lo) + 1 := by omega
      rw [e2]
      by_cases h0 : hi - lo = 0
      · rw [h0]; exact .rowLo0 ..
      · rw [if_neg (by omega)]
        simp only [Option.map_some, add_none]
        have e3 : (l0 + 1) * e + lo * e = (l0 + lo + 1) * e := by rw [← Nat.add_mul, show l0 + 1 + lo = l0 + lo + 1 by omega]
        rw [e3]
        exact .rowLo _ _ _ _ _ _ _ (by omega) (by omega)
  case rowLo0 i b cap' e l0 =>
    cases mx with
    | some m =>
      cases kp with
      | false => exact hc.elim
      | true =>
        obtain ⟨h1, h2, h3, _⟩ := hc
        exact ⟨h1, by omega, Nat.zero_le _, fun k hk => by cases hk; omega, .any _, by simp [evSliceB]⟩
    | none =>
      have h2 : hi ≤ 0 := by
        cases kp with
        | false => exact hc.2.1
        | true =>
          rcases hc.2.1 with h | ⟨h, _⟩
          · exact h
          · omega
      obtain ⟨h1, _, rfl⟩ := hc
      obtain rfl : lo = 0 := by omega
      obtain rfl : hi = 0 := by omega
      refine ⟨h1, Nat.zero_le _, Nat.zero_le _, by simp, ?_, by simp [evSliceB]⟩
      simp only [evSliceB, sliced, Option.getD_none]
      exact .rowLo0 ..

theorem slice_kind {kp : Bool} {s : SV} {v : Value} {lo hi : Nat} {mx : Option Nat} (hd : Den X w s v) (hc : (evSliceB kp ti B s lo hi mx).vc) :
    (∃ E esz eb, ti = .slice E esz eb ∧ ∃ a n cap, v = .slice a n cap ∧ s.len = n) ∨ (ti = .string ∧ ∃ l, s = .str l ∧ v = .string ⟨l.toArray⟩) := by
  cases ti <;> simp only [evSliceB, bad] at hc
  case string =>
    cases hd <;> simp only at hc
    exact .inr ⟨rfl, _, rfl, rfl⟩
  case slice E esz eb =>
    refine .inl ⟨E, esz, eb, rfl, ?_⟩
    cases hd <;> first | exact ⟨_, _, _, rfl, rfl⟩ | (simp only at hc; done)

theorem slice_sound {kp : Bool} (ht : tyB P T ti = true) (hs : Sat X w B) {s : SV} {v : Value} (hd : Den X w s v) {lo hi mx : Option SV} {vlo vhi vmx : Option Value}
    (hlo : ∀ x, lo = some x → ∃ y, vlo = some y ∧ Den X w x y) (hlo' : lo = none → vlo = none) (hhi : ∀ x, hi = some x → ∃ y, vhi = some y ∧ Den X w x y) (hhi' : hi = none → vhi = none)
    (hmx : ∀ x, mx = some x → ∃ y, vmx = some y ∧ Den X w x y) (hmx' : mx = none → vmx = none) (hc : (evSlice kp ti B s lo hi mx).vc) :
    ∃ u, (∀ w, (Instr.sliceAt T v vlo vhi vmx).run P w = .ok u w) ∧ Den X w (evSlice kp ti B s lo hi mx).v u ∧ (evSlice kp ti B s lo hi mx).B = B := by
  have str : ∀ (l : List UInt8) (a b : Nat) (vl vh : Option Value), a ≤ b → b ≤ l.length → T = T → P.underlying T = some .string → ((vl = none ∧ a = 0) ∨ ∃ k i, vl = some (.int k i) ∧ 0 ≤ i ∧ i.toNat = a) → ((vh = none ∧ b = l.length) ∨ ∃ k i, vh = some (.int k i) ∧ 0 ≤ i ∧ i.toNat = b) →
      ∀ w : World, (Instr.sliceAt T (.string ⟨l.toArray⟩) vl vh none).run P w = .ok (.string ⟨((l.drop a).take (b - a)).toArray⟩) w := by
    intro l a b vl vh h1 h2 _ hu hl hh w
    have hsz : (⟨l.toArray⟩ : ByteArray).size = l.length := by simp [ByteArray.size]
    have hext : (ByteArray.mk l.toArray).extract a b = ⟨((l.drop a).take (b - a)).toArray⟩ := by
      apply ByteArray.ext
      apply Array.ext'
      simp [ByteArray.data_extract, List.extract_eq_take_drop]
    have hb : ∀ (hi2 : Nat), (Instr.sliceBounds false (ByteArray.mk l.toArray).size (ByteArray.mk l.toArray).size vl vh none).run P w = .ok (a, b, l.length) w := by
      intro _
      rw [hsz]
      simp only [Instr.sliceBounds, Sem.run_bind, Sem.run_pure, Result.andThen_ok]
      rcases hh with ⟨rfl, rfl⟩ | ⟨k, i, rfl, h0, rfl⟩
      · rcases hl with ⟨rfl, rfl⟩ | ⟨k', i', rfl, h0', rfl⟩
        · simp
        · simp only [Sem.run_bind, Sem.run_pure, Result.andThen_ok, run_sliceBound (P := P) (w := w) k' i' l.length _ h0' (by omega), Option.isSome_none, Bool.false_eq_true, if_false]
      · have hb1 := run_sliceBound (P := P) (w := w) k i l.length .sliceAlen h0 (by omega)
        simp only [Sem.run_bind, Bool.false_eq_true, if_false]
        rw [hb1]
        simp only [Result.andThen_ok]
        rcases hl with ⟨rfl, rfl⟩ | ⟨k', i', rfl, h0', rfl⟩
        · simp
        · have hb2 := run_sliceBound (P := P) (w := w) k' i' i.toNat .sliceB h0' (by omega)
          simp only [hb2, Option.isSome_none, Bool.false_eq_true, if_false, Result.andThen_ok, Sem.run_bind, Sem.run_pure]
    simp only [Instr.sliceAt, Sem.run_bind, run_underlying hu, Result.andThen_ok, Instr.slice, Option.isSome_none, Bool.false_eq_true, if_false, hb 0, Sem.run_pure, hext]
  have slc : ∀ (E esz eb : Nat) (a : Option Addr) (n cap l h : Nat) (m : Option Nat) (vl vh vm : Option Value), tyB P T (.slice E esz eb) = true → l ≤ h → h ≤ cap → n ≤ cap → (∀ x, m = some x → h ≤ x ∧ x ≤ cap) →
      ((vl = none ∧ l = 0) ∨ ∃ k i, vl = some (.int k i) ∧ 0 ≤ i ∧ i.toNat = l) → ((vh = none ∧ h = n ∧ m = none) ∨ ∃ k i, vh = some (.int k i) ∧ 0 ≤ i ∧ i.toNat = h) → ((vm = none ∧ m = none) ∨ ∃ k i, vm = some (.int k i) ∧ 0 ≤ i ∧ m = some i.toNat) →
      ∀ w : World, (Instr.sliceAt T (.slice a n cap) vl vh vm).run P w = .ok (sliced a l h (m.getD cap) esz) w := by
    intro E esz eb a n cap l h m vl vh vm ht h1 h2 h3 hm hl hh hmm w
    obtain ⟨hu, i0, z, hi0, hsz, _⟩ := tyB_slice ht
    have hsize : (sizeOf E).run P w = .ok esz w := sizeB_spec (by simp [sizeB, hi0, hsz]) w
    have hb : (Instr.sliceBounds true n cap vl vh vm).run P w = .ok (l, h, m.getD cap) w := by
      simp only [Instr.sliceBounds]
      rcases hmm with ⟨rfl, rfl⟩ | ⟨km, im, rfl, hm0, rfl⟩
      · rcases hh with ⟨rfl, rfl, _⟩ | ⟨k, i, rfl, h0, rfl⟩
        · rcases hl with ⟨rfl, rfl⟩ | ⟨k', i', rfl, h0', rfl⟩
          · simp
          · have hb2 := run_sliceBound (P := P) (w := w) k' i' h .sliceB h0' (by omega)
            simp only [Sem.run_bind, Sem.run_pure, Result.andThen_ok, hb2, Option.isSome_none, Bool.false_eq_true, if_false, Option.getD_none]
        · have hb1 := run_sliceBound (P := P) (w := w) k i cap .sliceAcap h0 (by omega)
          simp only [Sem.run_bind, if_true, Sem.run_pure, Result.andThen_ok]
          rw [hb1]
          simp only [Result.andThen_ok]
          rcases hl with ⟨rfl, rfl⟩ | ⟨k', i', rfl, h0', rfl⟩
          · simp
          · have hb2 := run_sliceBound (P := P) (w := w) k' i' i.toNat .sliceB h0' (by omega)
            simp only [hb2, Sem.run_bind, Sem.run_pure, Option.isSome_none, Bool.false_eq_true, if_false, Result.andThen_ok, Option.getD_none]
      · have hmh := hm _ rfl
        have hb0 := run_sliceBound (P := P) (w := w) km im cap .slice3Acap hm0 (by omega)
        simp only [if_true, Sem.run_bind]
        rw [hb0]
        simp only [Result.andThen_ok]
        rcases hh with ⟨_, _, h'⟩ | ⟨k, i, rfl, h0, rfl⟩
        · cases h'
        · have hb1 := run_sliceBound (P := P) (w := w) k i im.toNat .slice3B h0 (by omega)
          simp only [Sem.run_bind, hb1, Result.andThen_ok]
          rcases hl with ⟨rfl, rfl⟩ | ⟨k', i', rfl, h0', rfl⟩
          · simp
          · have hb2 := run_sliceBound (P := P) (w := w) k' i' i.toNat .slice3C h0' (by omega)
            simp only [Option.isSome_some, if_true, hb2, Result.andThen_ok, Sem.run_bind, Sem.run_pure, Option.getD_some]
    simp only [Instr.sliceAt, Sem.run_bind, run_underlying hu, Result.andThen_ok, Instr.slice, hb, hsize, Sem.run_pure, sliced]
  have main : ∀ (l h : Nat) (m : Option Nat), (evSliceB kp ti B s l h m).vc → ((vlo = none ∧ l = 0) ∨ ∃ k i, vlo = some (.int k i) ∧ 0 ≤ i ∧ i.toNat = l) →
      ((vhi = none ∧ h = s.len ∧ m = none) ∨ ∃ k i, vhi = some (.int k i) ∧ 0 ≤ i ∧ i.toNat = h) → ((vmx = none ∧ m = none) ∨ ∃ k i, vmx = some (.int k i) ∧ 0 ≤ i ∧ m = some i.toNat) →
      ∃ u, (∀ w, (Instr.sliceAt T v vlo vhi vmx).run P w = .ok u w) ∧ Den X w (evSliceB kp ti B s l h m).v u ∧ (evSliceB kp ti B s l h m).B = B := by
    intro l h m hc hl hh hm
    rcases slice_kind hd hc with ⟨E, esz, eb, rfl, a, n, cap, rfl, hlen⟩ | ⟨rfl, l0, rfl, rfl⟩
    · obtain ⟨h1, h2, h3, h4, h5, h6⟩ := sliceB_sound hs hd hc
      exact ⟨_, slc E esz eb a n cap l h m _ _ _ ht h1 h2 h3 h4 hl (by rw [hlen] at hh; exact hh) hm, h5, h6⟩
    · simp only [evSliceB] at hc ⊢
      obtain ⟨h1, h2, rfl⟩ := hc
      have hm' : vmx = none := by
        rcases hm with ⟨h, _⟩ | ⟨k, i, _, _, h⟩
        · exact h
        · cases h
      subst hm'
      refine ⟨_, str l0 l h _ _ h1 h2 rfl (tyB_string ht) hl ?_, .str _, trivial⟩
      rcases hh with ⟨a, b, _⟩ | hh
      · exact .inl ⟨a, b⟩
      · exact .inr hh
  have intD : ∀ {k i v}, Den X w (.int k i) v → v = .int k i := fun h => by cases h; rfl
  unfold evSlice at hc ⊢
  split at hc
  · exact main 0 s.len none hc (.inl ⟨hlo' rfl, rfl⟩) (.inl ⟨hhi' rfl, rfl, rfl⟩) (.inl ⟨hmx' rfl, rfl⟩)
  · rename_i k l
    obtain ⟨y, hy, hyd⟩ := hlo _ rfl
    have := intD hyd; subst this
    exact main l.toNat s.len none hc.2 (.inr ⟨k, l, hy, hc.1, rfl⟩) (.inl ⟨hhi' rfl, rfl, rfl⟩) (.inl ⟨hmx' rfl, rfl⟩)
  · rename_i k h
    obtain ⟨y, hy, hyd⟩ := hhi _ rfl
    have := intD hyd; subst this
    exact main 0 h.toNat none hc.2 (.inl ⟨hlo' rfl, rfl⟩) (.inr ⟨k, h, hy, hc.1, rfl⟩) (.inl ⟨hmx' rfl, rfl⟩)
  · rename_i k l k2 h
    obtain ⟨y, hy, hyd⟩ := hlo _ rfl
    have := intD hyd; subst this
    obtain ⟨y2, hy2, hyd2⟩ := hhi _ rfl
    have := intD hyd2; subst this
    exact main l.toNat h.toNat none hc.2.2 (.inr ⟨k, l, hy, hc.1, rfl⟩) (.inr ⟨k2, h, hy2, hc.2.1, rfl⟩) (.inl ⟨hmx' rfl, rfl⟩)
  · rename_i k h k2 m
    obtain ⟨y, hy, hyd⟩ := hhi _ rfl
    have := intD hyd; subst this
    obtain ⟨y2, hy2, hyd2⟩ := hmx _ rfl
    have := intD hyd2; subst this
    exact main 0 h.toNat (some m.toNat) hc.2.2 (.inl ⟨hlo' rfl, rfl⟩) (.inr ⟨k, h, hy, hc.1, rfl⟩) (.inr ⟨k2, m, hy2, hc.2.1, rfl⟩)
  · rename_i k l k2 h k3 m
    obtain ⟨y, hy, hyd⟩ := hlo _ rfl
    have := intD hyd; subst this
    obtain ⟨y2, hy2, hyd2⟩ := hhi _ rfl
    have := intD hyd2; subst this
    obtain ⟨y3, hy3, hyd3⟩ := hmx _ rfl
    have := intD hyd3; subst this
    exact main l.toNat h.toNat (some m.toNat) hc.2.2.2 (.inr ⟨k, l, hy, hc.1, rfl⟩) (.inr ⟨k2, h, hy2, hc.2.1, rfl⟩) (.inr ⟨k3, m, hy3, hc.2.2.1, rfl⟩)
  · exact hc.elim

theorem bytes_ints {ys : List (List SV)} {cs : List Value} (h : Cells X w 1 ys cs) (hb : ∀ y ∈ ys, isByte y = true) :
    ∃ ns : List Int, cs = ns.map (Value.int .u8) ∧ (ns.map fun n => UInt8.ofNat n.toNat) = bytesOf ys := by
  induction ys generalizing cs with
  | nil => have := h.len; simp at this; subst this; exact ⟨[], rfl, rfl⟩
  | cons y ys ih =>
    have hl := h.len
    simp only [List.length_cons, Nat.mul_one] at hl
    cases cs with
    | nil => simp at hl
    | cons v cs =>
      have hy := hb y (List.mem_cons_self ..)
      have h1 : Cells X w 1 ys cs := ⟨by simpa using hl, fun k x hx => h.each (k + 1) x (by simpa using hx), fun k j x c hx hc => by
        have := h.den (k + 1) j x c (by simpa using hx) hc
        have hj : j = 0 := by
          have := h.each (k + 1) x (by simpa using hx)
          rcases Nat.lt_or_ge j x.length with h' | h'
          · omega
          · rw [List.getElem?_eq_none h'] at hc; cases hc
        subst hj
        simpa using this⟩
      obtain ⟨ns, hn1, hn2⟩ := ih h1 fun z hz => hb z (List.mem_cons_of_mem _ hz)
      unfold isByte at hy
      split at hy
      · rename_i n
        have hd := h.den 0 0 _ _ rfl rfl
        simp at hd
        cases hd
        exact ⟨n :: ns, by rw [hn1]; rfl, by simp [bytesOf, byteOf] at hn2 ⊢; exact hn2⟩
      · cases hy

theorem convert_sound {T2 : TypeId} {ti2 te : TyI} (ht : tyB P T ti = true) (hte : ∀ E esz eb, ti = .slice E esz eb → tyB P E te = true) (ht2 : tyB P T2 ti2 = true) (hs : Sat X w B) {s : SV} {v : Value} (hd : Den X w s v) (hc : (evConvert ti te ti2 B s).vc) (hb : ti ≠ .bad) :
    ∃ u, (convert T T2 v).run P w = .ok u w ∧ Den X w (evConvert ti te ti2 B s).v u ∧ (evConvert ti te ti2 B s).B = B := by
  obtain ⟨d, hu⟩ := Option.isSome_iff_exists.1 (tyB_und ht hb)
  cases ti2 <;> simp only [evConvert, bad] at hc
  case int k =>
    have hu2 := tyB_int ht2
    cases hd <;> simp only at hc
    case int k' n =>
      refine ⟨.int k (k.wrap n), ?_, .int .., rfl⟩
      simp [convert, run_underlying hu, run_underlying hu2, Conv.intToInt]
  case string =>
    have hu2 := tyB_string ht2
    cases ti <;> try (simp only at hc; done)
    case string =>
      have hu1 := tyB_string ht
      have hcc : s.isStr = true := hc
      clear hc
      cases hd <;> try (simp only [SV.isStr, Bool.false_eq_true] at hcc; done)
      case str l =>
        refine ⟨.string ⟨l.toArray⟩, ?_, .str _, rfl⟩
        simp [convert, run_underlying hu1, run_underlying hu2]
    case slice E esz eb =>
      obtain ⟨hu1, _⟩ := tyB_slice ht
      have hte' := hte _ _ _ rfl
      by_cases h11 : esz = 1 ∧ eb = 1
      case neg => 
        exfalso
        split at hc
        · rename_i h; cases h
        · rename_i h; simp only [TyI.slice.injEq] at h; exact absurd h.2 h11
        · exact hc
      obtain ⟨rfl, rfl⟩ := h11
      cases te <;> try (simp only at hc; done)
      case int k =>
      cases k <;> try (simp only at hc; done)
      case u8 =>
      have hue := tyB_int hte'
      simp only [evConvert] at hc ⊢
      have hsrc := fun hcc => src_sound (P := P) (esz := 1) (by omega) hs hd hcc
      have hkind : (srcOf 1 B s).2 → s.isStr = false → ∃ a n cap, v = .slice a n cap := by
        intro h1 h2
        cases hd <;> first | exact ⟨_, _, _, rfl⟩ | (simp only [srcOf] at h1; done) | cases h2
      generalize srcOf 1 B s = yc at *
      obtain ⟨ys, c⟩ := yc
      simp only at *
      obtain ⟨hc1, hc2, hc3⟩ := hc
      obtain ⟨hl, hff⟩ := hsrc hc1
      obtain ⟨cs, hn1, hn2⟩ := hff ys.length (Nat.le_refl _)
      rw [List.take_length] at hn2
      obtain ⟨ns, rfl, hn3⟩ := bytes_ints hn2 hc2
      refine ⟨.string ⟨(bytesOf ys).toArray⟩, ?_, .str _, trivial⟩
      have hv := hkind hc1 hc3
      obtain ⟨a, n, cap, rfl⟩ := hv
      have hn : n = ys.length := by simpa [Builtin.lenOf] using hl
      subst hn
      rw [run_convert_bytes_string w T T2 E a _ cap hu1 hue hu2]
      cases a with
      | none =>
        have : ns = [] := by
          simp [Builtin.firstCells] at hn1
          cases ns
          · rfl
          · simp at hn1
        subst this
        rw [← hn3]
        simp [Conv.bytesToString]
        rfl
      | some ad =>
        have hld : (loadCells ad ys.length).run P w = .ok (ns.map (Value.int .u8)).toArray w := by simpa [Builtin.firstCells] using hn1
        rw [run_bytesToString w ad _ cap ns hld, foldl_push_bytes, hn3]
        simp [ByteArray.empty, ByteArray.emptyWithCapacity]
        rfl
end
end Go.Lift
end
section
namespace Go.Lift

def leavesF (P : Program) (g : TypeId → Option (List Nat)) : Nat → List Field → Option (List Nat)
  | _, [] => some []
  | o, f :: r => if f.name != "_" && f.offset == o then
      match g f.type with
      | some l => if sizeB P f.type l.length && l.length != 0 then (leavesF P g (o + l.length) r).map (l ++ ·) else none
      | none => none
    else none
def leaves (P : Program) : Nat → TypeId → Option (List Nat)
  | 0, _ => none
  | d + 1, T => match P.underlying T with
    | some .bool => some [0]
    | some (.int _) => some [1]
    | some .string => some [2]
    | some (.struct F) => if P.stoodInHeld T then none else leavesF P (leaves P d) 0 F.toList
    | some (.array n E) => match leaves P d E with
      | some l => if sizeB P E l.length && l.length != 0 then some (List.replicate n l).flatten else none
      | none => none
    | _ => none

def fit : Nat → Value → Value → Prop
  | 0, .bool _, .bool _ => True
  | 1, .int k _, .int k' _ => k = k'
  | 2, .string _, .string _ => True
  | _, _, _ => False
def veq : Value → Value → Bool
  | .bool a, .bool b => a == b
  | .int _ a, .int _ b => a == b
  | .string a, .string b => a.toList == b.toList
  | _, _ => false
def eqAt : List Nat → Nat → Array Value → Array Value → Bool
  | [], _, _, _ => true
  | _ :: r, o, xs, ys => veq (xs.getD o undef) (ys.getD o undef) && eqAt r (o + 1) xs ys
def fits (ks : List Nat) (o : Nat) (xs ys : Array Value) : Prop := ∀ (i k : Nat), ks[i]? = some k → fit k (xs.getD (o + i) undef) (ys.getD (o + i) undef)

theorem eqAt_append : ∀ (a b : List Nat) (o : Nat) (xs ys : Array Value), eqAt (a ++ b) o xs ys = (eqAt a o xs ys && eqAt b (o + a.length) xs ys)
  | [], b, o, xs, ys => by simp [eqAt]
  | k :: a, b, o, xs, ys => by
    simp only [List.cons_append, eqAt, eqAt_append a b (o + 1) xs ys, List.length_cons, Bool.and_assoc]
    congr 3; omega
theorem fit_lt {k i : Nat} {xs ys : Array Value} (h : fit k (xs.getD i undef) (ys.getD i undef)) : i < xs.size ∧ i < ys.size := by
  constructor
  · rcases Nat.lt_or_ge i xs.size with h' | h'
    · exact h'
    · have : xs.getD i undef = undef := by simp [Array.getD_eq_getD_getElem?, Array.getElem?_eq_none h']
      rw [this] at h; unfold fit undef at h; split at h <;> simp_all
  · rcases Nat.lt_or_ge i ys.size with h' | h'
    · exact h'
    · have : ys.getD i undef = undef := by simp [Array.getD_eq_getD_getElem?, Array.getElem?_eq_none h']
      rw [this] at h; unfold fit undef at h; split at h <;> simp_all
theorem fits_size {ks : List Nat} {o : Nat} {xs ys : Array Value} (h : fits ks o xs ys) (h0 : ks ≠ []) : o + ks.length ≤ xs.size ∧ o + ks.length ≤ ys.size := by
  have hp : 0 < ks.length := List.length_pos_iff.2 h0
  have hl : ks[ks.length - 1]? = some (ks.getD (ks.length - 1) 0) := get?_of_lt 0 (by omega)
  have := fit_lt (h _ _ hl)
  omega
theorem fits_left {a b : List Nat} {o : Nat} {xs ys : Array Value} (h : fits (a ++ b) o xs ys) : fits a o xs ys := fun i k hk => by
  refine h i k ?_
  have : i < a.length := by
    rcases Nat.lt_or_ge i a.length with h' | h'
    · exact h'
    · rw [List.getElem?_eq_none h'] at hk; cases hk
  rw [List.getElem?_append_left this]; exact hk
theorem fits_right {a b : List Nat} {o : Nat} {xs ys : Array Value} (h : fits (a ++ b) o xs ys) : fits b (o + a.length) xs ys := fun i k hk => by
  have := h (a.length + i) k (by rw [List.getElem?_append_right (by omega)]; simpa using hk)
  rw [Nat.add_assoc]; exact this
theorem getD_extract {xs : Array Value} {o n i : Nat} (hi : i < n) (hs : o + n ≤ xs.size) : (xs.extract o (o + n)).getD i undef = xs.getD (o + i) undef := by
  simp [Array.getD_eq_getD_getElem?, Array.getElem?_extract]
  rw [if_pos (by omega)]
theorem eqAt_extract : ∀ (ks : List Nat) (i o n : Nat) (xs ys : Array Value), o + n ≤ xs.size → o + n ≤ ys.size → i + ks.length ≤ n → eqAt ks i (xs.extract o (o + n)) (ys.extract o (o + n)) = eqAt ks (o + i) xs ys
  | [], _, _, _, _, _, _, _, _ => rfl
  | k :: ks, i, o, n, xs, ys, h1, h2, h3 => by
    simp only [List.length_cons] at h3
    simp only [eqAt]
    rw [getD_extract (by omega) h1, getD_extract (by omega) h2, eqAt_extract ks (i + 1) o n xs ys h1 h2 (by omega)]
    rfl

section
variable {P : Program}

theorem eq_leaves : ∀ (d : Nat) (T : TypeId) (ks : List Nat), leaves P d T = some ks → ∀ fuel, d ≤ fuel → ∀ (w : World),
    (aggB P T = true → ∀ (xs ys : Array Value), fits ks 0 xs ys → (Op.equalIn fuel T (.agg xs) (.agg ys)).run P w = .ok (eqAt ks 0 xs ys) w) ∧
    (aggB P T = false → ∃ k, ks = [k] ∧ ∀ (u v : Value), fit k u v → (Op.equalIn fuel T u v).run P w = .ok (veq u v) w)
  | 0, _, _, h, _, _, _ => by simp [leaves] at h
  | d + 1, T, ks, h, 0, hf, _ => by omega
  | d + 1, T, ks, h, fuel + 1, hf, w => by
    simp only [leaves] at h
    have part : ∀ (T : TypeId) (l : List Nat), leaves P d T = some l → sizeB P T l.length = true → ∀ (xs ys : Array Value) (o : Nat) (w : World), fits l o xs ys → l ≠ [] →
        ∃ u v, (part T xs o).run P w = .ok u w ∧ (part T ys o).run P w = .ok v w ∧ (Op.equalIn fuel T u v).run P w = .ok (eqAt l o xs ys) w := by
      intro T l hl hs xs ys o w hfit hne
      obtain ⟨ih1, ih2⟩ := eq_leaves d T l hl fuel (by omega) w
      obtain ⟨s1, s2⟩ := fits_size hfit hne
      have hund : (P.underlying T).isSome = true := by
        cases hu : P.underlying T with
        | none => cases d <;> simp [leaves, hu] at hl
        | some x => rfl
      have hag := isAgg_spec hund
      cases ha : aggB P T
      · obtain ⟨k, rfl, h3⟩ := ih2 ha
        have hk := hfit 0 k rfl
        rw [Nat.add_zero] at hk
        obtain ⟨l1, l2⟩ := fit_lt hk
        refine ⟨xs.getD o undef, ys.getD o undef, ?_, ?_, by rw [h3 _ _ hk]; simp [eqAt]⟩
        · simp only [Go.part, Sem.run_bind, hag, ha, Result.andThen_ok, Bool.false_eq_true, if_false]; rw [agetD_of_lt l1]; rfl
        · simp only [Go.part, Sem.run_bind, hag, ha, Result.andThen_ok, Bool.false_eq_true, if_false]; rw [agetD_of_lt l2]; rfl
      · refine ⟨.agg (xs.extract o (o + l.length)), .agg (ys.extract o (o + l.length)), ?_, ?_, ?_⟩
        · simp only [Go.part, Sem.run_bind, hag, ha, Result.andThen_ok, if_true, sizeB_spec hs, Sem.run_pure]
        · simp only [Go.part, Sem.run_bind, hag, ha, Result.andThen_ok, if_true, sizeB_spec hs, Sem.run_pure]
        · rw [ih1 ha _ _ (fun i k hk => by
            have hi : i < l.length := by
              rcases Nat.lt_or_ge i l.length with h' | h'
              · exact h'
              · rw [List.getElem?_eq_none h'] at hk; cases hk
            rw [Nat.zero_add, getD_extract hi s1, getD_extract hi s2]
            exact hfit i k hk)]
          rw [eqAt_extract l 0 o l.length xs ys s1 s2 (by omega)]
          rfl
    cases hu : P.underlying T with
    | none => simp [hu] at h
    | some desc =>
      cases desc <;> simp only [hu] at h <;> try (cases h; done)
      case bool =>
        simp only [Option.some.injEq] at h; subst h
        refine ⟨fun ha => by simp [aggB, hu] at ha, fun _ => ⟨0, rfl, fun u v hfit => ?_⟩⟩
        unfold fit at hfit
        split at hfit <;> try (simp at hfit; done)
        · exact run_equalIn_bool' w fuel T _ _ hu
        all_goals (rename_i h; cases h)
      case int kk =>
        simp only [Option.some.injEq] at h; subst h
        refine ⟨fun ha => by simp [aggB, hu] at ha, fun _ => ⟨1, rfl, fun u v hfit => ?_⟩⟩
        unfold fit at hfit
        split at hfit <;> try (simp at hfit; done)
        · rename_i h; cases h
        · subst hfit; exact run_equalIn_int w fuel T _ kk _ _ hu
        · rename_i h; cases h
      case string =>
        simp only [Option.some.injEq] at h; subst h
        refine ⟨fun ha => by simp [aggB, hu] at ha, fun _ => ⟨2, rfl, fun u v hfit => ?_⟩⟩
        unfold fit at hfit
        split at hfit <;> try (simp at hfit; done)
        · rename_i h; cases h
        · rename_i h; cases h
        · exact run_equalIn_string w fuel T _ _ hu
      case struct F =>
        refine ⟨fun _ xs ys hfit => ?_, fun ha => by simp [aggB, hu] at ha⟩
        by_cases hst : P.stoodInHeld T = true
        · simp [hst] at h
        · have hst' : P.stoodInHeld T = false := by simpa using hst
          simp only [hst', Bool.false_eq_true, if_false] at h
          rw [run_equalIn_struct w fuel T xs ys (by simp [Program.fieldsOf, hu]) hst']
          have hF : P.fieldsOf T = F := by simp [Program.fieldsOf, hu]
          rw [hF]
          have fieldsL : ∀ (fs : List Field) (o : Nat) (ks : List Nat) (w : World), leavesF P (leaves P d) o fs = some ks → fits ks o xs ys → (Op.eqFields fuel xs ys fs).run P w = .ok (eqAt ks o xs ys) w := by
            intro fs
            induction fs with
            | nil => intro o ks w hk _; simp [leavesF] at hk; subst hk; simp [Op.eqFields, eqAt]
            | cons f fs ihf =>
              intro o ks w hk hfit
              simp only [leavesF] at hk
              split at hk
              · rename_i hcond
                simp only [Bool.and_eq_true, bne_iff_ne, ne_eq, beq_iff_eq] at hcond
                cases hl : leaves P d f.type with
                | none => simp [hl] at hk
                | some l =>
                  simp only [hl] at hk
                  split at hk
                  · rename_i hs0
                    simp only [Bool.and_eq_true, bne_iff_ne, ne_eq] at hs0
                    obtain ⟨hs, hne0⟩ := hs0
                    have hne : l ≠ [] := fun e => hne0 (by simp [e])
                    cases hr : leavesF P (leaves P d) (o + l.length) fs with
                    | none => simp [hr] at hk
                    | some r =>
                      simp only [hr, Option.map_some, Option.some.injEq] at hk
                      subst hk
                      obtain ⟨u, v, p1, p2, p3⟩ := part f.type l hl hs xs ys o w (fits_left hfit) hne
                      simp only [Op.eqFields]
                      rw [if_pos hcond.1, hcond.2]
                      simp only [Sem.run_bind, p1, p2, p3, Result.andThen_ok, eqAt_append]
                      cases eqAt l o xs ys
                      · simp
                      · simp only [Bool.not_true, Bool.false_eq_true, if_false, Bool.true_and]
                        exact ihf _ _ w hr (fits_right hfit)
                  · cases hk
              · cases hk
          exact fieldsL F.toList 0 ks w h hfit
      case array n E =>
        refine ⟨fun _ xs ys hfit => ?_, fun ha => by simp [aggB, hu] at ha⟩
        cases hl : leaves P d E with
        | none => simp [hl] at h
        | some l =>
          simp only [hl] at h
          split at h
          · rename_i hs0
            simp only [Bool.and_eq_true, bne_iff_ne, ne_eq] at hs0
            obtain ⟨hs, hne0⟩ := hs0
            have hne : l ≠ [] := fun e => hne0 (by simp [e])
            simp only [Option.some.injEq] at h
            subst h
            have hs' := hs
            unfold sizeB at hs'
            cases hi : P.info? E with
            | none => simp [hi] at hs'
            | some ie =>
              simp only [hi, beq_iff_eq] at hs'
              rw [run_equalIn_array w fuel xs ys hu hi]
              have hce : P.cellsOf E = l.length := by simp [Program.cellsOf, hi, hs']
              rw [hce, List.range_eq_range']
              have items : ∀ (m s : Nat) (w : World), fits (List.replicate m l).flatten (s * l.length) xs ys → (Op.eqItems fuel E l.length xs ys (List.range' s m)).run P w = .ok (eqAt (List.replicate m l).flatten (s * l.length) xs ys) w := by
                intro m
                induction m with
                | zero => intro s w _; simp [Op.eqItems, eqAt]
                | succ m ihm =>
                  intro s w hfit
                  rw [List.replicate_succ, List.flatten_cons] at hfit ⊢
                  obtain ⟨u, v, p1, p2, p3⟩ := part E l hl hs xs ys (s * l.length) w (fits_left hfit) hne
                  simp only [List.range'_succ, Op.eqItems, Sem.run_bind, p1, p2, p3, Result.andThen_ok, eqAt_append]
                  cases eqAt l (s * l.length) xs ys
                  · simp
                  · have hr := fits_right hfit
                    rw [← Nat.succ_mul] at hr ⊢
                    simp only [Bool.not_true, Bool.false_eq_true, if_false, Bool.true_and]
                    exact ihm _ w hr
              have := items n 0 w (by simpa using hfit)
              simpa using this
          · cases h

def lvB (P : Program) (T : TypeId) (lv : List Nat) : Bool := match lv with
  | [] => true
  | lv => aggB P T && leaves P 40 T == some lv && !P.eqGuardType P.depth T && lv.all (· != 9)

end
section
variable {P : Program} {X : Nat → Prop} {w : World} {B : List Own} {T : TypeId}

theorem eqCells_spec : ∀ (a b : List SV) (xs ys : List Value), (eqCells a b).2 → xs.length = a.length → ys.length = b.length →
    (∀ (i : Nat) (c : SV), a[i]? = some c → Den X w c (xs.getD i undef)) → (∀ (i : Nat) (c : SV), b[i]? = some c → Den X w c (ys.getD i undef)) →
    ys.length = xs.length ∧ (∀ (i k : Nat), (kinds a)[i]? = some k → k ≠ 9 → fit k (xs.getD i undef) (ys.getD i undef)) ∧
    ((List.range xs.length).all fun i => veq (xs.getD i undef) (ys.getD i undef)) = (eqCells a b).1
  | [], [], xs, ys, _, hx, hy, _, _ => by
    have : xs = [] := List.length_eq_zero_iff.1 hx
    have : ys = [] := List.length_eq_zero_iff.1 hy
    subst xs ys
    exact ⟨rfl, by simp [kinds], by simp [eqCells]⟩
  | [], _ :: _, _, _, h, _, _, _, _ => by simp [eqCells] at h
  | _ :: _, [], _, _, h, _, _, _, _ => by simp [eqCells] at h
  | c :: a, d :: b, xs, ys, h, hx, hy, h1, h2 => by
    cases xs with
    | nil => simp at hx
    | cons x xs =>
      cases ys with
      | nil => simp at hy
      | cons y ys =>
        simp only [eqCells] at h ⊢
        obtain ⟨hc, hr⟩ := h
        obtain ⟨r1, r2, r3⟩ := eqCells_spec a b xs ys hr (by simpa using hx) (by simpa using hy) (fun i c hc => by simpa using h1 (i + 1) c (by simpa using hc)) (fun i c hc => by simpa using h2 (i + 1) c (by simpa using hc))
        have hdx : Den X w c x := by simpa using h1 0 c rfl
        have hdy : Den X w d y := by simpa using h2 0 d rfl
        have key : veq x y = (eqCell c d).1 ∧ ∀ k, (kinds (c :: a))[0]? = some k → k ≠ 9 → fit k x y := by
          cases hdx <;> cases hdy <;> simp only [eqCell] at hc
          · subst hc; exact ⟨rfl, fun k hk _ => by simp [kinds] at hk; subst hk; rfl⟩
          · exact ⟨rfl, fun k hk _ => by simp [kinds] at hk; subst hk; trivial⟩
          · refine ⟨?_, fun k hk _ => by simp [kinds] at hk; subst hk; trivial⟩
            simp [veq, eqCell, ByteArray.toList_eq]
        have hk : ∀ i k, (kinds (c :: a))[i + 1]? = some k → (kinds a)[i]? = some k := by
          intro i k h; cases c <;> simpa [kinds] using h
        refine ⟨by simp [r1], fun i k hi hk9 => ?_, ?_⟩
        · cases i with
          | zero => simpa using key.2 k hi hk9
          | succ i => simpa using r2 i k (hk i k hi) hk9
        · rw [List.length_cons, List.range_succ_eq_map, List.all_cons, List.all_map]
          simp only [List.getD_cons_zero, key.1]
          rw [← r3]
          rfl

theorem eqAt_all : ∀ (ks : List Nat) (o : Nat) (xs ys : Array Value), eqAt ks o xs ys = (List.range' o ks.length).all fun i => veq (xs.getD i undef) (ys.getD i undef)
  | [], _, _, _ => rfl
  | k :: ks, o, xs, ys => by
    simp only [eqAt, eqAt_all ks (o + 1) xs ys, List.length_cons, List.range'_succ, List.all_cons]

theorem kinds_length : ∀ (a : List SV), (kinds a).length = a.length
  | [] => rfl
  | c :: a => by cases c <;> simp [kinds, kinds_length a]

theorem eqAgg_sound {lv : List Nat} (hlv : lvB P T lv = true) {a b : List SV} {xs ys : Array Value} (hx : Den X w (.agg a) (.agg xs)) (hy : Den X w (.agg b) (.agg ys))
    (hc : (eqCells a b).2 ∧ kinds a = lv ∧ lv ≠ []) : (Op.equalIn 10000 T (.agg xs) (.agg ys)).run P w = .ok (eqCells a b).1 w ∧ P.eqGuardType P.depth T = false := by
  obtain ⟨hc1, hc2, hc3⟩ := hc
  unfold lvB at hlv
  split at hlv
  · exact absurd rfl hc3
  · simp only [Bool.and_eq_true, Bool.not_eq_true', beq_iff_eq] at hlv
    obtain ⟨⟨⟨h1, h2⟩, h3⟩, h4⟩ := hlv
    cases hx with
    | agg hsx hdx =>
      cases hy with
      | agg hsy hdy =>
        obtain ⟨r1, r2, r3⟩ := eqCells_spec a b xs.toList ys.toList hc1 (by simpa using hsx) (by simpa using hsy) (by simpa using hdx) (by simpa using hdy)
        have hk9 : ∀ (i k : Nat), lv[i]? = some k → k ≠ 9 := by
          intro i k hk
          have := List.all_eq_true.1 h4 k (List.mem_of_getElem? hk)
          simpa using this
        have := (eq_leaves 40 T lv h2 10000 (by omega) w).1 h1 xs ys (fun i k hk => by
          have := r2 i k (by rw [hc2]; exact hk) (hk9 i k hk)
          simpa using this)
        refine ⟨?_, h3⟩
        rw [this, eqAt_all, ← r3, ← hc2, kinds_length, ← hsx]
        simp [List.range_eq_range']
end
end Go.Lift
end
section
namespace Go.Lift
section
variable {P : Program} {X : Nat → Prop} {w : World} {B : List Own} {T : TypeId}

theorem eqGuard_plain {op : BinOp} {x y : Operand} {u v : Value} (h : (∀ cs, u ≠ .agg cs) ∧ u ≠ .nilIface) : (eqGuard op T x y u v).run P w = .ok () w := by
  unfold eqGuard
  cases op <;> simp <;> cases u <;> simp at h ⊢ 

theorem bin_sound {op : BinOp} {ti : TyI} {lv : List Nat} (ht : tyB P T ti = true) (hlv : lvB P T lv = true) {x y : Operand} {s t : SV} {u v : Value} (hx : Den X w s u) (hy : Den X w t v) (hc : (evBin ti lv op B s t).vc) :
    ∃ r, ((do eqGuard op T x y u v; binOp op T u v) : Sem Value).run P w = .ok r w ∧ Den X w (evBin ti lv op B s t).v r ∧ (evBin ti lv op B s t).B = B := by
  cases hx <;> try (simp only [evBin, bad] at hc; done)
  case int k a =>
    cases hy <;> try (simp only [evBin, bad] at hc; done)
    case int k' b =>
      rw [Sem.run_bind, eqGuard_plain (by simp), Result.andThen_ok]
      simp only [evBin] at hc ⊢
      cases op <;> simp only [evInt] at hc ⊢
      case add => subst hc; exact ⟨_, by simp [binOp, Op.intArith], .int .., trivial⟩
      case sub => subst hc; exact ⟨_, by simp [binOp, Op.intArith], .int .., trivial⟩
      case mul => subst hc; exact ⟨_, by simp [binOp, Op.intArith], .int .., trivial⟩
      case quo => obtain ⟨rfl, hb⟩ := hc; exact ⟨_, by simp [binOp, Op.intDiv, hb], .int .., trivial⟩
      case rem => obtain ⟨rfl, hb⟩ := hc; exact ⟨_, by simp [binOp, Op.intDiv, hb], .int .., trivial⟩
      case shl => exact ⟨_, by simp [binOp, Op.shift, Int.not_lt.2 hc], .int .., trivial⟩
      case shr => exact ⟨_, by simp [binOp, Op.shift, Int.not_lt.2 hc], .int .., trivial⟩
      case and => subst hc; exact ⟨_, by simp only [binOp, ne_eq, not_true_eq_false, if_false, Op.intBits]; rfl, .int .., trivial⟩
      case or => subst hc; exact ⟨_, by simp only [binOp, ne_eq, not_true_eq_false, if_false, Op.intBits]; rfl, .int .., trivial⟩
      case xor => subst hc; exact ⟨_, by simp only [binOp, ne_eq, not_true_eq_false, if_false, Op.intBits]; rfl, .int .., trivial⟩
      case andNot => subst hc; exact ⟨_, by simp only [binOp, ne_eq, not_true_eq_false, if_false, Op.intBits]; rfl, .int .., trivial⟩
      case eql => subst hc; exact ⟨_, by simp [binOp, Op.intCmp], .bool .., trivial⟩
      case neq => subst hc; exact ⟨_, by simp [binOp, Op.intCmp], .bool .., trivial⟩
      case lss => subst hc; exact ⟨_, by simp [binOp, Op.intCmp], .bool .., trivial⟩
      case leq => subst hc; exact ⟨_, by simp [binOp, Op.intCmp], .bool .., trivial⟩
      case gtr => subst hc; exact ⟨_, by simp [binOp, Op.intCmp], .bool .., trivial⟩
      case geq => subst hc; exact ⟨_, by simp [binOp, Op.intCmp], .bool .., trivial⟩
  case bool a =>
    cases hy <;> try (simp only [evBin, bad] at hc; done)
    case bool b =>
      rw [Sem.run_bind, eqGuard_plain (by simp), Result.andThen_ok]
      cases ti <;> try (simp only [evBin, bad] at hc; done)
      have hu := tyB_bool ht
      simp only [evBin] at hc ⊢
      cases op <;> try (simp only [bad] at hc; done)
      case eql => exact ⟨_, by simp only [binOp, Sem.run_bind, run_equal_bool w T a b hu, Result.andThen_ok, Sem.run_pure], .bool .., rfl⟩
      case neq => exact ⟨_, by simp only [binOp, Sem.run_bind, run_equal_bool w T a b hu, Result.andThen_ok, Sem.run_pure]; rfl, .bool .., rfl⟩
  case str a =>
    cases hy <;> try (simp only [evBin, bad] at hc; done)
    case str b =>
      rw [Sem.run_bind, eqGuard_plain (by simp), Result.andThen_ok]
      simp only [evBin] at hc ⊢
      cases op <;> try (simp only [bad] at hc; done)
      case eql => exact ⟨_, by simp [binOp, Op.stringOp, ByteArray.toList_eq], .bool .., rfl⟩
      case neq => exact ⟨.bool (a != b), by simp [binOp, Op.stringOp, ByteArray.toList_eq, bne], .bool .., rfl⟩
      case lss => exact ⟨_, by simp [binOp, Op.stringOp, ByteArray.toList_eq], .bool .., rfl⟩
      case leq => exact ⟨_, by simp [binOp, Op.stringOp, ByteArray.toList_eq], .bool .., rfl⟩
      case gtr => exact ⟨_, by simp only [binOp, Op.stringOp, ByteArray.toList_eq, Sem.run_pure], .bool .., rfl⟩
      case geq => exact ⟨_, by simp [binOp, Op.stringOp, ByteArray.toList_eq], .bool .., rfl⟩
      case add =>
        refine ⟨.string ⟨(a ++ b).toArray⟩, ?_, .str .., rfl⟩
        have hle : ¬ (((ByteArray.mk a.toArray).size + (ByteArray.mk b.toArray).size : Nat) : Int) > IntKind.i64.max := by
          have h1 : (ByteArray.mk a.toArray).size = a.length := by simp [ByteArray.size]
          have h2 : (ByteArray.mk b.toArray).size = b.length := by simp [ByteArray.size]
          have h3 : IntKind.i64.max = 9223372036854775807 := rfl
          rw [h1, h2, h3]; simp only at hc; omega
        simp only [binOp, Op.stringOp]
        rw [if_neg hle]
        simp only [Sem.run_pure]
        congr 2
  case agg a xs hsx hdx =>
    cases hy <;> try (simp only [evBin, bad] at hc; done)
    case agg b ys hsy hdy =>
      simp only [evBin] at hc ⊢
      cases op <;> try (simp only [bad] at hc; done)
      case eql =>
        obtain ⟨h1, h2⟩ := eqAgg_sound hlv (.agg hsx hdx) (.agg hsy hdy) hc
        exact ⟨_, by rw [Sem.run_bind, run_eqGuard_agg w .eql T x y xs ys h2, Result.andThen_ok, run_eql_struct, h1]; rfl, .bool .., rfl⟩
      case neq =>
        obtain ⟨h1, h2⟩ := eqAgg_sound hlv (.agg hsx hdx) (.agg hsy hdy) hc
        exact ⟨_, by rw [Sem.run_bind, run_eqGuard_agg w .neq T x y xs ys h2, Result.andThen_ok, run_neq_struct, h1]; rfl, .bool .., rfl⟩

theorem un_sound {op : UnOp} {s : SV} {u : Value} (hx : Den X w s u) (hc : (evUn op B s).vc) :
    ∃ r, (Op.unary op u).run P w = .ok r w ∧ Den X w (evUn op B s).v r ∧ (evUn op B s).B = B := by
  cases hx <;> try (simp only [evUn, bad] at hc; done)
  case int k n =>
    cases op <;> simp only [evUn, bad] at hc
    case neg => exact ⟨_, by simp [Op.unary, Op.intArith], .int .., rfl⟩
    case xor => exact ⟨_, by simp only [Op.unary, Op.intBits]; rfl, .int .., rfl⟩
  case bool b =>
    cases op <;> simp only [evUn, bad] at hc
    case not => exact ⟨_, by simp [Op.unary], .bool .., rfl⟩

theorem boolOf_spec {s : SV} {v : Value} {g p : Bool} (h : boolOf s = some (g, p)) (hd : Den X w s v) (hg : g = true) : v = .bool p := by
  unfold boolOf at h
  split at h
  · cases h; cases hd; rfl
  · cases h
    cases hd with
    | opt h _ => have := h hg; cases this; rfl
  · cases h

theorem pick_sound {c a b : SV} {vc va vb : Value} (hc : Den X w c vc) (ha : Den X w a va) (hb : Den X w b vb) (h : (evPick B c a b).vc) :
    ∃ r, ((do pure (.value (if ← asBool vc then va else vb)) : Sem Next)).run P w = .ok (.value r) w ∧ Den X w (evPick B c a b).v r ∧ (evPick B c a b).B = B := by
  unfold evPick at h ⊢
  split at h
  · rename_i gc p h1
    obtain ⟨hg, hp, hq⟩ := h
    have := boolOf_spec h1 hc hg
    subst this
    have arm : ∀ {s : SV} {v : Value}, Den X w s v → (armOf s).1 = true → v = .bool (armOf s).2 := by
      intro s v hd ht
      unfold armOf at ht ⊢
      split at ht
      · cases hd; rfl
      · exact boolOf_spec (s := .opt _ (.bool _)) rfl hd ht
      · cases ht
    cases p
    · have := arm hb (hq rfl)
      subst this
      exact ⟨_, by simp [asBool], .bool .., rfl⟩
    · have := arm ha (hp rfl)
      subst this
      exact ⟨_, by simp [asBool], .bool .., rfl⟩
  · exact h.elim
theorem nil_sound {E : TypeId} (hT : P.underlying T = some (.slice E)) {s : SV} {v : Value} (hd : Den X w s v) : ∃ h, ∀ b, nilOf h s = some b → (Op.equal T v (.slice none 0 0)).run P w = .ok b w ∧ ∃ a n c, v = .slice a n c := by
  cases hd
  case slNil full e f a cap hf =>
    refine ⟨bif a.isNone then .void none else .at 0 0, fun b hb => ?_⟩
    rw [run_equal_slice_nil w T E a 0 cap hT]
    simp only [nilOf, beq_self_eq_true, cond_true, Option.some.injEq] at hb
    subst hb
    refine ⟨?_, _, _, _, rfl⟩
    cases a <;> rfl
  case slAt full e n f b off cap g hn hcap hf hX hl hw h =>
    refine ⟨.void none, fun b' hb => ?_⟩
    rw [run_equal_slice_nil w T E _ n cap hT]
    have : (n == 0) = false := by simpa using Nat.pos_iff_ne_zero.1 hn
    simp only [nilOf, this, cond_false, Option.some.injEq] at hb
    subst hb
    exact ⟨rfl, _, _, _, rfl⟩
  case rowAt i b cap e n hn =>
    refine ⟨.void none, fun b' hb => ?_⟩
    rw [run_equal_slice_nil w T E _ n cap hT]
    simp only [nilOf, Option.some.injEq] at hb
    subst hb
    exact ⟨rfl, _, _, _, rfl⟩
  all_goals exact ⟨.void none, fun b hb => by simp [nilOf] at hb⟩
theorem nilP_sound {E : TypeId} (hT : P.underlying T = some (.pointer E)) {s : SV} {v : Value} (hd : Den X w s v) {b : Bool} (hb : nilPOf s = some b) :
    (Op.equal T v (.pointer none)).run P w = .ok b w ∧ ∃ a, v = .pointer a := by
  have hp : P.underlying T = some (.pointer (P.pointee T)) := by simp [Program.pointee, hT]
  cases hd with
  | xp g hX hw h => simp only [nilPOf, Option.some.injEq] at hb; subst hb; exact ⟨by rw [run_equal_pointer_nil w T _ hp]; rfl, _, rfl⟩
  | rptr i b cap esz k off => simp only [nilPOf, Option.some.injEq] at hb; subst hb; exact ⟨by rw [run_equal_pointer_nil w T _ hp]; rfl, _, rfl⟩
  | val v =>
    unfold nilPOf at hb
    split at hb <;> simp only [Option.some.injEq, reduceCtorEq] at hb
    · rename_i h1; cases h1
    · rename_i h1; cases h1
    · rename_i h1
      cases h1
      subst hb
      exact ⟨by rw [run_equal_pointer_nil w T _ hp]; rfl, _, rfl⟩
  | _ => simp [nilPOf] at hb

end
section
open Go.MapKept (IsKey)
variable {P : Program} {X : Nat → Prop} {w : World} {B : List Own} {T : TypeId} {ti : TyI} {k1 k2 : IntKind}
theorem tyB_map (h : tyB P T (.mapI k1 k2) = true) : ∃ A F, P.underlying T = some (.map A F) ∧ P.underlying A = some (.int k1) ∧ ∀ w, (zeroValue F).run P w = .ok (.int k2 0) w := by
  simp only [tyB, Bool.and_eq_true] at h
  replace h := h.2
  split at h
  · rename_i A F hu
    rw [Bool.and_eq_true] at h
    obtain ⟨h1, h2⟩ := h
    refine ⟨A, F, hu, ?_, fun w => ?_⟩
    · split at h1
      · rename_i k hk
        rw [beq_iff_eq] at h1
        rw [hk, h1]
      · cases h1
    · split at h2
      · rename_i i hi
        split at h2
        · rename_i k n hz
          simp only [Bool.and_eq_true, beq_iff_eq] at h2
          obtain ⟨rfl, rfl⟩ := h2
          simp [zeroValue, typeInfo, hi, hz]
        · cases h2
      · cases h2
  · cases h
theorem ent_find (a : Int) : ∀ {l : List MapEntry} {es : List (Int × Int)}, entX l (es.map (mC k1 k2)) → ∀ i,
    (Instr.findNow (.int k1) (.int k1 a) l i = some none ∧ aget a es = none ∧ ∀ v b, entX (l ++ [{ key := .int k1 a, val := .int k2 v, born := b }]) ((aput a v es).map (mC k1 k2))) ∨
    ∃ j u, Instr.findNow (.int k1) (.int k1 a) l i = some (some (i + j, .int k2 u)) ∧ aget a es = some u ∧ (l[j]?.map (·.key)) = some (.int k1 a) ∧
      ∀ v, entX (l.modify j fun e => { e with key := .int k1 a, val := .int k2 v }) ((aput a v es).map (mC k1 k2))
  | [], [], _, i => .inl ⟨rfl, rfl, fun v b => ⟨⟨k1, k2, a, v, rfl, rfl, rfl⟩, trivial⟩⟩
  | [], _ :: _, h, _ => h.elim
  | e :: l, [], h, i => h.elim
  | e :: l, y :: es, h, i => by
    obtain ⟨⟨j1, j2, c, u, h1, h2, h3⟩, h4⟩ := h
    simp only [mC, List.cons.injEq, SV.int.injEq, and_true] at h3
    obtain ⟨⟨rfl, rfl⟩, rfl, rfl⟩ := h3
    obtain ⟨c, u⟩ := y
    have hs : Instr.sameNow (.int k1) (.int k1 a) e.key = some (a == c) := by rw [h1]; simp [Instr.sameNow]
    by_cases hac : c = a
    · subst hac
      refine .inr ⟨0, u, ?_, ?_, ?_, fun v => ?_⟩
      · simp [Instr.findNow, hs, h2]
      · simp [aget]
      · simp [h1]
      · simp only [aput, if_true, List.map_cons, List.modify_zero_cons]
        exact ⟨⟨k1, k2, c, v, rfl, rfl, rfl⟩, h4⟩
    · have hf : (a == c) = false := by simpa using fun e => hac e.symm
      rw [hf] at hs
      have hg : aget a ((c, u) :: es) = aget a es := by simp [aget, hac]
      have hp : ∀ v, aput a v ((c, u) :: es) = (c, u) :: aput a v es := fun v => by simp [aput, hac]
      rcases ent_find a h4 (i + 1) with ⟨g1, g2, g3⟩ | ⟨j, u', g1, g2, g3, g4⟩
      · refine .inl ⟨by simp [Instr.findNow, hs, g1], by rw [hg, g2], fun v b => ?_⟩
        rw [hp, List.map_cons, List.cons_append]
        exact ⟨⟨k1, k2, c, u, h1, h2, rfl⟩, g3 v b⟩
      · refine .inr ⟨j + 1, u', by simp [Instr.findNow, hs, g1]; omega, by rw [hg, g2], by simpa using g3, fun v => ?_⟩
        rw [hp, List.map_cons, List.modify_succ_cons]
        exact ⟨⟨k1, k2, c, u, h1, h2, rfl⟩, g4 v⟩
variable {A F : TypeId} {b clock : Nat} {arr : Array MapEntry} {es : List (Int × Int)}
theorem lookup_run (hu : P.underlying T = some (.map A F)) (hA : P.underlying A = some (.int k1)) (hz : ∀ w, (zeroValue F).run P w = .ok (.int k2 0) w) (hb : w.heap[b]? = some (.map arr clock)) (he : entX arr.toList (es.map (mC k1 k2))) (a : Int) (ok : Bool) :
    (Instr.lookup T (.map (some b)) (.int k1 a) ok).run P w = .ok (if ok = true then .tuple #[.int k2 ((aget a es).getD 0), .bool (aget a es).isSome] else .int k2 ((aget a es).getD 0)) w := by
  have hk : IsKey (.int k1) (.int k1 a) := rfl
  rcases ent_find a he 0 with ⟨g1, g2, _⟩ | ⟨j, u, g1, g2, _, _⟩
  · simp only [Instr.lookup, Sem.run_bind, run_underlying hu, Result.andThen_ok, Go.MapKept.run_getObj_map hb, Sem.run_pure, Go.MapKept.run_checkKey hA hk, Go.MapKept.run_findKey hA g1, hz, g2]
    cases ok <;> rfl
  · simp only [Instr.lookup, Sem.run_bind, run_underlying hu, Result.andThen_ok, Go.MapKept.run_getObj_map hb, Sem.run_pure, Go.MapKept.run_checkKey hA hk, Go.MapKept.run_findKey hA g1, g2]
    cases ok <;> rfl
theorem update_run (hu : P.underlying T = some (.map A F)) (hA : P.underlying A = some (.int k1)) (hb : w.heap[b]? = some (.map arr clock)) (he : entX arr.toList (es.map (mC k1 k2))) (a v : Int) :
    ∃ arr' clock', (Instr.mapUpdate T (.map (some b)) (.int k1 a) (.int k2 v)).run P w = .ok () { w with heap := w.heap.setIfInBounds b (.map arr' clock') } ∧ entX arr'.toList ((aput a v es).map (mC k1 k2)) := by
  have hk : IsKey (.int k1) (.int k1 a) := rfl
  rcases ent_find a he 0 with ⟨g1, _, g3⟩ | ⟨j, u, g1, _, g3, g4⟩
  · refine ⟨arr.push { key := .int k1 a, val := .int k2 v, born := clock }, clock + 1, ?_, by simpa using g3 v clock⟩
    simp only [Instr.mapUpdate, Sem.run_bind, run_underlying hu, Result.andThen_ok, Go.MapKept.run_getObj_map hb, Go.MapKept.run_checkKey hA hk, Go.MapKept.run_findKey hA g1, Go.MapKept.run_setObj_map _ hb]
  · have hj : arr[j]?.map (·.key) = some (.int k1 a) := by simpa using g3
    refine ⟨arr.modify j fun e => { e with key := .int k1 a, val := .int k2 v }, clock, ?_, by simpa using g4 v⟩
    simp only [Instr.mapUpdate, Sem.run_bind, run_underlying hu, Result.andThen_ok, Go.MapKept.run_getObj_map hb, Go.MapKept.run_checkKey hA hk, Go.MapKept.run_findKey hA g1, hj, Option.getD_some, Go.MapKept.run_keyThatStays hk, Go.MapKept.run_setObj_map _ hb, Nat.zero_add]
theorem Sat.mrow (hs : Sat X w B) {i E esz xs} (hg : getD' B i = .row (.mp b) E esz xs) : ∃ arr clock, w.heap[b]? = some (.map arr clock) ∧ entX arr.toList xs := by
  have := hs.ok i
  rw [hg] at this
  exact this
theorem makeMap_sound (hs : Sat X w B) {h : RowH} (hc : (evMakeMap ti h T B).vc) : ∃ h' u w', (Instr.makeMap T none).run P w = .ok u w' ∧
    Sat X w' (evMakeMap ti h' T B).B ∧ Den X w' (evMakeMap ti h' T B).v u ∧ Ext X w B X w' (evMakeMap ti h' T B).B := by
  cases ti <;> try (simp only [evMakeMap, bad] at hc; done)
  case mapI k1 k2 =>
    have hh := Go.MapKept.heap_alloc w (.map #[] 0)
    have hsz : (w.alloc (.map #[] 0)).heap.size = w.heap.size + 1 := Array.size_push _
    refine ⟨.mp w.heap.size, .map (some w.heap.size), w.alloc (.map #[] 0), rfl, ?_, .om .., ?_⟩
    · exact hs.push (by omega) (fun c hc => hh.2 c hc) (fun c hc => by simp [Own.blocks] at hc; subst hc; omega) ⟨_, _, hh.1, trivial⟩
    · exact Ext.push rfl rfl rfl (by omega) (fun c hc => hh.2 c hc) (fun c hc => by simp [Own.blocks] at hc; subst hc; omega)
theorem insert_sound (ht : tyB P T ti = true) (hs : Sat X w B) {m k x : SV} {vm vk vx : Value} (hm : Den X w m vm) (hk : Den X w k vk) (hx : Den X w x vx) (hc : (evInsert ti B m k x).vc) :
    ∃ w', (Instr.mapUpdate T vm vk vx).run P w = .ok () w' ∧ Sat X w' (evInsert ti B m k x).B ∧ Ext X w B X w' (evInsert ti B m k x).B ∧ (evInsert ti B m k x).v = .any := by
  cases ti <;> try (simp only [evInsert, bad] at hc; done)
  case mapI k1 k2 =>
    obtain ⟨A, F, hu, hA, hz⟩ := tyB_map ht
    cases hm <;> try (simp only [evInsert, bad] at hc; done)
    case om i b j1 j2 =>
      cases hk <;> try (simp only [evInsert, bad] at hc; done)
      case int c1 a =>
        cases hx <;> try (simp only [evInsert, bad] at hc; done)
        case int c2 v =>
          cases hg : getD' B i with
          | gone => simp [evInsert, hg, bad] at hc
          | row h' E e xs =>
            simp only [evInsert, hg] at hc ⊢
            obtain ⟨rfl, rfl, rfl, rfl, rfl, hxs⟩ := hc
            obtain ⟨arr, clock, hb, he⟩ := hs.mrow hg
            rw [hxs] at he
            obtain ⟨arr', clock', hr, he'⟩ := update_run hu hA hb he a v
            have hset := MapKept.heap_set (o' := .map arr' clock') hb
            have hblk : ∀ c, c < w.heap.size → c ∉ (getD' B i).blocks → (w.heap.setIfInBounds b (.map arr' clock'))[c]? = w.heap[c]? := fun c _ hcn => hset.2 c (by rw [hg] at hcn; simpa [Own.blocks] using hcn)
            exact ⟨_, hr, hs.replace (getD'_lt hg) (by simp) hblk (fun c hc => .inl (by rw [hg]; simpa [Own.blocks] using hc)) ⟨arr', clock', hset.1, he'⟩, Ext.replace (getD'_lt hg) rfl rfl rfl (by simp) hblk (fun c hc => .inl (by rw [hg]; simpa [Own.blocks] using hc)), trivial⟩
theorem lkO_den {r : Option Int} {ok : Bool} {c : Prop} : Den X w (lkO k2 B r ok c).v (if ok = true then .tuple #[.int k2 (r.getD 0), .bool r.isSome] else .int k2 (r.getD 0)) := by
  cases ok with
  | false => exact .int ..
  | true =>
    refine .tup rfl fun i s hs => ?_
    match i with
    | 0 => simp at hs; subst hs; exact .int ..
    | 1 => simp at hs; subst hs; exact .bool ..
    | i + 2 => simp at hs
theorem lookup_sound (ht : tyB P T ti = true) (hs : Sat X w B) {m k : SV} {vm vk : Value} {ok : Bool} (hm : Den X w m vm) (hk : Den X w k vk) (hc : (evLookup ti B m k ok).vc) :
    ∃ u, (∀ w', (∀ b, (X b ∨ owns B b) → w'.heap[b]? = w.heap[b]?) → (Instr.lookup T vm vk ok).run P w' = .ok u w') ∧ Den X w (evLookup ti B m k ok).v u ∧ (evLookup ti B m k ok).B = B := by
  cases ti <;> try (simp only [evLookup, bad] at hc; done)
  case mapI k1 k2 =>
    obtain ⟨A, F, hu, hA, hz⟩ := tyB_map ht
    have hB : ∀ {r : Option Int} {c : Prop}, (lkO k2 B r ok c).B = B ∧ ((lkO k2 B r ok c).vc → c) := by intro r c; cases ok <;> exact ⟨rfl, id⟩
    cases hk <;> try (simp only [evLookup, bad] at hc; done)
    case int c1 a =>
      cases hm <;> try (simp only [evLookup, bad] at hc; done)
      case xm j1 j2 es b clock arr hX hw he =>
        simp only [evLookup] at hc ⊢
        obtain ⟨rfl, rfl, rfl⟩ := hB.2 hc
        exact ⟨_, fun w' h' => lookup_run hu hA hz (by rw [h' _ (.inl hX)]; exact hw) he a ok, lkO_den, hB.1⟩
      case om i b j1 j2 =>
        cases hg : getD' B i with
        | gone => simp [evLookup, hg, bad] at hc
        | row h' E e xs =>
          simp only [evLookup, hg] at hc ⊢
          obtain ⟨rfl, rfl, rfl, rfl, hxs⟩ := hB.2 hc
          obtain ⟨arr, clock, hb, he⟩ := hs.mrow hg
          rw [hxs] at he
          exact ⟨_, fun w' h' => lookup_run hu hA hz (by rw [h' _ (.inr ⟨i, by rw [hg]; simp [Own.blocks]⟩)]; exact hb) he a ok, lkO_den, hB.1⟩
end
end Go.Lift
end
section
namespace Go.Lift

structure Env where
  ty : Nat → TyI
  zr : Nat → List SV
  lv : Nat → List Nat
  kp : Bool
structure EnvOK (P : Program) (E : Env) : Prop where
  ty : ∀ T, tyB P T (E.ty T) = true
  zr : ∀ T, 0 < (E.zr T).length → zeroB P T (E.zr T) = true
  lv : ∀ T, lvB P T (E.lv T) = true

def evS (st : Bool) (t : List (Nat × SV)) (x : Operand) : SV := match st with
  | true => (ev t x).strip
  | false => ev t x
def evL (st : Bool) (t : List (Nat × SV)) : List Operand → List SV
  | [] => []
  | x :: r => evS st t x :: evL st t r
def evP (st : Bool) (t : List (Nat × SV)) : List (Nat × Operand) → List (Nat × SV)
  | [] => []
  | (i, x) :: r => (i, evS st t x) :: evP st t r
def evO (st : Bool) (t : List (Nat × SV)) : Option Operand → Option SV
  | none => none
  | some x => some (evS st t x)

def isPtr : SV → Bool
  | .rptr .. => true
  | .xp _ => true
  | .fn .. => true
  | _ => false
def evLoadT (ti : TyI) (B : List Own) (s : SV) : Out := match ti with
  | .bad => bad
  | ti => evLoad ti.agg ti.size B s
def evStoreT (ti : TyI) (B : List Own) (p s : SV) : Out := match ti with
  | .bad => bad
  | ti => evStore ti.size B p s
def evNew (h : RowH) (T : Nat) (B : List Own) (cs : List SV) (c : Prop) : Out := ⟨.rptr B.length h cs.length 0 0, B ++ [.row h T cs.length [cs]], c⟩
def evLen (ti : TyI) (B : List Own) (s : SV) : Out := match ti with
  | .array n _ _ => ⟨.int .i64 n, B, True⟩
  | .string => match s with
    | .str l => ⟨.int .i64 (l.length : Nat), B, True⟩
    | _ => bad
  | .slice .. => match s with
    | .sl _ _ n _ => ⟨.int .i64 (n : Nat), B, True⟩
    | .row _ _ _ _ n => ⟨.int .i64 (n : Nat), B, True⟩
    | _ => bad
  | _ => bad
def evCap (ti : TyI) (B : List Own) (s : SV) : Out := match ti with
  | .slice .. => match s with
    | .sl true _ n _ => ⟨.int .i64 (n : Nat), B, True⟩
    | _ => bad
  | _ => bad
def evMax (B : List Own) : SV → SV → Out
  | .int k a, .int k' b => ⟨.int k (max2I a b), B, k = k'⟩
  | _, _ => bad
def evMin (B : List Own) : SV → SV → Out
  | .int k a, .int k' b => ⟨.int k (min2I a b), B, k = k'⟩
  | _, _ => bad
def evExtract (B : List Own) (i : Nat) : SV → Out
  | .tup cs => ⟨cs.getD i .any, B, i < cs.length⟩
  | _ => bad
def elemTy (E : Env) : TyI → TyI
  | .slice e _ _ => E.ty e
  | _ => .bad
def evBuiltin (E : Env) (st : Bool) (h : RowH) (t : List (Nat × SV)) (B : List Own) (b : Builtin) (args : List Operand) (tys : List TypeId) : Out :=
  match b with
  | .len => match args, tys with
    | [x], [T] => evLen (E.ty T) B (evS st t x)
    | _, _ => bad
  | .cap => match args, tys with
    | [x], [T] => evCap (E.ty T) B (evS st t x)
    | _, _ => bad
  | .append => match args, tys with
    | [x, y], [T, T2] => evAppend E.kp (E.ty T) (E.ty T2) h B (evS st t x) (evS st t y)
    | _, _ => bad
  | .copy => match args, tys with
    | [x, y], [T, _] => evCopy (E.ty T) B (evS st t x) (evS st t y)
    | _, _ => bad
  | .clear => match args, tys with
    | [x], [T] => evClear (E.ty T) E.zr B (evS st t x)
    | _, _ => bad
  | .max => match args with
    | [x, y] => evMax B (evS st t x) (evS st t y)
    | _ => bad
  | .min => match args with
    | [x, y] => evMin B (evS st t x) (evS st t y)
    | _ => bad
  | _ => bad

def evOp (E : Env) (st : Bool) (h : RowH) (t : List (Nat × SV)) (B : List Own) (o : Op) : Out :=
  match o with
  | .move x => ⟨evS st t x, B, True⟩
  | .assign x => ⟨evS st t x, B, True⟩
  | .pick c a b => evPick B (ev t c) (ev t a) (ev t b)
  | .alloc T => evNew h T B (E.zr T) (0 < (E.zr T).length)
  | .box T x => evNew h T B (evS st t x).cells (solids (evS st t x).cells = true)
  | .build T ps => match evBuild (E.ty T) (E.zr T) B (evP st t ps.toList) with
    | ⟨v, B', c⟩ => ⟨v, B', 0 < (E.zr T).length ∧ c⟩
  | .buildSlice T n ps => evBuildSlice (E.ty T) E.zr h B n (evP st t ps.toList)
  | .load T x => evLoadT (E.ty T) B (evS st t x)
  | .store T a x => evStoreT (E.ty T) B (evS st t a) (evS st t x)
  | .nilCheck x => ⟨evS st t x, B, isPtr (evS st t x) = true⟩
  | .binOp op T x y _ => evCmp (E.ty T) (E.lv T) op h B (evS st t x) (evS st t y) y
  | .unOp op _ x => evUn op B (evS st t x)
  | .convert s d x => match E.ty s with
    | .bad => bad
    | ti => evConvert ti (elemTy E ti) (E.ty d) B (evS st t x)
  | .makeFunc (.func f) first caps => match first.toList with
    | [] => ⟨.fn f (evL st t caps.toList), B, True⟩
    | x :: r => ⟨.bm f (evL st t (x :: r)), B, caps.toList = []⟩
  | .makeSlice T l c => evMakeSlice (E.ty T) E.zr h B (evS st t l) (evS st t c)
  | .slice T x lo hi mx => evSlice E.kp (E.ty T) B (evS st t x) (evO st t lo) (evO st t hi) (evO st t mx)
  | .fieldAddr T x f => evFieldAddr (E.ty T) B f (evS st t x)
  | .field T x f => evField (E.ty T) B f (evS st t x)
  | .indexAddr T x i => evIndexAddr (E.ty T) B (evS st t x) (evS st t i)
  | .index T x i => evIndex (E.ty T) B (evS st t x) (evS st t i)
  | .extract x i => evExtract B i (evS st t x)
  | .makeMap T none => evMakeMap (E.ty T) h T B
  | .insert T m k x => evInsert (E.ty T) B (evS st t m) (evS st t k) (evS st t x)
  | .mapUpdate T m k x => evInsert (E.ty T) B (evS st t m) (evS st t k) (evS st t x)
  | .lookup T m k ok => evLookup (E.ty T) B (evS st t m) (evS st t k) ok
  | .call c => match c.callee with
    | .builtin b => evBuiltin E st h t B b c.args.toList c.argTypes.toList
    | _ => bad
  | _ => bad

section
variable {P : Program} {E : Env} {X : Nat → Prop} {w : World} {B : List Own}

def Done (P : Program) (X : Nat → Prop) (w : World) (B : List Own) (s : Sem Next) (out : Out) : Prop :=
  ∃ v w', (s.run P w = .ok (.value v) w' ∨ (s.run P w = .ok .skip w' ∧ v = undef)) ∧ Sat X w' out.B ∧ Den X w' out.v v ∧ Ext X w B X w' out.B

theorem done_same (hs : Sat X w B) {s : Sem Next} {out : Out} {v : Value} (hr : s.run P w = .ok (.value v) w) (hd : Den X w out.v v) (hB : out.B = B) : Done P X w B s out :=
  ⟨v, w, .inl hr, hB ▸ hs, hd, hB ▸ Ext.refl _ _ _⟩

theorem run_v {s : Sem Value} {v : Value} {w' : World} (h : s.run P w = .ok v w') : (do pure (.value (← s)) : Sem Next).run P w = .ok (.value v) w' := by
  simp [h]

theorem evOp_sound (hE : EnvOK P E) {st : Bool} {t : List (Nat × SV)} {ρ : Operand → Value} {o : Oper} (hs : Sat X w B) (h0 : ∀ x, Den X w (ev t x) (ρ x)) (hk : ∀ v, ρ (.const v) = v) (hd : ∀ x ∈ o.op.operands.toList, Den X w (evS st t x) (ρ x)) :
    ∃ h, (evOp E st h t B o.op).vc → Done P X w B (execOp ρ o) (evOp E st h t B o.op) := by
  obtain ⟨dst, op, type, pos, after, guard⟩ := o
  have hlist : ∀ (l : List Operand), (∀ x ∈ l, Den X w (evS st t x) (ρ x)) → ∀ (i : Nat) (c : SV), (evL st t l)[i]? = some c → Den X w c ((l.map ρ).getD i undef) := by
    intro l
    induction l with
    | nil => intro _ i c h; simp [evL] at h
    | cons x l ih =>
      intro hl i c h
      cases i with
      | zero => simp [evL] at h; subst h; simpa using hl x (List.mem_cons_self ..)
      | succ i => simpa using ih (fun y hy => hl y (List.mem_cons_of_mem _ hy)) i c (by simpa [evL] using h)
  have hlen : ∀ (l : List Operand), (evL st t l).length = l.length := by intro l; induction l with | nil => rfl | cons x l ih => simp [evL, ih]
  have hpl : ∀ (l : List (Nat × Operand)), (evP st t l).length = l.length := by
    intro l
    induction l with
    | nil => rfl
    | cons x l ih => obtain ⟨i, x⟩ := x; simp [evP, ih]
  have hpd : ∀ (l : List (Nat × Operand)), (∀ x ∈ l.map (·.2), Den X w (evS st t x) (ρ x)) → ∀ (i : Nat) (p : Nat × SV) (q : Nat × Value), (evP st t l)[i]? = some p → (l.map fun (i, x) => (i, ρ x))[i]? = some q → p.1 = q.1 ∧ Den X w p.2 q.2 := by
    intro l
    induction l with
    | nil => intro _ i p q h; simp [evP] at h
    | cons x l ih =>
      obtain ⟨j, x⟩ := x
      intro hl i p q hp hq
      cases i with
      | zero => simp [evP] at hp hq; subst hp hq; exact ⟨rfl, hl x (by simp)⟩
      | succ i => exact ih (fun y hy => hl y (by simp at hy ⊢; exact .inr hy)) i p q (by simpa [evP] using hp) (by simpa using hq)
  have void : (∀ h, ¬ (evOp E st h t B op).vc) → ∃ h, (evOp E st h t B op).vc → Done P X w B (execOp ρ ⟨dst, op, type, pos, after, guard⟩) (evOp E st h t B op) := fun h => ⟨.void none, fun hc => absurd hc (h _)⟩
  simp only at hd ⊢
  cases op <;> try (refine void fun h hc => ?_; simp only [evOp, bad] at hc; done)
  case move x => exact ⟨.void none, fun _ => done_same hs rfl (hd x (by simp [Op.operands])) rfl⟩
  case assign x => exact ⟨.void none, fun _ => done_same hs rfl (hd x (by simp [Op.operands])) rfl⟩
  case pick c a b =>
    refine ⟨.void none, fun hc => ?_⟩
    obtain ⟨r, h1, h2, h3⟩ := pick_sound (P := P) (h0 c) (h0 a) (h0 b) hc
    exact done_same hs (by simpa [execOp] using h1) h2 h3
  case alloc T =>
    by_cases hl : 0 < (E.zr T).length
    · obtain ⟨h', u, w', r1, r2, r3, r4⟩ := alloc_sound hs (hE.zr T hl)
      exact ⟨h', fun _ => ⟨u, w', .inl (by simpa [execOp] using run_v r1), r2, r3, r4⟩⟩
    · exact void fun h hc => hl (by simpa [evOp, evNew] using hc)
  case box T x =>
    have hx := hd x (by simp [Op.operands])
    by_cases hl : solids (evS st t x).cells = true
    · obtain ⟨h', u, w', r1, r2, r3, r4⟩ := box_sound (P := P) (T := T) hs hx hl
      exact ⟨h', fun _ => ⟨u, w', .inl (by simpa [execOp] using run_v r1), r2, r3, r4⟩⟩
    · exact void fun h hc => hl (by simpa [evOp, evNew] using hc)
  case build T ps =>
    refine ⟨.void none, fun hc => ?_⟩
    simp only [evOp] at hc ⊢
    obtain ⟨hz, hc⟩ := hc
    obtain ⟨u, r1, r2, r3⟩ := build_sound (hE.ty T) (hE.zr T hz) (vs := ps.map fun (i, x) => (i, ρ x)) (by simp [hpl]) (fun i p q hp hq => hpd ps.toList (fun x hx => hd x (by simpa [Op.operands] using hx)) i p q hp (by simpa using hq)) hc
    exact done_same hs (by simpa [execOp] using run_v (r1 w)) r2 r3
  case buildSlice T n ps =>
    by_cases hti : ∃ e esz eb, E.ty T = .slice e esz eb
    case neg => exact void fun h hc => by simp only [evOp] at hc; cases ht : E.ty T <;> simp [ht, evBuildSlice, bad] at hc hti
    obtain ⟨e, esz, eb, hti⟩ := hti
    by_cases hz : 0 < (E.zr e).length
    · obtain ⟨h', hh⟩ := buildSlice_sound (zr := E.zr) (hE.ty T) (fun e' esz' eb' he => by rw [hti] at he; cases he; exact hE.zr _ hz) hs (len := n) (ps := evP st t ps.toList) (vs := ps.map fun (i, x) => (i, ρ x)) (by simp [hpl])
        (fun i p q hp hq => hpd ps.toList (fun x hx => hd x (by simpa [Op.operands] using hx)) i p q hp (by simpa using hq))
      refine ⟨h', fun hc => ?_⟩
      obtain ⟨u, w', r1, r2, r3, r4⟩ := hh hc
      exact ⟨u, w', .inl (by simpa [execOp] using run_v r1), r2, r3, r4⟩
    · exact void fun h hc => by simp only [evOp, hti, evBuildSlice] at hc; omega
  case load T x =>
    refine ⟨.void none, fun hc => ?_⟩
    have hb : E.ty T ≠ .bad := fun e => by simp [evOp, evLoadT, e, bad] at hc
    have e1 : evLoadT (E.ty T) B (evS st t x) = evLoad (E.ty T).agg (E.ty T).size B (evS st t x) := by
      cases h : E.ty T <;> first | rfl | exact absurd h hb
    simp only [evOp, e1] at hc ⊢
    obtain ⟨u, r1, r2, r3⟩ := load_sound (hE.ty T) hb hs (hd x (by simp [Op.operands])) hc
    exact done_same hs (by simpa [execOp] using run_v r1) r2 r3
  case store T a x =>
    refine ⟨.void none, fun hc => ?_⟩
    have hb : E.ty T ≠ .bad := fun e => by simp [evOp, evStoreT, e, bad] at hc
    have e1 : evStoreT (E.ty T) B (evS st t a) (evS st t x) = evStore (E.ty T).size B (evS st t a) (evS st t x) := by
      cases h : E.ty T <;> first | rfl | exact absurd h hb
    simp only [evOp, e1] at hc ⊢
    obtain ⟨w', r1, r2, r3⟩ := store_sound (hE.ty T) hb hs (hd a (by simp [Op.operands])) (hd x (by simp [Op.operands])) hc
    refine ⟨undef, w', .inr ⟨by simp [execOp, r1], rfl⟩, r2, ?_, r3⟩
    have : (evStore (E.ty T).size B (evS st t a) (evS st t x)).v = .any := by
      unfold evStore; split
      · split <;> rfl
      · rfl
    rw [this]; exact .any _
  case nilCheck x =>
    refine ⟨.void none, fun hc => ?_⟩
    have hx := hd x (by simp [Op.operands])
    simp only [evOp] at hc ⊢
    refine done_same hs (v := ρ x) ?_ hx rfl
    simp only [execOp]
    generalize ρ x = v at hx
    generalize evS st t x = s at hx hc
    cases hx <;> simp only [isPtr, Bool.false_eq_true] at hc
    all_goals rfl
  case binOp op T x y T2 =>
    by_cases hsl : ∃ e a b, E.ty T = .slice e a b
    · obtain ⟨e, a, b, hti⟩ := hsl
      have hT : P.underlying T = some (.slice e) := by have := hE.ty T; rw [hti] at this; exact (tyB_slice this).1
      obtain ⟨h, hh⟩ := nil_sound hT (hd x (by simp [Op.operands]))
      refine ⟨h, fun hc => ?_⟩
      simp only [evOp, hti, evCmp, evNil] at hc ⊢
      split at hc
      · rename_i bv hy hb
        obtain ⟨hr, a', n', c', hv⟩ := hh _ hb
        have hyv : ρ y = .slice none 0 0 := by
          unfold nilOpd at hy
          split at hy
          · exact hk _
          · cases hy
        have hg : (eqGuard op T x y (ρ x) (ρ y)).run P w = .ok () w := eqGuard_plain (by rw [hv]; exact ⟨by simp, by simp⟩)
        cases op <;> simp only [evEqB, bad] at hc
        case eql =>
          have h1 : (do eqGuard .eql T x y (ρ x) (ρ y); binOp .eql T (ρ x) (ρ y) : Sem Value).run P w = .ok (.bool (bv)) w := by rw [hyv] at hg ⊢; rw [hv] at hg hr ⊢; simp only [Sem.run_bind, hg, Result.andThen_ok, binOp, hr, Sem.run_pure]
          exact done_same hs (by simpa [execOp] using run_v h1) (.bool _) rfl
        case neq =>
          have h1 : (do eqGuard .neq T x y (ρ x) (ρ y); binOp .neq T (ρ x) (ρ y) : Sem Value).run P w = .ok (.bool (!bv)) w := by rw [hyv] at hg ⊢; rw [hv] at hg hr ⊢; simp only [Sem.run_bind, hg, Result.andThen_ok, binOp, hr, Sem.run_pure]
          exact done_same hs (by simpa [execOp] using run_v h1) (.bool _) rfl
      · exact hc.elim
    by_cases hsp : E.ty T = .ptr
    · have hT : ∃ e, P.underlying T = some (.pointer e) := by have := hE.ty T; rw [hsp] at this; exact tyB_ptr this
      obtain ⟨e, hT⟩ := hT
      refine ⟨.void none, fun hc => ?_⟩
      simp only [evOp, hsp, evCmp, evNilP] at hc ⊢
      split at hc
      · rename_i bv hy hb
        obtain ⟨hr, a', hv⟩ := nilP_sound hT (hd x (by simp [Op.operands])) hb
        have hyv : ρ y = .pointer none := by
          unfold nilPOpd at hy
          split at hy
          · exact hk _
          · cases hy
        have hg : (eqGuard op T x y (ρ x) (ρ y)).run P w = .ok () w := eqGuard_plain (by rw [hv]; exact ⟨by simp, by simp⟩)
        cases op <;> simp only [evEqB, bad] at hc
        case eql =>
          have h1 : (do eqGuard .eql T x y (ρ x) (ρ y); binOp .eql T (ρ x) (ρ y) : Sem Value).run P w = .ok (.bool (bv)) w := by rw [hyv] at hg ⊢; rw [hv] at hg hr ⊢; simp only [Sem.run_bind, hg, Result.andThen_ok, binOp, hr, Sem.run_pure]
          exact done_same hs (by simpa [execOp] using run_v h1) (.bool _) rfl
        case neq =>
          have h1 : (do eqGuard .neq T x y (ρ x) (ρ y); binOp .neq T (ρ x) (ρ y) : Sem Value).run P w = .ok (.bool (!bv)) w := by rw [hyv] at hg ⊢; rw [hv] at hg hr ⊢; simp only [Sem.run_bind, hg, Result.andThen_ok, binOp, hr, Sem.run_pure]
          exact done_same hs (by simpa [execOp] using run_v h1) (.bool _) rfl
      · exact hc.elim
    have evCmp_bin : ∀ h, evCmp (E.ty T) (E.lv T) op h B (evS st t x) (evS st t y) y = evBin (E.ty T) (E.lv T) op B (evS st t x) (evS st t y) := by
      intro h
      cases hti : E.ty T <;> first | rfl | exact absurd hti hsp | exact absurd ⟨_, _, _, hti⟩ hsl
    refine ⟨.void none, fun hc => ?_⟩
    obtain ⟨u, r1, r2, r3⟩ := bin_sound (x := x) (y := y) (hE.ty T) (hE.lv T) (hd x (by simp [Op.operands])) (hd y (by simp [Op.operands])) (by simpa only [evOp, evCmp_bin] using hc)
    exact done_same hs (by simpa [execOp] using run_v r1) (by simpa only [evOp, evCmp_bin] using r2) (by simpa only [evOp, evCmp_bin] using r3)
  case makeMap T r =>
    cases r with
    | some r => exact void fun h hc => by simp [evOp, bad] at hc
    | none =>
      by_cases hm : (evMakeMap (E.ty T) (.void none) T B).vc
      · obtain ⟨h', u, w', r1, r2, r3, r4⟩ := makeMap_sound (P := P) hs hm
        exact ⟨h', fun _ => ⟨u, w', .inl (by simpa [execOp] using run_v r1), r2, r3, r4⟩⟩
      · refine void fun h hc => hm ?_
        simp only [evOp] at hc
        cases hti : E.ty T <;> simp only [hti, evMakeMap, bad] at hc ⊢
  case insert T m k x =>
    refine ⟨.void none, fun hc => ?_⟩
    simp only [evOp] at hc ⊢
    obtain ⟨w', r1, r2, r3, r4⟩ := insert_sound (hE.ty T) hs (hd m (by simp [Op.operands])) (hd k (by simp [Op.operands])) (hd x (by simp [Op.operands])) hc
    exact ⟨undef, w', .inr ⟨by simp [execOp, r1], rfl⟩, r2, by rw [r4]; exact .any _, r3⟩
  case mapUpdate T m k x =>
    refine ⟨.void none, fun hc => ?_⟩
    simp only [evOp] at hc ⊢
    obtain ⟨w', r1, r2, r3, r4⟩ := insert_sound (hE.ty T) hs (hd m (by simp [Op.operands])) (hd k (by simp [Op.operands])) (hd x (by simp [Op.operands])) hc
    exact ⟨undef, w', .inr ⟨by simp [execOp, r1], rfl⟩, r2, by rw [r4]; exact .any _, r3⟩
  case lookup T m k ok =>
    refine ⟨.void none, fun hc => ?_⟩
    simp only [evOp] at hc ⊢
    obtain ⟨u, r1, r2, r3⟩ := lookup_sound (P := P) (hE.ty T) hs (hd m (by simp [Op.operands])) (hd k (by simp [Op.operands])) hc
    exact done_same hs (by simpa [execOp] using run_v (r1 w fun _ _ => rfl)) r2 r3
  case unOp op T x =>
    refine ⟨.void none, fun hc => ?_⟩
    obtain ⟨u, r1, r2, r3⟩ := un_sound (P := P) (hd x (by simp [Op.operands])) hc
    exact done_same hs (by simpa [execOp] using run_v r1) r2 r3
  case convert s d x =>
    refine ⟨.void none, fun hc => ?_⟩
    have hb : E.ty s ≠ .bad := fun e => by simp [evOp, e, bad] at hc
    have e1 : (evOp E st (.void none) t B (.convert s d x)) = evConvert (E.ty s) (elemTy E (E.ty s)) (E.ty d) B (evS st t x) := by
      simp only [evOp]
    rw [e1] at hc ⊢
    obtain ⟨u, r1, r2, r3⟩ := convert_sound (hE.ty s) (fun e esz eb he => by rw [he]; exact hE.ty e) (hE.ty d) hs (hd x (by simp [Op.operands])) hc hb
    exact done_same hs (by simpa [execOp] using run_v r1) r2 r3
  case makeFunc fn first caps =>
    cases fn <;> try (refine void fun h hc => ?_; simp only [evOp, bad] at hc; done)
    case func f =>
      refine ⟨.void none, fun hc => ?_⟩
      cases hf : first.toList with
      | nil =>
        simp only [evOp, hf] at hc ⊢
        have hf : first = #[] := by simpa using hf
        subst hf
        refine done_same hs (v := .func (.func f) #[] (caps.map ρ)) (by simp [execOp, Instr.makeFunc]) (.fn (by simp [hlen]) fun i c h => ?_) rfl
        have := hlist caps.toList (fun x hx => hd x (by simpa [Op.operands] using hx)) i c h
        simpa using this
      | cons x r =>
        simp only [evOp, hf] at hc ⊢
        have hc0 : caps = #[] := by simpa using hc
        subst hc0
        refine done_same hs (v := .func (.func f) (first.map ρ) #[]) (by simp [execOp, Instr.makeFunc]) (.bm (by rw [← hf]; simp [hlen]) fun i c h => ?_) rfl
        rw [← hf] at h
        have := hlist first.toList (fun x hx => hd x (by simpa [Op.operands] using hx)) i c h
        simpa using this
  case makeSlice T l c =>
    by_cases hti : ∃ e esz eb, E.ty T = .slice e esz eb
    case neg => exact void fun h hc => by simp only [evOp] at hc; cases ht : E.ty T <;> simp [ht, evMakeSlice, bad] at hc hti
    obtain ⟨e, esz, eb, hti⟩ := hti
    by_cases hz : 0 < (E.zr e).length
    · obtain ⟨h', hh⟩ := makeSlice_sound (zr := E.zr) (hE.ty T) (fun e' esz' eb' he => by rw [hti] at he; cases he; exact hE.zr _ hz) hs (hd l (by simp [Op.operands])) (hd c (by simp [Op.operands]))
      refine ⟨h', fun hc => ?_⟩
      obtain ⟨u, w', r1, r2, r3, r4⟩ := hh hc
      exact ⟨u, w', .inl (by simpa [execOp] using run_v r1), r2, r3, r4⟩
    · refine void fun h hc => ?_
      simp only [evOp, hti, evMakeSlice] at hc
      split at hc
      · omega
      · exact hc
  case slice T x lo hi mx =>
    refine ⟨.void none, fun hc => ?_⟩
    have hopt : ∀ (o : Option Operand), (∀ x ∈ o.toArray.toList, Den X w (evS st t x) (ρ x)) → (∀ s, evO st t o = some s → ∃ y, o.map ρ = some y ∧ Den X w s y) ∧ (evO st t o = none → o.map ρ = none) := by
      intro o ho
      cases o with
      | none => exact ⟨by simp [evO], by simp⟩
      | some x => exact ⟨fun s hs => by simp [evO] at hs; subst hs; exact ⟨_, rfl, ho x (by simp)⟩, by simp [evO]⟩
    have hall : ∀ x' ∈ (Op.slice T x lo hi mx).operands.toList, Den X w (evS st t x') (ρ x') := hd
    obtain ⟨a1, a2⟩ := hopt lo fun y hy => hall y (by simp [Op.operands] at hy ⊢; exact .inr (.inl hy))
    obtain ⟨b1, b2⟩ := hopt hi fun y hy => hall y (by simp [Op.operands] at hy ⊢; exact .inr (.inr (.inl hy)))
    obtain ⟨c1, c2⟩ := hopt mx fun y hy => hall y (by simp [Op.operands] at hy ⊢; exact .inr (.inr (.inr hy)))
    obtain ⟨u, r1, r2, r3⟩ := slice_sound (hE.ty T) hs (hall x (by simp [Op.operands])) a1 a2 b1 b2 c1 c2 hc
    exact done_same hs (by simpa [execOp] using run_v (r1 w)) r2 r3
  case fieldAddr T x f =>
    refine ⟨.void none, fun hc => ?_⟩
    obtain ⟨u, r1, r2, r3⟩ := fieldAddr_sound (hE.ty T) (hd x (by simp [Op.operands])) hc
    exact done_same hs (by simpa [execOp] using run_v (r1 w)) r2 r3
  case field T x f =>
    refine ⟨.void none, fun hc => ?_⟩
    obtain ⟨u, r1, r2, r3⟩ := field_sound (hE.ty T) (hd x (by simp [Op.operands])) hc
    exact done_same hs (by simpa [execOp] using run_v (r1 w)) r2 r3
  case indexAddr T x i =>
    refine ⟨.void none, fun hc => ?_⟩
    obtain ⟨u, r1, r2, r3⟩ := indexAddr_sound (hE.ty T) (hd x (by simp [Op.operands])) (hd i (by simp [Op.operands])) hc
    exact done_same hs (by simpa [execOp] using run_v (r1 w)) r2 r3
  case index T x i =>
    refine ⟨.void none, fun hc => ?_⟩
    obtain ⟨u, r1, r2, r3⟩ := index_sound (hE.ty T) (hd x (by simp [Op.operands])) (hd i (by simp [Op.operands])) hc
    exact done_same hs (by simpa [execOp] using run_v (r1 w)) r2 r3
  case extract x i =>
    refine ⟨.void none, fun hc => ?_⟩
    have hx := hd x (by simp [Op.operands])
    simp only [evOp] at hc ⊢
    generalize evS st t x = s at hx hc ⊢
    generalize hv : ρ x = v at hx
    cases hx <;> try (simp only [evExtract, bad] at hc; done)
    case tup cs vs hsz h =>
      simp only [evExtract] at hc ⊢
      refine done_same hs (v := vs.getD i undef) ?_ (h i _ (get?_of_lt _ hc)) rfl
      simp only [execOp, hv, Instr.extract]
      rw [agetD_of_lt (show i < vs.size by omega)]
      simp
  case call c =>
    obtain ⟨callee, args, tys⟩ := c
    cases callee <;> try (refine void fun h hc => ?_; simp only [evOp, bad] at hc; done)
    case builtin b =>
    have hargs : ∀ x ∈ args.toList, Den X w (evS st t x) (ρ x) := fun x hx => hd x (by simp [Op.operands, Call.operands]; simpa using hx)
    obtain ⟨args⟩ := args
    obtain ⟨tys⟩ := tys
    have hex : ∀ (h : RowH), evOp E st h t B (.call ⟨.builtin b, args.toArray, tys.toArray⟩) = evBuiltin E st h t B b args tys := fun h => rfl
    have hrun : ∀ (s : Sem Value) (v : Value) (w' : World) (b : Builtin) (hb : ∀ cs, builtin b tys.toArray type cs (args.toArray.map ρ) = (do pure (.value (← s)) : Sem Next)),
        s.run P w = .ok v w' → (execOp ρ ⟨dst, .call ⟨.builtin b, args.toArray, tys.toArray⟩, type, pos, after, guard⟩).run P w = .ok (.value v) w' := by
      intro s v w' b hb hr
      simp only [execOp, resolve, Sem.run_bind, Sem.run_pure, Result.andThen_ok, invoke]
      rw [hb]; exact run_v hr
    simp only [hex]
    cases b <;> try (refine ⟨.void none, fun hc => ?_⟩; simp only [evBuiltin, bad] at hc; done)
    case append =>
      match args, tys, hargs, hrun with
      | [x, y], [T, T2], hargs, hrun =>
        obtain ⟨h', hh⟩ := append_sound (ty := type) (hE.ty T) (hE.ty T2) hs (hargs x (by simp)) (hargs y (by simp))
        refine ⟨h', fun hc => ?_⟩
        obtain ⟨u, w', r1, r2, r3, r4⟩ := hh hc
        exact ⟨u, w', .inl (hrun _ _ _ .append (fun _ => rfl) (by simpa using r1)), r2, r3, r4⟩
      | [], _, _, _ => exact ⟨.void none, fun hc => by simp [evBuiltin, bad] at hc⟩
      | [_], _, _, _ => exact ⟨.void none, fun hc => by simp [evBuiltin, bad] at hc⟩
      | _ :: _ :: _ :: _, _, _, _ => exact ⟨.void none, fun hc => by simp [evBuiltin, bad] at hc⟩
      | [_, _], [], _, _ => exact ⟨.void none, fun hc => by simp [evBuiltin, bad] at hc⟩
      | [_, _], [_], _, _ => exact ⟨.void none, fun hc => by simp [evBuiltin, bad] at hc⟩
      | [_, _], _ :: _ :: _ :: _, _, _ => exact ⟨.void none, fun hc => by simp [evBuiltin, bad] at hc⟩
    case copy =>
      match args, tys, hargs, hrun with
      | [x, y], [T, T2], hargs, hrun =>
        refine ⟨.void none, fun hc => ?_⟩
        obtain ⟨u, w', r1, r2, r3, r4⟩ := copy_sound (T2 := T2) (ty := type) (hE.ty T) hs (hargs x (by simp)) (hargs y (by simp)) hc
        exact ⟨u, w', .inl (hrun _ _ _ .copy (fun _ => rfl) (by simpa using r1)), r2, r3, r4⟩
      | [], _, _, _ => exact ⟨.void none, fun hc => by simp [evBuiltin, bad] at hc⟩
      | [_], _, _, _ => exact ⟨.void none, fun hc => by simp [evBuiltin, bad] at hc⟩
      | _ :: _ :: _ :: _, _, _, _ => exact ⟨.void none, fun hc => by simp [evBuiltin, bad] at hc⟩
      | [_, _], [], _, _ => exact ⟨.void none, fun hc => by simp [evBuiltin, bad] at hc⟩
      | [_, _], [_], _, _ => exact ⟨.void none, fun hc => by simp [evBuiltin, bad] at hc⟩
      | [_, _], _ :: _ :: _ :: _, _, _ => exact ⟨.void none, fun hc => by simp [evBuiltin, bad] at hc⟩
    case clear =>
      match args, tys, hargs, hrun with
      | [x], [T], hargs, hrun =>
        refine ⟨.void none, fun hc => ?_⟩
        obtain ⟨u, w', r1, r2, r3, r4⟩ := clear_sound (ty := type) (hE.ty T) hE.zr hs (hargs x (by simp)) hc
        exact ⟨u, w', .inl (hrun _ _ _ .clear (fun _ => rfl) (by simpa using r1)), r2, r3, r4⟩
      | [], _, _, _ => exact ⟨.void none, fun hc => by simp [evBuiltin, bad] at hc⟩
      | [_], [], _, _ => exact ⟨.void none, fun hc => by simp [evBuiltin, bad] at hc⟩
      | [_], _ :: _ :: _, _, _ => exact ⟨.void none, fun hc => by simp [evBuiltin, bad] at hc⟩
      | _ :: _ :: _, _, _, _ => exact ⟨.void none, fun hc => by simp [evBuiltin, bad] at hc⟩
    case max =>
      match args, hargs, hrun with
      | [x, y], hargs, hrun =>
        refine ⟨.void none, fun hc => ?_⟩
        have hx := hargs x (by simp)
        have hy := hargs y (by simp)
        simp only [evBuiltin] at hc ⊢
        generalize evS st t x = sx at *
        generalize evS st t y = sy at *
        generalize hvx : ρ x = vx at hx
        generalize hvy : ρ y = vy at hy
        cases hx <;> try (simp only [evMax, bad] at hc; done)
        cases hy <;> try (simp only [evMax, bad] at hc; done)
        simp only [evMax] at hc ⊢
        subst hc
        refine done_same hs (hrun _ _ _ .max (fun _ => rfl) ?_) (.int ..) rfl
        simp [Builtin.max_, hvx, hvy, Builtin.max2, max2I]
      | [], _, _ => exact ⟨.void none, fun hc => by simp [evBuiltin, bad] at hc⟩
      | [_], _, _ => exact ⟨.void none, fun hc => by simp [evBuiltin, bad] at hc⟩
      | _ :: _ :: _ :: _, _, _ => exact ⟨.void none, fun hc => by simp [evBuiltin, bad] at hc⟩
    case min =>
      match args, hargs, hrun with
      | [x, y], hargs, hrun =>
        refine ⟨.void none, fun hc => ?_⟩
        have hx := hargs x (by simp)
        have hy := hargs y (by simp)
        simp only [evBuiltin] at hc ⊢
        generalize evS st t x = sx at *
        generalize evS st t y = sy at *
        generalize hvx : ρ x = vx at hx
        generalize hvy : ρ y = vy at hy
        cases hx <;> try (simp only [evMin, bad] at hc; done)
        cases hy <;> try (simp only [evMin, bad] at hc; done)
        simp only [evMin] at hc ⊢
        subst hc
        refine done_same hs (hrun _ _ _ .min (fun _ => rfl) ?_) (.int ..) rfl
        simp [Builtin.min_, hvx, hvy, Builtin.min2, min2I]
      | [], _, _ => exact ⟨.void none, fun hc => by simp [evBuiltin, bad] at hc⟩
      | [_], _, _ => exact ⟨.void none, fun hc => by simp [evBuiltin, bad] at hc⟩
      | _ :: _ :: _ :: _, _, _ => exact ⟨.void none, fun hc => by simp [evBuiltin, bad] at hc⟩
    case len =>
      match args, tys, hargs, hrun with
      | [x], [T], hargs, hrun =>
        refine ⟨.void none, fun hc => ?_⟩
        have hx := hargs x (by simp)
        simp only [evBuiltin] at hc ⊢
        generalize evS st t x = sx at *
        generalize hvx : ρ x = vx at hx
        have ht := hE.ty T
        cases hti : E.ty T <;> simp only [hti] at hc ht ⊢ <;> try (simp only [evLen, bad] at hc; done)
        case string =>
          have hu := tyB_string ht
          cases hx <;> try (simp only [evLen, bad] at hc; done)
          refine done_same hs (hrun _ _ _ .len (fun _ => rfl) ?_) (.int ..) rfl
          have hsz : ∀ l : List UInt8, (ByteArray.mk l.toArray).size = l.length := fun l => by simp [ByteArray.size]
          simp only [List.map_toArray, List.map_cons, List.map_nil, hvx, Builtin.len_, List.getElem?_toArray, List.getElem?_cons_zero, Sem.run_bind, run_underlying hu, Result.andThen_ok, Sem.run_pure, goInt, hsz]
        case slice e esz eb =>
          obtain ⟨hu, _⟩ := tyB_slice ht
          cases hx <;> try (simp only [evLen, bad] at hc; done)
          all_goals
            refine done_same hs (hrun _ _ _ .len (fun _ => rfl) ?_) (.int ..) rfl
            simp [Builtin.len_, hvx, run_underlying hu, goInt]
        case array n a e =>
          obtain ⟨e', hu, _⟩ := tyB_array ht
          refine done_same hs (hrun _ _ _ .len (fun _ => rfl) ?_) (.int ..) rfl
          simp [Builtin.len_, run_underlying hu, goInt]
      | [], _, _, _ => exact ⟨.void none, fun hc => by simp [evBuiltin, bad] at hc⟩
      | _ :: _ :: _, _, _, _ => exact ⟨.void none, fun hc => by simp [evBuiltin, bad] at hc⟩
      | [_], [], _, _ => exact ⟨.void none, fun hc => by simp [evBuiltin, bad] at hc⟩
      | [_], _ :: _ :: _, _, _ => exact ⟨.void none, fun hc => by simp [evBuiltin, bad] at hc⟩
    case cap =>
      match args, tys, hargs, hrun with
      | [x], [T], hargs, hrun =>
        refine ⟨.void none, fun hc => ?_⟩
        have hx := hargs x (by simp)
        simp only [evBuiltin] at hc ⊢
        generalize evS st t x = sx at *
        generalize hvx : ρ x = vx at hx
        have ht := hE.ty T
        cases hti : E.ty T <;> simp only [hti] at hc ht ⊢ <;> try (simp only [evCap, bad] at hc; done)
        case slice e esz eb =>
          obtain ⟨hu, _⟩ := tyB_slice ht
          cases hx <;> try (simp only [evCap, bad] at hc; done)
          case slNil full _ _ _ cap hf =>
            cases full
            · simp only [evCap, bad] at hc
            · have := hf rfl
              subst this
              refine done_same hs (hrun _ _ _ .cap (fun _ => rfl) ?_) (.int ..) rfl
              simp [Builtin.cap_, hvx, run_underlying hu, goInt]
          case slAt full _ n _ _ _ cap _ _ _ hf _ _ _ _ =>
            cases full
            · simp only [evCap, bad] at hc
            · have := hf rfl
              subst this
              refine done_same hs (hrun _ _ _ .cap (fun _ => rfl) ?_) (.int ..) rfl
              simp [Builtin.cap_, hvx, run_underlying hu, goInt]
      | [], _, _, _ => exact ⟨.void none, fun hc => by simp [evBuiltin, bad] at hc⟩
      | _ :: _ :: _, _, _, _ => exact ⟨.void none, fun hc => by simp [evBuiltin, bad] at hc⟩
      | [_], [], _, _ => exact ⟨.void none, fun hc => by simp [evBuiltin, bad] at hc⟩
      | [_], _ :: _ :: _, _, _ => exact ⟨.void none, fun hc => by simp [evBuiltin, bad] at hc⟩
end
end Go.Lift
end
