/-
  A symbolic layer over the kit's walk: symbolic values, memory owned by a running call, and how they stand to the model's worlds.
-/
import Derived.WalkKit
import Derived.MapKept
namespace Go.Lift

/-- Where an owned row lies: a block and its capacity in elements; or nowhere (an empty slice). -/
inductive RowH where
  | at (b cap : Nat)
  | void (a : Option Addr)
  | mp (b : Nat)

instance : Inhabited RowH := ⟨.void none⟩
/-- Symbolic values. 'sl': a slice of memory that nobody writes any more, given by its elements' cells. 'row': a slice of an owned row. 'rptr': a pointer into an owned row. 'xp': a pointer into memory that nobody writes. 'opt': a value that is there only if the guard holds. 'om': a map of the running call's own. 'xm': a map that nobody writes any more. -/
inductive SV where
  | any
  | int (k : IntKind) (n : Int)
  | bool (b : Bool)
  | str (l : List UInt8)
  | agg (cs : List SV)
  | tup (cs : List SV)
  | sl (full : Bool) (esz n : Nat) (f : Nat → List SV)
  | xp (cs : List SV)
  | row (i : Nat) (h : RowH) (esz lo n : Nat)
  | rptr (i : Nat) (h : RowH) (esz k off : Nat)
  | fn (f : FuncId) (caps : List SV)
  | bm (f : FuncId) (first : List SV)
  | val (v : Value)
  | opt (c : Bool) (v : SV)
  | om (i : Nat) (h : RowH) (k1 k2 : IntKind)
  | xm (k1 k2 : IntKind) (es : List (Int × Int))
instance : Inhabited SV := ⟨.any⟩

inductive Own where
  | row (h : RowH) (E esz : Nat) (xs : List (List SV))
  | gone
instance : Inhabited Own := ⟨.gone⟩

/-- The cells of a map's entry. -/
def mC (k1 k2 : IntKind) (e : Int × Int) : List SV := [.int k1 e.1, .int k2 e.2]
/-- The entries of a map, in their order. -/
def entX : List MapEntry → List (List SV) → Prop
  | [], [] => True
  | e :: es, x :: xs => (∃ k1 k2 a v, e.key = .int k1 a ∧ e.val = .int k2 v ∧ x = [.int k1 a, .int k2 v]) ∧ entX es xs
  | _, _ => False
inductive Den (X : Nat → Prop) (w : World) : SV → Value → Prop
  | any (v) : Den X w .any v
  | int (k n) : Den X w (.int k n) (.int k n)
  | bool (b) : Den X w (.bool b) (.bool b)
  | str (l : List UInt8) : Den X w (.str l) (.string ⟨l.toArray⟩)
  | agg {cs : List SV} {vs : Array Value} (hs : vs.size = cs.length) (h : ∀ i c, cs[i]? = some c → Den X w c (vs.getD i undef)) : Den X w (.agg cs) (.agg vs)
  | tup {cs : List SV} {vs : Array Value} (hs : vs.size = cs.length) (h : ∀ i c, cs[i]? = some c → Den X w c (vs.getD i undef)) : Den X w (.tup cs) (.tuple vs)
  | slNil {full : Bool} {esz : Nat} {f : Nat → List SV} {a : Option Addr} {cap : Nat} (hf : full = true → cap = 0) : Den X w (.sl full esz 0 f) (.slice a 0 cap)
  | slAt {full : Bool} {esz n : Nat} {f : Nat → List SV} {b off cap : Nat} (g : Nat → Nat → Value) (hn : 0 < n) (hc : n ≤ cap) (hf : full = true → cap = n) (hX : X b)
      (hl : ∀ k, k < n → (f k).length = esz) (hw : ∀ k j, k < n → j < esz → w.cell? ⟨b, off + (k * esz + j), none⟩ = some (g k j))
      (h : ∀ k j c, k < n → (f k)[j]? = some c → Den X w c (g k j)) : Den X w (.sl full esz n f) (.slice (some ⟨b, off, none⟩) n cap)
  | xp {cs : List SV} {b off : Nat} (g : Nat → Value) (hX : X b) (hw : ∀ j, j < cs.length → w.cell? ⟨b, off + j, none⟩ = some (g j))
      (h : ∀ (j : Nat) (c : SV), cs[j]? = some c → Den X w c (g j)) : Den X w (.xp cs) (.pointer (some ⟨b, off, none⟩))
  | rowVoid (i : Nat) (a : Option Addr) (esz lo : Nat) : Den X w (.row i (.void a) esz lo 0) (.slice a 0 0)
  | rowAt (i b cap esz n : Nat) (h : n ≤ cap) : Den X w (.row i (.at b cap) esz 0 n) (.slice (some ⟨b, 0, none⟩) n cap)
  | rowLo (i b cap esz lo n c : Nat) (hn : 0 < n) (h : n ≤ c) : Den X w (.row i (.at b cap) esz (lo + 1) n) (.slice (some ⟨b, (lo + 1) * esz, none⟩) n c)
  | rowLo0 (i b cap esz lo c : Nat) (a : Option Addr) : Den X w (.row i (.at b cap) esz (lo + 1) 0) (.slice a 0 c)
  | rptr (i b cap esz k off : Nat) : Den X w (.rptr i (.at b cap) esz k off) (.pointer (some ⟨b, k * esz + off, none⟩))
  | fn {f : FuncId} {cs : List SV} {vs : Array Value} (hs : vs.size = cs.length) (h : ∀ i c, cs[i]? = some c → Den X w c (vs.getD i undef)) : Den X w (.fn f cs) (.func (.func f) #[] vs)
  | bm {f : FuncId} {cs : List SV} {vs : Array Value} (hs : vs.size = cs.length) (h : ∀ i c, cs[i]? = some c → Den X w c (vs.getD i undef)) : Den X w (.bm f cs) (.func (.func f) vs #[])
  | val (v) : Den X w (.val v) v
  | opt {c : Bool} {s : SV} {v : Value} (h : c = true → Den X w s v) (hu : c = false → v = undef) : Den X w (.opt c s) v
  | om (i b : Nat) (k1 k2 : IntKind) : Den X w (.om i (.mp b) k1 k2) (.map (some b))
  | xm {k1 k2 : IntKind} {es : List (Int × Int)} {b clock : Nat} {arr : Array MapEntry} (hX : X b) (hw : w.heap[b]? = some (.map arr clock)) (he : entX arr.toList (es.map (mC k1 k2))) : Den X w (.xm k1 k2 es) (.map (some b))

theorem Den.mono {X X' : Nat → Prop} {w w' : World} {s : SV} {v : Value} (h : Den X w s v) (hX : ∀ b, X b → X' b) (hw : ∀ b, X b → w'.heap[b]? = w.heap[b]?) : Den X' w' s v := by
  have hc : ∀ (b o : Nat), X b → w'.cell? ⟨b, o, none⟩ = w.cell? ⟨b, o, none⟩ := fun b o hb => World.cell?_of_block (w := w) (hw b hb)
  induction h with
  | any v => exact .any v
  | int k n => exact .int k n
  | bool b => exact .bool b
  | str l => exact .str l
  | agg hs _ ih => exact .agg hs ih
  | tup hs _ ih => exact .tup hs ih
  | slNil hf => exact .slNil hf
  | slAt g hn hcap hf hx hl hcell _ ih => exact .slAt g hn hcap hf (hX _ hx) hl (fun k j hk hj => by rw [hc _ _ hx]; exact hcell k j hk hj) ih
  | xp g hx hcell _ ih => exact .xp g (hX _ hx) (fun j hj => by rw [hc _ _ hx]; exact hcell j hj) ih
  | rowVoid i a esz lo => exact .rowVoid i a esz lo
  | rowAt i b cap esz n h => exact .rowAt i b cap esz n h
  | rowLo i b cap esz lo n c hn h => exact .rowLo i b cap esz lo n c hn h
  | rowLo0 i b cap esz lo c a => exact .rowLo0 i b cap esz lo c a
  | rptr i b cap esz k off => exact .rptr i b cap esz k off
  | fn hs _ ih => exact .fn hs ih
  | bm hs _ ih => exact .bm hs ih
  | val v => exact .val v
  | opt _ hu ih => exact .opt ih hu
  | om i b k1 k2 => exact .om i b k1 k2
  | xm hx hheap he => exact .xm (hX _ hx) (by rw [hw _ hx]; exact hheap) he

def Own.blocks : Own → List Nat
  | .row (.at b _) _ _ _ => [b]
  | .row (.mp b) _ _ _ => [b]
  | _ => []
def getD' (B : List Own) (i : Nat) : Own := B.getD i .gone
def owns (B : List Own) (b : Nat) : Prop := ∃ i, b ∈ (getD' B i).blocks

/-- An owned row in a world: the first elements' cells are as listed; the rest of the block is spare. No cell is frozen. -/
def Own.ok (X : Nat → Prop) (w : World) : Own → Prop
  | .row (.at b cap) E esz xs => ∃ vs : Array Value, w.heap[b]? = some (.cells vs E (0, 0)) ∧ vs.size = cap * esz ∧ xs.length ≤ cap ∧ (∀ (k : Nat) (x : List SV), xs[k]? = some x → x.length = esz) ∧
      ∀ (k j : Nat) (x : List SV) (c : SV), xs[k]? = some x → x[j]? = some c → Den X w c (vs.getD (k * esz + j) undef)
  | .row (.void _) _ _ xs => xs = []
  | .row (.mp b) _ _ xs => ∃ arr clock, w.heap[b]? = some (.map arr clock) ∧ entX arr.toList xs
  | .gone => True

/-- Package-level variables whose contents are known, by their cells; none for the others. -/
def GV : Nat → List SV := fun | 0 => [.str [110, 111, 112], .str [], .str [115, 101, 116], .str [114, 110], .str [109, 111, 118, 101], .str [114, 114], .str [97, 100, 100], .str [114, 114, 114], .str [115, 117, 98], .str [114, 114, 114], .str [109, 117, 108], .str [114, 114, 114], .str [108, 101, 115, 115], .str [114, 114, 114], .str [101, 113, 117, 97, 108], .str [114, 114, 114], .str [106, 117, 109, 112], .str [116], .str [105, 102], .str [114, 116], .str [108, 111, 97, 100], .str [114, 114, 111], .str [115, 116, 111, 114, 101], .str [114, 114, 111], .str [99, 97, 108, 108], .str [99]] | _ => []
/-- External memory: what lies there, and the package-level variables in it. -/
def XG (X : Nat → Prop) (w : World) : Prop := (∀ b, X b → b < w.heap.size) ∧ ∀ g, GV g ≠ [] → Den X w (.xp (GV g)) (.pointer (some ⟨g, 0, none⟩))
theorem XG.mono {X X' : Nat → Prop} {w w' : World} (h : XG X w) (hX : ∀ b, X b → X' b) (hw : ∀ b, X b → w'.heap[b]? = w.heap[b]?) (hlt : ∀ b, X' b → b < w'.heap.size) : XG X' w' :=
  ⟨hlt, fun g hg => (h.2 g hg).mono hX hw⟩
structure Sat (X : Nat → Prop) (w : World) (B : List Own) : Prop where
  inj : ∀ i j b, b ∈ (getD' B i).blocks → b ∈ (getD' B j).blocks → i = j
  lt : ∀ i b, b ∈ (getD' B i).blocks → b < w.heap.size
  xg : XG X w
  apart : ∀ b, X b → ¬ owns B b
  ok : ∀ i, Own.ok X w (getD' B i)

theorem Sat.xlt {X : Nat → Prop} {w : World} {B : List Own} (h : Sat X w B) : ∀ b, X b → b < w.heap.size := h.xg.1
/-- What becomes of world, external memory and owned memory. -/
structure Ext (X : Nat → Prop) (w : World) (B : List Own) (X' : Nat → Prop) (w' : World) (B' : List Own) : Prop where
  os : w'.os = w.os
  tape : w'.tape = w.tape
  output : w'.output = w.output
  size : w.heap.size ≤ w'.heap.size
  block : ∀ b, b < w.heap.size → ¬ owns B b → w'.heap[b]? = w.heap[b]?
  xin : ∀ b, X b → X' b
  xout : ∀ b, X' b → X b ∨ owns B b ∨ w.heap.size ≤ b
  own : ∀ b, owns B' b → owns B b ∨ w.heap.size ≤ b

theorem Ext.refl (X w B) : Ext X w B X w B := ⟨rfl, rfl, rfl, Nat.le_refl _, fun _ _ _ => rfl, fun _ h => h, fun _ h => .inl h, fun _ h => .inl h⟩

theorem Ext.trans {X w B X1 w1 B1 X2 w2 B2} (h : Ext X w B X1 w1 B1) (k : Ext X1 w1 B1 X2 w2 B2) : Ext X w B X2 w2 B2 where
  os := k.os.trans h.os
  tape := k.tape.trans h.tape
  output := k.output.trans h.output
  size := Nat.le_trans h.size k.size
  block b hb hn := (k.block b (Nat.lt_of_lt_of_le hb h.size) fun hm => (h.own b hm).elim hn (fun hl => by omega)).trans (h.block b hb hn)
  xin b hb := k.xin b (h.xin b hb)
  xout b hb := by
    rcases k.xout b hb with h1 | h1 | h1
    · exact h.xout b h1
    · exact (h.own b h1).elim (fun h => .inr (.inl h)) (fun h => .inr (.inr h))
    · exact .inr (.inr (Nat.le_trans h.size h1))
  own b hb := by
    rcases k.own b hb with h1 | h1
    · exact h.own b h1
    · exact .inr (Nat.le_trans h.size h1)

/-- External memory stays as it is. -/
theorem Den.ext {X w B X' w' B' s v} (h : Den X w s v) (hs : Sat X w B) (he : Ext X w B X' w' B') : Den X' w' s v :=
  h.mono he.xin fun b hb => he.block b (hs.xlt b hb) (hs.apart b hb)

/-- Slots: the newest binding counts; a slot that is not listed is unknown. -/
def lkp : List (Nat × SV) → Nat → SV
  | [], _ => .any
  | (j, v) :: r, i => if i = j then v else lkp r i

/-- The frame of a running function. -/
def DenT (X : Nat → Prop) (w : World) (t : List (Nat × SV)) (n : Nat) (tmps : Array Value) : Prop :=
  tmps.size = n ∧ ∀ i, Den X w (lkp t i) (tmps.getD i undef)

end Go.Lift
