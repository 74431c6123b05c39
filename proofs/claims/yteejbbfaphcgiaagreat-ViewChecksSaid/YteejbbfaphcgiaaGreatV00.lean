/- Part 0. -/
import Derived.WalkKit
import Derived.MapKept
import Derived.Laws.Cover3
namespace Go.Lift
open List (range replicate getD length_cons take length_take length_drop length_map map_nil length_nil take_take drop take_length append_nil flatten_cons flatten_nil map_cons range')
open Nat (le_refl le_trans lt_of_lt_of_le lt_or_ge mul_le_mul_right succ_mul add_zero add_assoc add_mul mul_comm min_eq_left le_zero zero_le zero_add)
inductive aN where
 |at (b cap:Nat)
 |void (a:Option Addr)
 |mp (b:Nat)
instance:Inhabited aN:=⟨.void none⟩
inductive SV where
 |any
 |int (k:IntKind) (n:Int)
 |bool (b:Bool)
 |str (l:List UInt8)
 |agg (cs:List SV)
 |bS (cs:List SV)
 |sl (full:Bool) (esz n:Nat) (f:Nat→List SV)
 |xp (cs:List SV)
 |row (i:Nat) (h:aN) (esz lo n:Nat)
 |bx (i:Nat) (h:aN) (esz k off:Nat)
 |fn (f:FuncId) (caps:List SV)
 |bm (f:FuncId) (first:List SV)
 |val (v:Value)
 |opt (c:Bool) (v:SV)
 |om (i:Nat) (h:aN) (k1 k2:IntKind)
 |xm (k1 k2:IntKind) (es:List (Int×Int))
instance:Inhabited SV:=⟨.any⟩
inductive aI where
 |row (h:aN) (E esz:Nat) (xs:List (List SV))
 |gone
instance:Inhabited aI:=⟨.gone⟩
def wX (k:IntKind) (n:Int):Prop:=k= .u64→0≤n
theorem wX.i64 {n:Int}:wX .i64 n:=nofun
theorem wX.u8 {n:Int}:wX .u8 n:=nofun
theorem wX.zero {k:IntKind}:wX k 0:=fun _=>Int.le_refl _
theorem wX.wrap {k:IntKind} {n:Int}:wX k (k.wrap n):=fun h=>by subst h;exact Int.emod_nonneg _ (by decide)
def mC (k1 k2:IntKind) (e:Int×Int):List SV:=[.int k1 e.1,.int k2 e.2]
def vL:List MapEntry→List (List SV)→Prop
 |[],[]=>True
 |e :: es,x :: xs=>(∃k1 k2 a v,wX k1 a∧wX k2 v∧e.key= .int k1 a∧e.val= .int k2 v∧x=[.int k1 a,.int k2 v])∧vL es xs
 |_,_=>False
inductive Den (X:Nat→Prop) (w:World):SV→Value→Prop
 |any (v):Den X w .any v
 |int (k n) (h:wX k n):Den X w (.int k n) (.int k n)
 |bool (b):Den X w (.bool b) (.bool b)
 |str (l:List UInt8):Den X w (.str l) (.string ⟨l.toArray⟩)
 |agg {cs:List SV} {vs:Array Value} (hs:vs.size=cs.length) (h:∀i c,cs[i]?=some c→Den X w c (vs.getD i undef)):Den X w (.agg cs) (.agg vs)
 |bS {cs:List SV} {vs:Array Value} (hs:vs.size=cs.length) (h:∀i c,cs[i]?=some c→Den X w c (vs.getD i undef)):Den X w (.bS cs) (.tuple vs)
 |gC {full:Bool} {esz:Nat} {f:Nat→List SV} {a:Option Addr} {cap:Nat} (hf:full=true→cap=0):Den X w (.sl full esz 0 f) (.slice a 0 cap)
 |na {full:Bool} {esz n:Nat} {f:Nat→List SV} {b off cap:Nat} (g:Nat→Nat→Value) (hn:0 < n) (hc:n≤cap) (hf:full=true→cap=n) (hX:X b)
   (hl:∀k,k < n→(f k).length=esz) (hw:∀k j,k < n→j < esz→w.cell? ⟨b,off+(k*esz+j),none⟩=some (g k j))
   (h:∀k j c,k < n→(f k)[j]?=some c→Den X w c (g k j)):Den X w (.sl full esz n f) (.slice (some ⟨b,off,none⟩) n cap)
 |xp {cs:List SV} {b off:Nat} (g:Nat→Value) (hX:X b) (hw:∀j,j < cs.length→w.cell? ⟨b,off+j,none⟩=some (g j))
   (h:∀(j:Nat) (c:SV),cs[j]?=some c→Den X w c (g j)):Den X w (.xp cs) (.pointer (some ⟨b,off,none⟩))
 |dh (i:Nat) (a:Option Addr) (esz lo:Nat):Den X w (.row i (.void a) esz lo 0) (.slice a 0 0)
 |rowAt (i b cap esz n:Nat) (h:n≤cap):Den X w (.row i (.at b cap) esz 0 n) (.slice (some ⟨b,0,none⟩) n cap)
 |kS (i b cap esz lo n c:Nat) (hn:0 < n) (h:n≤c):Den X w (.row i (.at b cap) esz (lo+1) n) (.slice (some ⟨b,(lo+1)*esz,none⟩) n c)
 |hO (i b cap esz lo c:Nat) (a:Option Addr):Den X w (.row i (.at b cap) esz (lo+1) 0) (.slice a 0 c)
 |bx (i b cap esz k off:Nat):Den X w (.bx i (.at b cap) esz k off) (.pointer (some ⟨b,k*esz+off,none⟩))
 |fn {f:FuncId} {cs:List SV} {vs:Array Value} (hs:vs.size=cs.length) (h:∀i c,cs[i]?=some c→Den X w c (vs.getD i undef)):Den X w (.fn f cs) (.func (.func f) #[] vs)
 |bm {f:FuncId} {cs:List SV} {vs:Array Value} (hs:vs.size=cs.length) (h:∀i c,cs[i]?=some c→Den X w c (vs.getD i undef)):Den X w (.bm f cs) (.func (.func f) vs #[])
 |val (v):Den X w (.val v) v
 |opt {c:Bool} {s:SV} {v:Value} (h:c=true→Den X w s v) (hu:c=false→v=undef):Den X w (.opt c s) v
 |om (i b:Nat) (k1 k2:IntKind):Den X w (.om i (.mp b) k1 k2) (.map (some b))
 |xm {k1 k2:IntKind} {es:List (Int×Int)} {b clock:Nat} {arr:Array MapEntry} (hX:X b) (hw:w.heap[b]?=some (.map arr clock)) (he:vL arr.toList (es.map (mC k1 k2))):Den X w (.xm k1 k2 es) (.map (some b))
theorem Den.mono {X X':Nat→Prop} {w w':World} {s:SV} {v:Value} (h:Den X w s v) (hX:∀b,X b→X' b) (hw:∀b,X b→w'.heap[b]?=w.heap[b]?):Den X' w' s v:=by
 have hc:∀(b o:Nat),X b→w'.cell? ⟨b,o,none⟩=w.cell? ⟨b,o,none⟩:=fun b o hb=>World.cell?_of_block (w:=w) (hw b hb)
 induction h with
 |any v=>exact .any v
 |int k n h=>exact .int k n h
 |bool b=>exact .bool b
 |str l=>exact .str l
 |agg hs _ ih=>exact .agg hs ih
 |bS hs _ ih=>exact .bS hs ih
 |gC hf=>exact .gC hf
 |na g hn hcap hf hx hl hcell _ ih=>exact .na g hn hcap hf (hX _ hx) hl (fun k j hk hj=>by rw [hc _ _ hx];exact hcell k j hk hj) ih
 |xp g hx hcell _ ih=>exact .xp g (hX _ hx) (fun j hj=>by rw [hc _ _ hx];exact hcell j hj) ih
 |dh i a esz lo=>exact .dh i a esz lo
 |rowAt i b cap esz n h=>exact .rowAt i b cap esz n h
 |kS i b cap esz lo n c hn h=>exact .kS i b cap esz lo n c hn h
 |hO i b cap esz lo c a=>exact .hO i b cap esz lo c a
 |bx i b cap esz k off=>exact .bx i b cap esz k off
 |fn hs _ ih=>exact .fn hs ih
 |bm hs _ ih=>exact .bm hs ih
 |val v=>exact .val v
 |opt _ hu ih=>exact .opt ih hu
 |om i b k1 k2=>exact .om i b k1 k2
 |xm hx hheap he=>exact .xm (hX _ hx) (by rw [hw _ hx];exact hheap) he
def aI.blocks:aI→List Nat
 | .row (.at b _) _ _ _=>[b]
 | .row (.mp b) _ _ _=>[b]
 |_=>[]
def au (B:List aI) (i:Nat):aI:=B.getD i .gone
def hU (B:List aI) (b:Nat):Prop:=∃i,b∈(au B i).blocks
def aI.ok (X:Nat→Prop) (w:World):aI→Prop
 | .row (.at b cap) E esz xs=>∃vs:Array Value,w.heap[b]?=some (.cells vs E (0,0))∧vs.size=cap*esz∧xs.length≤cap∧(∀(k:Nat) (x:List SV),xs[k]?=some x→x.length=esz)∧
   ∀(k j:Nat) (x:List SV) (c:SV),xs[k]?=some x→x[j]?=some c→Den X w c (vs.getD (k*esz+j) undef)
 | .row (.void _) _ _ xs=>xs=[]
 | .row (.mp b) _ _ xs=>∃arr clock,w.heap[b]?=some (.map arr clock)∧vL arr.toList xs
 | .gone=>True
def GV:Nat→List SV:=fun _=>[]
def XG (X:Nat→Prop) (w:World):Prop:=(∀b,X b→b < w.heap.size)∧∀g,GV g≠[]→Den X w (.xp (GV g)) (.pointer (some ⟨g,0,none⟩))
theorem XG.mono {X X':Nat→Prop} {w w':World} (h:XG X w) (hX:∀b,X b→X' b) (hw:∀b,X b→w'.heap[b]?=w.heap[b]?) (hlt:∀b,X' b→b < w'.heap.size):XG X' w':=
 ⟨hlt,fun g hg=>(h.2 g hg).mono hX hw⟩
structure Sat (X:Nat→Prop) (w:World) (B:List aI):Prop where
 inj:∀i j b,b∈(au B i).blocks→b∈(au B j).blocks→i=j
 lt:∀i b,b∈(au B i).blocks→b < w.heap.size
 xg:XG X w
 apart:∀b,X b→¬hU B b
 ok:∀i,aI.ok X w (au B i)
theorem Sat.og {X:Nat→Prop} {w:World} {B:List aI} (h:Sat X w B):∀b,X b→b < w.heap.size:=h.xg.1
structure Ext (X:Nat→Prop) (w:World) (B:List aI) (X':Nat→Prop) (w':World) (B':List aI):Prop where
 os:w'.os=w.os
 tape:w'.tape=w.tape
 output:w'.output=w.output
 size:w.heap.size≤w'.heap.size
 block:∀b,b < w.heap.size→¬hU B b→w'.heap[b]?=w.heap[b]?
 AS:∀b,X b→X' b
 pT:∀b,X' b→X b∨hU B b∨w.heap.size≤b
 own:∀b,hU B' b→hU B b∨w.heap.size≤b
theorem Ext.refl (X w B):Ext X w B X w B:=⟨rfl,rfl,rfl,le_refl _,fun _ _ _=>rfl,fun _ h=>h,fun _ h=> .inl h,fun _ h=> .inl h⟩
theorem Ext.trans {X w B X1 w1 B1 X2 w2 B2} (h:Ext X w B X1 w1 B1) (k:Ext X1 w1 B1 X2 w2 B2):Ext X w B X2 w2 B2 where
 os:=k.os.trans h.os
 tape:=k.tape.trans h.tape
 output:=k.output.trans h.output
 size:=le_trans h.size k.size
 block b hb hn:=(k.block b (lt_of_lt_of_le hb h.size) fun hm=>(h.own b hm).elim hn (fun hl=>by omega)).trans (h.block b hb hn)
 AS b hb:=k.AS b (h.AS b hb)
 pT b hb:=by
  rcases k.pT b hb with h1|h1|h1
  ·exact h.pT b h1
  ·exact (h.own b h1).elim (fun h=> .inr (.inl h)) (fun h=> .inr (.inr h))
  ·exact .inr (.inr (le_trans h.size h1))
 own b hb:=by
  rcases k.own b hb with h1|h1
  ·exact h.own b h1
  ·exact .inr (le_trans h.size h1)
theorem Den.ext {X w B X' w' B' s v} (h:Den X w s v) (hs:Sat X w B) (he:Ext X w B X' w' B'):Den X' w' s v:=
 h.mono he.AS fun b hb=>he.block b (hs.og b hb) (hs.apart b hb)
def dd:List (Nat×SV)→Nat→SV
 |[],_=> .any
 |(j,v) :: r,i=>if i=j then v else dd r i
def wU (X:Nat→Prop) (w:World) (t:List (Nat×SV)) (n:Nat) (tmps:Array Value):Prop:=
 tmps.size=n∧∀i,Den X w (dd t i) (tmps.getD i undef)
inductive j4 where
 |bF
 |bool
 |int (k:IntKind)
 |string
 |slice (E esz eb:Nat)
 |one
 |ptr
 |struct (fs:List (Nat×Bool×Nat)) (n:Nat)
 |array (len:Nat) (agg:Bool) (esz:Nat)
 |Br (k1 k2:IntKind)
instance:Inhabited j4:=⟨.bF⟩
def j4.agg:j4→Bool
 | .struct .. =>true
 | .array .. =>true
 |_=>false
def j4.size:j4→Nat
 | .bF=>0
 | .struct _ n=>n
 | .array l _ e=>l*e
 |_=>1
structure Out where
 v:SV
 B:List aI
 vc:Prop
def bF:Out:=⟨.any,[],False⟩
def SV.fh:SV→Bool
 | .any=>false
 | .agg _=>false
 | .bS _=>false
 | .opt _ _=>false
 | .val v=>v.oneCell'
 |_=>true
def bt:List SV→Bool
 |[]=>true
 |c :: r=>c.fh && bt r
def SV.cells:SV→List SV
 | .agg cs=>cs
 |v=>[v]
def SV.strip:SV→SV
 | .opt _ v=>v
 |v=>v
def SV.cond:SV→Bool
 | .opt c _=>c
 |_=>true
def SV.ofInt (k:IntKind) (n:Int):SV:=match k with
 | .u64=>if 0≤n then .int .u64 n else .val (.int .u64 n)
 |k=> .int k n
theorem SV.ES (n:Int):SV.ofInt .i64 n= .int .i64 n:=rfl
theorem SV.ofInt_u8 (n:Int):SV.ofInt .u8 n= .int .u8 n:=rfl
theorem SV.ofInt_u64 {n:Int} (h:0≤n):SV.ofInt .u64 n= .int .u64 n:=if_pos h
def SV.qH:Value→SV
 | .int k n=>SV.ofInt k n
 | .bool b=> .bool b
 | .string s=> .str s.data.toList
 | .slice none 0 0=> .sl true 0 0 fun _=>[]
 |v=> .val v
def SV.l7:List Value→List SV
 |[]=>[]
 |v :: r=>SV.qH v :: SV.l7 r
def SV.Bn:Value→SV
 | .agg cs=> .agg (SV.l7 cs.toList)
 |v=>SV.qH v
def aJ (cs:List SV) (off:Nat):List SV→List SV
 |[]=>cs
 |x :: r=>aJ (cs.set off x) (off+1) r
def fZ (a:Bool) (n:Nat) (B:List aI):SV→Out
 | .xp cs=>match a with
  |true=>⟨.agg (cs.take n),B,n≤cs.length⟩
  |false=>⟨cs.getD 0 .any,B,0 < cs.length⟩
 | .bx i h esz k off=>match au B i with
  | .row h' _ esz' xs=>match a with
   |true=>⟨.agg (((xs.getD k []).drop off).take n),B,h'=h∧esz'=esz∧k < xs.length∧off+n≤esz⟩
   |false=>⟨(xs.getD k []).getD off .any,B,h'=h∧esz'=esz∧k < xs.length∧off < esz⟩
  | .gone=>bF
 |_=>bF
def jd (n:Nat) (B:List aI) (p v:SV):Out:=
 match p with
 | .bx i h esz k off=>match au B i with
  | .row h' E esz' xs=>⟨.any,B.set i (.row h E esz (xs.set k (aJ (xs.getD k []) off v.cells))),
    h'=h∧esz'=esz∧k < xs.length∧off+n≤esz∧v.cells.length=n∧bt v.cells=true⟩
  | .gone=>bF
 |_=>bF
def i4 (ti:j4) (B:List aI) (x i:SV):Out:=
 match i with
 | .int _ k=>match ti with
  | .slice _ e _=>match x with
   | .sl _ esz n f=>⟨.xp (f k.toNat),B,0≤k∧k < n∧esz=e⟩
   | .row j h esz lo n=>⟨.bx j h esz (lo+k.toNat) 0,B,0≤k∧k < n∧esz=e⟩
   |_=>bF
  | .array len _ e=>match x with
   | .bx j h esz k0 off=>⟨.bx j h esz k0 (off+k.toNat*e),B,0≤k∧k < len⟩
   | .xp cs=>⟨.xp (cs.drop (k.toNat*e)),B,0≤k∧k < len∧k.toNat*e≤cs.length⟩
   |_=>bF
  |_=>bF
 |_=>bF
def i5 (ti:j4) (B:List aI) (f:Nat) (x:SV):Out:=
 match ti with
 | .struct fs _=>match fs[f]? with
  |some (o,_,n)=>match x with
   | .bx j h esz k0 off=>⟨.bx j h esz k0 (off+o),B,0 < n⟩
   | .xp cs=>⟨.xp (cs.drop o),B,0 < n∧o≤cs.length⟩
   |_=>bF
  |none=>bF
 |_=>bF
def pK (ti:j4) (B:List aI) (f:Nat) (x:SV):Out:=
 match ti with
 | .struct fs _=>match fs[f]? with
  |some (o,a,n)=>match x with
   | .agg cs=>match a with
    |true=>⟨.agg ((cs.drop o).take n),B,o+n≤cs.length⟩
    |false=>⟨cs.getD o .any,B,o < cs.length⟩
   |_=>bF
  |none=>bF
 |_=>bF
def pJ (ti:j4) (B:List aI) (x i:SV):Out:=
 match i with
 | .int _ k=>match ti with
  | .array len a e=>match x with
   | .agg cs=>match a with
    |true=>⟨.agg ((cs.drop (k.toNat*e)).take e),B,0≤k∧k < len∧k.toNat*e+e≤cs.length⟩
    |false=>⟨cs.getD k.toNat .any,B,0≤k∧k < len∧e=1∧k.toNat < cs.length⟩
   |_=>bF
  | .string=>match x with
   | .str l=>⟨.int .u8 ((l.getD k.toNat 0).toNat:Int),B,0≤k∧k < l.length⟩
   |_=>bF
  |_=>bF
 |_=>bF
def sub (f:Nat→List SV) (n lo m k:Nat):List SV:=if k < m then f (lo+k) else f n
def CF (B:List aI) (j:Nat) (h:aN) (esz hi:Nat):Prop:=match au B j with
 | .row h' _ e' xs=>h'=h∧e'=esz∧hi≤xs.length
 | .gone=>False
def cx (kp:Bool) (ti:j4) (B:List aI) (x:SV) (lo hi:Nat) (mx:Option Nat):Out:=
 match ti with
 | .slice _ e _=>match x with
  | .sl _ esz n f=>match mx with
   |none=>⟨.sl false esz (hi - lo) (sub f n lo (hi - lo)),B,lo≤hi∧hi≤n∧(n=0∨esz=e)⟩
   |some m=>⟨.sl true esz (hi - lo) (sub f n lo (hi - lo)),B,lo≤hi∧hi≤n∧m=hi∧(n=0∨esz=e)⟩
  | .row j h esz l0 n=>match mx with
   |none=>⟨.row j h esz (l0+lo) (hi - lo),B,lo≤hi∧(match kp with|true=>hi≤n∨(l0=0∧CF B j h esz hi)|false=>hi≤n)∧esz=e⟩
   |some m=>match kp with
    |true=>⟨.any,B,lo≤hi∧hi≤m∧m≤n∧esz=e⟩
    |false=>bF
  |_=>bF
 | .string=>match x with
  | .str l=>⟨.str ((l.drop lo).take (hi - lo)),B,lo≤hi∧hi≤l.length∧mx=none⟩
  |_=>bF
 |_=>bF
def SV.len:SV→Nat
 | .sl _ _ n _=>n
 | .row _ _ _ _ n=>n
 | .str l=>l.length
 |_=>0
def pH (kp:Bool) (ti:j4) (B:List aI) (x:SV) (lo hi mx:Option SV):Out:=
 match lo,hi,mx with
 |none,none,none=>cx kp ti B x 0 x.len none
 |some (.int _ l),none,none=>match cx kp ti B x l.toNat x.len none with
  |⟨v,B',c⟩=>⟨v,B',0≤l∧c⟩
 |none,some (.int _ h),none=>match cx kp ti B x 0 h.toNat none with
  |⟨v,B',c⟩=>⟨v,B',0≤h∧c⟩
 |some (.int _ l),some (.int _ h),none=>match cx kp ti B x l.toNat h.toNat none with
  |⟨v,B',c⟩=>⟨v,B',0≤l∧0≤h∧c⟩
 |none,some (.int _ h),some (.int _ m)=>match cx kp ti B x 0 h.toNat (some m.toNat) with
  |⟨v,B',c⟩=>⟨v,B',0≤h∧0≤m∧c⟩
 |some (.int _ l),some (.int _ h),some (.int _ m)=>match cx kp ti B x l.toNat h.toNat (some m.toNat) with
  |⟨v,B',c⟩=>⟨v,B',0≤l∧0≤h∧0≤m∧c⟩
 |_,_,_=>bF
def dm (esz:Nat) (B:List aI):SV→List (List SV)×Prop
 | .sl _ e m f=>((range m).map f,m=0∨e=esz)
 | .row i h e lo m=>match au B i with
  | .row h2 _ e2 xs=>((xs.drop lo).take m,h2=h∧e2=e∧e=esz∧lo+m≤xs.length)
  | .gone=>([],False)
 | .str l=>(l.map fun b=>[.int .u8 (b.toNat:Int)],esz=1)
 |_=>([],False)
def hG (B:List aI):SV→Prop
 | .sl _ _ m f=>∀k,k < m→bt (f k)=true
 | .row i _ _ _ _=>match au B i with
  | .row _ _ _ xs=>∀x∈xs,bt x=true
  | .gone=>False
 |_=>True
def p9 (kp:Bool) (xs:List (List SV)) (k:Nat):List (List SV):=match kp with
 |true=>xs.drop k
 |false=>[]
def cF (kp:Bool) (h':aN) (E esz eb:Nat) (B:List aI) (dst:SV) (ys:List (List SV)) (c:Prop):Out:=
 match dst with
 | .sl full e n f=>⟨.row B.length h' esz 0 (n+ys.length),B ++ [.row h' E esz ((range n).map f ++ ys)],
   full=true∧(n=0∨(e=esz∧0 < ys.length))∧c∧(n+ys.length)*eb≤140737488355328⟩
 | .row i h e 0 n=>match au B i with
  | .row h2 E2 e2 xs=>⟨.row i h' esz 0 (n+ys.length),B.set i (.row h' E esz (xs.take n ++ ys ++ p9 kp xs (n+ys.length))),
    h2=h∧e2=e∧e=esz∧E2=E∧n≤xs.length∧c∧(n+ys.length)*eb≤140737488355328⟩
  | .gone=>bF
 |_=>bF
def qZ:j4→Bool
 | .slice .. =>true
 | .string=>true
 |_=>false
def kg (kp:Bool) (ti ti2:j4) (h':aN) (B:List aI) (dst src:SV):Out:=
 match ti with
 | .slice E esz eb=>match dm esz B src with
  |(ys,c)=>cF kp h' E esz eb B dst ys (c∧hG B src∧0 < esz∧0 < eb∧qZ ti2=true)
 |_=>bF
def qK (ti:j4) (B:List aI) (dst src:SV):Out:=
 match ti with
 | .slice _ esz _=>match dm esz B src with
  |(ys,c)=>match dst with
   | .row i h e lo n=>match au B i with
    | .row h2 E e2 xs=>⟨.int .i64 (min n ys.length:Nat),B.set i (.row h E esz (xs.take lo ++ ys.take (min n ys.length) ++ xs.drop (lo+min n ys.length))),
      h2=h∧e2=e∧e=esz∧lo+n≤xs.length∧c∧hG B src∧0 < esz⟩
    | .gone=>bF
   |_=>bF
 |_=>bF
def nC (ti:j4) (zr:Nat→List SV) (B:List aI) (x:SV):Out:=
 match ti with
 | .slice el esz _=>match x with
  | .row i h e lo n=>match au B i with
   | .row h2 E e2 xs=>⟨.bS [],B.set i (.row h E esz (xs.take lo ++ replicate n (zr el) ++ xs.drop (lo+n))),
     h2=h∧e2=e∧e=esz∧lo+n≤xs.length∧0 < esz∧(zr el).length=esz∧bt (zr el)=true⟩
   | .gone=>bF
  |_=>bF
 |_=>bF
def vH (cs:List (List SV)):List (Nat×SV)→List (List SV)
 |[]=>cs
 |(i,x) :: r=>vH (cs.set i x.cells) r
def DP (n esz:Nat):List (Nat×SV)→Prop
 |[]=>True
 |(i,x) :: r=>i < n∧x.cells.length=esz∧bt x.cells=true∧DP n esz r
def eC (ti:j4) (zr:Nat→List SV) (h':aN) (B:List aI) (len:Nat) (parts:List (Nat×SV)):Out:=
 match ti with
 | .slice E esz _=>⟨.row B.length h' esz 0 len,B ++ [.row h' E esz (vH (replicate len (zr E)) parts)],DP len esz parts∧0 < esz∧(zr E).length=esz∧len*esz≤16777216⟩
 |_=>bF
def ep (ti:j4) (zr:Nat→List SV) (h':aN) (B:List aI) (len cap:SV):Out:=
 match ti with
 | .slice E esz eb=>match len,cap with
  | .int _ l,.int _ c=>⟨.row B.length h' esz 0 l.toNat,B ++ [.row h' E esz (replicate l.toNat (zr E))],
    0≤l∧l≤c∧c*eb≤140737488355328∧0 < esz∧0 < eb∧(zr E).length=esz⟩
  |_,_=>bF
 |_=>bF
def kM (ti:j4) (cs:List SV):List (Nat×SV)→List SV×Prop
 |[]=>(cs,True)
 |(i,x) :: r=>match ti with
  | .struct fs _=>match fs[i]? with
   |some (o,_,n)=>match kM ti (aJ cs o x.cells) r with
    |(cs',c)=>(cs',x.cells.length=n∧o+n≤cs.length∧bt x.cells=true∧c)
   |none=>(cs,False)
  | .array len _ e=>match kM ti (aJ cs (i*e) x.cells) r with
    |(cs',c)=>(cs',i < len∧x.cells.length=e∧i*e+e≤cs.length∧bt x.cells=true∧c)
  |_=>(cs,False)
def pL (ti:j4) (z:List SV) (B:List aI) (parts:List (Nat×SV)):Out:=
 match kM ti z parts with
 |(cs,c)=>⟨.agg cs,B,c∧z.length=ti.size∧ti.agg=true⟩
def QT:List SV→Int
 |[.int _ a,_]=>a
 |_=>0
def QS:List SV→Int
 |[_,.int _ v]=>v
 |_=>0
def sL (xs:List (List SV)):List (Int×Int):=xs.map fun x=>(QT x,QS x)
def tg (a:Int):List (Int×Int)→Option Int
 |[]=>none
 |e :: r=>if e.1=a then some e.2 else tg a r
def AI (a v:Int):List (Int×Int)→List (Int×Int)
 |[]=>[(a,v)]
 |e :: r=>if e.1=a then (a,v) :: r else e :: AI a v r
def iZ (ti:j4) (h:aN) (T:Nat) (B:List aI):Out:=
 match ti with
 | .Br k1 k2=>⟨.om B.length h k1 k2,B ++ [.row h T 0 []],True⟩
 |_=>bF
def gE (ti:j4) (B:List aI) (m k x:SV):Out:=
 match ti with
 | .Br k1 k2=>match m with
  | .om i h j1 j2=>match k with
   | .int c1 a=>match x with
    | .int c2 v=>match au B i with
     | .row h' E e xs=>⟨.any,B.set i (.row h E e ((AI a v (sL xs)).map (mC k1 k2))),h'=h∧j1=k1∧j2=k2∧c1=k1∧c2=k2∧xs=(sL xs).map (mC k1 k2)⟩
     | .gone=>bF
    |_=>bF
   |_=>bF
  |_=>bF
 |_=>bF
def On (k2:IntKind) (B:List aI) (r:Option Int) (ok:Bool) (c:Prop):Out:=
 match ok with
 |true=>⟨.bS [.int k2 (r.getD 0),.bool r.isSome],B,c⟩
 |false=>⟨.int k2 (r.getD 0),B,c⟩
def iH (ti:j4) (B:List aI) (m k:SV) (ok:Bool):Out:=
 match ti with
 | .Br k1 k2=>match k with
  | .int c1 a=>match m with
   | .xm j1 j2 es=>On k2 B (tg a es) ok (j1=k1∧j2=k2∧c1=k1)
   | .om i h j1 j2=>match au B i with
    | .row h' _ _ xs=>On k2 B (tg a (sL xs)) ok (h'=h∧j1=k1∧j2=k2∧c1=k1∧xs=(sL xs).map (mC k1 k2))
    | .gone=>bF
   |_=>bF
  |_=>bF
 |_=>bF
def SV.isStr:SV→Bool
 | .str _=>true
 |_=>false
def byteOf:List SV→UInt8
 |[.int .u8 n]=>UInt8.ofNat n.toNat
 |_=>0
def isByte:List SV→Bool
 |[.int .u8 _]=>true
 |_=>false
def bytesOf (xs:List (List SV)):List UInt8:=xs.map byteOf
def ir (src te dst:j4) (B:List aI) (x:SV):Out:=
 match dst with
 | .int k=>match x with
  | .int _ n=>⟨.int k (k.wrap n),B,True⟩
  |_=>bF
 | .string=>match src with
  | .string=>⟨x,B,x.isStr=true⟩
  | .slice _ 1 1=>match te with
   | .int .u8=>match dm 1 B x with
    |(ys,c)=>⟨.str (bytesOf ys),B,c∧(∀y∈ys,isByte y=true)∧x.isStr=false⟩
   |_=>bF
  |_=>bF
 |_=>bF
def b6 (op:BinOp) (k:IntKind) (x y:Int):Int:=
 let a:=BitVec.ofInt k.bits x
 let b:=BitVec.ofInt k.bits y
 match op with
 | .and=>k.wrap ((a &&& b).toNat:Int)
 | .or=>k.wrap ((a ||| b).toNat:Int)
 | .xor=>k.wrap ((a ^^^ b).toNat:Int)
 |_=>k.wrap ((a &&& ~~~b).toNat:Int)
def Ha (op:BinOp) (k:IntKind) (B:List aI) (a b:Int) (same:Prop):Out:=
 match op with
 | .add=>⟨.int k (k.wrap (a+b)),B,same⟩
 | .sub=>⟨.int k (k.wrap (a - b)),B,same⟩
 | .mul=>⟨.int k (k.wrap (a*b)),B,same⟩
 | .quo=>⟨.int k (k.wrap (a.tdiv b)),B,same∧b≠0⟩
 | .rem=>⟨.int k (a.tmod b),B,same∧b≠0⟩
 | .shl=>⟨.int k (k.wrap (a*2 ^ (min b.toNat k.bits))),B,0≤b⟩
 | .shr=>⟨.int k (a.fdiv (2 ^ (min b.toNat k.bits))),B,0≤b⟩
 | .and=>⟨.int k (b6 .and k a b),B,same⟩
 | .or=>⟨.int k (b6 .or k a b),B,same⟩
 | .xor=>⟨.int k (b6 .xor k a b),B,same⟩
 | .andNot=>⟨.int k (b6 .andNot k a b),B,same⟩
 | .eql=>⟨.bool (a == b),B,same⟩
 | .neq=>⟨.bool (a !=b),B,same⟩
 | .lss=>⟨.bool (decide (a < b)),B,same⟩
 | .leq=>⟨.bool (decide (a≤b)),B,same⟩
 | .gtr=>⟨.bool (decide (b < a)),B,same⟩
 | .geq=>⟨.bool (decide (b≤a)),B,same⟩
def e_:SV→SV→Bool×Prop
 | .int k a,.int k' b=>(a == b,k=k')
 | .bool a,.bool b=>(a == b,True)
 | .str a,.str b=>(a == b,True)
 |_,_=>(false,False)
def b9:List SV→List SV→Bool×Prop
 |[],[]=>(true,True)
 |x :: xs,y :: ys=>match e_ x y,b9 xs ys with
  |(p,c),(q,d)=>(p && q,c∧d)
 |_,_=>(false,False)
def kinds:List SV→List Nat
 |[]=>[]
 | .bool _ :: r=>0 :: kinds r
 | .int _ _ :: r=>1 :: kinds r
 | .str _ :: r=>2 :: kinds r
 |_ :: r=>9 :: kinds r
def kf (ti:j4) (lv:List Nat) (op:BinOp) (B:List aI) (x y:SV):Out:=
 match x,y with
 | .int k a,.int k' b=>Ha op k B a b (k=k')
 | .bool a,.bool b=>match ti with
  | .bool=>match op with
   | .eql=>⟨.bool (a == b),B,True⟩
   | .neq=>⟨.bool (a !=b),B,True⟩
   |_=>bF
  |_=>bF
 | .str a,.str b=>match op with
  | .eql=>⟨.bool (a == b),B,True⟩
  | .neq=>⟨.bool (a !=b),B,True⟩
  | .add=>⟨.str (a ++ b),B,(a.length+b.length:Int)≤9223372036854775807⟩
  | .lss=>⟨.bool (Op.bytesLess a b),B,True⟩
  | .leq=>⟨.bool (Op.bytesLess a b || a == b),B,True⟩
  | .gtr=>⟨.bool !(Op.bytesLess a b || a == b),B,True⟩
  | .geq=>⟨.bool !Op.bytesLess a b,B,True⟩
  |_=>bF
 | .agg a,.agg b=>match b9 a b with
  |(p,c)=>match op with
   | .eql=>⟨.bool p,B,c∧kinds a=lv∧lv≠[]⟩
   | .neq=>⟨.bool (!p),B,c∧kinds a=lv∧lv≠[]⟩
   |_=>bF
 |_,_=>bF
def BG (op:UnOp) (B:List aI):SV→Out
 | .bool b=>match op with
  | .not=>⟨.bool (!b),B,True⟩
  |_=>bF
 | .int k n=>match op with
  | .neg=>⟨.int k (k.wrap (0 - n)),B,True⟩
  | .xor=>⟨.int k (b6 .xor k (if k.signed then -1 else k.max) n),B,True⟩
  |_=>bF
 |_=>bF
def AG:SV→Option (Bool×Bool)
 | .bool b=>some (true,b)
 | .opt c (.bool b)=>some (c,b)
 |_=>none
def tS:SV→Bool×Bool
 | .bool b=>(true,b)
 | .opt c (.bool b)=>(c,b)
 |_=>(false,false)
def sJ (B:List aI) (c a b:SV):Out:=
 match AG c with
 |some (gc,p)=>⟨.bool (bif p then (tS a).2 else (tS b).2),B,gc=true∧(p=true→(tS a).1=true)∧(p=false→(tS b).1=true)⟩
 |none=>bF
def Rm:aN→Bool
 | .void none=>true
 |_=>false
def vn:Operand→Bool
 | .const (.slice none 0 0)=>true
 |_=>false
def vo (h:aN):SV→Option Bool
 | .sl _ _ n _=>some (bif n == 0 then Rm h else false)
 | .row _ (.at _ _) _ 0 _=>some false
 |_=>none
def zD:Operand→Bool
 | .const (.pointer none)=>true
 |_=>false
def sE:SV→Option Bool
 | .bx .. =>some false
 | .xp _=>some false
 | .val (.pointer none)=>some true
 |_=>none
def y5 (op:BinOp) (B:List aI) (b:Bool):Out:=match op with
 | .eql=>⟨.bool b,B,True⟩
 | .neq=>⟨.bool (!b),B,True⟩
 |_=>bF
def DR (op:BinOp) (h:aN) (B:List aI) (x:SV) (y:Operand):Out:=
 match vn y,vo h x with
 |true,some b=>y5 op B b
 |_,_=>bF
def C1 (op:BinOp) (B:List aI) (x:SV) (y:Operand):Out:=
 match zD y,sE x with
 |true,some b=>y5 op B b
 |_,_=>bF
def tH (ti:j4) (lv:List Nat) (op:BinOp) (h:aN) (B:List aI) (a b:SV) (y:Operand):Out:=
 match ti with
 | .slice .. =>DR op h B a y
 | .ptr=>C1 op B a y
 |ti=>kf ti lv op B a b
def re (a b:Int):Int:=if b > a then b else a
def GS (a b:Int):Int:=if b < a then b else a
def p6 (P:Program) (T:TypeId):Bool:=match P.underlying T with
 |some (.struct _)=>true
 |some (.array _ _)=>true
 |_=>false
def jF (P:Program) (T n:Nat):Bool:=match P.info? T with
 |some i=>i.size == n
 |none=>false
def kB (P:Program) (T:TypeId) (ti:j4):Bool:=
 match ti with
 | .bF=>true
 |ti=>jF P T ti.size && (P.underlying T).isSome && p6 P T == ti.agg && match ti with
  | .bool=>(match P.underlying T with|some .bool=>true|_=>false)
  | .int k=>(match P.underlying T with|some (.int k')=>k == k'|_=>false)
  | .string=>(match P.underlying T with|some .string=>true|_=>false)
  | .ptr=>(match P.underlying T with|some (.pointer _)=>true|_=>false)
  | .slice E esz eb=>(match P.underlying T with
   |some (.slice E')=>E == E' && (match P.info? E with|some i=>i.size == esz && i.bytes == eb && (match i.zero with|some z=>z.cells.size == esz|none=>false)|none=>false)
   |_=>false)
  | .struct fs _=>(match P.underlying T with
   |some (.struct F)=>F.size == fs.length && (range fs.length).all fun j=>match F[j]?,fs[j]? with
    |some fl,some (o,a,m)=>fl.offset == o && jF P fl.type m && p6 P fl.type == a && (P.underlying fl.type).isSome
    |_,_=>false
   |_=>false)
  | .array len a e=>(match P.underlying T with
   |some (.array len' E)=>len == len' && jF P E e && p6 P E == a && (P.underlying E).isSome
   |_=>false)
  | .Br k1 k2=>(match P.underlying T with
   |some (.map A E)=>(match P.underlying A with|some (.int k)=>k == k1|_=>false) && (match P.info? E with|some i=>(match i.zero with|some (.int k n)=>k == k2 && n == 0|_=>false)|none=>false)
   |_=>false)
  |_=>true
section
variable {P:Program} {T:TypeId} {ti:j4}
theorem fO {n:Nat} (h:jF P T n=true) (w:World):(sizeOf T).run P w= .ok n w:=by
 unfold jF at h
 cases hi:P.info? T with
 |none=>simp [hi] at h
 |some i=>
  simp only [hi,beq_iff_eq] at h;subst h;simp [sizeOf,typeInfo,hi]
theorem ny (h:(P.underlying T).isSome=true) (w:World):(isAgg T).run P w= .ok (p6 P T) w:=by
 obtain ⟨d,hd⟩:=Option.isSome_iff_exists.1 h;unfold p6 isAgg;simp only [Sem.run_bind,run_underlying hd,Result.andThen_ok,hd]
 cases d<;>rfl
theorem AV (h:kB P T ti=true) (hb:ti≠.bF):jF P T ti.size=true:=by
 cases ti<;>first|exact absurd rfl hb|(simp only [kB,Bool.and_eq_true] at h;exact h.1.1.1)
theorem Dp (h:kB P T ti=true) (hb:ti≠.bF):(P.underlying T).isSome=true:=by
 cases ti<;>first|exact absurd rfl hb|(simp only [kB,Bool.and_eq_true] at h;exact h.1.1.2)
theorem HU (h:kB P T ti=true) (hb:ti≠.bF):p6 P T=ti.agg:=by
 cases ti<;>first|exact absurd rfl hb|(simp only [kB,Bool.and_eq_true,beq_iff_eq] at h;exact h.1.2)
theorem AW (h:kB P T ti=true) (hb:ti≠.bF) (w:World):(isAgg T).run P w= .ok ti.agg w:=by
 rw [ny (Dp h hb),HU h hb]
theorem qV (h:kB P T ti=true) (hb:ti≠.bF) (w:World):(sizeOf T).run P w= .ok ti.size w:=fO (AV h hb) w
theorem eN {E esz eb:Nat} (h:kB P T (.slice E esz eb)=true):P.underlying T=some (.slice E)∧∃i z,P.info? E=some i∧i.size=esz∧i.bytes=eb∧i.zero=some z∧z.cells.size=esz:=by
 simp only [kB,Bool.and_eq_true] at h;have h:=h.2
 cases hu:P.underlying T with
 |none=>simp [hu] at h
 |some d=>
  cases d<;>simp only [hu,Bool.false_eq_true] at h
  case slice E'=>
   simp only [Bool.and_eq_true,beq_iff_eq] at h;obtain ⟨rfl,h⟩:=h
   cases hi:P.info? E with
   |none=>simp [hi] at h
   |some i=>
    simp only [hi,Bool.and_eq_true,beq_iff_eq] at h
    cases hz:i.zero with
    |none=>simp [hz] at h
    |some z=>
     simp only [hz,beq_iff_eq] at h;exact ⟨rfl,i,z,rfl,h.1.1,h.1.2,hz,h.2⟩
theorem iP (h:kB P T .string=true):P.underlying T=some .string:=by
 simp only [kB,Bool.and_eq_true] at h;have h:=h.2
 cases hu:P.underlying T with
 |none=>simp [hu] at h
 |some d=>cases d<;>simp [hu] at h ⊢
theorem Dq (h:kB P T .ptr=true):∃e,P.underlying T=some (.pointer e):=by
 simp only [kB,Bool.and_eq_true] at h;have:=h.2
 split at this
 ·exact ⟨_,by assumption⟩
 ·cases this
theorem F1 (h:kB P T .bool=true):P.underlying T=some .bool:=by
 simp only [kB,Bool.and_eq_true] at h;have h:=h.2
 cases hu:P.underlying T with
 |none=>simp [hu] at h
 |some d=>cases d<;>simp [hu] at h ⊢
theorem Ds {k:IntKind} (h:kB P T (.int k)=true):P.underlying T=some (.int k):=by
 simp only [kB,Bool.and_eq_true] at h;have h:=h.2
 cases hu:P.underlying T with
 |none=>simp [hu] at h
 |some d=>cases d<;>simp [hu] at h ⊢;exact h.symm
theorem qA {fs:List (Nat×Bool×Nat)} {n:Nat} (h:kB P T (.struct fs n)=true):
  ∃F,P.underlying T=some (.struct F)∧F.size=fs.length∧∀(j o:Nat) (a:Bool) (m:Nat),fs[j]?=some (o,a,m)→
   ∃fl:Field,F[j]?=some fl∧fl.offset=o∧jF P fl.type m=true∧(∀w,(isAgg fl.type).run P w= .ok a w):=by
 simp only [kB,Bool.and_eq_true] at h;have h:=h.2
 cases hu:P.underlying T with
 |none=>simp [hu] at h
 |some d=>
  cases d<;>simp only [hu,Bool.false_eq_true] at h
  case struct F=>
   simp only [Bool.and_eq_true,beq_iff_eq,List.all_eq_true,List.mem_range] at h;refine ⟨F,rfl,h.1,fun j o a m hj=>?_⟩;have hlt:j < fs.length:=by
    rcases lt_or_ge j fs.length with h'|h'
    ·exact h'
    ·simp [List.getElem?_eq_none h'] at hj
   have h2:=h.2 j hlt;rw [hj] at h2
   cases hF:F[j]? with
   |none=>simp [hF] at h2
   |some fl=>
    simp only [hF,Bool.and_eq_true,beq_iff_eq] at h2;obtain ⟨⟨⟨h3,h4⟩,h5⟩,h6⟩:=h2;exact ⟨fl,rfl,h3,h4,fun w=>by rw [ny h6,h5]⟩
theorem mJ {len:Nat} {a:Bool} {e:Nat} (h:kB P T (.array len a e)=true):
  ∃E,P.underlying T=some (.array len E)∧jF P E e=true∧(∀w,(isAgg E).run P w= .ok a w):=by
 simp only [kB,Bool.and_eq_true] at h;have h:=h.2
 cases hu:P.underlying T with
 |none=>simp [hu] at h
 |some d=>
  cases d<;>simp only [hu,Bool.false_eq_true] at h
  case array len' E=>
   simp only [Bool.and_eq_true,beq_iff_eq] at h;obtain ⟨⟨⟨rfl,h4⟩,h5⟩,h6⟩:=h;exact ⟨E,rfl,h4,fun w=>by rw [ny h6,h5]⟩
end
def ev (t:List (Nat×SV)):Operand→SV
 | .tmp i=>dd t i
 | .const v=> .Bn v
 | .func f=> .fn f []
 | .global g=>match GV g with
  |[]=> .any
  |cs=> .xp cs
section
variable {X:Nat→Prop} {w:World} {B:List aI}
theorem wN (v:Value):Den X w (SV.qH v) v:=by
 unfold SV.qH
 split
 ·unfold SV.ofInt
  split
  ·split
   ·exact .int _ _ fun _=>‹_›
   ·exact .val _
  ·exact .int _ _ fun h=>(‹_=IntKind.u64→False› h).elim
 ·exact .bool ..
 ·rename_i s;have:Value.string s= .string ⟨s.data.toList.toArray⟩:=by simp
  rw [this];exact .str _
 ·exact .gC (fun _=>rfl)
 ·exact .val _
theorem tO:∀(vs:List Value) (i:Nat) (c:SV),(SV.l7 vs)[i]?=some c→Den X w c (vs.getD i undef)
 |[],i,c,h=>by simp [SV.l7] at h
 |v :: r,0,c,h=>by simp [SV.l7] at h;subst h;simpa using wN v
 |v :: r,i+1,c,h=>by simpa using tO r i c (by simpa [SV.l7] using h)
theorem oD:∀(vs:List Value),(SV.l7 vs).length=vs.length
 |[]=>rfl
 |v :: r=>by simp [SV.l7,oD r]
theorem Fx (v:Value):Den X w (SV.Bn v) v:=by
 unfold SV.Bn
 split
 ·rename_i cs;exact .agg (by simp [oD]) fun i c h=>by
   have:=tO (X:=X) (w:=w) cs.toList i c h;simpa using this
 ·exact wN _
theorem lP {t:List (Nat×SV)} {n:Nat} {a:Act} (hg:XG X w) (h:wU X w t n a.tmps) (x:Operand):Den X w (ev t x) (a.eval x):=by
 cases x with
 |tmp i=>exact h.2 i
 |const v=>exact Fx v
 |func f=>exact .fn (by simp) (by simp)
 |global g=>
  show Den X w (match GV g with|[]=> .any|cs=> .xp cs) _
  cases e:GV g with
  |nil=>exact .any _
  |cons c cs=>have:=hg.2 g (by rw [e];simp);rw [e] at this;exact this
theorem fp {i:Nat} {h E esz xs} (hg:au B i= .row h E esz xs):i < B.length:=by
 unfold au at hg;rcases lt_or_ge i B.length with hi|hi
 ·rw [List.getD_eq_getElem?_getD,List.getElem?_eq_getElem hi] at hg;simp at hg;exact hi
 ·rw [List.getD_eq_getElem?_getD,List.getElem?_eq_none hi] at hg;simp at hg
theorem Sat.row (hs:Sat X w B) {i b cap E esz xs} (hg:au B i= .row (.at b cap) E esz xs):
  ∃vs:Array Value,w.heap[b]?=some (.cells vs E (0,0))∧vs.size=cap*esz∧xs.length≤cap∧(∀(k:Nat) (x:List SV),xs[k]?=some x→x.length=esz)∧
   ∀(k j:Nat) (x:List SV) (c:SV),xs[k]?=some x→x[j]?=some c→Den X w c (vs.getD (k*esz+j) undef):=by
 have:=hs.ok i;rw [hg] at this;exact this
theorem Sat.dh (hs:Sat X w B) {i a E esz xs} (hg:au B i= .row (.void a) E esz xs):xs=[]:=by
 have:=hs.ok i;rw [hg] at this;exact this
theorem getD_of_get? {α:Type} {l:List α} {i:Nat} {d c:α} (h:l[i]?=some c):l.getD i d=c:=by simp [getD,h]
theorem get?_of_lt {α:Type} {l:List α} {i:Nat} (d:α) (h:i < l.length):l[i]?=some (l.getD i d):=by simp [getD,List.getElem?_eq_getElem h]
theorem kv {vs:Array Value} {i:Nat} (h:i < vs.size):vs[i]?=some (vs.getD i undef):=by simp [h]
theorem kE {k j esz m:Nat} (hk:k < m) (hj:j < esz):k*esz+j < m*esz:=by
 have:(k+1)*esz≤m*esz:=mul_le_mul_right _ hk;rw [succ_mul] at this;omega
theorem ju {b E off:Nat} {vs:Array Value} {fz} (hb:w.heap[b]?=some (.cells vs E fz)) (ho:off < vs.size):w.cell? ⟨b,off,none⟩=some (vs.getD off undef):=by
 unfold World.cell?;simp [hb,ho]
theorem eJ (b off n:Nat):(⟨b,off,none⟩:Addr).add n=⟨b,off+n,none⟩:=by
 unfold Addr.add
 split
 ·simp_all
 ·rfl
theorem eo {i j:Nat} {o:aI} (hi:i < B.length):au (B.set i o) j=if j=i then o else au B j:=by
 unfold au;simp only [getD,List.getElem?_set];by_cases h:j=i
 ·subst h;simp [hi]
 ·have:i≠j:=fun e=>h e.symm;simp [h,this]
theorem lD {j:Nat} {o:aI}:au (B ++ [o]) j=if j=B.length then o else au B j:=by
 unfold au;simp only [getD];by_cases h:j=B.length
 ·subst h;simp
 ·rcases lt_or_ge j B.length with h1|h1
  ·simp [h,List.getElem?_append_left h1]
  ·have h2:B.length+1≤j:=by omega
   rw [List.getElem?_eq_none (by simp;omega),List.getElem?_eq_none h1];simp [h]
theorem aI.ig {X':Nat→Prop} {w':World} {o:aI} (h:o.ok X w) (hX:∀b,X b→X' b) (hw:∀b,X b→w'.heap[b]?=w.heap[b]?) (hb:∀b∈o.blocks,w'.heap[b]?=w.heap[b]?):o.ok X' w':=by
 cases o with
 |gone=>trivial
 |row h' E esz xs=>
  cases h' with
  |void a=>exact h
  |mp b=>
   obtain ⟨arr,clock,h1,h2⟩:=h;exact ⟨arr,clock,by rw [hb b (by simp [aI.blocks])];exact h1,h2⟩
  | «at» b cap=>
   obtain ⟨vs,h1,h2,h3,h4,h5⟩:=h;exact ⟨vs,by rw [hb b (by simp [aI.blocks])];exact h1,h2,h3,h4,fun k j x c hx hc=>(h5 k j x c hx hc).mono hX hw⟩
theorem Sat.replace {w':World} {i:Nat} {o':aI} (hs:Sat X w B) (hi:i < B.length) (hsize:w.heap.size≤w'.heap.size)
  (hblk:∀c,c < w.heap.size→c ∉ (au B i).blocks→w'.heap[c]?=w.heap[c]?)
  (hnew:∀c∈o'.blocks,c∈(au B i).blocks∨(w.heap.size≤c∧c < w'.heap.size)) (hok:aI.ok X w' o'):Sat X w' (B.set i o'):=by
 have hX:∀b,X b→w'.heap[b]?=w.heap[b]?:=fun b hb=>hblk b (hs.og b hb) fun hm=>hs.apart b hb ⟨i,hm⟩;refine ⟨fun j k b hj hk=>?_,fun j b hj=>?_,hs.xg.mono (fun _ h=>h) hX fun b hb=>lt_of_lt_of_le (hs.og b hb) hsize,fun b hb ⟨j,hj⟩=>?_,fun j=>?_⟩
 ·rw [eo hi] at hj hk;by_cases e1:j=i<;>by_cases e2:k=i
  ·omega
  ·simp only [e1,e2,if_true,if_false] at hj hk;rcases hnew b hj with h|h
   ·exact absurd (hs.inj _ _ _ h hk).symm e2
   ·have:=hs.lt _ _ hk;omega
  ·simp only [e1,e2,if_true,if_false] at hj hk;rcases hnew b hk with h|h
   ·exact absurd (hs.inj _ _ _ h hj).symm e1
   ·have:=hs.lt _ _ hj;omega
  ·simp only [e1,e2,if_false] at hj hk;exact hs.inj _ _ _ hj hk
 ·rw [eo hi] at hj;by_cases e1:j=i
  ·simp only [e1,if_true] at hj;rcases hnew b hj with h|h
   ·exact lt_of_lt_of_le (hs.lt _ _ h) hsize
   ·exact h.2
  ·simp only [e1,if_false] at hj;exact lt_of_lt_of_le (hs.lt _ _ hj) hsize
 ·rw [eo hi] at hj;by_cases e1:j=i
  ·simp only [e1,if_true] at hj;rcases hnew b hj with h|h
   ·exact hs.apart b hb ⟨i,h⟩
   ·have:=hs.og b hb;omega
  ·simp only [e1,if_false] at hj;exact hs.apart b hb ⟨j,hj⟩
 ·rw [eo hi];by_cases e1:j=i
  ·simp only [e1,if_true];exact hok
  ·simp only [e1,if_false];exact aI.ig (hs.ok j) (fun _ h=>h) hX fun b hb=>hblk b (hs.lt _ _ hb) fun hm=>e1 (hs.inj _ _ _ hb hm)
theorem Ext.replace {w':World} {i:Nat} {o':aI} (hi:i < B.length) (ho:w'.os=w.os) (ht:w'.tape=w.tape) (hu:w'.output=w.output) (hsize:w.heap.size≤w'.heap.size)
  (hblk:∀c,c < w.heap.size→c ∉ (au B i).blocks→w'.heap[c]?=w.heap[c]?)
  (hnew:∀c∈o'.blocks,c∈(au B i).blocks∨(w.heap.size≤c∧c < w'.heap.size)):Ext X w B X w' (B.set i o'):=by
 refine ⟨ho,ht,hu,hsize,fun b hb hn=>hblk b hb fun hm=>hn ⟨i,hm⟩,fun _ h=>h,fun _ h=> .inl h,fun b ⟨j,hj⟩=>?_⟩;rw [eo hi] at hj;by_cases e1:j=i
 ·simp only [e1,if_true] at hj;rcases hnew b hj with h|h
  ·exact .inl ⟨i,h⟩
  ·exact .inr h.1
 ·simp only [e1,if_false] at hj;exact .inl ⟨j,hj⟩
theorem Sat.push {w':World} {o':aI} (hs:Sat X w B) (hsize:w.heap.size≤w'.heap.size) (hblk:∀c,c < w.heap.size→w'.heap[c]?=w.heap[c]?)
  (hnew:∀c∈o'.blocks,w.heap.size≤c∧c < w'.heap.size) (hok:aI.ok X w' o'):Sat X w' (B ++ [o']):=by
 have hX:∀b,X b→w'.heap[b]?=w.heap[b]?:=fun b hb=>hblk b (hs.og b hb);refine ⟨fun j k b hj hk=>?_,fun j b hj=>?_,hs.xg.mono (fun _ h=>h) hX fun b hb=>lt_of_lt_of_le (hs.og b hb) hsize,fun b hb ⟨j,hj⟩=>?_,fun j=>?_⟩
 ·rw [lD] at hj hk;by_cases e1:j=B.length<;>by_cases e2:k=B.length
  ·omega
  ·simp only [e1,e2,if_true,if_false] at hj hk;have:=hs.lt _ _ hk;have:=hnew _ hj;omega
  ·simp only [e1,e2,if_true,if_false] at hj hk;have:=hs.lt _ _ hj;have:=hnew _ hk;omega
  ·simp only [e1,e2,if_false] at hj hk;exact hs.inj _ _ _ hj hk
 ·rw [lD] at hj;by_cases e1:j=B.length
  ·simp only [e1,if_true] at hj;exact (hnew _ hj).2
  ·simp only [e1,if_false] at hj;exact lt_of_lt_of_le (hs.lt _ _ hj) hsize
 ·rw [lD] at hj;by_cases e1:j=B.length
  ·simp only [e1,if_true] at hj;have:=hs.og b hb;have:=hnew _ hj;omega
  ·simp only [e1,if_false] at hj;exact hs.apart b hb ⟨j,hj⟩
 ·rw [lD];by_cases e1:j=B.length
  ·simp only [e1,if_true];exact hok
  ·simp only [e1,if_false];exact aI.ig (hs.ok j) (fun _ h=>h) hX fun b hb=>hblk b (hs.lt _ _ hb)
theorem Ext.push {w':World} {o':aI} (ho:w'.os=w.os) (ht:w'.tape=w.tape) (hu:w'.output=w.output) (hsize:w.heap.size≤w'.heap.size)
  (hblk:∀c,c < w.heap.size→w'.heap[c]?=w.heap[c]?) (hnew:∀c∈o'.blocks,w.heap.size≤c∧c < w'.heap.size):Ext X w B X w' (B ++ [o']):=by
 refine ⟨ho,ht,hu,hsize,fun b hb _=>hblk b hb,fun _ h=>h,fun _ h=> .inl h,fun b ⟨j,hj⟩=>?_⟩;rw [lD] at hj;by_cases e1:j=B.length
 ·simp only [e1,if_true] at hj;exact .inr (hnew _ hj).1
 ·simp only [e1,if_false] at hj;exact .inl ⟨j,hj⟩
end
section
variable {P:Program} {T:TypeId} {ti:j4} {X:Nat→Prop} {w:World} {B:List aI}
theorem kD (ha:ti.agg=false) (hb:ti≠.bF):ti.size=1:=by
 cases ti
 case bF=>exact absurd rfl hb
 case struct=>cases ha
 case array=>cases ha
 all_goals rfl
theorem l8 (ht:kB P T ti=true) (hb:ti≠.bF) (b off:Nat) (g:Nat→Value) (h:∀j,j < ti.size→w.cell? ⟨b,off+j,none⟩=some (g j)):
  (loadVar T ⟨b,off,none⟩).run P w= .ok (if ti.agg=true then .agg ((range ti.size).map g).toArray else g 0) w:=by
 unfold loadVar;rw [Sem.run_bind,AW ht hb];simp only [Result.andThen_ok];by_cases ha:ti.agg=true
 ·simp only [ha,if_true,Sem.run_bind,qV ht hb,Result.andThen_ok];rw [run_loadCells w ⟨b,off,none⟩ ti.size g fun j hj=>by rw [eJ];exact h j hj];rfl
 ·have ha':ti.agg=false:=by simpa using ha
  have h1:=kD ha' hb;have h0:=h 0 (by omega);simp only [add_zero] at h0;simp only [ha',Bool.false_eq_true,if_false];rw [run_load];simp [h0]
theorem wM {cs:List SV} {g:Nat→Value} {n o:Nat} (hn:o+n≤cs.length) (h:∀(j:Nat) (c:SV),cs[j]?=some c→Den X w c (g j)):
  Den X w (.agg ((cs.drop o).take n)) (.agg ((range n).map fun j=>g (o+j)).toArray):=by
 refine .agg (by simp;omega) fun i c hc=>?_;have hi:i < n:=by
  rcases lt_or_ge i n with h1|h1
  ·exact h1
  ·rw [List.getElem?_eq_none (by simp;omega)] at hc;cases hc
 rw [List.getElem?_take_of_lt hi,List.getElem?_drop] at hc;have:=h _ _ hc;simpa [hi] using this
theorem Bu (ht:kB P T ti=true) (hb:ti≠.bF) (hs:Sat X w B) {p:SV} {v:Value} (hp:Den X w p v) (hc:(fZ ti.agg ti.size B p).vc):
  ∃u,(∀w':World,(∀b,X b∨hU B b→w'.heap[b]?=w.heap[b]?)→(Instr.loadAt T v).run P w'= .ok u w')∧Den X w (fZ ti.agg ti.size B p).v u∧(fZ ti.agg ti.size B p).B=B:=by
 cases hp<;>try (simp only [fZ,bF] at hc)
 case xp cs b off g hX hw h=>
  cases ha:ti.agg
  ·simp only [ha] at hc;have h1:=kD ha hb;refine ⟨g 0,fun w' hw'=>?_,?_,?_⟩
   ·simp only [Instr.loadAt,Instr.sureAddr,Sem.run_bind,Sem.run_pure,Result.andThen_ok];rw [l8 ht hb b off g fun j hj=>by rw [World.cell?_of_block (w:=w) (hw' b (.inl hX))];exact hw j (by omega)];simp [ha]
   ·simp only [fZ];exact h 0 _ (get?_of_lt _ hc)
   ·simp only [fZ]
  ·simp only [ha] at hc;refine ⟨.agg ((range ti.size).map g).toArray,fun w' hw'=>?_,?_,?_⟩
   ·simp only [Instr.loadAt,Instr.sureAddr,Sem.run_bind,Sem.run_pure,Result.andThen_ok];rw [l8 ht hb b off g fun j hj=>by rw [World.cell?_of_block (w:=w) (hw' b (.inl hX))];exact hw j (by omega)];simp [ha]
   ·simp only [fZ];have:=wM (X:=X) (w:=w) (o:=0) (n:=ti.size) (by omega) h;simpa using this
   ·simp only [fZ]
 case bx i b cap esz k off=>
  cases hg:au B i with
  |gone=>simp [hg] at hc
  |row h' E esz' xs=>
   simp only [hg] at hc
   cases ha:ti.agg
   all_goals
    simp only [ha] at hc;obtain ⟨rfl,rfl,hk,ho⟩:=hc;obtain ⟨vs,h1,h2,h3,h4,h5⟩:=hs.row hg;have hx:=get?_of_lt (α:=List SV) [] hk;have hl:=h4 k _ hx
   ·have h1':=kD ha hb;refine ⟨vs.getD (k*esz'+off) undef,fun w' hw'=>?_,?_,?_⟩
    ·simp only [Instr.loadAt,Instr.sureAddr,Sem.run_bind,Sem.run_pure,Result.andThen_ok];rw [l8 ht hb b (k*esz'+off) (fun j=>vs.getD (k*esz'+off+j) undef) fun j hj=>ju (by rw [hw' b (.inr ⟨i,by simp [hg,aI.blocks]⟩)];exact h1) (by have:=kE (m:=cap) (esz:=esz') (show k < cap by omega) ho;omega)];simp [ha]
    ·simp only [fZ,hg];exact h5 k off _ _ hx (get?_of_lt _ (by omega))
    ·simp only [fZ,hg]
   ·refine ⟨.agg ((range ti.size).map fun j=>vs.getD (k*esz'+(off+j)) undef).toArray,fun w' hw'=>?_,?_,?_⟩
    ·simp only [Instr.loadAt,Instr.sureAddr,Sem.run_bind,Sem.run_pure,Result.andThen_ok];rw [l8 ht hb b (k*esz'+off) (fun j=>vs.getD (k*esz'+(off+j)) undef) fun j hj=>by
      rw [add_assoc];exact ju (by rw [hw' b (.inr ⟨i,by simp [hg,aI.blocks]⟩)];exact h1) (by have:=kE (m:=cap) (esz:=esz') (show k < cap by omega) (show off+j < esz' by omega);omega)]
     simp [ha]
    ·simp only [fZ,hg];exact wM (g:=fun j=>vs.getD (k*esz'+j) undef) (by omega) (fun j c hc=>h5 k j _ _ hx hc)
    ·simp only [fZ,hg]
theorem vq (ht:kB P T ti=true) (hb:ti≠.bF) (hs:Sat X w B) {p:SV} {v:Value} (hp:Den X w p v) (hc:(fZ ti.agg ti.size B p).vc):
  ∃u,(Instr.loadAt T v).run P w= .ok u w∧Den X w (fZ ti.agg ti.size B p).v u∧(fZ ti.agg ti.size B p).B=B:=by
 obtain ⟨u,h1,h2,h3⟩:=Bu ht hb hs hp hc;exact ⟨u,h1 w fun _ _=>rfl,h2,h3⟩
theorem sh {s:SV} {v:Value} (hs:s.fh=true) (hd:Den X w s v):v.oneCell'=true:=by
 cases hd<;>simp_all [SV.fh,Value.oneCell']
theorem u1 {cs:List SV} (h:bt cs=true):∀(i:Nat) (c:SV),cs[i]?=some c→c.fh=true:=by
 induction cs with
 |nil=>simp
 |cons x r ih=>
  simp only [bt,Bool.and_eq_true] at h;intro i c hc
  cases i with
  |zero=>simp at hc;exact hc▸h.1
  |succ i=>exact ih h.2 i c (by simpa using hc)
theorem pN {s:SV} {v:Value} (hd:Den X w s v) (hs:bt s.cells=true):
  v.cells.size=s.cells.length∧(∀(i:Nat) (c:SV),s.cells[i]?=some c→Den X w c (v.cells.getD i undef))∧∀x∈v.cells.toList,x.oneCell'=true:=by
 by_cases ha:∃cs,s= .agg cs
 ·obtain ⟨cs,rfl⟩:=ha
  cases hd with
  |agg hsz h=>
   refine ⟨hsz,h,fun x hx=>?_⟩;rename_i vs;obtain ⟨i,hi⟩:=List.mem_iff_getElem?.1 hx;simp only [Value.cells] at hi;have hlt:i < cs.length:=by
    rcases lt_or_ge i cs.length with h1|h1
    ·exact h1
    ·rw [List.getElem?_eq_none (by simp;omega)] at hi;cases hi
   have hd:=h i _ (get?_of_lt .any hlt);have:vs.getD i undef=x:=by simp at hi;simp [hi]
   rw [this] at hd;exact sh (u1 hs i _ (by simpa [SV.cells] using get?_of_lt .any hlt)) hd
 ·have hc:s.cells=[s]:=by cases s<;>simp [SV.cells] at ha ⊢
  rw [hc] at hs ⊢;simp only [bt,Bool.and_true] at hs;have h1:=sh hs hd;have hv:v.cells=#[v]:=by cases v<;>simp [Value.cells,Value.oneCell'] at h1 ⊢
  rw [hv];refine ⟨rfl,fun i c h=>?_,fun x hx=>?_⟩
  ·cases i with
   |zero=>simp at h;subst h;simpa using hd
   |succ i=>simp at h
  ·simp at hx;subst hx;exact h1
theorem gf (w:World) (b:Nat) (cs vs:Array Value) (E:TypeId) (hb:w.heap[b]?=some (.cells vs E (0,0))) (c:Nat):
  (w.setRow b cs).heap[c]?=if c=b then some (.cells cs E (0,0)) else w.heap[c]?:=by
 simp only [World.setRow,Array.getElem?_modify];by_cases h:b=c
 ·subst h;simp [hb]
 ·have:¬c=b:=fun e=>h e.symm;simp [h,this]
theorem cd:∀(ys cs:List SV) (off:Nat),(aJ cs off ys).length=cs.length
 |[],_,_=>rfl
 |y :: r,cs,off=>by simp [aJ,cd r]
theorem u7:∀(ys cs:List SV) (off:Nat) (j:Nat) (c:SV),off+ys.length≤cs.length→(aJ cs off ys)[j]?=some c→
  (off≤j∧j < off+ys.length∧ys[j - off]?=some c)∨((j < off∨off+ys.length≤j)∧cs[j]?=some c)
 |[],cs,off,j,c,_,h=> .inr ⟨by simp;omega,h⟩
 |y :: r,cs,off,j,c,hl,h=>by
  simp only [length_cons] at hl;rcases u7 r (cs.set off y) (off+1) j c (by simp;omega) h with ⟨h1,h2,h3⟩|⟨h1,h2⟩
  ·refine .inl ⟨by omega,by simp;omega,?_⟩;have:j - off=(j - (off+1))+1:=by omega
   rw [this];simpa using h3
  ·by_cases e:j=off
   ·subst e;rw [List.getElem?_set_self (by omega)] at h2;exact .inl ⟨le_refl _,by simp,by simpa using h2⟩
   ·rw [List.getElem?_set_ne (by omega)] at h2;exact .inr ⟨by simp;omega,h2⟩
theorem BB (cur new:List Value) (o j:Nat) (h:o+new.length≤cur.length):
  (cur.take o ++ new ++ cur.drop (o+new.length)).toArray.getD j undef=if o≤j∧j < o+new.length then new.getD (j - o) undef else cur.getD j undef:=by
 simp only [Array.getD_eq_getD_getElem?,List.getElem?_toArray,List.getD_eq_getElem?_getD]
 congr 1
 rw [List.append_assoc];by_cases h1:j < o
 ·rw [List.getElem?_append_left (by simp;omega),List.getElem?_take_of_lt h1,if_neg (by omega)]
 ·rw [List.getElem?_append_right (by simp;omega)];have hl:(take o cur).length=o:=by simp;omega
  rw [hl];by_cases h2:j < o+new.length
  ·rw [List.getElem?_append_left (by omega),if_pos (by omega)]
  ·rw [List.getElem?_append_right (by omega),List.getElem?_drop,if_neg (by omega)]
   congr 2;omega
theorem A2 (ht:kB P T ti=true) (hb:ti≠.bF) (hs:Sat X w B) {p s:SV} {v u:Value} (hp:Den X w p v) (hu:Den X w s u) (hc:(jd ti.size B p s).vc):
  ∃w',(Instr.storeAt T v u).run P w= .ok () w'∧Sat X w' (jd ti.size B p s).B∧Ext X w B X w' (jd ti.size B p s).B:=by
 cases hp<;>try (simp only [jd,bF] at hc)
 case bx i b cap esz k off=>
  cases hg:au B i with
  |gone=>simp [hg] at hc
  |row h' E esz' xs=>
   simp only [hg] at hc;obtain ⟨rfl,rfl,hk,ho,hl,hsol⟩:=hc;obtain ⟨vs,h1,h2,h3,h4,h5⟩:=hs.row hg;obtain ⟨c1,c2,c3⟩:=pN hu hsol;have hx:=get?_of_lt (α:=List SV) [] hk;have hxl:=h4 k _ hx;have hn0:ti.size=u.cells.toList.length:=by simp;omega
   have hle:k*esz'+esz'≤cap*esz':=by
    rw [←succ_mul];exact mul_le_mul_right _ (by omega)
   have hi:=fp hg
   let new:=(vs.toList.take (k*esz'+off) ++ u.cells.toList ++ vs.toList.drop (k*esz'+off+u.cells.toList.length)).toArray
   have hnew:new.size=vs.size:=by simp [new];omega
   have hrun:(storeCells ⟨b,k*esz'+off,none⟩ u.cells.toList).run P w= .ok () (w.setRow b new):=by
    have:=run_storeCells_at (P:=P) b (k*esz'+off) E u.cells.toList 0 vs w h1 (by omega) c3;simpa [new] using this
   have hblk:∀c,c < w.heap.size→c ∉ (au B i).blocks→(w.setRow b new).heap[c]?=w.heap[c]?:=fun c _ hcn=>by
    rw [gf w b new vs E h1,if_neg];rw [hg] at hcn;simpa [aI.blocks] using hcn
   refine ⟨w.setRow b new,?_,?_,?_⟩
   ·simp only [Instr.storeAt,Instr.sureAddr,Sem.run_bind,Sem.run_pure,Result.andThen_ok,storeVar,qV ht hb];rw [Sem.run_ite,if_neg (by simp;omega),hrun]
   ·simp only [jd,hg];refine hs.replace hi (by simp) hblk (fun c hc=> .inl (by rw [hg];simpa [aI.blocks] using hc)) ?_;refine ⟨new,by rw [gf w b new vs E h1,if_pos rfl],by rw [hnew,h2],by simpa using h3,fun k' x hx'=>?_,fun k' j x c hx' hc'=>?_⟩
    ·rw [List.getElem?_set] at hx';by_cases e:k=k'
     ·subst e;simp only [hk,if_true,Option.some.injEq] at hx';subst hx';rw [cd];exact hxl
     ·simp only [e,if_false] at hx';exact h4 _ _ hx'
    ·rw [show new.getD (k'*esz'+j) undef=_ from BB vs.toList u.cells.toList (k*esz'+off) (k'*esz'+j) (by simp;omega)];have hdm:∀{s' u'},Den X w s' u'→Den X (w.setRow b new) s' u':=fun hd=>hd.mono (fun _ h=>h) fun c hc=>hblk c (hs.og c hc) fun hm=>hs.apart c hc ⟨i,hm⟩;rw [List.getElem?_set] at hx';by_cases e:k=k'
     ·subst e;simp only [hk,if_true,Option.some.injEq] at hx';subst hx';rcases u7 s.cells _ off j c (by omega) hc' with ⟨a1,a2,a3⟩|⟨a1,a2⟩
      ·rw [if_pos (by simp;omega)];have hj:k*esz'+j - (k*esz'+off)=j - off:=by omega
       rw [hj];have:=hdm (c2 _ _ a3);simpa using this
      ·rw [if_neg (by simp;omega)];have:=hdm (h5 k j _ _ hx a2);simpa using this
     ·simp only [e,if_false] at hx';have hj:j < esz':=by
       have:=h4 _ _ hx';rcases lt_or_ge j x.length with h'|h'
       ·omega
       ·rw [List.getElem?_eq_none h'] at hc';cases hc'
      have hne:¬(k*esz'+off≤k'*esz'+j∧k'*esz'+j < k*esz'+off+u.cells.toList.length):=by
       intro ⟨a1,a2⟩;rcases Nat.lt_or_gt_of_ne e with h'|h'
       ·have:(k+1)*esz'≤k'*esz':=mul_le_mul_right _ h';rw [succ_mul] at this;omega
       ·have:(k'+1)*esz'≤k*esz':=mul_le_mul_right _ h';rw [succ_mul] at this;omega
      rw [if_neg hne];have:=hdm (h5 k' j _ _ hx' hc');simpa using this
   ·simp only [jd,hg];exact Ext.replace hi rfl rfl rfl (by simp) hblk (fun c hc=> .inl (by rw [hg];simpa [aI.blocks] using hc))
end
section
variable {P:Program} {T:TypeId} {ti:j4} {X:Nat→Prop} {w:World} {B:List aI}
theorem nQ (ht:kB P T ti=true) {f:Nat} {s:SV} {v:Value} (hd:Den X w s v) (hc:(i5 ti B f s).vc):
  ∃u,(∀w,(Instr.fieldAt T v f).run P w= .ok u w)∧Den X w (i5 ti B f s).v u∧(i5 ti B f s).B=B:=by
 unfold i5 at *
 cases ti<;>simp only [bF] at hc
 case struct fs n=>
  obtain ⟨F,hu,hsz,hf⟩:=qA ht
  cases hj:fs[f]? with
  |none=>simp [hj] at hc
  |some oam=>
   obtain ⟨o,a,m⟩:=oam;obtain ⟨fl,h1,h2,h3',_⟩:=hf f o a m hj;have h3:=fun w=>fO h3' w;simp only [hj] at hc ⊢;have hrun:∀(w:World) (ad:Addr),0 < m→(fieldPlace ad fl).run P w= .ok (ad.add o) w:=fun w ad hm=>by
    simp only [fieldPlace,Sem.run_bind,h3,Result.andThen_ok,Sem.run_ite];rw [if_neg (by omega),h2];rfl
   cases hd<;>simp only at hc
   case xp cs b off g hX hw h=>
    obtain ⟨hm,ho⟩:=hc;refine ⟨.pointer (some ⟨b,off+o,none⟩),?_,?_,rfl⟩
    ·intro w;simp only [Instr.fieldAt,Sem.run_bind,run_underlying hu,Result.andThen_ok,h1,Instr.sureAddr,Sem.run_pure,hrun _ _ hm,eJ]
    ·exact .xp (fun j=>g (o+j)) hX (fun j hj=>by rw [add_assoc];exact hw _ (by simp at hj;omega)) (fun j c hjc=>h _ _ (by simpa using hjc))
   case bx i b cap esz k off=>
    refine ⟨.pointer (some ⟨b,k*esz+(off+o),none⟩),?_,.bx ..,rfl⟩;intro w;simp only [Instr.fieldAt,Sem.run_bind,run_underlying hu,Result.andThen_ok,h1,Instr.sureAddr,Sem.run_pure,hrun _ _ hc,eJ,add_assoc]
theorem nP (ht:kB P T ti=true) {s si:SV} {v vi:Value} (hd:Den X w s v) (hi:Den X w si vi) (hc:(i4 ti B s si).vc):
  ∃u,(∀w,(Instr.indexAt T v vi).run P w= .ok u w)∧Den X w (i4 ti B s si).v u∧(i4 ti B s si).B=B:=by
 unfold i4 at *
 cases hi<;>simp only [bF] at hc
 case int kk k _=>
 cases ti<;>simp only at hc
 case slice E e eb=>
  obtain ⟨hu,ie,z,he,hes,_⟩:=eN ht;have hsz:∀w,(sizeOf E).run P w= .ok e w:=fun w=>fO (by simp [jF,he,hes]) w
  cases hd<;>simp only at hc
  case gC=>omega
  case na full esz n f b off cap g hn hcap hf hX hl hw h=>
   obtain ⟨h0,h1,rfl⟩:=hc;have hkn:k.toNat < n:=by omega
   refine ⟨.pointer (some ⟨b,off+k.toNat*esz,none⟩),?_,?_,rfl⟩
   ·intro w;simp only [Instr.indexAt,asIntOf,Sem.run_bind,Sem.run_pure,Result.andThen_ok,run_underlying hu,Sem.run_ite,if_pos (And.intro h0 h1),hsz,eJ]
   ·exact .xp (fun j=>g k.toNat j) hX (fun j hj=>by rw [add_assoc];exact hw _ _ hkn (by rw [←hl _ hkn];exact hj)) (fun j c hjc=>h _ _ _ hkn hjc)
  case dh=>omega
  case hO=>omega
  case rowAt i b cap esz n hn=>
   obtain ⟨h0,h1,rfl⟩:=hc;refine ⟨.pointer (some ⟨b,(0+k.toNat)*esz+0,none⟩),?_,.bx ..,rfl⟩;intro w;simp only [Instr.indexAt,asIntOf,Sem.run_bind,Sem.run_pure,Result.andThen_ok,run_underlying hu,Sem.run_ite,if_pos (And.intro h0 h1),hsz,eJ];simp
  case kS i b cap esz lo n c hn hnc=>
   obtain ⟨h0,h1,rfl⟩:=hc;refine ⟨.pointer (some ⟨b,(lo+1+k.toNat)*esz+0,none⟩),?_,.bx ..,rfl⟩;intro w;simp only [Instr.indexAt,asIntOf,Sem.run_bind,Sem.run_pure,Result.andThen_ok,run_underlying hu,Sem.run_ite,if_pos (And.intro h0 h1),hsz,eJ,add_mul];simp
 case array len a e=>
  obtain ⟨E,hu,hsz',_⟩:=mJ ht;have hsz:=fun w=>fO hsz' w
  cases hd<;>simp only at hc
  case xp cs b off g hX hw h=>
   obtain ⟨h0,h1,h2⟩:=hc;refine ⟨.pointer (some ⟨b,off+k.toNat*e,none⟩),?_,?_,rfl⟩
   ·intro w;simp only [Instr.indexAt,asIntOf,Sem.run_bind,Sem.run_pure,Result.andThen_ok,run_underlying hu,Sem.run_ite,if_pos (And.intro h0 h1),hsz,eJ,Instr.sureAddr]
   ·exact .xp (fun j=>g (k.toNat*e+j)) hX (fun j hj=>by rw [add_assoc];exact hw _ (by simp at hj;omega)) (fun j c hjc=>h _ _ (by simpa using hjc))
  case bx i b cap esz k0 off=>
   refine ⟨.pointer (some ⟨b,k0*esz+(off+k.toNat*e),none⟩),?_,.bx ..,rfl⟩;intro w;simp only [Instr.indexAt,asIntOf,Sem.run_bind,Sem.run_pure,Result.andThen_ok,run_underlying hu,Sem.run_ite,if_pos hc,hsz,eJ,Instr.sureAddr,add_assoc]
theorem Be {E:TypeId} {o:Nat} (hag:∀w,(isAgg E).run P w= .ok false w) {cs:List SV} {vs:Array Value} (hs:vs.size=cs.length)
  (h:∀(i:Nat) (c:SV),cs[i]?=some c→Den X w c (vs.getD i undef)) (hc:o < cs.length):
  ∃u,(∀w,(part E vs o).run P w= .ok u w)∧Den X w (cs.getD o .any) u:=by
 refine ⟨vs.getD o undef,?_,h o _ (get?_of_lt _ hc)⟩;intro w;simp only [part,Sem.run_bind,hag,Result.andThen_ok,Bool.false_eq_true,if_false];rw [kv (show o < vs.size by omega)];rfl
theorem Bf {E:TypeId} {m o:Nat} (hsz:∀w,(sizeOf E).run P w= .ok m w) (hag:∀w,(isAgg E).run P w= .ok true w) {cs:List SV} {vs:Array Value} (hs:vs.size=cs.length)
  (h:∀(i:Nat) (c:SV),cs[i]?=some c→Den X w c (vs.getD i undef)) (hc:o+m≤cs.length):
  ∃u,(∀w,(part E vs o).run P w= .ok u w)∧Den X w (.agg ((cs.drop o).take m)) u:=by
 refine ⟨.agg (vs.extract o (o+m)),?_,?_⟩
 ·intro w;simp only [part,Sem.run_bind,hag,Result.andThen_ok,if_true,hsz,Sem.run_pure]
 ·have:=wM (X:=X) (w:=w) (g:=fun j=>vs.getD j undef) hc h;have e:vs.extract o (o+m)=((range m).map fun j=>vs.getD (o+j) undef).toArray:=by
   apply Array.ext
   ·simp;omega
   ·intro i h1 h2;simp at h1 h2;have:o+i < vs.size:=by omega
    simp [this]
  rw [e];exact this
theorem tF (ht:kB P T ti=true) {f:Nat} {s:SV} {v:Value} (hd:Den X w s v) (hc:(pK ti B f s).vc):
  ∃u,(∀w,(Instr.field T v f).run P w= .ok u w)∧Den X w (pK ti B f s).v u∧(pK ti B f s).B=B:=by
 unfold pK at *
 cases ti<;>simp only [bF] at hc
 case struct fs n=>
  obtain ⟨F,hu,hsz,hf⟩:=qA ht
  cases hj:fs[f]? with
  |none=>simp [hj] at hc
  |some oam=>
   obtain ⟨o,a,m⟩:=oam;obtain ⟨fl,h1,h2,h3',h4⟩:=hf f o a m hj;have h3:=fun w=>fO h3' w;simp only [hj] at hc ⊢
   cases hd<;>simp only at hc
   case agg cs vs hs h=>
    cases a
    case' true=>obtain ⟨u,hu1,hu2⟩:=Bf (X:=X) (w:=w) h3 h4 hs h hc
    case' false=>obtain ⟨u,hu1,hu2⟩:=Be (X:=X) (w:=w) h4 hs h hc
    all_goals
     refine ⟨u,?_,hu2,rfl⟩;intro w;simp only [Instr.field,Sem.run_bind,run_underlying hu,Result.andThen_ok,h1,asAgg,Sem.run_pure,h2,hu1]
theorem tz (ht:kB P T ti=true) {s si:SV} {v vi:Value} (hd:Den X w s v) (hi:Den X w si vi) (hc:(pJ ti B s si).vc):
  ∃u,(∀w,(Instr.index T v vi).run P w= .ok u w)∧Den X w (pJ ti B s si).v u∧(pJ ti B s si).B=B:=by
 unfold pJ at *
 cases hi<;>simp only [bF] at hc
 case int kk k _=>
 cases ti<;>simp only at hc
 case string=>
  have hu:=iP ht
  cases hd<;>simp only at hc
  case str l=>
   obtain ⟨h0,h1⟩:=hc;have hk:k.toNat < l.length:=by omega
   have hg:(ByteArray.mk l.toArray)[k.toNat]?=some (l.getD k.toNat 0):=by
    have h2:k.toNat < (ByteArray.mk l.toArray).size:=by simpa [ByteArray.size] using hk
    rw [getElem?_pos (ByteArray.mk l.toArray) k.toNat h2];simp [getD,hk];rfl
   refine ⟨.int .u8 ((l.getD k.toNat 0).toNat:Int),?_,.int _ _ .u8,rfl⟩;intro w;simp only [Instr.index,asIntOf,Sem.run_bind,Sem.run_pure,Result.andThen_ok,run_underlying hu,if_pos h0,hg]
 case array len a e=>
  obtain ⟨E,hu,hsz',hag⟩:=mJ ht;have hsz:=fun w=>fO hsz' w
  cases hd<;>simp only at hc
  case agg cs vs hs h=>
   cases a
   ·obtain ⟨h0,h1,rfl,h3⟩:=hc;obtain ⟨u,hu1,hu2⟩:=Be (X:=X) (w:=w) (o:=k.toNat) hag hs h h3;refine ⟨u,?_,hu2,rfl⟩;intro w;simp only [Instr.index,asIntOf,Sem.run_bind,Sem.run_pure,Result.andThen_ok,run_underlying hu,Sem.run_ite,if_pos (And.intro h0 h1),hsz,Nat.mul_one,hu1]
   ·obtain ⟨h0,h1,h3⟩:=hc;obtain ⟨u,hu1,hu2⟩:=Bf (X:=X) (w:=w) (o:=k.toNat*e) hsz hag hs h h3;refine ⟨u,?_,hu2,rfl⟩;intro w;simp only [Instr.index,asIntOf,Sem.run_bind,Sem.run_pure,Result.andThen_ok,run_underlying hu,Sem.run_ite,if_pos (And.intro h0 h1),hsz,hu1]
end
section
variable {P:Program} {T:TypeId} {ti:j4} {X:Nat→Prop} {w:World} {B:List aI}
theorem IH {k j esz:Nat} (hj:j < esz):(k*esz+j)/esz=k∧(k*esz+j)%esz=j:=by
 have h0:0 < esz:=by omega
 constructor
 ·rw [mul_comm,Nat.mul_add_div h0,Nat.div_eq_of_lt hj,add_zero]
 ·rw [mul_comm,Nat.mul_add_mod,Nat.mod_eq_of_lt hj]
structure Cells (X:Nat→Prop) (w:World) (esz:Nat) (ys:List (List SV)) (cs:List Value):Prop where
 len:cs.length=ys.length*esz
 each:∀(k:Nat) (x:List SV),ys[k]?=some x→x.length=esz
 den:∀(k j:Nat) (x:List SV) (c:SV),ys[k]?=some x→x[j]?=some c→Den X w c (cs.getD (k*esz+j) undef)
theorem AF {esz m:Nat} {ys:List (List SV)} (hm:m=ys.length) (g:Nat→Value) (hl:∀(k:Nat) (x:List SV),ys[k]?=some x→x.length=esz)
  (h:∀(k j:Nat) (x:List SV) (c:SV),ys[k]?=some x→x[j]?=some c→Den X w c (g (k*esz+j))):Cells X w esz ys ((range (m*esz)).map g):=by
 subst hm;refine ⟨by simp,hl,fun k j x c hx hc=>?_⟩;have hj:j < esz:=by
  have:=hl k x hx;rcases lt_or_ge j x.length with h'|h'
  ·omega
  ·rw [List.getElem?_eq_none h'] at hc;cases hc
 have hk:k < ys.length:=by
  rcases lt_or_ge k ys.length with h'|h'
  ·exact h'
  ·rw [List.getElem?_eq_none h'] at hx;cases hx
 have:=kE hk hj;have h2:=h k j x c hx hc;simpa [this] using h2
theorem Cells.mono {X':Nat→Prop} {w':World} {esz:Nat} {ys:List (List SV)} {cs:List Value} (h:Cells X w esz ys cs) (hX:∀b,X b→X' b) (hw:∀b,X b→w'.heap[b]?=w.heap[b]?):Cells X' w' esz ys cs:=
 ⟨h.len,h.each,fun k j x c hx hc=>(h.den k j x c hx hc).mono hX hw⟩
theorem Cells.append {esz:Nat} {ys zs:List (List SV)} {cs ds:List Value} (h:Cells X w esz ys cs) (k:Cells X w esz zs ds):Cells X w esz (ys ++ zs) (cs ++ ds):=by
 refine ⟨by simp [h.len,k.len,add_mul],fun i x hx=>?_,fun i j x c hx hc=>?_⟩
 ·rw [List.getElem?_append] at hx
  split at hx
  ·exact h.each _ _ hx
  ·exact k.each _ _ hx
 ·rw [List.getElem?_append] at hx
  split at hx
  ·rename_i hi;have hd:=h.den i j x c hx hc;have hj:j < esz:=by
    have:=h.each _ _ hx;rcases lt_or_ge j x.length with h'|h'
    ·omega
    ·rw [List.getElem?_eq_none h'] at hc;cases hc
   have:=kE hi hj;simp only [List.getD_eq_getElem?_getD] at hd ⊢;rw [List.getElem?_append_left (by rw [h.len];exact this)];exact hd
  ·rename_i hi;have hd:=k.den _ j x c hx hc;have e:i*esz+j - cs.length=(i - ys.length)*esz+j:=by
    rw [h.len];have:i=ys.length+(i - ys.length):=by omega
    rw [this,add_mul];simp;omega
   have hge:cs.length≤i*esz+j:=by
    rw [h.len];have:ys.length*esz≤i*esz:=mul_le_mul_right _ (by omega);omega
   simp only [List.getD_eq_getElem?_getD] at hd ⊢;rw [List.getElem?_append_right hge,e];exact hd
theorem Cells.take {esz:Nat} {ys:List (List SV)} {cs:List Value} (h:Cells X w esz ys cs) (n:Nat):Cells X w esz (ys.take n) (cs.take (n*esz)):=by
 refine ⟨?_,fun i x hx=>h.each i x ?_,fun i j x c hx hc=>?_⟩
 ·simp only [length_take,h.len];rcases Nat.le_total n ys.length with h1|h1
  ·have:=mul_le_mul_right esz h1;rw [min_eq_left h1,min_eq_left this]
  ·have:=mul_le_mul_right esz h1;rw [Nat.min_eq_right h1,Nat.min_eq_right this]
 ·rw [List.getElem?_take] at hx;split at hx
  ·exact hx
  ·cases hx
 ·rw [List.getElem?_take] at hx
  split at hx
  ·rename_i hi;have hj:j < esz:=by
    have:=h.each _ _ hx;rcases lt_or_ge j x.length with h'|h'
    ·omega
    ·rw [List.getElem?_eq_none h'] at hc;cases hc
   have hd:=h.den i j x c hx hc;have:=kE hi hj;simp only [List.getD_eq_getElem?_getD,List.getElem?_take,this,if_true] at hd ⊢;exact hd
  ·cases hx
theorem Cells.drop {esz:Nat} {ys:List (List SV)} {cs:List Value} (h:Cells X w esz ys cs) (n:Nat):Cells X w esz (ys.drop n) (cs.drop (n*esz)):=by
 refine ⟨?_,fun i x hx=>h.each (n+i) x (by simpa using hx),fun i j x c hx hc=>?_⟩
 ·simp only [length_drop,h.len,Nat.sub_mul]
 ·have hd:=h.den (n+i) j x c (by simpa using hx) hc;have e:n*esz+(i*esz+j)=(n+i)*esz+j:=by rw [add_mul];omega
  simp only [List.getD_eq_getElem?_getD,List.getElem?_drop,e] at hd ⊢;exact hd
theorem zq {esz:Nat} (he:0 < esz) {ys:List (List SV)} {cs:List Value} (h:Cells X w esz ys cs) (hs:∀y∈ys,bt y=true):∀v∈cs,v.oneCell'=true:=by
 intro v hv;obtain ⟨i,hi⟩:=List.mem_iff_getElem?.1 hv;have hlt:i < cs.length:=by
  rcases lt_or_ge i cs.length with h'|h'
  ·exact h'
  ·rw [List.getElem?_eq_none h'] at hi;cases hi
 have hm:i%esz < esz:=Nat.mod_lt _ he;have hk:i/esz < ys.length:=by
  rw [h.len] at hlt;exact Nat.div_lt_of_lt_mul (by rw [mul_comm];exact hlt)
 have hx:=get?_of_lt (α:=List SV) [] hk;have hxl:=h.each _ _ hx;have hc:=get?_of_lt (α:=SV) .any (show i%esz < (ys.getD (i/esz) []).length by omega);have hd:=h.den _ _ _ _ hx hc;have e:i/esz*esz+i%esz=i:=by rw [mul_comm];exact Nat.div_add_mod i esz
 rw [e,getD_of_get? hi] at hd;exact sh (u1 (hs _ (List.mem_of_getElem? hx)) _ _ hc) hd
theorem lh (hs:Sat X w B) {i b cap E esz xs} (hg:au B i= .row (.at b cap) E esz xs):
  ∃vs:Array Value,w.heap[b]?=some (.cells vs E (0,0))∧vs.size=cap*esz∧xs.length≤cap∧Cells X w esz xs (vs.toList.take (xs.length*esz)):=by
 obtain ⟨vs,h1,h2,h3,h4,h5⟩:=hs.row hg;refine ⟨vs,h1,h2,h3,?_,h4,fun k j x c hx hc=>?_⟩
 ·have:=mul_le_mul_right esz h3;simp;omega
 ·have hj:j < esz:=by
   have:=h4 _ _ hx;rcases lt_or_ge j x.length with h'|h'
   ·omega
   ·rw [List.getElem?_eq_none h'] at hc;cases hc
  have hk:k < xs.length:=by
   rcases lt_or_ge k xs.length with h'|h'
   ·exact h'
   ·rw [List.getElem?_eq_none h'] at hx;cases hx
  have:=kE hk hj;have hd:=h5 k j x c hx hc;simp only [List.getD_eq_getElem?_getD,List.getElem?_take,this,if_true];simpa using hd
theorem y_ {b E:Nat} {vs:Array Value} {fz} (hb:w.heap[b]?=some (.cells vs E fz)) (o n:Nat) (ho:o+n≤vs.size):
  (loadCells ⟨b,o,none⟩ n).run P w= .ok ((vs.toList.drop o).take n).toArray w:=by
 have:=run_loadCells_list (P:=P) w ⟨b,o,none⟩ ((vs.toList.drop o).take n) fun j v hv=>by
  rw [eJ];have hj:j < n:=by
   rcases lt_or_ge j n with h'|h'
   ·exact h'
   ·rw [List.getElem?_eq_none (by simp;omega)] at hv;cases hv
  rw [ju hb (by omega)];rw [List.getElem?_take_of_lt hj,List.getElem?_drop] at hv;simp at hv;simp [hv]
 have hl:((vs.toList.drop o).take n).length=n:=by simp;omega
 rwa [hl] at this
theorem lg {esz:Nat} (he:0 < esz) (hs:Sat X w B) {s:SV} {v:Value} (hd:Den X w s v) (hc:(dm esz B s).2):
  (Builtin.lenOf v).run P w= .ok (dm esz B s).1.length w∧
  ∀m,m≤(dm esz B s).1.length→∃cs:List Value,(Builtin.firstCells esz m v).run P w= .ok cs.toArray w∧Cells X w esz ((dm esz B s).1.take m) cs:=by
 have nilC:Cells X w esz [] []:=⟨by simp,by simp,by simp⟩
 cases hd<;>simp only [dm] at hc
 case str l=>
  subst hc;refine ⟨by simp [Builtin.lenOf,dm,ByteArray.size],fun m hm=>?_⟩
  ·simp only [dm,length_map] at hm;refine ⟨(l.take m).map fun b=> .int .u8 (b.toNat:Int),?_,?_,?_,?_⟩
   ·simp only [Builtin.firstCells,Sem.run_pure]
    congr 1
    apply Array.ext';simp [ByteArray.data_extract]
   ·simp [dm]
   ·intro k x hx;simp only [dm,List.getElem?_take,List.getElem?_map] at hx
    split at hx
    ·cases h:l[k]?<;>simp [h] at hx;subst hx;rfl
    ·cases hx
   ·intro k j x c hx hcc;simp only [dm,List.getElem?_take,List.getElem?_map] at hx
    split at hx
    ·rename_i hk
     cases h:l[k]? with
     |none=>simp [h] at hx
     |some b=>
      simp [h] at hx;subst hx
      cases j with
      |zero=>
       simp at hcc;subst hcc;simp [List.getD_eq_getElem?_getD,List.getElem?_map,hk,h];exact .int _ _ .u8
      |succ j=>simp at hcc
    ·cases hx
 case gC full e f a cap hf=>
  refine ⟨by simp [Builtin.lenOf,dm],fun m hm=>?_⟩;simp only [dm,List.range_zero,map_nil,length_nil,le_zero] at hm;subst hm;refine ⟨[],?_,by simpa [dm] using nilC⟩
  cases a<;>simp [Builtin.firstCells,loadCells,loadCellsFrom]
 case na full e n f b off cap g hn hcap hf hX hl hw h=>
  have h1:e=esz:=by omega
  subst h1;refine ⟨by simp [Builtin.lenOf,dm],fun m hm=>?_⟩
  ·simp only [dm,length_map,List.length_range] at hm;refine ⟨(range (m*e)).map fun i=>g (i/e) (i%e),?_,?_⟩
   ·simp only [Builtin.firstCells];rw [run_loadCells w ⟨b,off,none⟩ (m*e) (fun i=>g (i/e) (i%e)) fun j hj=>?_];rw [eJ];have hk:j/e < n:=lt_of_lt_of_le (Nat.div_lt_of_lt_mul (by rw [mul_comm];exact hj)) hm;have:=hw (j/e) (j%e) hk (Nat.mod_lt _ he);rw [mul_comm (j/e) e,Nat.div_add_mod] at this;exact this
   ·have hl':∀(k:Nat) (x:List SV),(((range n).map f).take m)[k]?=some x→k < n∧x=f k:=by
     intro k x hx;rw [List.getElem?_take] at hx
     split at hx
     ·simp only [List.getElem?_map] at hx;rcases lt_or_ge k n with h'|h'
      ·simp [h'] at hx;exact ⟨h',hx.symm⟩
      ·rw [List.getElem?_eq_none (by simpa using h')] at hx;cases hx
     ·cases hx
    refine AF (by simp [dm];omega) _ ?_ ?_
    ·intro k x hx;obtain ⟨hk,rfl⟩:=hl' k x (by simpa [dm] using hx);exact hl k hk
    ·intro k j x c hx hcc;obtain ⟨hk,rfl⟩:=hl' k x (by simpa [dm] using hx);have hj:j < e:=by
      have:=hl k hk;rcases lt_or_ge j (f k).length with h'|h'
      ·omega
      ·rw [List.getElem?_eq_none h'] at hcc;cases hcc
     obtain ⟨e1,e2⟩:=IH (k:=k) hj;simp only [e1,e2];exact h k j c hk hcc
 case dh i a e lo=>
  cases hg:au B i with
  |gone=>simp [hg] at hc
  |row h2 E e2 xs=>
   simp only [hg] at hc;obtain ⟨rfl,rfl,rfl,h4⟩:=hc;have hx:=hs.dh hg;subst hx;refine ⟨by simp [Builtin.lenOf,dm,hg],fun m hm=>?_⟩;simp only [dm,hg,List.drop_nil,List.take_nil,length_nil,le_zero] at hm;subst hm;refine ⟨[],?_,by simpa [dm,hg] using nilC⟩
   cases a<;>simp [Builtin.firstCells,loadCells,loadCellsFrom]
 case rowAt i b cap e n hncap=>
  cases hg:au B i with
  |gone=>simp [hg] at hc
  |row h2 E e2 xs=>
   simp only [hg] at hc;obtain ⟨rfl,rfl,rfl,h4⟩:=hc;obtain ⟨vs,a1,a2,a3,a4⟩:=lh hs hg;refine ⟨by simp [Builtin.lenOf,dm,hg];omega,fun m hm=>?_⟩
   ·simp only [dm,hg,length_take,length_drop] at hm;have hb:m*e2≤vs.size:=by rw [a2];exact mul_le_mul_right _ (by omega)
    refine ⟨(vs.toList.drop 0).take (m*e2),?_,?_⟩
    ·simp only [Builtin.firstCells];exact y_ a1 0 (m*e2) (by omega)
    ·have:=a4.take m;simp only [dm,hg,List.drop_zero,take_take];rw [min_eq_left (by omega:m≤n)];have e:min (m*e2) (xs.length*e2)=m*e2:=min_eq_left (mul_le_mul_right _ (by omega));rw [take_take,e] at this;exact this
 case kS i b cap e lo n c hn hnc=>
  cases hg:au B i with
  |gone=>simp [hg] at hc
  |row h2 E e2 xs=>
   simp only [hg] at hc;obtain ⟨rfl,rfl,rfl,h4⟩:=hc;obtain ⟨vs,a1,a2,a3,a4⟩:=lh hs hg;refine ⟨by simp [Builtin.lenOf,dm,hg];omega,fun m hm=>?_⟩
   ·simp only [dm,hg,length_take,length_drop] at hm;have hb:(lo+1)*e2+m*e2≤vs.size:=by rw [a2,←add_mul];exact mul_le_mul_right _ (by omega)
    refine ⟨(vs.toList.drop ((lo+1)*e2)).take (m*e2),?_,?_⟩
    ·simp only [Builtin.firstCells];exact y_ a1 _ (m*e2) hb
    ·have:=(a4.drop (lo+1)).take m;simp only [dm,hg,take_take];rw [min_eq_left (by omega:m≤n)];have e:(take (m*e2) (drop ((lo+1)*e2) (take (xs.length*e2) vs.toList)))=take (m*e2) (drop ((lo+1)*e2) vs.toList):=by
      rw [List.drop_take,take_take,min_eq_left];have:(lo+1)*e2+m*e2≤xs.length*e2:=by rw [←add_mul];exact mul_le_mul_right _ (by omega)
      omega
     rw [e] at this;exact this
 case hO i b cap e lo c a=>
  cases hg:au B i with
  |gone=>simp [hg] at hc
  |row h2 E e2 xs=>
   refine ⟨by simp [Builtin.lenOf,dm,hg],fun m hm=>?_⟩;simp only [dm,hg,List.take_zero,length_nil,le_zero] at hm;subst hm;refine ⟨[],?_,by simpa [dm,hg] using nilC⟩
   cases a<;>simp [Builtin.firstCells,loadCells,loadCellsFrom]
theorem yE {esz:Nat} {s:SV} (hc:(dm esz B s).2) (h:hG B s):∀y∈(dm esz B s).1,bt y=true:=by
 unfold dm at *
 cases s<;>simp only at hc ⊢
 case str l=>simp [bt,SV.fh]
 case sl full e m f=>
  intro y hy;simp only [List.mem_map,List.mem_range] at hy;obtain ⟨k,hk,rfl⟩:=hy;exact h k hk
 case row i h' e lo m=>
  cases hg:au B i with
  |gone=>simp [hg] at hc
  |row h2 E e2 xs=>
   simp only [hG,hg] at h ⊢;exact fun y hy=>h y (List.mem_of_mem_drop (List.mem_of_mem_take hy))
theorem Sat.drew (hs:Sat X w B):Sat X w.drew B:=⟨hs.inj,hs.lt,hs.xg.mono (w':=w.drew) (fun _ h=>h) (fun _ _=>rfl) hs.og,hs.apart,fun i=>(aI.ig (w':=w.drew) (hs.ok i) (fun _ h=>h) (fun _ _=>rfl) (fun _ _=>rfl))⟩
theorem Ext.drew:Ext X w B X w.drew B:=⟨rfl,rfl,rfl,le_refl _,fun _ _ _=>rfl,fun _ h=>h,fun _ h=> .inl h,fun _ h=> .inl h⟩
theorem Den.drew {s v} (h:Den X w s v):Den X w.drew s v:=h.mono (fun _ h=>h) fun _ _=>rfl
theorem heap_alloc (w:World) (o:Obj) (c:Nat) (h:c < w.heap.size):(w.alloc o).heap[c]?=w.heap[c]?:=RowKit.Below.heap_alloc w o c h
theorem heap_alloc_new (w:World) (o:Obj):(w.alloc o).heap[w.heap.size]?=some o:=by
 show (w.heap.push o)[w.heap.size]?=some o;simp
theorem size_zeroCells (z:Array Value) (n:Nat):(Builtin.zeroCells z n).size=n*z.size:=by simp [Builtin.zeroCells]
theorem Cc {E esz eb:Nat} {T2:TypeId} {d2:TypeDesc} (ht:kB P T (.slice E esz eb)=true) (h2:P.underlying T2=some d2) (hd2:∀k,d2≠.int k) {ty:TypeId}
  {base:Option Addr} {n cap m:Nat} {x:Value} (hm:(Builtin.lenOf x).run P w= .ok m w) (hg:cap < n+m) (hsz:(n+m)*eb≤140737488355328) (heb:0 < eb)
  {olds news:List Value} (ho:(Builtin.firstCells esz n (.slice base n cap)).run P w.drew= .ok olds.toArray w.drew) (hn:(Builtin.firstCells esz m x).run P w.drew= .ok news.toArray w.drew):
  ∃c r,n+m≤c∧r.length=(c - (n+m))*esz∧
   (Builtin.append_ #[T,T2] ty #[.slice base n cap,x]).run P w= .ok (.slice (some ⟨w.heap.size,0,none⟩) (n+m) c) (w.drew.alloc (.cells (olds ++ news ++ r).toArray E)):=by
 obtain ⟨hu,i,z,hi,h3,h4,h5,h6⟩:=eN ht;subst h3 h4
 let q:Question:= .appendCap (n+m) cap E
 refine ⟨q.cut (w.tape w.drawn q),(Builtin.zeroCells z.cells (q.cut (w.tape w.drawn q) - (n+m))).toList,?_,by simp [size_zeroCells,h6],?_⟩
 ·simp only [q,Question.cut];omega
 ·have hfit:=growslice_fits hg hsz;have hmul:n+m≤(n+m)*i.bytes:=Nat.le_mul_of_pos_right _ heb;have h63:¬(((n+m:Nat):Int) > IntKind.i64.max∧(False∨i.bytes=0)):=by rintro ⟨_,h|h⟩<;>omega
  have hnf:Question.forced q=false:=rfl;simp only [Builtin.append_];simp only [List.getElem?_toArray,List.getElem?_cons_zero,List.getElem?_cons_succ,Sem.run_bind,run_underlying hu,run_underlying h2,Result.andThen_ok,sizeOf,typeInfo,run_program,hi,Sem.run_pure,Bool.false_eq_true,if_false,hm,Sem.run_ite];rw [if_neg (by omega),if_neg (by simpa using h63),if_neg (by omega)];simp only [Result.andThen_ok,run_choose,run_askRoom];simp only [q] at *;simp only [hnf,ho,hn,zeroValue,typeInfo,hi,h5,newRow,World.drew_eq,Bool.false_eq_true,if_false,Result.andThen_ok,Sem.run_bind,run_program,Sem.run_pure,run_newObj,World.alloc_eq,Bool.not_false,if_true,World.size_drew]
  congr 3
  apply Array.ext';simp
theorem o_ {E esz eb:Nat} {T2:TypeId} {d2:TypeDesc} (ht:kB P T (.slice E esz eb)=true) (h2:P.underlying T2=some d2) (hd2:∀k,d2≠.int k) {ty:TypeId}
  {base:Option Addr} {n cap m:Nat} {x:Value} (hm:(Builtin.lenOf x).run P w= .ok m w) (hg:n+m≤cap) {news:List Value} (hn:(Builtin.firstCells esz m x).run P w= .ok news.toArray w):
  (Builtin.append_ #[T,T2] ty #[.slice base n cap,x]).run P w=(match base with
   |some a=>((storeCells (a.add (n*esz)) news).run P w).andThen fun _ w'=> .ok (.slice base (n+m) cap) w'
   |none=> .ok (.slice base (n+m) cap) w):=by
 obtain ⟨hu,i,z,hi,h3,h4,h5,h6⟩:=eN ht;subst h3 h4;simp only [Builtin.append_];simp only [List.getElem?_toArray,List.getElem?_cons_zero,List.getElem?_cons_succ,Sem.run_bind,run_underlying hu,run_underlying h2,Result.andThen_ok,sizeOf,typeInfo,run_program,hi,Sem.run_pure,Bool.false_eq_true,if_false,hm,Sem.run_ite];rw [if_pos hg];simp only [Bool.not_false,if_true,hn,Result.andThen_ok]
 cases base<;>simp
theorem px {T2:TypeId} {ti2:j4} (ht2:kB P T2 ti2=true) (h:qZ ti2=true):∃d2,P.underlying T2=some d2∧∀k,d2≠.int k:=by
 cases ti2<;>simp only [qZ,Bool.false_eq_true] at h
 case string=>exact ⟨_,iP ht2,fun k=>by simp⟩
 case slice E esz eb=>exact ⟨_,(eN ht2).1,fun k=>by simp⟩
theorem y0 {E esz c:Nat} {xs:List (List SV)} {cs r:List Value} {w':World} (hc:Cells X w esz xs cs) (hr:r.length=(c - xs.length)*esz) (hle:xs.length≤c)
  (hX:∀b,X b→w'.heap[b]?=w.heap[b]?) (hb:w'.heap[w.heap.size]?=some (.cells (cs ++ r).toArray E (0,0))):aI.ok X w' (.row (.at w.heap.size c) E esz xs):=by
 refine ⟨_,hb,?_,hle,hc.each,fun k j x s hx hs=>?_⟩
 ·simp only [List.size_toArray,List.length_append,hc.len,hr,←add_mul]
  congr 1;omega
 ·have hd:=(hc.den k j x s hx hs).mono (X':=X) (w':=w') (fun _ h=>h) hX;have hk:k < xs.length:=by
   rcases lt_or_ge k xs.length with h'|h'
   ·exact h'
   ·rw [List.getElem?_eq_none h'] at hx;cases hx
  have hj:j < esz:=by
   have:=hc.each _ _ hx;rcases lt_or_ge j x.length with h'|h'
   ·omega
   ·rw [List.getElem?_eq_none h'] at hs;cases hs
  have:=kE hk hj;simp only [Array.getD_eq_getD_getElem?,List.getElem?_toArray];rw [List.getElem?_append_left (by rw [hc.len];exact this)];simpa [List.getD_eq_getElem?_getD] using hd
theorem AJ {kp:Bool} {ti2:j4} {T2:TypeId} {ty:TypeId} (ht:kB P T ti=true) (ht2:kB P T2 ti2=true) (hs:Sat X w B) {s sx:SV} {v x:Value} (hd:Den X w s v) (hx:Den X w sx x):
  ∃h',(kg kp ti ti2 h' B s sx).vc→∃u w',(Builtin.append_ #[T,T2] ty #[v,x]).run P w= .ok u w'∧Sat X w' (kg kp ti ti2 h' B s sx).B∧
   Den X w' (kg kp ti ti2 h' B s sx).v u∧Ext X w B X w' (kg kp ti ti2 h' B s sx).B:=by
 by_cases hti:∃E esz eb,ti= .slice E esz eb
 case neg=>
  refine ⟨.void none,fun hc=>?_⟩;exfalso
  cases ti<;>simp [kg,bF] at hc hti
 obtain ⟨E,esz,eb,rfl⟩:=hti;simp only [kg];have hsrc:=fun he hcc=>lg (P:=P) (esz:=esz) he hs hx hcc;have hsrcD:=fun he hcc=>lg (P:=P) (esz:=esz) he hs.drew hx.drew hcc;have hsol:=fun hcc hss=>yE (B:=B) (esz:=esz) (s:=sx) hcc hss;generalize dm esz B sx=yc at *;obtain ⟨ys,c⟩:=yc;simp only at *;have grow:∀(cap n:Nat) (base:Option Addr) (olds:List (List SV)),c∧hG B sx∧0 < esz∧0 < eb∧qZ ti2=true→(n+ys.length)*eb≤140737488355328→cap < n+ys.length→olds.length=n→
   (∃cs:List Value,(Builtin.firstCells esz n (.slice base n cap)).run P w.drew= .ok cs.toArray w.drew∧Cells X w.drew esz olds cs)→
   ∃(cp:Nat) (r:List Value),n+ys.length≤cp∧r.length=(cp - (n+ys.length))*esz∧∃w',(Builtin.append_ #[T,T2] ty #[.slice base n cap,x]).run P w= .ok (.slice (some ⟨w.heap.size,0,none⟩) (n+ys.length) cp) w'∧
    w'.heap.size=w.heap.size+1∧(∀b,b < w.heap.size→w'.heap[b]?=w.heap[b]?)∧w'.os=w.os∧w'.tape=w.tape∧w'.output=w.output∧aI.ok X w' (.row (.at w.heap.size cp) E esz (olds ++ ys)):=by
  intro cap n base olds ⟨hc1,hc2,he,heb,hc3⟩ hsz hg holds ⟨cs,ho1,ho2⟩;obtain ⟨d2,h21,h22⟩:=px ht2 hc3;obtain ⟨hl,_⟩:=hsrc he hc1;obtain ⟨_,hf⟩:=hsrcD he hc1;obtain ⟨ns,hn1,hn2⟩:=hf ys.length (le_refl _);rw [take_length] at hn2;obtain ⟨cp,r,g1,g2,g3⟩:=Cc (ty:=ty) ht h21 h22 hl hg hsz heb ho1 hn1;have hlen:(olds ++ ys).length=n+ys.length:=by simp [holds]
  refine ⟨cp,r,g1,g2,_,g3,by simp,fun b hb=>by rw [heap_alloc _ _ _ (by simpa using hb)];rfl,rfl,rfl,rfl,?_⟩;refine y0 (cs:=cs ++ ns) (r:=r) ((ho2.append hn2).mono (fun _ h=>h) fun _ _=>rfl) (by rw [hlen];exact g2) (by omega) (fun b hb=>?_) ?_
  ·rw [heap_alloc _ _ _ (by simpa using hs.og b hb)];rfl
  ·have:=heap_alloc_new w.drew (.cells (cs ++ ns ++ r).toArray E);simpa using this
 cases hd
 all_goals try (refine ⟨.void none,fun hc=>?_⟩;simp only [cF,bF] at hc;done)
 case gC full e f a cap hf=>
  by_cases hy:ys.length=0
  ·have hy':ys=[]:=List.length_eq_zero_iff.1 hy;subst hy';refine ⟨.void a,fun hc=>?_⟩;simp only [cF] at hc ⊢;obtain ⟨hfull,_,⟨hc1,hc2,he,heb,hc3⟩,hsz⟩:=hc;have hcap:=hf hfull;subst hcap;obtain ⟨d2,h21,h22⟩:=px ht2 hc3;obtain ⟨hl,hff⟩:=hsrc he hc1;obtain ⟨ns,hn1,hn2⟩:=hff 0 (zero_le _);have hns:ns=[]:=by have:=hn2.len;simpa using this
   subst hns;have hrun:=o_ (ty:=ty) (base:=a) (n:=0) (cap:=0) ht h21 h22 hl (by simp) hn1;have hrun':(Builtin.append_ #[T,T2] ty #[.slice a 0 0,x]).run P w= .ok (.slice a 0 0) w:=by
    rw [hrun];cases a<;>simp [storeCells]
   refine ⟨_,w,hrun',?_,?_,?_⟩
   ·exact hs.push (le_refl _) (fun _ _=>rfl) (by simp [aI.blocks]) (by simp [aI.ok])
   ·exact .dh ..
   ·exact Ext.push rfl rfl rfl (le_refl _) (fun _ _=>rfl) (by simp [aI.blocks])
  ·by_cases hvc:full=true∧(c∧hG B sx∧0 < esz∧0 < eb∧qZ ti2=true)∧(0+ys.length)*eb≤140737488355328
   ·obtain ⟨hfull,hcc,hsz⟩:=hvc;have hcap:=hf hfull;subst hcap;obtain ⟨cp,r,g1,g2,w',g3,g4,g5,g6,g7,g8,g9⟩:=grow 0 0 a [] hcc hsz (by omega) rfl ⟨[],by cases a<;>simp [Builtin.firstCells,loadCells,loadCellsFrom],by simp,by simp,by simp⟩;refine ⟨.at w.heap.size cp,fun _=>⟨_,w',g3,?_,?_,?_⟩⟩
    ·simp only [cF];exact hs.push (by omega) g5 (by simp [aI.blocks,g4]) (by simpa using g9)
    ·simp only [cF];exact .rowAt _ _ _ _ _ g1
    ·simp only [cF];exact Ext.push g6 g7 g8 (by omega) g5 (by simp [aI.blocks,g4])
   ·refine ⟨.void none,fun hc=>?_⟩;simp only [cF] at hc;exact absurd ⟨hc.1,hc.2.2.1,hc.2.2.2⟩ hvc
 case na full e n f b off cap g hn hcap hf hX hl hw h=>
  by_cases hvc:full=true∧(e=esz∧0 < ys.length)∧(c∧hG B sx∧0 < esz∧0 < eb∧qZ ti2=true)∧(n+ys.length)*eb≤140737488355328
  ·obtain ⟨hfull,⟨rfl,hy⟩,hcc,hsz⟩:=hvc;have hcap':=hf hfull;subst hcap';have hden:Den X w (.sl full e cap f) (.slice (some ⟨b,off,none⟩) cap cap):= .na g hn hcap hf hX hl hw h;obtain ⟨_,hff⟩:=lg (P:=P) (esz:=e) hcc.2.2.1 hs.drew hden.drew (by simp [dm]);obtain ⟨cs,hc1,hc2⟩:=hff cap (by simp [dm]);obtain ⟨cp,r,g1,g2,w',g3,g4,g5,g6,g7,g8,g9⟩:=grow cap cap (some ⟨b,off,none⟩) ((range cap).map f) hcc hsz (by omega) (by simp) ⟨cs,hc1,by
    have:take cap (dm e B (SV.sl full e cap f)).fst=(range cap).map f:=by simp [dm,←List.map_take]
    rwa [this] at hc2⟩
   refine ⟨.at w.heap.size cp,fun _=>⟨_,w',g3,?_,?_,?_⟩⟩
   ·simp only [cF];exact hs.push (by omega) g5 (by simp [aI.blocks,g4]) g9
   ·simp only [cF];exact .rowAt _ _ _ _ _ g1
   ·simp only [cF];exact Ext.push g6 g7 g8 (by omega) g5 (by simp [aI.blocks,g4])
  ·refine ⟨.void none,fun hc=>?_⟩;simp only [cF] at hc;exact absurd ⟨hc.1,hc.2.1.resolve_left (by omega),hc.2.2.1,hc.2.2.2⟩ hvc
 case dh i a e lo=>
  cases lo with
  |succ lo=>exact ⟨.void none,fun hc=>by simp [cF,bF] at hc⟩
  |zero=>
  cases hg:au B i with
  |gone=>exact ⟨.void none,fun hc=>by simp [cF,hg,bF] at hc⟩
  |row h2 E2 e2 xs=>
   have hi:=fp hg;by_cases hvc:h2= .void a∧e2=e∧e=esz∧E2=E∧0≤xs.length∧(c∧hG B sx∧0 < esz∧0 < eb∧qZ ti2=true)∧(0+ys.length)*eb≤140737488355328
   case neg=>
    refine ⟨.void none,fun hc=>?_⟩;simp only [cF,hg] at hc;exact absurd hc hvc
   obtain ⟨rfl,rfl,rfl,rfl,_,hcc,hsz⟩:=hvc;have hxs:=hs.dh hg;subst hxs;by_cases hy:ys.length=0
   ·have hy':ys=[]:=List.length_eq_zero_iff.1 hy;subst hy';obtain ⟨hc1,hc2,he,heb,hc3⟩:=hcc;obtain ⟨d2,h21,h22⟩:=px ht2 hc3;obtain ⟨hl,hff⟩:=hsrc he hc1;obtain ⟨ns,hn1,hn2⟩:=hff 0 (zero_le _);have hns:ns=[]:=by have:=hn2.len;simpa using this
    subst hns;have hrun:=o_ (ty:=ty) (base:=a) (n:=0) (cap:=0) ht h21 h22 hl (by simp) hn1;have hrun':(Builtin.append_ #[T,T2] ty #[.slice a 0 0,x]).run P w= .ok (.slice a 0 0) w:=by
     rw [hrun];cases a<;>simp [storeCells]
    refine ⟨.void a,fun _=>⟨_,w,hrun',?_,?_,?_⟩⟩
    ·simp only [cF,hg];exact hs.replace hi (le_refl _) (fun _ _ _=>rfl) (by simp [aI.blocks]) (by cases kp<;>simp [aI.ok,p9])
    ·simp only [cF,hg];exact .dh ..
    ·simp only [cF,hg];exact Ext.replace hi rfl rfl rfl (le_refl _) (fun _ _ _=>rfl) (by simp [aI.blocks])
   ·obtain ⟨cp,r,g1,g2,w',g3,g4,g5,g6,g7,g8,g9⟩:=grow 0 0 a [] hcc hsz (by omega) rfl ⟨[],by cases a<;>simp [Builtin.firstCells,loadCells,loadCellsFrom],by simp,by simp,by simp⟩;refine ⟨.at w.heap.size cp,fun _=>⟨_,w',g3,?_,?_,?_⟩⟩
    ·simp only [cF,hg];exact hs.replace hi (by omega) (fun c hc _=>g5 c hc) (by simp [aI.blocks,g4]) (by cases kp<;>simpa [p9] using g9)
    ·simp only [cF,hg];exact .rowAt _ _ _ _ _ g1
    ·simp only [cF,hg];exact Ext.replace hi g6 g7 g8 (by omega) (fun c hc _=>g5 c hc) (by simp [aI.blocks,g4])
 case rowAt i b cap e n hncap=>
  cases hg:au B i with
  |gone=>exact ⟨.void none,fun hc=>by simp [cF,hg,bF] at hc⟩
  |row h2 E2 e2 xs=>
   have hi:=fp hg;by_cases hvc:h2= .at b cap∧e2=e∧e=esz∧E2=E∧n≤xs.length∧(c∧hG B sx∧0 < esz∧0 < eb∧qZ ti2=true)∧(n+ys.length)*eb≤140737488355328
   case neg=>
    refine ⟨.void none,fun hc=>?_⟩;simp only [cF,hg] at hc;exact absurd hc hvc
   obtain ⟨rfl,rfl,rfl,rfl,hnx,hcc,hsz⟩:=hvc;have hden:Den X w (.row i (.at b cap) e2 0 n) (.slice (some ⟨b,0,none⟩) n cap):= .rowAt i b cap e2 n hncap;have hsc:(dm e2 B (.row i (.at b cap) e2 0 n)).2:=by simp [dm,hg,hnx]
   by_cases hroom:n+ys.length≤cap
   ·obtain ⟨hc1,hc2,he,heb,hc3⟩:=hcc;obtain ⟨d2,h21,h22⟩:=px ht2 hc3;obtain ⟨hl,hff⟩:=hsrc he hc1;obtain ⟨ns,hn1,hn2⟩:=hff ys.length (le_refl _);rw [take_length] at hn2;have hones:=zq he hn2 (hsol hc1 hc2);obtain ⟨vs,a1,a2,a3,a4⟩:=lh hs hg;have hrun:=o_ (ty:=ty) (base:=some ⟨b,0,none⟩) (n:=n) (cap:=cap) ht h21 h22 hl hroom hn1;have hbound:n*e2+ys.length*e2≤vs.size:=by rw [a2,←add_mul];exact mul_le_mul_right _ hroom
    let new:=(vs.toList.take (n*e2) ++ ns ++ vs.toList.drop (n*e2+ns.length)).toArray
    have hst:(storeCells ⟨b,n*e2,none⟩ ns).run P w= .ok () (w.setRow b new):=by
     have:=run_storeCells_at (P:=P) b (n*e2) E2 ns 0 vs w a1 (by rw [hn2.len];omega) hones;simpa [new] using this
    have hrun':(Builtin.append_ #[T,T2] ty #[.slice (some ⟨b,0,none⟩) n cap,x]).run P w= .ok (.slice (some ⟨b,0,none⟩) (n+ys.length) cap) (w.setRow b new):=by
     rw [hrun];simp only [eJ,zero_add,hst,Result.andThen_ok]
    have hblk:∀c,c < w.heap.size→c ∉ (au B i).blocks→(w.setRow b new).heap[c]?=w.heap[c]?:=fun c _ hcn=>by
     rw [gf w b new vs E2 a1,if_neg];rw [hg] at hcn;simpa [aI.blocks] using hcn
    have hnew:new.size=vs.size:=by simp [new,hn2.len];omega
    refine ⟨.at b cap,fun _=>⟨_,_,hrun',?_,?_,?_⟩⟩
    ·simp only [cF,hg];refine hs.replace hi (by simp) hblk (fun c hc=> .inl (by rw [hg];simpa [aI.blocks] using hc)) ?_;have hcl:∃tl,Cells X (w.setRow b new) e2 (xs.take n ++ ys ++ p9 kp xs (n+ys.length)) (vs.toList.take (n*e2) ++ ns ++ tl)∧∀k,k < tl.length→tl[k]?=(vs.toList.drop (n*e2+ns.length))[k]?:=by
      have h1:=a4.take n;have e1:min (n*e2) (xs.length*e2)=n*e2:=min_eq_left (mul_le_mul_right _ hnx);rw [take_take,e1] at h1
      cases kp with
      |false=>exact ⟨[],by simpa [p9] using (h1.append hn2).mono (fun _ h=>h) fun c hc=>hblk c (hs.og c hc) fun hm=>hs.apart c hc ⟨i,hm⟩,by simp⟩
      |true=>
       have h3:=a4.drop (n+ys.length);refine ⟨_,((h1.append hn2).append h3).mono (fun _ h=>h) fun c hc=>hblk c (hs.og c hc) fun hm=>hs.apart c hc ⟨i,hm⟩,fun k hk=>?_⟩;rw [hn2.len,←add_mul];simp only [length_drop,length_take] at hk;simp only [List.getElem?_drop,List.getElem?_take];rw [if_pos (by omega)]
     obtain ⟨tl,hcl,htl⟩:=hcl;refine ⟨new,by rw [gf w b new vs E2 a1,if_pos rfl],by rw [hnew,a2],by cases kp<;>simp [p9]<;>omega,hcl.each,fun k j x' s hx' hs'=>?_⟩;have hd':=hcl.den k j x' s hx' hs';have hk:k < (xs.take n ++ ys ++ p9 kp xs (n+ys.length)).length:=by
      rcases lt_or_ge k (xs.take n ++ ys ++ p9 kp xs (n+ys.length)).length with h'|h'
      ·exact h'
      ·rw [List.getElem?_eq_none h'] at hx';cases hx'
     have hj:j < e2:=by
      have:=hcl.each _ _ hx';rcases lt_or_ge j x'.length with h'|h'
      ·omega
      ·rw [List.getElem?_eq_none h'] at hs';cases hs'
     have hlt:=kE hk hj;rw [←hcl.len] at hlt;simp only [List.getD_eq_getElem?_getD] at hd';simp only [new,Array.getD_eq_getD_getElem?,List.getElem?_toArray];rcases lt_or_ge (k*e2+j) (vs.toList.take (n*e2) ++ ns).length with h6|h6
     ·rw [List.getElem?_append_left h6] at hd' ⊢;exact hd'
     ·rw [List.getElem?_append_right h6] at hd' ⊢
      rwa [htl _ (by simp only [List.length_append] at hlt h6 ⊢;omega)] at hd'
    ·simp only [cF,hg];exact .rowAt _ _ _ _ _ hroom
    ·simp only [cF,hg];exact Ext.replace hi rfl rfl rfl (by simp) hblk (fun c hc=> .inl (by rw [hg];simpa [aI.blocks] using hc))
   ·obtain ⟨_,hff⟩:=lg (P:=P) (esz:=e2) hcc.2.2.1 hs.drew hden.drew hsc;obtain ⟨cs,hc1,hc2⟩:=hff n (by simp [dm,hg];omega);obtain ⟨cp,r,g1,g2,w',g3,g4,g5,g6,g7,g8,g9⟩:=grow cap n (some ⟨b,0,none⟩) (xs.take n) hcc hsz (by omega) (by simp;omega) ⟨cs,hc1,by
     have:take n (dm e2 B (SV.row i (.at b cap) e2 0 n)).fst=xs.take n:=by simp [dm,hg,take_take]
     rwa [this] at hc2⟩
    refine ⟨.at w.heap.size cp,fun _=>⟨_,w',g3,?_,?_,?_⟩⟩
    ·simp only [cF,hg];have e9:p9 kp xs (n+ys.length)=[]:=by
      cases kp
      ·rfl
      ·have:=(lh hs hg).choose_spec.2.2.1;exact List.drop_of_length_le (by omega)
     rw [e9,append_nil];exact hs.replace hi (by omega) (fun c hc _=>g5 c hc) (by simp [aI.blocks,g4]) g9
    ·simp only [cF,hg];exact .rowAt _ _ _ _ _ g1
    ·simp only [cF,hg];exact Ext.replace hi g6 g7 g8 (by omega) (fun c hc _=>g5 c hc) (by simp [aI.blocks,g4])
end
section
variable {P:Program} {T:TypeId} {ti:j4} {X:Nat→Prop} {w:World} {B:List aI}
theorem uK (hs:Sat X w B) {E esz cap:Nat} {xs:List (List SV)} {cs r:List Value} (hc:Cells X w esz xs cs) (hr:r.length=(cap - xs.length)*esz) (hle:xs.length≤cap):
  let w':=w.alloc (.cells (cs ++ r).toArray E)
  Sat X w' (B ++ [.row (.at w.heap.size cap) E esz xs])∧Ext X w B X w' (B ++ [.row (.at w.heap.size cap) E esz xs]):=by
 have h1:∀c,c < w.heap.size→(w.alloc (.cells (cs ++ r).toArray E)).heap[c]?=w.heap[c]?:=fun c hc=>heap_alloc _ _ _ hc;exact ⟨hs.push (by simp) h1 (by simp [aI.blocks]) (y0 hc hr hle (fun b hb=>h1 b (hs.og b hb)) (heap_alloc_new _ _)),
  Ext.push rfl rfl rfl (by simp) h1 (by simp [aI.blocks])⟩
theorem m6 {esz:Nat} {x:List SV} {cs:List Value} (h1:x.length=esz) (h2:cs.length=esz) (h:∀(i:Nat) (c:SV),x[i]?=some c→Den X w c (cs.getD i undef)):Cells X w esz [x] cs:=by
 refine ⟨by simp [h2],fun k y hy=>?_,fun k j y c hy hc=>?_⟩
 ·cases k with
  |zero=>simp at hy;exact hy▸h1
  |succ k=>simp at hy
 ·cases k with
  |zero=>simp at hy;subst hy;simpa using h j c hc
  |succ k=>simp at hy
def De:SV→Value→Bool
 | .int k n,.int k' n'=>k == k' && n == n' && decide (k≠.u64∨0≤n)
 | .bool b,.bool b'=>b == b'
 | .str l,.string s=>s.data.toList == l
 | .sl _ _ 0 _,.slice none 0 0=>true
 | .val (.pointer none),.pointer none=>true
 | .val .nilFunc,.nilFunc=>true
 | .val (.map none),.map none=>true
 | .val .nilIface,.nilIface=>true
 |_,_=>false
theorem Dd {s:SV} {v:Value} (h:De s v=true):Den X w s v:=by
 unfold De at h
 split at h<;>try (cases h;done)
 ·simp only [Bool.and_eq_true,beq_iff_eq,decide_eq_true_eq] at h;obtain ⟨⟨rfl,rfl⟩,h⟩:=h;exact .int _ _ fun e=>h.resolve_left fun g=>g e
 ·simp only [beq_iff_eq] at h;subst h;exact .bool ..
 ·rename_i l s';simp only [beq_iff_eq] at h;subst h;have:Value.string s'= .string ⟨s'.data.toList.toArray⟩:=by simp
  rw [this];exact .str _
 ·exact .gC fun _=>rfl
 ·exact .val _
 ·exact .val _
 ·exact .val _
 ·exact .val _
def o9:List SV→List Value→Bool
 |[],[]=>true
 |s :: r,v :: q=>De s v && o9 r q
 |_,_=>false
theorem iA:∀{ss:List SV} {vs:List Value},o9 ss vs=true→vs.length=ss.length∧∀(i:Nat) (c:SV),ss[i]?=some c→Den X w c (vs.getD i undef)
 |[],[],_=>⟨rfl,by simp⟩
 |s :: r,v :: q,h=>by
  simp only [o9,Bool.and_eq_true] at h;obtain ⟨h1,h2⟩:=iA h.2;refine ⟨by simp [h1],fun i c hc=>?_⟩
  cases i with
  |zero=>simp at hc;subst hc;simpa using Dd h.1
  |succ i=>simpa using h2 i c (by simpa using hc)
def kO (P:Program) (T:Nat) (z:List SV):Bool:=match P.info? T with
 |some i=>(match i.zero with
  |some v=>o9 z v.cells.toList && (p6 P T == match v with| .agg _=>true|_=>false)
  |none=>false)
 |none=>false
theorem lu {z:List SV} (h:kO P T z=true):∃v,(∀w,(zeroValue T).run P w= .ok v w)∧o9 z v.cells.toList=true:=by
 unfold kO at h
 cases hi:P.info? T with
 |none=>simp [hi] at h
 |some i=>
  simp only [hi] at h
  cases hz:i.zero with
  |none=>simp [hz] at h
  |some v=>
   simp only [hz,Bool.and_eq_true] at h;exact ⟨v,fun w=>by simp [zeroValue,typeInfo,hi,hz],h.1⟩
theorem Cd (hs:Sat X w B) {z:List SV} (hz:kO P T z=true):∃h' u w',(Instr.alloc T true (.tuple #[])).run P w= .ok u w'∧
  Sat X w' (B ++ [.row h' T z.length [z]])∧Den X w' (.bx B.length h' z.length 0 0) u∧Ext X w B X w' (B ++ [.row h' T z.length [z]]):=by
 obtain ⟨v,h1,h2⟩:=lu hz;obtain ⟨h3,h4⟩:=iA (X:=X) (w:=w) h2;have hc:Cells X w z.length [z] v.cells.toList:=m6 rfl h3 h4;obtain ⟨h5,h6⟩:=uK hs (E:=T) (cap:=1) (r:=[]) hc (by simp) (by simp);refine ⟨.at w.heap.size 1,.pointer (some ⟨w.heap.size,0*z.length+0,none⟩),_,?_,h5,.bx ..,h6⟩;simp [Instr.alloc,h1,newVar,newRow]
theorem FC (hs:Sat X w B) {s:SV} {v:Value} (hd:Den X w s v) (hc:bt s.cells=true):∃h' u w',(Instr.box T v).run P w= .ok u w'∧
  Sat X w' (B ++ [.row h' T s.cells.length [s.cells]])∧Den X w' (.bx B.length h' s.cells.length 0 0) u∧Ext X w B X w' (B ++ [.row h' T s.cells.length [s.cells]]):=by
 obtain ⟨h1,h2,h3⟩:=pN hd hc;have hcl:Cells X w s.cells.length [s.cells] v.cells.toList:=m6 rfl (by simpa using h1) (by simpa using h2);obtain ⟨h5,h6⟩:=uK hs (E:=T) (cap:=1) (r:=[]) hcl (by simp) (by simp);refine ⟨.at w.heap.size 1,.pointer (some ⟨w.heap.size,0*s.cells.length+0,none⟩),_,?_,h5,.bx ..,h6⟩;simp [Instr.box,newVar,newRow]
theorem kL {esz n:Nat} {x:List SV} {v:List Value} (h:Cells X w esz [x] v):Cells X w esz (replicate n x) (replicate n v).flatten:=by
 induction n with
 |zero=>exact ⟨by simp,by simp,by simp⟩
 |succ n ih=>
  have:=h.append ih;simpa [List.replicate_succ] using this
theorem yK {z:Array Value} {esz:Nat} (hz:z.size=esz) (n:Nat):((Array.range (n*esz)).map fun i=>z[i%z.size]!)=((replicate n z.toList).flatten).toArray:=by
 apply Array.ext';simp only [Array.toList_map,Array.toList_range]
 induction n with
 |zero=>simp
 |succ n ih=>
  rw [succ_mul,List.range_add,List.map_append,ih,List.replicate_succ',List.flatten_append]
  congr 1
  simp only [flatten_cons,flatten_nil,append_nil];apply List.ext_getElem
  ·simp [hz]
  ·intro i h1 h2;simp at h1 h2;have e:(n*esz+i)%z.size=i:=by rw [hz,mul_comm,Nat.mul_add_mod,Nat.mod_eq_of_lt (by omega)]
   simp [e,getElem!_pos,h2]
theorem tZ {zr:Nat→List SV} (ht:kB P T ti=true) (hz:∀E esz eb,ti= .slice E esz eb→kO P E (zr E)=true) (hs:Sat X w B) {sl sc:SV} {vl vc:Value} (hl:Den X w sl vl) (hcp:Den X w sc vc):
  ∃h',(ep ti zr h' B sl sc).vc→∃u w',(Instr.makeSlice T vl vc).run P w= .ok u w'∧Sat X w' (ep ti zr h' B sl sc).B∧
   Den X w' (ep ti zr h' B sl sc).v u∧Ext X w B X w' (ep ti zr h' B sl sc).B:=by
 by_cases hti:∃E esz eb,ti= .slice E esz eb
 case neg=>
  refine ⟨.void none,fun hc=>?_⟩;exfalso
  cases ti<;>simp [ep,bF] at hc hti
 obtain ⟨E,esz,eb,rfl⟩:=hti
 cases hl
 all_goals try (refine ⟨.void none,fun hc=>?_⟩;simp only [ep,bF] at hc;done)
 cases hcp
 all_goals try (refine ⟨.void none,fun hc=>?_⟩;simp only [ep,bF] at hc;done)
 case int.int kl l _ kc c _=>
  refine ⟨.at w.heap.size c.toNat,fun hc=>?_⟩;simp only [ep] at hc ⊢;obtain ⟨h0,h1,h2,he,heb,hzl⟩:=hc;obtain ⟨hu,i,z,hi,h3,h4,h5,h6⟩:=eN ht;obtain ⟨z',hz1,hz2⟩:=lu (hz E esz eb rfl);have hzz:z'=z:=by
   have:=hz1 w;simp [zeroValue,typeInfo,hi,h5] at this;exact this.symm
  subst hzz;obtain ⟨h7,h8⟩:=iA (X:=X) (w:=w) hz2;have hcl:Cells X w esz [zr E] z'.cells.toList:=m6 hzl (by rw [h7,hzl]) h8;have hcl2:=kL (n:=l.toNat) hcl;have hr:((replicate (c.toNat - l.toNat) z'.cells.toList).flatten).length=(c.toNat - l.toNat)*esz:=by
   simp [h6]
  obtain ⟨a1,a2⟩:=uK hs (E:=E) (cap:=c.toNat) (r:=(replicate (c.toNat - l.toNat) z'.cells.toList).flatten) hcl2 (by simpa using hr) (by simp;omega);have hbound:c≤c*eb:=by
   have:(1:Int)≤eb:=by omega
   calc c=c*1:=by omega
    _≤c*eb:=Int.mul_le_mul_of_nonneg_left this (by omega)
  have wl:IntKind.i64.wrap l=l:=IntWalk.i64_in _ (by omega);have wc:IntKind.i64.wrap c=c:=IntWalk.i64_in _ (by omega);have hb2:¬((i.bytes:Int)*c > 2 ^ 48):=by rw [h4,Int.mul_comm];omega
  refine ⟨_,_,?_,a1,.rowAt B.length w.heap.size c.toNat esz l.toNat (by omega),a2⟩;simp only [Instr.makeSlice,Sem.run_bind,run_underlying hu,Result.andThen_ok,asInt,asIntOf,Sem.run_pure,typeInfo,run_program,hi,wl,wc];rw [Sem.run_ite,if_neg (by simp;omega)];simp only [Sem.run_bind,run_askRoom,Result.andThen_ok,sizeOf,typeInfo,run_program,hi,Sem.run_pure,h3];by_cases hn:c.toNat*esz=0
  ·have hc0:c.toNat=0:=by
    rcases Nat.mul_eq_zero.1 hn with h|h<;>omega
   have hl0:l.toNat=0:=by omega
   simp only [hc0,hl0,Nat.zero_mul,if_true,Sem.run_pure,Result.andThen_ok,newRow,Sem.run_bind,run_newObj,Nat.sub_zero,List.replicate_zero,flatten_nil,append_nil];have e0:(Array.map (fun x=>(#[]:Array Value)[x%(#[]:Array Value).size]!) (Array.range 0))=([]:List Value).toArray:=by apply Array.ext';simp
   rw [e0];rfl
  ·simp only [if_neg hn,Sem.run_bind,hz1,Result.andThen_ok,Sem.run_pure,newRow,run_newObj];rw [yK h6];have e:c.toNat=l.toNat+(c.toNat - l.toNat):=by omega
   have e2:(replicate c.toNat z'.cells.toList).flatten=(replicate l.toNat z'.cells.toList).flatten ++ (replicate (c.toNat - l.toNat) z'.cells.toList).flatten:=by
    rw [←List.flatten_append,List.replicate_append_replicate,←e]
   rw [e2];rfl
theorem sI (o:Nat):∀(vs:List Value) (s:Nat) (cs:Array Value),o+s+vs.length≤cs.size→
  ((vs.zipIdx s).foldl (fun cs (c,j)=>cs.setIfInBounds (o+j) c) cs).size=cs.size∧
  ∀k,((vs.zipIdx s).foldl (fun cs (c,j)=>cs.setIfInBounds (o+j) c) cs).getD k undef=if o+s≤k∧k < o+s+vs.length then vs.getD (k - (o+s)) undef else cs.getD k undef
 |[],s,cs,_=>⟨rfl,fun k=>by simp only [List.zipIdx_nil,List.foldl_nil,length_nil];rw [if_neg (by omega)]⟩
 |v :: vs,s,cs,h=>by
  simp only [length_cons] at h;obtain ⟨h1,h2⟩:=sI o vs (s+1) (cs.setIfInBounds (o+s) v) (by simp;omega);simp only [List.zipIdx_cons,List.foldl_cons];refine ⟨by simpa using h1,fun k=>?_⟩;rw [h2 k];simp only [length_cons];by_cases e:k=o+s
  ·subst e;rw [if_neg (by omega),if_pos (by omega)];simp [show o+s < cs.size by omega]
  ·by_cases e2:o+(s+1)≤k∧k < o+(s+1)+vs.length
   ·rw [if_pos e2,if_pos (by omega)];have:k - (o+s)=(k - (o+(s+1)))+1:=by omega
    rw [this];simp
   ·rw [if_neg e2,if_neg (by omega)];have:¬o+s=k:=fun h=>e h.symm;simp [Array.getD_eq_getD_getElem?,this]
theorem vG {esz:Nat}:∀(ps:List (Nat×SV)) (vs:List (Nat×Value)) (xs:List (List SV)) (cs:Array Value),vs.length=ps.length→
  (∀(i:Nat) (p:Nat×SV) (q:Nat×Value),ps[i]?=some p→vs[i]?=some q→p.1=q.1∧Den X w p.2 q.2)→DP xs.length esz ps→Cells X w esz xs cs.toList→
  ∃cs',Instr.fill (fun i=>some (i*esz,esz)) cs vs=some cs'∧Cells X w esz (vH xs ps) cs'.toList
 |[],[],xs,cs,_,_,_,h=>⟨cs,rfl,h⟩
 |[],_ :: _,_,_,h,_,_,_=>by simp at h
 |_ :: _,[],_,_,h,_,_,_=>by simp at h
 |(i,x) :: ps,(j,v) :: vs,xs,cs,hl,hd,hc,h=>by
  obtain ⟨hij,hd0⟩:=hd 0 (i,x) (j,v) rfl rfl;have hij:i=j:=hij;subst hij;have hd0:Den X w x v:=hd0;obtain ⟨hi,hxl,hsol,hc'⟩:=hc;have hi:i < xs.length:=hi;obtain ⟨c1,c2,c3⟩:=pN hd0 hsol;have hlen:v.cells.size=esz:=by omega
  have hb:i*esz+esz≤cs.size:=by
   have:=h.len;have h2:(i+1)*esz≤xs.length*esz:=mul_le_mul_right _ hi;rw [succ_mul] at h2;simp at this;omega
  let cs2:=v.cells.zipIdx.foldl (fun cs (c,j)=>cs.setIfInBounds (i*esz+j) c) cs
  have hcs2:cs2=(v.cells.toList.zipIdx 0).foldl (fun cs (c,j)=>cs.setIfInBounds (i*esz+j) c) cs:=by
   simp only [cs2];rw [←Array.foldl_toList,Array.toList_zipIdx]
  obtain ⟨hsz2,hget0⟩:=sI (i*esz) v.cells.toList 0 cs (by simp;omega);rw [←hcs2] at hsz2 hget0;have hget:∀k,cs2.getD k undef=if i*esz≤k∧k < i*esz+esz then v.cells.getD (k - i*esz) undef else cs.getD k undef:=fun k=>by
   rw [hget0 k];simp [hlen]
  have hcl:Cells X w esz (xs.set i x.cells) cs2.toList:=by
   refine ⟨by simpa [hsz2] using h.len,fun k y hy=>?_,fun k j y c hy hcc=>?_⟩
   ·rw [List.getElem?_set] at hy;by_cases e:i=k
    ·subst e;simp only [hi,if_true,Option.some.injEq] at hy;subst hy;exact hxl
    ·simp only [e,if_false] at hy;exact h.each _ _ hy
   ·have hg:=hget (k*esz+j);have e1:cs2.toList.getD (k*esz+j) undef=cs2.getD (k*esz+j) undef:=by simp
    rw [e1,hg];rw [List.getElem?_set] at hy;by_cases e:i=k
    ·subst e;simp only [hi,if_true,Option.some.injEq] at hy;subst hy;have hj:j < esz:=by
      rcases lt_or_ge j x.cells.length with h'|h'
      ·omega
      ·rw [List.getElem?_eq_none h'] at hcc;cases hcc
     rw [if_pos (by omega)];have:=c2 j c hcc;have e3:i*esz+j - i*esz=j:=by omega
     rw [e3];exact this
    ·simp only [e,if_false] at hy;have hj:j < esz:=by
      have:=h.each _ _ hy;rcases lt_or_ge j y.length with h'|h'
      ·omega
      ·rw [List.getElem?_eq_none h'] at hcc;cases hcc
     have hne:¬(i*esz≤k*esz+j∧k*esz+j < i*esz+esz):=by
      intro ⟨a1,a2⟩;rcases Nat.lt_or_gt_of_ne e with h'|h'
      ·have:(i+1)*esz≤k*esz:=mul_le_mul_right _ h';rw [succ_mul] at this;omega
      ·have:(k+1)*esz≤i*esz:=mul_le_mul_right _ h';rw [succ_mul] at this;omega
     rw [if_neg hne];have:=h.den k j y c hy hcc;simpa using this
  obtain ⟨cs',h1,h2⟩:=vG ps vs (xs.set i x.cells) cs2 (by simpa using hl) (fun k p q hp hq=>hd (k+1) p q (by simpa using hp) (by simpa using hq)) (by simpa using hc') hcl;refine ⟨cs',?_,h2⟩;simp only [Instr.fill];rw [if_neg (by simp [hlen];omega)];exact h1
end
section
variable {P:Program} {T:TypeId} {ti:j4} {X:Nat→Prop} {w:World} {B:List aI}
theorem tc {zr:Nat→List SV} (ht:kB P T ti=true) (hz:∀E esz eb,ti= .slice E esz eb→kO P E (zr E)=true) (hs:Sat X w B) {len:Nat} {ps:List (Nat×SV)} {vs:Array (Nat×Value)}
  (hl:vs.size=ps.length) (hd:∀(i:Nat) (p:Nat×SV) (q:Nat×Value),ps[i]?=some p→vs[i]?=some q→p.1=q.1∧Den X w p.2 q.2):
  ∃h',(eC ti zr h' B len ps).vc→∃u w',(Instr.buildSlice T len vs).run P w= .ok u w'∧Sat X w' (eC ti zr h' B len ps).B∧
   Den X w' (eC ti zr h' B len ps).v u∧Ext X w B X w' (eC ti zr h' B len ps).B:=by
 by_cases hti:∃E esz eb,ti= .slice E esz eb
 case neg=>
  refine ⟨.void none,fun hc=>?_⟩;exfalso
  cases ti<;>simp [eC,bF] at hc hti
 obtain ⟨E,esz,eb,rfl⟩:=hti;refine ⟨.at w.heap.size len,fun hc=>?_⟩;simp only [eC] at hc ⊢;obtain ⟨hf,he,hzl,hlim⟩:=hc;obtain ⟨hu,i,z,hi,h3,h4,h5,h6⟩:=eN ht;obtain ⟨z',hz1,hz2⟩:=lu (hz E esz eb rfl);have hzz:z'=z:=by
  have:=hz1 w;simp [zeroValue,typeInfo,hi,h5] at this;exact this.symm
 subst hzz;obtain ⟨h7,h8⟩:=iA (X:=X) (w:=w) hz2;have hcl:Cells X w esz [zr E] z'.cells.toList:=m6 hzl (by rw [h7,hzl]) h8;have hcl2:=kL (n:=len) hcl;obtain ⟨cs',f1,f2⟩:=vG ps vs.toList (replicate len (zr E)) ((replicate len z'.cells.toList).flatten).toArray (by simpa using hl)
  (fun i p q hp hq=>hd i p q hp (by simpa using hq)) (by simpa using hf) (by simpa using hcl2)
 have hlen':(vH (replicate len (zr E)) ps).length=len:=by
  have:∀(ps:List (Nat×SV)) (xs:List (List SV)),(vH xs ps).length=xs.length:=by
   intro ps
   induction ps with
   |nil=>intro xs;rfl
   |cons p ps ih=>intro xs;obtain ⟨a,b⟩:=p;simp [vH,ih]
  rw [this];simp
 obtain ⟨a1,a2⟩:=uK hs (E:=E) (cap:=len) (r:=[]) f2 (by simp [hlen']) (by omega);simp only [append_nil,Array.toArray_toList] at a1 a2;refine ⟨_,_,?_,a1,.rowAt B.length w.heap.size len esz len (le_refl _),a2⟩;simp only [Instr.buildSlice,Sem.run_bind,run_underlying hu,Result.andThen_ok,sizeOf,typeInfo,run_program,hi,Sem.run_pure,h3,Sem.run_ite];rw [if_neg (by omega)];by_cases h0:len*esz=0
 ·have:len=0:=by rcases Nat.mul_eq_zero.1 h0 with h|h<;>omega
  subst this;have e0:(Array.map (fun x=>(#[]:Array Value)[x%(#[]:Array Value).size]!) (Array.range 0))=([]:List Value).toArray:=by apply Array.ext';simp
  simp only [Nat.zero_mul,if_true];rw [e0];simp only [List.replicate_zero,flatten_nil] at f1;simp [f1,newRow]
 ·simp only [if_neg h0,hz1,Result.andThen_ok];rw [yK h6 len,f1];simp [newRow]
theorem Bc (cs:List SV) {vs:Array Value} (hs:vs.size=cs.length) (h:∀(i:Nat) (c:SV),cs[i]?=some c→Den X w c (vs.getD i undef)) {o:Nat} {s:SV} {v:Value} (hd:Den X w s v)
  (hsol:bt s.cells=true) (ho:o+s.cells.length≤cs.length):
  let vs':=v.cells.zipIdx.foldl (fun cs (c,j)=>cs.setIfInBounds (o+j) c) vs
  vs'.size=(aJ cs o s.cells).length∧v.cells.size=s.cells.length∧∀(i:Nat) (c:SV),(aJ cs o s.cells)[i]?=some c→Den X w c (vs'.getD i undef):=by
 obtain ⟨c1,c2,c3⟩:=pN hd hsol;have he:v.cells.zipIdx.foldl (fun cs (c,j)=>cs.setIfInBounds (o+j) c) vs=(v.cells.toList.zipIdx 0).foldl (fun cs (c,j)=>cs.setIfInBounds (o+j) c) vs:=by
  rw [←Array.foldl_toList,Array.toList_zipIdx]
 obtain ⟨f1,f2⟩:=sI o v.cells.toList 0 vs (by simp;omega);simp only [he];refine ⟨by rw [f1,cd,hs],c1,fun i c hc=>?_⟩;rw [f2 i];rcases u7 s.cells cs o i c ho hc with ⟨a1,a2,a3⟩|⟨a1,a2⟩
 ·rw [if_pos (by simp;omega)];have:=c2 _ _ a3;simpa using this
 ·rw [if_neg (by simp;omega)];exact h _ _ a2
theorem tD {fs:List (Nat×Bool×Nat)} {n:Nat} {pl:Nat→Option (Nat×Nat)} (hp:∀(j o:Nat) (a:Bool) (m:Nat),fs[j]?=some (o,a,m)→pl j=some (o,m)):
  ∀(ps:List (Nat×SV)) (vs:List (Nat×Value)) (cs:List SV) (cv:Array Value),vs.length=ps.length→
  (∀(i:Nat) (p:Nat×SV) (q:Nat×Value),ps[i]?=some p→vs[i]?=some q→p.1=q.1∧Den X w p.2 q.2)→(kM (.struct fs n) cs ps).2→
  cv.size=cs.length→(∀(i:Nat) (c:SV),cs[i]?=some c→Den X w c (cv.getD i undef))→
  ∃cv',Instr.fill pl cv vs=some cv'∧cv'.size=(kM (.struct fs n) cs ps).1.length∧∀(i:Nat) (c:SV),(kM (.struct fs n) cs ps).1[i]?=some c→Den X w c (cv'.getD i undef)
 |[],[],cs,cv,_,_,_,hs,h=>⟨cv,rfl,hs,h⟩
 |[],_ :: _,_,_,h,_,_,_,_=>by simp at h
 |_ :: _,[],_,_,h,_,_,_,_=>by simp at h
 |(i,x) :: ps,(j,v) :: vs,cs,cv,hl,hd,hc,hs,h=>by
  obtain ⟨hij,hd0⟩:=hd 0 (i,x) (j,v) rfl rfl;have hij:i=j:=hij;subst hij;have hd0:Den X w x v:=hd0;simp only [kM] at hc ⊢
  cases hf:fs[i]? with
  |none=>simp [hf] at hc
  |some oam=>
   obtain ⟨o,a,m⟩:=oam;simp only [hf] at hc ⊢;obtain ⟨hxl,hb,hsol,hc'⟩:=hc;obtain ⟨g1,g2,g3⟩:=Bc cs hs h hd0 hsol (o:=o) (by omega);obtain ⟨cv',r1,r2,r3⟩:=tD hp ps vs (aJ cs o x.cells) _ (by simpa using hl) (fun k p q hp hq=>hd (k+1) p q (by simpa using hp) (by simpa using hq)) hc' g1 g3;refine ⟨cv',?_,r2,r3⟩;simp only [Instr.fill,hp i o a m hf];rw [if_neg (by simp [g2,hxl];omega)];exact r1
theorem tE {len:Nat} {ag:Bool} {e:Nat}:
  ∀(ps:List (Nat×SV)) (vs:List (Nat×Value)) (cs:List SV) (cv:Array Value),vs.length=ps.length→
  (∀(i:Nat) (p:Nat×SV) (q:Nat×Value),ps[i]?=some p→vs[i]?=some q→p.1=q.1∧Den X w p.2 q.2)→(kM (.array len ag e) cs ps).2→
  cv.size=cs.length→(∀(i:Nat) (c:SV),cs[i]?=some c→Den X w c (cv.getD i undef))→
  ∃cv',Instr.fill (fun i=>some (i*e,e)) cv vs=some cv'∧cv'.size=(kM (.array len ag e) cs ps).1.length∧∀(i:Nat) (c:SV),(kM (.array len ag e) cs ps).1[i]?=some c→Den X w c (cv'.getD i undef)
 |[],[],cs,cv,_,_,_,hs,h=>⟨cv,rfl,hs,h⟩
 |[],_ :: _,_,_,h,_,_,_,_=>by simp at h
 |_ :: _,[],_,_,h,_,_,_,_=>by simp at h
 |(i,x) :: ps,(j,v) :: vs,cs,cv,hl,hd,hc,hs,h=>by
  obtain ⟨hij,hd0⟩:=hd 0 (i,x) (j,v) rfl rfl;have hij:i=j:=hij;subst hij;have hd0:Den X w x v:=hd0;simp only [kM] at hc ⊢;obtain ⟨hi,hxl,hb,hsol,hc'⟩:=hc;obtain ⟨g1,g2,g3⟩:=Bc cs hs h hd0 hsol (o:=i*e) (by omega);obtain ⟨cv',r1,r2,r3⟩:=tE ps vs (aJ cs (i*e) x.cells) _ (by simpa using hl) (fun k p q hp hq=>hd (k+1) p q (by simpa using hp) (by simpa using hq)) hc' g1 g3;refine ⟨cv',?_,r2,r3⟩;simp only [Instr.fill];rw [if_neg (by simp [g2,hxl];omega)];exact r1
theorem yP:∀(F:List Field) (fs:List (Nat×Bool×Nat)),F.length=fs.length→
  (∀(j o:Nat) (a:Bool) (m:Nat),fs[j]?=some (o,a,m)→∃fl:Field,F[j]?=some fl∧fl.offset=o∧jF P fl.type m=true)→
  F.mapM (fun f=>(P.info? f.type).map fun i=>(f.offset,i.size))=some (fs.map fun x=>(x.1,x.2.2))
 |[],[],_,_=>rfl
 |[],_ :: _,h,_=>by simp at h
 |_ :: _,[],h,_=>by simp at h
 |f :: F,(o,a,m) :: fs,hl,h=>by
  obtain ⟨fl,h1,h2,h3⟩:=h 0 o a m rfl;simp at h1;subst h1;have ih:=yP F fs (by simpa using hl) fun j o a m hj=>by simpa using h (j+1) o a m (by simpa using hj)
  unfold jF at h3
  cases hi:P.info? f.type with
  |none=>simp [hi] at h3
  |some i=>
   simp only [hi,beq_iff_eq] at h3;simp only [List.mapM_cons,hi,Option.map_some,Option.bind_eq_bind,Option.bind_some,ih,Option.pure_def,h2,h3,map_cons]
theorem tP {z:List SV} (ht:kB P T ti=true) (hz:kO P T z=true) {ps:List (Nat×SV)} {vs:Array (Nat×Value)} (hl:vs.size=ps.length)
  (hd:∀(i:Nat) (p:Nat×SV) (q:Nat×Value),ps[i]?=some p→vs[i]?=some q→p.1=q.1∧Den X w p.2 q.2) (hc:(pL ti z B ps).vc):
  ∃u,(∀w,(Instr.build T vs).run P w= .ok u w)∧Den X w (pL ti z B ps).v u∧(pL ti z B ps).B=B:=by
 simp only [pL] at hc ⊢;obtain ⟨hc1,hc2,hc3⟩:=hc;have hbad:ti≠.bF:=by intro e;subst e;simp [j4.agg] at hc3
 have hsz:=AV ht hbad;obtain ⟨v,hz1,hz2⟩:=lu hz;obtain ⟨h7,h8⟩:=iA (X:=X) (w:=w) hz2;have hit:∃it,P.info? T=some it∧it.zero=some v:=by
  have:=hz1 w;simp only [zeroValue,typeInfo] at this
  cases hi:P.info? T with
  |none=>simp [hi] at this
  |some it=>
   cases hzz:it.zero with
   |none=>simp [hi,hzz] at this
   |some v'=>simp [hi,hzz] at this;subst this;exact ⟨it,rfl,hzz⟩
 obtain ⟨it,hi,hzz⟩:=hit
 cases ti<;>simp only [j4.agg,Bool.false_eq_true] at hc3
 case struct fs n=>
  obtain ⟨F,hu,hF,hf⟩:=qA ht;have hpl:=yP (P:=P) F.toList fs (by simpa using hF) fun j o a m hj=>by
   obtain ⟨fl,h1,h2,h3,_⟩:=hf j o a m hj;exact ⟨fl,by simpa using h1,h2,h3⟩
  obtain ⟨cv',r1,r2,r3⟩:=tD (n:=n) (fs:=fs) (pl:=((fs.map fun x=>(x.1,x.2.2)).toArray[·]?)) (fun j o a m hj=>by simp [hj]) ps vs.toList z v.cells (by simpa using hl) (fun i p q hp hq=>hd i p q hp (by simpa using hq)) hc1 (by simpa using h7) (by simpa using h8);refine ⟨.agg cv',fun w'=>run_build w' T vs cv' ?_,.agg r2 r3,trivial⟩;simp only [Program.built,hi,hu,hzz,hpl];exact r1
 case array len ag e=>
  obtain ⟨E,hu,hsE,_⟩:=mJ ht;obtain ⟨cv',r1,r2,r3⟩:=tE (len:=len) (ag:=ag) ps vs.toList z v.cells (by simpa using hl) (fun i p q hp hq=>hd i p q hp (by simpa using hq)) hc1 (by simpa using h7) (by simpa using h8);refine ⟨.agg cv',fun w'=>run_build w' T vs cv' ?_,.agg r2 r3,trivial⟩;unfold jF at hsE
  cases hiE:P.info? E with
  |none=>simp [hiE] at hsE
  |some ie=>
   simp only [hiE,beq_iff_eq] at hsE;simp only [Program.built,hi,hu,hzz,hiE,hsE];exact r1
theorem Db {T2 ty:TypeId} (ht:kB P T ti=true) (hs:Sat X w B) {s sx:SV} {v x:Value} (hd:Den X w s v) (hx:Den X w sx x) (hc:(qK ti B s sx).vc):
  ∃u w',(Builtin.copy_ #[T,T2] ty #[v,x]).run P w= .ok u w'∧Sat X w' (qK ti B s sx).B∧Den X w' (qK ti B s sx).v u∧Ext X w B X w' (qK ti B s sx).B:=by
 cases ti<;>simp only [qK,bF] at hc
 case slice E esz eb=>
 obtain ⟨hu,i0,z,hi,h3,h4,h5,h6⟩:=eN ht;have hsize:(sizeOf E).run P w= .ok esz w:=fO (by simp [jF,hi,h3]) w;simp only [qK] at hc ⊢;have hsrc:=fun he hcc=>lg (P:=P) (esz:=esz) he hs hx hcc;have hsol:=fun hcc hss=>yE (B:=B) (esz:=esz) (s:=sx) hcc hss;generalize dm esz B sx=yc at *;obtain ⟨ys,c⟩:=yc;simp only at *;have main:∀(i b cap lo n:Nat) (cp:Nat) (ad:Addr) (E2:TypeId) (xs:List (List SV)),au B i= .row (.at b cap) E2 esz xs→lo+n≤xs.length→c→hG B sx→0 < esz→(0 < n→ad=⟨b,lo*esz,none⟩)→
   ∃u w',(Builtin.copy_ #[T,T2] ty #[.slice (some ad) n cp,x]).run P w= .ok u w'∧Sat X w' (B.set i (.row (.at b cap) E2 esz (xs.take lo ++ ys.take (min n ys.length) ++ xs.drop (lo+min n ys.length))))∧
    Den X w' (.int .i64 (min n ys.length:Nat)) u∧Ext X w B X w' (B.set i (.row (.at b cap) E2 esz (xs.take lo ++ ys.take (min n ys.length) ++ xs.drop (lo+min n ys.length)))):=by
  intro i b cap lo n cp ad E2 xs hg hle hc1 hc2 he hadr;have hi':=fp hg;obtain ⟨hl,hff⟩:=hsrc he hc1;obtain ⟨ns,hn1,hn2⟩:=hff (min n ys.length) (Nat.min_le_right _ _);have hones:=zq he hn2 fun y hy=>hsol hc1 hc2 y (List.mem_of_mem_take hy);obtain ⟨vs,a1,a2,a3,a4⟩:=lh hs hg;obtain ⟨m,hm⟩:∃m,m=min n ys.length:=⟨_,rfl⟩;rw [←hm] at hn1 hn2 ⊢;have hns:ns.length=m*esz:=by rw [hn2.len];simp;rw [hm];congr 1;omega
  have hbound:lo*esz+m*esz≤vs.size:=by rw [a2,←add_mul];exact mul_le_mul_right _ (by omega)
  let new:=(vs.toList.take (lo*esz) ++ ns ++ vs.toList.drop (lo*esz+ns.length)).toArray
  have hnew:new.size=vs.size:=by simp [new,hns];omega
  have hself:m=0→w.setRow b new=w:=by
   intro h0;have:ns=[]:=List.length_eq_zero_iff.1 (by rw [hns,h0];simp);have e:new=vs:=by apply Array.ext';simp [new,this]
   rw [e];exact setRow_self w b vs E2 (0,0) a1
  have hst:(storeCells ad ns).run P w= .ok () (w.setRow b new):=by
   by_cases h0:m=0
   ·have:ns=[]:=List.length_eq_zero_iff.1 (by rw [hns,h0];simp);rw [hself h0,this];simp [storeCells]
   ·rw [hadr (by omega)];have:=run_storeCells_at (P:=P) b (lo*esz) E2 ns 0 vs w a1 (by omega) hones;simpa [new] using this
  have hblk:∀c,c < w.heap.size→c ∉ (au B i).blocks→(w.setRow b new).heap[c]?=w.heap[c]?:=fun c _ hcn=>by
   rw [gf w b new vs E2 a1,if_neg];rw [hg] at hcn;simpa [aI.blocks] using hcn
  have hrun:(Builtin.copy_ #[T,T2] ty #[.slice (some ad) n cp,x]).run P w= .ok (.int .i64 (m:Nat)) (w.setRow b new):=by
   have e1:Nat.min ys.length n=m:=by rw [hm];exact Nat.min_comm _ _
   simp only [Builtin.copy_,List.getElem?_toArray,List.getElem?_cons_zero,List.getElem?_cons_succ,Sem.run_bind,run_underlying hu,Result.andThen_ok,hl,hsize,e1,hn1,hst,Sem.run_pure];rfl
  refine ⟨_,_,hrun,?_,.int _ _ .i64,?_⟩
  ·refine hs.replace hi' (by simp) hblk (fun c hc=> .inl (by rw [hg];simpa [aI.blocks] using hc)) ?_;have hcl:Cells X (w.setRow b new) esz (xs.take lo ++ ys.take m ++ xs.drop (lo+m)) ((vs.toList.take (xs.length*esz)).take (lo*esz) ++ ns ++ (vs.toList.take (xs.length*esz)).drop ((lo+m)*esz)):=by
    exact (((a4.take lo).append hn2).append (a4.drop (lo+m))).mono (fun _ h=>h) fun c hc=>hblk c (hs.og c hc) fun hm=>hs.apart c hc ⟨i,hm⟩
   have hlen2:(xs.take lo ++ ys.take m ++ xs.drop (lo+m)).length=xs.length:=by simp;omega
   refine ⟨new,by rw [gf w b new vs E2 a1,if_pos rfl],by rw [hnew,a2],by omega,hcl.each,fun k j x' s hx' hs'=>?_⟩;have hd':=hcl.den k j x' s hx' hs';have hk:k < xs.length:=by
    rw [←hlen2];rcases lt_or_ge k (xs.take lo ++ ys.take m ++ xs.drop (lo+m)).length with h'|h'
    ·exact h'
    ·rw [List.getElem?_eq_none h'] at hx';cases hx'
   have hj:j < esz:=by
    have:=hcl.each _ _ hx';rcases lt_or_ge j x'.length with h'|h'
    ·omega
    ·rw [List.getElem?_eq_none h'] at hs';cases hs'
   have hlt:=kE hk hj;have hxs:xs.length*esz≤vs.size:=by rw [a2];exact mul_le_mul_right _ a3
   have e2:((vs.toList.take (xs.length*esz)).take (lo*esz) ++ ns ++ (vs.toList.take (xs.length*esz)).drop ((lo+m)*esz)).getD (k*esz+j) undef=new.getD (k*esz+j) undef:=by
    simp only [new,Array.getD_eq_getD_getElem?,List.getElem?_toArray,List.getD_eq_getElem?_getD]
    congr 1
    have hlo:lo*esz≤xs.length*esz:=mul_le_mul_right _ (by omega);have hlm:(lo+m)*esz≤xs.length*esz:=mul_le_mul_right _ (by omega);rw [add_mul] at hlm ⊢;have ht1:(vs.toList.take (xs.length*esz)).take (lo*esz)=vs.toList.take (lo*esz):=by rw [take_take,min_eq_left hlo]
    rw [ht1,hns];have hl1:(take (lo*esz) vs.toList ++ ns).length=lo*esz+m*esz:=by simp [hns];omega
    by_cases hlt2:k*esz+j < lo*esz+m*esz
    ·rw [List.getElem?_append_left (l₁:=take (lo*esz) vs.toList ++ ns) (by omega),List.getElem?_append_left (l₁:=take (lo*esz) vs.toList ++ ns) (by omega)]
    ·rw [List.getElem?_append_right (l₁:=take (lo*esz) vs.toList ++ ns) (by omega),List.getElem?_append_right (l₁:=take (lo*esz) vs.toList ++ ns) (by omega),hl1,List.getElem?_drop,List.getElem?_drop,List.getElem?_take_of_lt (by omega)]
   rw [e2] at hd';exact hd'
  ·exact Ext.replace hi' rfl rfl rfl (by simp) hblk (fun c hc=> .inl (by rw [hg];simpa [aI.blocks] using hc))
 cases hd<;>simp only at hc
 case dh i a e lo=>
  cases hg:au B i with
  |gone=>simp [hg] at hc
  |row h2 E2 e2 xs=>
   simp only [hg] at hc ⊢;obtain ⟨rfl,rfl,rfl,hle,hc1,hc2,he⟩:=hc;have hxs:=hs.dh hg;subst hxs;have hlo:lo=0:=by simpa using hle
   subst hlo;have hi':=fp hg;obtain ⟨hl,hff⟩:=hsrc he hc1;obtain ⟨ns,hn1,hn2⟩:=hff 0 (zero_le _);have hns:ns=[]:=by have:=hn2.len;simpa using this
   subst hns;refine ⟨.int .i64 ((min 0 ys.length:Nat):Int),w,?_,?_,.int _ _ .i64,?_⟩
   ·have e1:Nat.min ys.length 0=0:=Nat.min_zero _;simp only [Builtin.copy_,List.getElem?_toArray,List.getElem?_cons_zero,List.getElem?_cons_succ,Sem.run_bind,run_underlying hu,Result.andThen_ok,hl,hsize,e1,hn1]
    cases a<;>simp [storeCells,goInt]
   ·have:(take 0 ([]:List (List SV)) ++ take (min 0 ys.length) ys ++ drop (0+min 0 ys.length) [])=[]:=by simp
    rw [this];exact hs.replace hi' (le_refl _) (fun _ _ _=>rfl) (by simp [aI.blocks]) (by simp [aI.ok])
   ·exact Ext.replace hi' rfl rfl rfl (le_refl _) (fun _ _ _=>rfl) (by simp [aI.blocks])
 case rowAt i b cap e n hncap=>
  cases hg:au B i with
  |gone=>simp [hg] at hc
  |row h2 E2 e2 xs=>
   simp only [hg] at hc ⊢;obtain ⟨rfl,rfl,rfl,hle,hc1,hc2,he⟩:=hc;exact main i b cap 0 n cap ⟨b,0,none⟩ E2 xs hg hle hc1 hc2 he (fun _=>by simp)
 case kS i b cap e lo n cp hn hnc=>
  cases hg:au B i with
  |gone=>simp [hg] at hc
  |row h2 E2 e2 xs=>
   simp only [hg] at hc ⊢;obtain ⟨rfl,rfl,rfl,hle,hc1,hc2,he⟩:=hc;exact main i b cap (lo+1) n cp _ E2 xs hg hle hc1 hc2 he (fun _=>rfl)
 case hO i b cap e lo cp a=>
  cases hg:au B i with
  |gone=>simp [hg] at hc
  |row h2 E2 e2 xs=>
   simp only [hg] at hc ⊢;obtain ⟨rfl,rfl,rfl,hle,hc1,hc2,he⟩:=hc
   cases a with
   |some ad=>exact main i b cap (lo+1) 0 cp ad E2 xs hg hle hc1 hc2 he (fun h=>by omega)
   |none=>
    have hi':=fp hg;obtain ⟨hl,hff⟩:=hsrc he hc1;obtain ⟨ns,hn1,hn2⟩:=hff 0 (zero_le _);have hns:ns=[]:=by have:=hn2.len;simpa using this
    subst hns;have hsame:(xs.take (lo+1) ++ ys.take (min 0 ys.length) ++ xs.drop (lo+1+min 0 ys.length))=xs:=by simp
    refine ⟨.int .i64 ((min 0 ys.length:Nat):Int),w,?_,?_,.int _ _ .i64,?_⟩
    ·have e1:Nat.min ys.length 0=0:=Nat.min_zero _;simp only [Builtin.copy_,List.getElem?_toArray,List.getElem?_cons_zero,List.getElem?_cons_succ,Sem.run_bind,run_underlying hu,Result.andThen_ok,hl,hsize,e1,hn1];simp [goInt]
    ·rw [hsame,←hg];have:=hs.ok i;exact hs.replace hi' (le_refl _) (fun _ _ _=>rfl) (fun c hc=> .inl hc) this
    ·rw [hsame,←hg];exact Ext.replace hi' rfl rfl rfl (le_refl _) (fun _ _ _=>rfl) (fun c hc=> .inl hc)
theorem H6 (hs:Sat X w B) {i b cap lo esz:Nat} {ad:Addr} {E2:TypeId} {xs ys:List (List SV)} {ns:List Value} (hg:au B i= .row (.at b cap) E2 esz xs) (hle:lo+ys.length≤xs.length) (hn2:Cells X w esz ys ns)
  (hones:∀v∈ns,v.oneCell'=true) (hadr:0 < ys.length→ad=⟨b,lo*esz,none⟩):
  ∃w',(storeCells ad ns).run P w= .ok () w'∧Sat X w' (B.set i (.row (.at b cap) E2 esz (xs.take lo ++ ys ++ xs.drop (lo+ys.length))))∧Ext X w B X w' (B.set i (.row (.at b cap) E2 esz (xs.take lo ++ ys ++ xs.drop (lo+ys.length)))):=by
 have hi':=fp hg;obtain ⟨vs,a1,a2,a3,a4⟩:=lh hs hg;obtain ⟨m,hm⟩:∃m,m=ys.length:=⟨_,rfl⟩;rw [←hm] at hle hadr ⊢;have hns:ns.length=m*esz:=by rw [hn2.len,hm]
 have hbound:lo*esz+m*esz≤vs.size:=by rw [a2,←add_mul];exact mul_le_mul_right _ (by omega)
 let new:=(vs.toList.take (lo*esz) ++ ns ++ vs.toList.drop (lo*esz+ns.length)).toArray
 have hnew:new.size=vs.size:=by simp [new,hns];omega
 have hself:m=0→w.setRow b new=w:=by
  intro h0;have:ns=[]:=List.length_eq_zero_iff.1 (by rw [hns,h0];simp);have e:new=vs:=by apply Array.ext';simp [new,this]
  rw [e];exact setRow_self w b vs E2 (0,0) a1
 have hst:(storeCells ad ns).run P w= .ok () (w.setRow b new):=by
  by_cases h0:m=0
  ·have:ns=[]:=List.length_eq_zero_iff.1 (by rw [hns,h0];simp);rw [hself h0,this];simp [storeCells]
  ·rw [hadr (by omega)];have:=run_storeCells_at (P:=P) b (lo*esz) E2 ns 0 vs w a1 (by omega) hones;simpa [new] using this
 have hblk:∀c,c < w.heap.size→c ∉ (au B i).blocks→(w.setRow b new).heap[c]?=w.heap[c]?:=fun c _ hcn=>by
  rw [gf w b new vs E2 a1,if_neg];rw [hg] at hcn;simpa [aI.blocks] using hcn
 refine ⟨_,hst,?_,?_⟩
 ·refine hs.replace hi' (by simp) hblk (fun c hc=> .inl (by rw [hg];simpa [aI.blocks] using hc)) ?_;have hcl:Cells X (w.setRow b new) esz (xs.take lo ++ ys ++ xs.drop (lo+m)) ((vs.toList.take (xs.length*esz)).take (lo*esz) ++ ns ++ (vs.toList.take (xs.length*esz)).drop ((lo+m)*esz)):=by
   exact (((a4.take lo).append hn2).append (a4.drop (lo+m))).mono (fun _ h=>h) fun c hc=>hblk c (hs.og c hc) fun hm=>hs.apart c hc ⟨i,hm⟩
  have hlen2:(xs.take lo ++ ys ++ xs.drop (lo+m)).length=xs.length:=by simp;omega
  refine ⟨new,by rw [gf w b new vs E2 a1,if_pos rfl],by rw [hnew,a2],by omega,hcl.each,fun k j x' s hx' hs'=>?_⟩;have hd':=hcl.den k j x' s hx' hs';have hk:k < xs.length:=by
   rw [←hlen2];rcases lt_or_ge k (xs.take lo ++ ys ++ xs.drop (lo+m)).length with h'|h'
   ·exact h'
   ·rw [List.getElem?_eq_none h'] at hx';cases hx'
  have hj:j < esz:=by
   have:=hcl.each _ _ hx';rcases lt_or_ge j x'.length with h'|h'
   ·omega
   ·rw [List.getElem?_eq_none h'] at hs';cases hs'
  have hlt:=kE hk hj;have hxs:xs.length*esz≤vs.size:=by rw [a2];exact mul_le_mul_right _ a3
  have e2:((vs.toList.take (xs.length*esz)).take (lo*esz) ++ ns ++ (vs.toList.take (xs.length*esz)).drop ((lo+m)*esz)).getD (k*esz+j) undef=new.getD (k*esz+j) undef:=by
   simp only [new,Array.getD_eq_getD_getElem?,List.getElem?_toArray,List.getD_eq_getElem?_getD]
   congr 1
   have hlo:lo*esz≤xs.length*esz:=mul_le_mul_right _ (by omega);have hlm:(lo+m)*esz≤xs.length*esz:=mul_le_mul_right _ (by omega);rw [add_mul] at hlm ⊢;have ht1:(vs.toList.take (xs.length*esz)).take (lo*esz)=vs.toList.take (lo*esz):=by rw [take_take,min_eq_left hlo]
   rw [ht1,hns];have hl1:(take (lo*esz) vs.toList ++ ns).length=lo*esz+m*esz:=by simp [hns];omega
   by_cases hlt2:k*esz+j < lo*esz+m*esz
   ·rw [List.getElem?_append_left (l₁:=take (lo*esz) vs.toList ++ ns) (by omega),List.getElem?_append_left (l₁:=take (lo*esz) vs.toList ++ ns) (by omega)]
   ·rw [List.getElem?_append_right (l₁:=take (lo*esz) vs.toList ++ ns) (by omega),List.getElem?_append_right (l₁:=take (lo*esz) vs.toList ++ ns) (by omega),hl1,List.getElem?_drop,List.getElem?_drop,List.getElem?_take_of_lt (by omega)]
  rw [e2] at hd';exact hd'
 ·exact Ext.replace hi' rfl rfl rfl (by simp) hblk (fun c hc=> .inl (by rw [hg];simpa [aI.blocks] using hc))
theorem uT (z:Array Value) (n:Nat):(Builtin.zeroCells z n).toList=(replicate n z.toList).flatten:=by
 have hr:∀n,((range (n*z.size)).map fun i=>z[i%z.size]!)=(replicate n z.toList).flatten:=by
  intro n
  induction n with
  |zero=>simp
  |succ n ih=>
   rw [List.replicate_succ',List.flatten_append,←ih,succ_mul,List.range_add,List.map_append]
   congr 1
   rw [List.map_map];simp only [flatten_cons,flatten_nil,append_nil];apply List.ext_getElem
   ·simp
   ·intro k h1 h2;simp only [length_map,List.length_range] at h1;simp [Nat.mod_eq_of_lt h1,h1]
 rw [←hr];simp [Builtin.zeroCells]
theorem B_ {zr:Nat→List SV} {ty:TypeId} (ht:kB P T ti=true) (hz:∀E,0 < (zr E).length→kO P E (zr E)=true) (hs:Sat X w B) {s:SV} {v:Value} (hd:Den X w s v) (hc:(nC ti zr B s).vc):
  ∃u w',(Builtin.clear_ #[T] ty #[v]).run P w= .ok u w'∧Sat X w' (nC ti zr B s).B∧Den X w' (nC ti zr B s).v u∧Ext X w B X w' (nC ti zr B s).B:=by
 cases ti<;>simp only [nC,bF] at hc
 case slice E esz eb=>
 obtain ⟨hu,i0,z,hi,h3,h4,h5,h6⟩:=eN ht;simp only [nC] at hc ⊢;have dn:Den X w (.bS []) (.tuple #[]):= .bS rfl fun i c h=>by simp at h
 have main:∀(i b cap lo n cp:Nat) (ad:Addr) (E2:TypeId) (xs:List (List SV)),au B i= .row (.at b cap) E2 esz xs→lo+n≤xs.length→0 < esz→(zr E).length=esz→bt (zr E)=true→(0 < n→ad=⟨b,lo*esz,none⟩)→
   ∃u w',(Builtin.clear_ #[T] ty #[.slice (some ad) n cp]).run P w= .ok u w'∧Sat X w' (B.set i (.row (.at b cap) E2 esz (xs.take lo ++ replicate n (zr E) ++ xs.drop (lo+n))))∧
    Den X w' (.bS []) u∧Ext X w B X w' (B.set i (.row (.at b cap) E2 esz (xs.take lo ++ replicate n (zr E) ++ xs.drop (lo+n)))):=by
  intro i b cap lo n cp ad E2 xs hg hle he hzl hsol hadr;obtain ⟨z',hz1,hz2⟩:=lu (hz E (by omega));obtain ⟨h7,h8⟩:=iA (X:=X) (w:=w) hz2;have hsz:z'.cells.size=esz:=by have:=h7;simp at this;omega
  have hcl:=kL (n:=n) (m6 (X:=X) (w:=w) hzl (by rw [h7,hzl]) h8);have hfl:(Builtin.zeroCells z'.cells n).toList=(replicate n z'.cells.toList).flatten:=uT _ n;rw [←hfl] at hcl;have hones:=zq he hcl fun y hy=>by rw [(List.mem_replicate.1 hy).2];exact hsol
  have hput:=H6 (P:=P) (ad:=ad) hs hg (ys:=replicate n (zr E)) (by simpa using hle) hcl hones (by simpa using hadr);simp only [List.length_replicate] at hput;obtain ⟨w',g1,g2,g3⟩:=hput;have hzero:n=0→w'=w:=by
   intro h0;subst h0;have:(Builtin.zeroCells z'.cells 0).toList=[]:=by rw [hfl];simp
   rw [this] at g1;simp [storeCells] at g1;exact g1.symm
  refine ⟨.tuple #[],w',?_,g2,.bS rfl (fun i c h=>by simp at h),g3⟩
  cases n with
  |zero=>
   rw [hzero rfl];simp [Builtin.clear_,run_underlying hu]
  |succ n=>
   simp only [Builtin.clear_,List.getElem?_toArray,List.getElem?_cons_zero,Sem.run_bind,run_underlying hu,Result.andThen_ok,hz1,g1,Sem.run_pure]
 cases hd<;>simp only at hc
 case dh i a e lo=>
  cases hg:au B i with
  |gone=>simp [hg] at hc
  |row h2 E2 e2 xs=>
   simp only [hg] at hc ⊢;obtain ⟨rfl,rfl,rfl,hle,he,hzl,hsol⟩:=hc;have hxs:=hs.dh hg;subst hxs;have hlo:lo=0:=by simpa using hle
   subst hlo;have hi':=fp hg;refine ⟨.tuple #[],w,?_,?_,.bS rfl (fun i c h=>by simp at h),?_⟩
   ·cases a<;>simp [Builtin.clear_,run_underlying hu]
   ·exact hs.replace hi' (le_refl _) (fun _ _ _=>rfl) (by simp [aI.blocks]) (by simp [aI.ok])
   ·exact Ext.replace hi' rfl rfl rfl (le_refl _) (fun _ _ _=>rfl) (by simp [aI.blocks])
 case rowAt i b cap e n hncap=>
  cases hg:au B i with
  |gone=>simp [hg] at hc
  |row h2 E2 e2 xs=>
   simp only [hg] at hc ⊢;obtain ⟨rfl,rfl,rfl,hle,he,hzl,hsol⟩:=hc;exact main i b cap 0 n cap ⟨b,0,none⟩ E2 xs hg hle he hzl hsol (fun _=>by simp)
 case kS i b cap e lo n cp hn hnc=>
  cases hg:au B i with
  |gone=>simp [hg] at hc
  |row h2 E2 e2 xs=>
   simp only [hg] at hc ⊢;obtain ⟨rfl,rfl,rfl,hle,he,hzl,hsol⟩:=hc;exact main i b cap (lo+1) n cp _ E2 xs hg hle he hzl hsol (fun _=>rfl)
 case hO i b cap e lo cp a=>
  cases hg:au B i with
  |gone=>simp [hg] at hc
  |row h2 E2 e2 xs=>
   simp only [hg] at hc ⊢;obtain ⟨rfl,rfl,rfl,hle,he,hzl,hsol⟩:=hc
   cases a with
   |some ad=>exact main i b cap (lo+1) 0 cp ad E2 xs hg hle he hzl hsol (fun h=>by omega)
   |none=>
    have hi':=fp hg;have hsame:(xs.take (lo+1) ++ replicate 0 (zr E) ++ xs.drop (lo+1+0))=xs:=by simp
    refine ⟨.tuple #[],w,?_,?_,.bS rfl (fun i c h=>by simp at h),?_⟩
    ·simp [Builtin.clear_,run_underlying hu]
    ·rw [hsame,←hg];have:=hs.ok i;exact hs.replace hi' (le_refl _) (fun _ _ _=>rfl) (fun c hc=> .inl hc) this
    ·rw [hsame,←hg];exact Ext.replace hi' rfl rfl rfl (le_refl _) (fun _ _ _=>rfl) (fun c hc=> .inl hc)
end
section
variable {P:Program} {T:TypeId} {ti:j4} {X:Nat→Prop} {w:World} {B:List aI}
theorem zk {kp:Bool} {E esz eb:Nat} {lo hi:Nat} {mx:Option Nat} {s:SV} {a:Option Addr} {n cap:Nat} (hs:Sat X w B) (hd:Den X w s (.slice a n cap)) (hc:(cx kp (.slice E esz eb) B s lo hi mx).vc):
  lo≤hi∧hi≤cap∧n≤cap∧(∀m,mx=some m→hi≤m∧m≤cap)∧
  Den X w (cx kp (.slice E esz eb) B s lo hi mx).v (sliced a lo hi (mx.getD cap) esz)∧(cx kp (.slice E esz eb) B s lo hi mx).B=B:=by
 cases hd<;>simp only [cx,bF] at hc
 case gC full e f hf=>
  cases mx with
  |none=>
   obtain ⟨h1,h2,_⟩:=hc;have:lo=0:=by omega
   have:hi=0:=by omega
   subst lo hi;refine ⟨h1,zero_le _,zero_le _,by simp,?_,by simp [cx]⟩;simp only [cx,sliced,Option.getD_none];exact .gC (by simp)
  |some m=>
   obtain ⟨h1,h2,rfl,_⟩:=hc;have:lo=0:=by omega
   have:m=0:=by omega
   subst lo m;refine ⟨h1,zero_le _,zero_le _,by simp,?_,by simp [cx]⟩;simp only [cx,sliced,Option.getD_some];exact .gC (by simp)
 case na full e f b off g hX hn hl hw h hcap hf=>
  have key:lo≤hi→hi≤n→e=esz→∀m,hi≤m→m≤cap→∀full',(full'=true→m=hi)→Den X w (.sl full' e (hi - lo) (sub f n lo (hi - lo))) (sliced (some ⟨b,off,none⟩) lo hi m esz):=by
   intro h1 h2 he m hm1 hm2 full' hfull;subst he;by_cases h0:hi - lo=0
   ·rw [h0];simp only [sliced,h0];exact .gC (fun hh=>by have:=hfull hh;omega)
   ·simp only [sliced];rw [if_neg (by omega)];simp only [Option.map_some,eJ];refine .na (fun k j=>g (lo+k) j) (by omega) (by omega) (fun hh=>by have:=hfull hh;omega) hX (fun k hk=>by simp only [sub,if_pos hk];exact hl _ (by omega)) (fun k j hk hj=>?_) (fun k j c hk hcc=>by simp only [sub,if_pos hk] at hcc;exact h _ _ _ (by omega) hcc);have:=hw (lo+k) j (by omega) hj;rw [add_mul] at this;rw [←this];congr 2;omega
  cases mx with
  |none=>
   obtain ⟨h1,h2,h3⟩:=hc;exact ⟨h1,by omega,hcap,by simp,by simpa [cx] using key h1 h2 (by omega) cap (by omega) (le_refl _) false (by simp),by simp [cx]⟩
  |some m=>
   obtain ⟨h1,h2,rfl,h3⟩:=hc;exact ⟨h1,by omega,hcap,fun k hk=>by cases hk;omega,by simpa [cx] using key h1 h2 (by omega) m (le_refl _) (by omega) true (by simp),by simp [cx]⟩
 case dh i e l0=>
  cases mx with
  |some m=>
   cases kp with
   |false=>exact hc.elim
   |true=>
    obtain ⟨h1,h2,h3,_⟩:=hc;exact ⟨h1,by omega,le_refl _,fun k hk=>by cases hk;omega,.any _,by simp [cx]⟩
  |none=>
   have hh:lo≤hi∧hi=0:=by
    cases kp with
    |false=>exact ⟨hc.1,by have:=hc.2.1;omega⟩
    |true=>
     refine ⟨hc.1,?_⟩;rcases hc.2.1 with h|⟨_,h⟩
     ·omega
     ·unfold CF at h
      split at h
      ·rename_i hg;obtain ⟨rfl,_,h⟩:=h;rw [hs.dh hg] at h;simpa using h
      ·exact h.elim
   obtain ⟨h1,rfl⟩:=hh;obtain rfl:lo=0:=by omega
   exact ⟨h1,zero_le _,le_refl _,by simp,by simpa [cx,sliced] using Den.dh (X:=X) (w:=w) i a e l0,by simp [cx]⟩
 case rowAt i b e hncap=>
  cases mx with
  |some m=>
   cases kp with
   |false=>exact hc.elim
   |true=>
    obtain ⟨h1,h2,h3,_⟩:=hc;exact ⟨h1,by omega,hncap,fun k hk=>by cases hk;omega,.any _,by simp [cx]⟩
  |none=>
   have hh:hi≤cap:=by
    cases kp with
    |false=>have:=hc.2.1;omega
    |true=>
     rcases hc.2.1 with h|⟨_,h⟩
     ·omega
     ·unfold CF at h
      split at h
      ·rename_i hg;obtain ⟨rfl,_,h⟩:=h;obtain ⟨_,_,_,h3,_⟩:=hs.row hg;omega
      ·exact h.elim
   obtain ⟨h1,_,rfl⟩:=hc;refine ⟨h1,hh,hncap,by simp,?_,by simp [cx]⟩;simp only [cx,sliced,Option.getD_none,zero_add]
   cases lo with
   |zero=>
    have e1:(if cap=0 then (some ⟨b,0,none⟩:Option Addr) else Option.map (fun (x:Addr)=>x.add (0*e)) (some ⟨b,0,none⟩))=some ⟨b,0,none⟩:=by
     split<;>simp [eJ]
    rw [e1];exact .rowAt _ _ _ _ _ (by omega)
   |succ lo=>
    by_cases h0:hi - (lo+1)=0
    ·rw [h0];exact .hO ..
    ·rw [if_neg (by omega)];simp only [Option.map_some,eJ,zero_add];exact .kS _ _ _ _ _ _ _ (by omega) (by omega)
 case kS i b cap' e l0 hn hnc=>
  cases mx with
  |some m=>
   cases kp with
   |false=>exact hc.elim
   |true=>
    obtain ⟨h1,h2,h3,_⟩:=hc;exact ⟨h1,by omega,hnc,fun k hk=>by cases hk;omega,.any _,by simp [cx]⟩
  |none=>
   have h2:hi≤n:=by
    cases kp with
    |false=>exact hc.2.1
    |true=>
     rcases hc.2.1 with h|⟨h,_⟩
     ·exact h
     ·omega
   obtain ⟨h1,_,rfl⟩:=hc;refine ⟨h1,by omega,hnc,by simp,?_,by simp [cx]⟩;simp only [cx,sliced,Option.getD_none];have e2:l0+1+lo=(l0+lo)+1:=by omega
   rw [e2];by_cases h0:hi - lo=0
   ·rw [h0];exact .hO ..
   ·rw [if_neg (by omega)];simp only [Option.map_some,eJ];have e3:(l0+1)*e+lo*e=(l0+lo+1)*e:=by rw [←add_mul,show l0+1+lo=l0+lo+1 by omega]
    rw [e3];exact .kS _ _ _ _ _ _ _ (by omega) (by omega)
 case hO i b cap' e l0=>
  cases mx with
  |some m=>
   cases kp with
   |false=>exact hc.elim
   |true=>
    obtain ⟨h1,h2,h3,_⟩:=hc;exact ⟨h1,by omega,zero_le _,fun k hk=>by cases hk;omega,.any _,by simp [cx]⟩
  |none=>
   have h2:hi≤0:=by
    cases kp with
    |false=>exact hc.2.1
    |true=>
     rcases hc.2.1 with h|⟨h,_⟩
     ·exact h
     ·omega
   obtain ⟨h1,_,rfl⟩:=hc;obtain rfl:lo=0:=by omega
   obtain rfl:hi=0:=by omega
   refine ⟨h1,zero_le _,zero_le _,by simp,?_,by simp [cx]⟩;simp only [cx,sliced,Option.getD_none];exact .hO ..
theorem CB {kp:Bool} {s:SV} {v:Value} {lo hi:Nat} {mx:Option Nat} (hd:Den X w s v) (hc:(cx kp ti B s lo hi mx).vc):
  (∃E esz eb,ti= .slice E esz eb∧∃a n cap,v= .slice a n cap∧s.len=n)∨(ti= .string∧∃l,s= .str l∧v= .string ⟨l.toArray⟩):=by
 cases ti<;>simp only [cx,bF] at hc
 case string=>
  cases hd<;>simp only at hc
  exact .inr ⟨rfl,_,rfl,rfl⟩
 case slice E esz eb=>
  refine .inl ⟨E,esz,eb,rfl,?_⟩
  cases hd<;>first|exact ⟨_,_,_,rfl,rfl⟩|(simp only at hc;done)
theorem tt {kp:Bool} (ht:kB P T ti=true) (hs:Sat X w B) {s:SV} {v:Value} (hd:Den X w s v) {lo hi mx:Option SV} {vlo vhi vmx:Option Value}
  (hlo:∀x,lo=some x→∃y,vlo=some y∧Den X w x y) (hlo':lo=none→vlo=none) (hhi:∀x,hi=some x→∃y,vhi=some y∧Den X w x y) (hhi':hi=none→vhi=none)
  (hmx:∀x,mx=some x→∃y,vmx=some y∧Den X w x y) (hmx':mx=none→vmx=none) (hc:(pH kp ti B s lo hi mx).vc):
  ∃u,(∀w,(Instr.sliceAt T v vlo vhi vmx).run P w= .ok u w)∧Den X w (pH kp ti B s lo hi mx).v u∧(pH kp ti B s lo hi mx).B=B:=by
 have str:∀(l:List UInt8) (a b:Nat) (vl vh:Option Value),a≤b→b≤l.length→T=T→P.underlying T=some .string→((vl=none∧a=0)∨∃k i,vl=some (.int k i)∧0≤i∧i.toNat=a)→((vh=none∧b=l.length)∨∃k i,vh=some (.int k i)∧0≤i∧i.toNat=b)→
   ∀w:World,(Instr.sliceAt T (.string ⟨l.toArray⟩) vl vh none).run P w= .ok (.string ⟨((l.drop a).take (b - a)).toArray⟩) w:=by
  intro l a b vl vh h1 h2 _ hu hl hh w;have hsz:(⟨l.toArray⟩:ByteArray).size=l.length:=by simp [ByteArray.size]
  have hext:(ByteArray.mk l.toArray).extract a b=⟨((l.drop a).take (b - a)).toArray⟩:=by
   apply ByteArray.ext;apply Array.ext';simp [ByteArray.data_extract,List.extract_eq_take_drop]
  have hb:∀(hi2:Nat),(Instr.sliceBounds false (ByteArray.mk l.toArray).size (ByteArray.mk l.toArray).size vl vh none).run P w= .ok (a,b,l.length) w:=by
   intro _;rw [hsz];simp only [Instr.sliceBounds,Sem.run_bind,Sem.run_pure,Result.andThen_ok];rcases hh with ⟨rfl,rfl⟩|⟨k,i,rfl,h0,rfl⟩
   ·rcases hl with ⟨rfl,rfl⟩|⟨k',i',rfl,h0',rfl⟩
    ·simp
    ·simp only [Sem.run_bind,Sem.run_pure,Result.andThen_ok,run_sliceBound (P:=P) (w:=w) k' i' l.length _ h0' (by omega),Option.isSome_none,Bool.false_eq_true,if_false]
   ·have hb1:=run_sliceBound (P:=P) (w:=w) k i l.length .sliceAlen h0 (by omega);simp only [Sem.run_bind,Bool.false_eq_true,if_false];rw [hb1];simp only [Result.andThen_ok];rcases hl with ⟨rfl,rfl⟩|⟨k',i',rfl,h0',rfl⟩
    ·simp
    ·have hb2:=run_sliceBound (P:=P) (w:=w) k' i' i.toNat .sliceB h0' (by omega);simp only [hb2,Option.isSome_none,Bool.false_eq_true,if_false,Result.andThen_ok,Sem.run_bind,Sem.run_pure]
  simp only [Instr.sliceAt,Sem.run_bind,run_underlying hu,Result.andThen_ok,Instr.slice,Option.isSome_none,Bool.false_eq_true,if_false,hb 0,Sem.run_pure,hext]
 have slc:∀(E esz eb:Nat) (a:Option Addr) (n cap l h:Nat) (m:Option Nat) (vl vh vm:Option Value),kB P T (.slice E esz eb)=true→l≤h→h≤cap→n≤cap→(∀x,m=some x→h≤x∧x≤cap)→
   ((vl=none∧l=0)∨∃k i,vl=some (.int k i)∧0≤i∧i.toNat=l)→((vh=none∧h=n∧m=none)∨∃k i,vh=some (.int k i)∧0≤i∧i.toNat=h)→((vm=none∧m=none)∨∃k i,vm=some (.int k i)∧0≤i∧m=some i.toNat)→
   ∀w:World,(Instr.sliceAt T (.slice a n cap) vl vh vm).run P w= .ok (sliced a l h (m.getD cap) esz) w:=by
  intro E esz eb a n cap l h m vl vh vm ht h1 h2 h3 hm hl hh hmm w;obtain ⟨hu,i0,z,hi0,hsz,_⟩:=eN ht;have hsize:(sizeOf E).run P w= .ok esz w:=fO (by simp [jF,hi0,hsz]) w;have hb:(Instr.sliceBounds true n cap vl vh vm).run P w= .ok (l,h,m.getD cap) w:=by
   simp only [Instr.sliceBounds];rcases hmm with ⟨rfl,rfl⟩|⟨km,im,rfl,hm0,rfl⟩
   ·rcases hh with ⟨rfl,rfl,_⟩|⟨k,i,rfl,h0,rfl⟩
    ·rcases hl with ⟨rfl,rfl⟩|⟨k',i',rfl,h0',rfl⟩
     ·simp
     ·have hb2:=run_sliceBound (P:=P) (w:=w) k' i' h .sliceB h0' (by omega);simp only [Sem.run_bind,Sem.run_pure,Result.andThen_ok,hb2,Option.isSome_none,Bool.false_eq_true,if_false,Option.getD_none]
    ·have hb1:=run_sliceBound (P:=P) (w:=w) k i cap .sliceAcap h0 (by omega);simp only [Sem.run_bind,if_true,Sem.run_pure,Result.andThen_ok];rw [hb1];simp only [Result.andThen_ok];rcases hl with ⟨rfl,rfl⟩|⟨k',i',rfl,h0',rfl⟩
     ·simp
     ·have hb2:=run_sliceBound (P:=P) (w:=w) k' i' i.toNat .sliceB h0' (by omega);simp only [hb2,Sem.run_bind,Sem.run_pure,Option.isSome_none,Bool.false_eq_true,if_false,Result.andThen_ok,Option.getD_none]
   ·have hmh:=hm _ rfl;have hb0:=run_sliceBound (P:=P) (w:=w) km im cap .slice3Acap hm0 (by omega);simp only [if_true,Sem.run_bind];rw [hb0];simp only [Result.andThen_ok];rcases hh with ⟨_,_,h'⟩|⟨k,i,rfl,h0,rfl⟩
    ·cases h'
    ·have hb1:=run_sliceBound (P:=P) (w:=w) k i im.toNat .slice3B h0 (by omega);simp only [Sem.run_bind,hb1,Result.andThen_ok];rcases hl with ⟨rfl,rfl⟩|⟨k',i',rfl,h0',rfl⟩
     ·simp
     ·have hb2:=run_sliceBound (P:=P) (w:=w) k' i' i.toNat .slice3C h0' (by omega);simp only [Option.isSome_some,if_true,hb2,Result.andThen_ok,Sem.run_bind,Sem.run_pure,Option.getD_some]
  simp only [Instr.sliceAt,Sem.run_bind,run_underlying hu,Result.andThen_ok,Instr.slice,hb,hsize,Sem.run_pure,sliced]
 have main:∀(l h:Nat) (m:Option Nat),(cx kp ti B s l h m).vc→((vlo=none∧l=0)∨∃k i,vlo=some (.int k i)∧0≤i∧i.toNat=l)→
   ((vhi=none∧h=s.len∧m=none)∨∃k i,vhi=some (.int k i)∧0≤i∧i.toNat=h)→((vmx=none∧m=none)∨∃k i,vmx=some (.int k i)∧0≤i∧m=some i.toNat)→
   ∃u,(∀w,(Instr.sliceAt T v vlo vhi vmx).run P w= .ok u w)∧Den X w (cx kp ti B s l h m).v u∧(cx kp ti B s l h m).B=B:=by
  intro l h m hc hl hh hm;rcases CB hd hc with ⟨E,esz,eb,rfl,a,n,cap,rfl,hlen⟩|⟨rfl,l0,rfl,rfl⟩
  ·obtain ⟨h1,h2,h3,h4,h5,h6⟩:=zk hs hd hc;exact ⟨_,slc E esz eb a n cap l h m _ _ _ ht h1 h2 h3 h4 hl (by rw [hlen] at hh;exact hh) hm,h5,h6⟩
  ·simp only [cx] at hc ⊢;obtain ⟨h1,h2,rfl⟩:=hc;have hm':vmx=none:=by
    rcases hm with ⟨h,_⟩|⟨k,i,_,_,h⟩
    ·exact h
    ·cases h
   subst hm';refine ⟨_,str l0 l h _ _ h1 h2 rfl (iP ht) hl ?_,.str _,trivial⟩;rcases hh with ⟨a,b,_⟩|hh
   ·exact .inl ⟨a,b⟩
   ·exact .inr hh
 have intD:∀{k i v},Den X w (.int k i) v→v= .int k i:=fun h=>by cases h;rfl
 unfold pH at hc ⊢
 split at hc
 ·exact main 0 s.len none hc (.inl ⟨hlo' rfl,rfl⟩) (.inl ⟨hhi' rfl,rfl,rfl⟩) (.inl ⟨hmx' rfl,rfl⟩)
 ·rename_i k l;obtain ⟨y,hy,hyd⟩:=hlo _ rfl;have:=intD hyd;subst this;exact main l.toNat s.len none hc.2 (.inr ⟨k,l,hy,hc.1,rfl⟩) (.inl ⟨hhi' rfl,rfl,rfl⟩) (.inl ⟨hmx' rfl,rfl⟩)
 ·rename_i k h;obtain ⟨y,hy,hyd⟩:=hhi _ rfl;have:=intD hyd;subst this;exact main 0 h.toNat none hc.2 (.inl ⟨hlo' rfl,rfl⟩) (.inr ⟨k,h,hy,hc.1,rfl⟩) (.inl ⟨hmx' rfl,rfl⟩)
 ·rename_i k l k2 h;obtain ⟨y,hy,hyd⟩:=hlo _ rfl;have:=intD hyd;subst this;obtain ⟨y2,hy2,hyd2⟩:=hhi _ rfl;have:=intD hyd2;subst this;exact main l.toNat h.toNat none hc.2.2 (.inr ⟨k,l,hy,hc.1,rfl⟩) (.inr ⟨k2,h,hy2,hc.2.1,rfl⟩) (.inl ⟨hmx' rfl,rfl⟩)
 ·rename_i k h k2 m;obtain ⟨y,hy,hyd⟩:=hhi _ rfl;have:=intD hyd;subst this;obtain ⟨y2,hy2,hyd2⟩:=hmx _ rfl;have:=intD hyd2;subst this;exact main 0 h.toNat (some m.toNat) hc.2.2 (.inl ⟨hlo' rfl,rfl⟩) (.inr ⟨k,h,hy,hc.1,rfl⟩) (.inr ⟨k2,m,hy2,hc.2.1,rfl⟩)
 ·rename_i k l k2 h k3 m;obtain ⟨y,hy,hyd⟩:=hlo _ rfl;have:=intD hyd;subst this;obtain ⟨y2,hy2,hyd2⟩:=hhi _ rfl;have:=intD hyd2;subst this;obtain ⟨y3,hy3,hyd3⟩:=hmx _ rfl;have:=intD hyd3;subst this;exact main l.toNat h.toNat (some m.toNat) hc.2.2.2 (.inr ⟨k,l,hy,hc.1,rfl⟩) (.inr ⟨k2,h,hy2,hc.2.1,rfl⟩) (.inr ⟨k3,m,hy3,hc.2.2.1,rfl⟩)
 ·exact hc.elim
theorem Df {ys:List (List SV)} {cs:List Value} (h:Cells X w 1 ys cs) (hb:∀y∈ys,isByte y=true):
  ∃ns:List Int,cs=ns.map (Value.int .u8)∧(ns.map fun n=>UInt8.ofNat n.toNat)=bytesOf ys:=by
 induction ys generalizing cs with
 |nil=>have:=h.len;simp at this;subst this;exact ⟨[],rfl,rfl⟩
 |cons y ys ih=>
  have hl:=h.len;simp only [length_cons,Nat.mul_one] at hl
  cases cs with
  |nil=>simp at hl
  |cons v cs=>
   have hy:=hb y (List.mem_cons_self ..);have h1:Cells X w 1 ys cs:=⟨by simpa using hl,fun k x hx=>h.each (k+1) x (by simpa using hx),fun k j x c hx hc=>by
    have:=h.den (k+1) j x c (by simpa using hx) hc;have hj:j=0:=by
     have:=h.each (k+1) x (by simpa using hx);rcases lt_or_ge j x.length with h'|h'
     ·omega
     ·rw [List.getElem?_eq_none h'] at hc;cases hc
    subst hj;simpa using this⟩
   obtain ⟨ns,hn1,hn2⟩:=ih h1 fun z hz=>hb z (List.mem_cons_of_mem _ hz)
   unfold isByte at hy
   split at hy
   ·rename_i n;have hd:=h.den 0 0 _ _ rfl rfl;simp at hd
    cases hd
    exact ⟨n :: ns,by rw [hn1];rfl,by simp [bytesOf,byteOf] at hn2 ⊢;exact hn2⟩
   ·cases hy
theorem qx {T2:TypeId} {ti2 te:j4} (ht:kB P T ti=true) (hte:∀E esz eb,ti= .slice E esz eb→kB P E te=true) (ht2:kB P T2 ti2=true) (hs:Sat X w B) {s:SV} {v:Value} (hd:Den X w s v) (hc:(ir ti te ti2 B s).vc) (hb:ti≠.bF):
  ∃u,(convert T T2 v).run P w= .ok u w∧Den X w (ir ti te ti2 B s).v u∧(ir ti te ti2 B s).B=B:=by
 obtain ⟨d,hu⟩:=Option.isSome_iff_exists.1 (Dp ht hb)
 cases ti2<;>simp only [ir,bF] at hc
 case int k=>
  have hu2:=Ds ht2
  cases hd<;>simp only at hc
  case int k' n _=>
   refine ⟨.int k (k.wrap n),?_,.int _ _ .wrap,rfl⟩;simp [convert,run_underlying hu,run_underlying hu2,Conv.intToInt]
 case string=>
  have hu2:=iP ht2
  cases ti<;>try (simp only at hc;done)
  case string=>
   have hu1:=iP ht;have hcc:s.isStr=true:=hc;clear hc
   cases hd<;>try (simp only [SV.isStr,Bool.false_eq_true] at hcc;done)
   case str l=>
    refine ⟨.string ⟨l.toArray⟩,?_,.str _,rfl⟩;simp [convert,run_underlying hu1,run_underlying hu2]
  case slice E esz eb=>
   obtain ⟨hu1,_⟩:=eN ht;have hte':=hte _ _ _ rfl;by_cases h11:esz=1∧eb=1
   case neg=>
    exfalso
    split at hc
    ·rename_i h;cases h
    ·rename_i h;simp only [j4.slice.injEq] at h;exact absurd h.2 h11
    ·exact hc
   obtain ⟨rfl,rfl⟩:=h11
   cases te<;>try (simp only at hc;done)
   case int k=>
   cases k<;>try (simp only at hc;done)
   case u8=>
   have hue:=Ds hte';simp only [ir] at hc ⊢;have hsrc:=fun hcc=>lg (P:=P) (esz:=1) (by omega) hs hd hcc;have hkind:(dm 1 B s).2→s.isStr=false→∃a n cap,v= .slice a n cap:=by
    intro h1 h2
    cases hd<;>first|exact ⟨_,_,_,rfl⟩|(simp only [dm] at h1;done)|cases h2
   generalize dm 1 B s=yc at *;obtain ⟨ys,c⟩:=yc;simp only at *;obtain ⟨hc1,hc2,hc3⟩:=hc;obtain ⟨hl,hff⟩:=hsrc hc1;obtain ⟨cs,hn1,hn2⟩:=hff ys.length (le_refl _);rw [take_length] at hn2;obtain ⟨ns,rfl,hn3⟩:=Df hn2 hc2;refine ⟨.string ⟨(bytesOf ys).toArray⟩,?_,.str _,trivial⟩;have hv:=hkind hc1 hc3;obtain ⟨a,n,cap,rfl⟩:=hv;have hn:n=ys.length:=by simpa [Builtin.lenOf] using hl
   subst hn;rw [run_convert_bytes_string w T T2 E a _ cap hu1 hue hu2]
   cases a with
   |none=>
    have:ns=[]:=by
     simp [Builtin.firstCells] at hn1
     cases ns
     ·rfl
     ·simp at hn1
    subst this;rw [←hn3];simp [Conv.bytesToString];rfl
   |some ad=>
    have hld:(loadCells ad ys.length).run P w= .ok (ns.map (Value.int .u8)).toArray w:=by simpa [Builtin.firstCells] using hn1
    rw [run_bytesToString w ad _ cap ns hld,foldl_push_bytes,hn3];simp [ByteArray.empty,ByteArray.emptyWithCapacity];rfl
end
def pC (P:Program) (g:TypeId→Option (List Nat)):Nat→List Field→Option (List Nat)
 |_,[]=>some []
 |o,f :: r=>if f.name != "_" && f.offset == o then
   match g f.type with
   |some l=>if jF P f.type l.length && l.length !=0 then (pC P g (o+l.length) r).map (l ++ ·) else none
   |none=>none
  else none
def leaves (P:Program):Nat→TypeId→Option (List Nat)
 |0,_=>none
 |d+1,T=>match P.underlying T with
  |some .bool=>some [0]
  |some (.int _)=>some [1]
  |some .string=>some [2]
  |some (.struct F)=>if P.stoodInHeld T then none else pC P (leaves P d) 0 F.toList
  |some (.array n E)=>match leaves P d E with
   |some l=>if jF P E l.length && l.length !=0 then some (replicate n l).flatten else none
   |none=>none
  |_=>none
def fit:Nat→Value→Value→Prop
 |0,.bool _,.bool _=>True
 |1,.int k _,.int k' _=>k=k'
 |2,.string _,.string _=>True
 |_,_,_=>False
def Mb:Value→Value→Bool
 | .bool a,.bool b=>a == b
 | .int _ a,.int _ b=>a == b
 | .string a,.string b=>a.toList == b.toList
 |_,_=>false
def mU:List Nat→Nat→Array Value→Array Value→Bool
 |[],_,_,_=>true
 |_ :: r,o,xs,ys=>Mb (xs.getD o undef) (ys.getD o undef) && mU r (o+1) xs ys
def fits (ks:List Nat) (o:Nat) (xs ys:Array Value):Prop:=∀(i k:Nat),ks[i]?=some k→fit k (xs.getD (o+i) undef) (ys.getD (o+i) undef)
theorem oJ:∀(a b:List Nat) (o:Nat) (xs ys:Array Value),mU (a ++ b) o xs ys=(mU a o xs ys && mU b (o+a.length) xs ys)
 |[],b,o,xs,ys=>by simp [mU]
 |k :: a,b,o,xs,ys=>by
  simp only [List.cons_append,mU,oJ a b (o+1) xs ys,length_cons,Bool.and_assoc]
  congr 3;omega
theorem G7 {k i:Nat} {xs ys:Array Value} (h:fit k (xs.getD i undef) (ys.getD i undef)):i < xs.size∧i < ys.size:=by
 constructor
 ·rcases lt_or_ge i xs.size with h'|h'
  ·exact h'
  ·have:xs.getD i undef=undef:=by simp [Array.getD_eq_getD_getElem?,Array.getElem?_eq_none h']
   rw [this] at h;unfold fit undef at h;split at h<;>simp_all
 ·rcases lt_or_ge i ys.size with h'|h'
  ·exact h'
  ·have:ys.getD i undef=undef:=by simp [Array.getD_eq_getD_getElem?,Array.getElem?_eq_none h']
   rw [this] at h;unfold fit undef at h;split at h<;>simp_all
theorem Fh {ks:List Nat} {o:Nat} {xs ys:Array Value} (h:fits ks o xs ys) (h0:ks≠[]):o+ks.length≤xs.size∧o+ks.length≤ys.size:=by
 have hp:0 < ks.length:=List.length_pos_iff.2 h0;have hl:ks[ks.length - 1]?=some (ks.getD (ks.length - 1) 0):=get?_of_lt 0 (by omega);have:=G7 (h _ _ hl);omega
theorem y4 {a b:List Nat} {o:Nat} {xs ys:Array Value} (h:fits (a ++ b) o xs ys):fits a o xs ys:=fun i k hk=>by
 refine h i k ?_;have:i < a.length:=by
  rcases lt_or_ge i a.length with h'|h'
  ·exact h'
  ·rw [List.getElem?_eq_none h'] at hk;cases hk
 rw [List.getElem?_append_left this];exact hk
theorem vF {a b:List Nat} {o:Nat} {xs ys:Array Value} (h:fits (a ++ b) o xs ys):fits b (o+a.length) xs ys:=fun i k hk=>by
 have:=h (a.length+i) k (by rw [List.getElem?_append_right (by omega)];simpa using hk);rw [add_assoc];exact this
theorem kX {xs:Array Value} {o n i:Nat} (hi:i < n) (hs:o+n≤xs.size):(xs.extract o (o+n)).getD i undef=xs.getD (o+i) undef:=by
 simp [Array.getD_eq_getD_getElem?,Array.getElem?_extract];rw [if_pos (by omega)]
theorem rC:∀(ks:List Nat) (i o n:Nat) (xs ys:Array Value),o+n≤xs.size→o+n≤ys.size→i+ks.length≤n→mU ks i (xs.extract o (o+n)) (ys.extract o (o+n))=mU ks (o+i) xs ys
 |[],_,_,_,_,_,_,_,_=>rfl
 |k :: ks,i,o,n,xs,ys,h1,h2,h3=>by
  simp only [length_cons] at h3;simp only [mU];rw [kX (by omega) h1,kX (by omega) h2,rC ks (i+1) o n xs ys h1 h2 (by omega)];rfl
section
variable {P:Program}
theorem y6:∀(d:Nat) (T:TypeId) (ks:List Nat),leaves P d T=some ks→∀fuel,d≤fuel→∀(w:World),
  (p6 P T=true→∀(xs ys:Array Value),fits ks 0 xs ys→(Op.equalIn fuel T (.agg xs) (.agg ys)).run P w= .ok (mU ks 0 xs ys) w)∧
  (p6 P T=false→∃k,ks=[k]∧∀(u v:Value),fit k u v→(Op.equalIn fuel T u v).run P w= .ok (Mb u v) w)
 |0,_,_,h,_,_,_=>by simp [leaves] at h
 |d+1,T,ks,h,0,hf,_=>by omega
 |d+1,T,ks,h,fuel+1,hf,w=>by
  simp only [leaves] at h;have part:∀(T:TypeId) (l:List Nat),leaves P d T=some l→jF P T l.length=true→∀(xs ys:Array Value) (o:Nat) (w:World),fits l o xs ys→l≠[]→
    ∃u v,(part T xs o).run P w= .ok u w∧(part T ys o).run P w= .ok v w∧(Op.equalIn fuel T u v).run P w= .ok (mU l o xs ys) w:=by
   intro T l hl hs xs ys o w hfit hne;obtain ⟨ih1,ih2⟩:=y6 d T l hl fuel (by omega) w;obtain ⟨s1,s2⟩:=Fh hfit hne;have hund:(P.underlying T).isSome=true:=by
    cases hu:P.underlying T with
    |none=>cases d<;>simp [leaves,hu] at hl
    |some x=>rfl
   have hag:=ny hund
   cases ha:p6 P T
   ·obtain ⟨k,rfl,h3⟩:=ih2 ha;have hk:=hfit 0 k rfl;rw [add_zero] at hk;obtain ⟨l1,l2⟩:=G7 hk;refine ⟨xs.getD o undef,ys.getD o undef,?_,?_,by rw [h3 _ _ hk];simp [mU]⟩
    ·simp only [Go.part,Sem.run_bind,hag,ha,Result.andThen_ok,Bool.false_eq_true,if_false];rw [kv l1];rfl
    ·simp only [Go.part,Sem.run_bind,hag,ha,Result.andThen_ok,Bool.false_eq_true,if_false];rw [kv l2];rfl
   ·refine ⟨.agg (xs.extract o (o+l.length)),.agg (ys.extract o (o+l.length)),?_,?_,?_⟩
    ·simp only [Go.part,Sem.run_bind,hag,ha,Result.andThen_ok,if_true,fO hs,Sem.run_pure]
    ·simp only [Go.part,Sem.run_bind,hag,ha,Result.andThen_ok,if_true,fO hs,Sem.run_pure]
    ·rw [ih1 ha _ _ (fun i k hk=>by
      have hi:i < l.length:=by
       rcases lt_or_ge i l.length with h'|h'
       ·exact h'
       ·rw [List.getElem?_eq_none h'] at hk;cases hk
      rw [zero_add,kX hi s1,kX hi s2];exact hfit i k hk)]
     rw [rC l 0 o l.length xs ys s1 s2 (by omega)];rfl
  cases hu:P.underlying T with
  |none=>simp [hu] at h
  |some desc=>
   cases desc<;>simp only [hu] at h<;>try (cases h;done)
   case bool=>
    simp only [Option.some.injEq] at h;subst h;refine ⟨fun ha=>by simp [p6,hu] at ha,fun _=>⟨0,rfl,fun u v hfit=>?_⟩⟩;unfold fit at hfit
    split at hfit<;>try (simp at hfit;done)
    ·exact run_equalIn_bool' w fuel T _ _ hu
    all_goals (rename_i h;cases h)
   case int kk=>
    simp only [Option.some.injEq] at h;subst h;refine ⟨fun ha=>by simp [p6,hu] at ha,fun _=>⟨1,rfl,fun u v hfit=>?_⟩⟩;unfold fit at hfit
    split at hfit<;>try (simp at hfit;done)
    ·rename_i h;cases h
    ·subst hfit;exact run_equalIn_int w fuel T _ kk _ _ hu
    ·rename_i h;cases h
   case string=>
    simp only [Option.some.injEq] at h;subst h;refine ⟨fun ha=>by simp [p6,hu] at ha,fun _=>⟨2,rfl,fun u v hfit=>?_⟩⟩;unfold fit at hfit
    split at hfit<;>try (simp at hfit;done)
    ·rename_i h;cases h
    ·rename_i h;cases h
    ·exact run_equalIn_string w fuel T _ _ hu
   case struct F=>
    refine ⟨fun _ xs ys hfit=>?_,fun ha=>by simp [p6,hu] at ha⟩;by_cases hst:P.stoodInHeld T=true
    ·simp [hst] at h
    ·have hst':P.stoodInHeld T=false:=by simpa using hst
     simp only [hst',Bool.false_eq_true,if_false] at h;rw [run_equalIn_struct w fuel T xs ys (by simp [Program.fieldsOf,hu]) hst'];have hF:P.fieldsOf T=F:=by simp [Program.fieldsOf,hu]
     rw [hF];have fieldsL:∀(fs:List Field) (o:Nat) (ks:List Nat) (w:World),pC P (leaves P d) o fs=some ks→fits ks o xs ys→(Op.eqFields fuel xs ys fs).run P w= .ok (mU ks o xs ys) w:=by
      intro fs
      induction fs with
      |nil=>intro o ks w hk _;simp [pC] at hk;subst hk;simp [Op.eqFields,mU]
      |cons f fs ihf=>
       intro o ks w hk hfit;simp only [pC] at hk
       split at hk
       ·rename_i hcond;simp only [Bool.and_eq_true,bne_iff_ne,ne_eq,beq_iff_eq] at hcond
        cases hl:leaves P d f.type with
        |none=>simp [hl] at hk
        |some l=>
         simp only [hl] at hk
         split at hk
         ·rename_i hs0;simp only [Bool.and_eq_true,bne_iff_ne,ne_eq] at hs0;obtain ⟨hs,hne0⟩:=hs0;have hne:l≠[]:=fun e=>hne0 (by simp [e])
          cases hr:pC P (leaves P d) (o+l.length) fs with
          |none=>simp [hr] at hk
          |some r=>
           simp only [hr,Option.map_some,Option.some.injEq] at hk;subst hk;obtain ⟨u,v,p1,p2,p3⟩:=part f.type l hl hs xs ys o w (y4 hfit) hne;simp only [Op.eqFields];rw [if_pos hcond.1,hcond.2];simp only [Sem.run_bind,p1,p2,p3,Result.andThen_ok,oJ]
           cases mU l o xs ys
           ·simp
           ·simp only [Bool.not_true,Bool.false_eq_true,if_false,Bool.true_and];exact ihf _ _ w hr (vF hfit)
         ·cases hk
       ·cases hk
     exact fieldsL F.toList 0 ks w h hfit
   case array n E=>
    refine ⟨fun _ xs ys hfit=>?_,fun ha=>by simp [p6,hu] at ha⟩
    cases hl:leaves P d E with
    |none=>simp [hl] at h
    |some l=>
     simp only [hl] at h
     split at h
     ·rename_i hs0;simp only [Bool.and_eq_true,bne_iff_ne,ne_eq] at hs0;obtain ⟨hs,hne0⟩:=hs0;have hne:l≠[]:=fun e=>hne0 (by simp [e]);simp only [Option.some.injEq] at h;subst h;have hs':=hs;unfold jF at hs'
      cases hi:P.info? E with
      |none=>simp [hi] at hs'
      |some ie=>
       simp only [hi,beq_iff_eq] at hs';rw [run_equalIn_array w fuel xs ys hu hi];have hce:P.cellsOf E=l.length:=by simp [Program.cellsOf,hi,hs']
       rw [hce,List.range_eq_range'];have items:∀(m s:Nat) (w:World),fits (replicate m l).flatten (s*l.length) xs ys→(Op.eqItems fuel E l.length xs ys (range' s m)).run P w= .ok (mU (replicate m l).flatten (s*l.length) xs ys) w:=by
        intro m
        induction m with
        |zero=>intro s w _;simp [Op.eqItems,mU]
        |succ m ihm=>
         intro s w hfit;rw [List.replicate_succ,flatten_cons] at hfit ⊢;obtain ⟨u,v,p1,p2,p3⟩:=part E l hl hs xs ys (s*l.length) w (y4 hfit) hne;simp only [List.range'_succ,Op.eqItems,Sem.run_bind,p1,p2,p3,Result.andThen_ok,oJ]
         cases mU l (s*l.length) xs ys
         ·simp
         ·have hr:=vF hfit;rw [←succ_mul] at hr ⊢;simp only [Bool.not_true,Bool.false_eq_true,if_false,Bool.true_and];exact ihm _ w hr
       have:=items n 0 w (by simpa using hfit);simpa using this
     ·cases h
def Oj (P:Program) (T:TypeId) (lv:List Nat):Bool:=match lv with
 |[]=>true
 |lv=>p6 P T && leaves P 40 T == some lv && !P.eqGuardType P.depth T && lv.all (·!=9)
end
section
variable {P:Program} {X:Nat→Prop} {w:World} {B:List aI} {T:TypeId}
theorem rB:∀(a b:List SV) (xs ys:List Value),(b9 a b).2→xs.length=a.length→ys.length=b.length→
  (∀(i:Nat) (c:SV),a[i]?=some c→Den X w c (xs.getD i undef))→(∀(i:Nat) (c:SV),b[i]?=some c→Den X w c (ys.getD i undef))→
  ys.length=xs.length∧(∀(i k:Nat),(kinds a)[i]?=some k→k≠9→fit k (xs.getD i undef) (ys.getD i undef))∧
  ((range xs.length).all fun i=>Mb (xs.getD i undef) (ys.getD i undef))=(b9 a b).1
 |[],[],xs,ys,_,hx,hy,_,_=>by
  have:xs=[]:=List.length_eq_zero_iff.1 hx;have:ys=[]:=List.length_eq_zero_iff.1 hy;subst xs ys;exact ⟨rfl,by simp [kinds],by simp [b9]⟩
 |[],_ :: _,_,_,h,_,_,_,_=>by simp [b9] at h
 |_ :: _,[],_,_,h,_,_,_,_=>by simp [b9] at h
 |c :: a,d :: b,xs,ys,h,hx,hy,h1,h2=>by
  cases xs with
  |nil=>simp at hx
  |cons x xs=>
   cases ys with
   |nil=>simp at hy
   |cons y ys=>
    simp only [b9] at h ⊢;obtain ⟨hc,hr⟩:=h;obtain ⟨r1,r2,r3⟩:=rB a b xs ys hr (by simpa using hx) (by simpa using hy) (fun i c hc=>by simpa using h1 (i+1) c (by simpa using hc)) (fun i c hc=>by simpa using h2 (i+1) c (by simpa using hc));have hdx:Den X w c x:=by simpa using h1 0 c rfl
    have hdy:Den X w d y:=by simpa using h2 0 d rfl
    have key:Mb x y=(e_ c d).1∧∀k,(kinds (c :: a))[0]?=some k→k≠9→fit k x y:=by
     cases hdx<;>cases hdy<;>simp only [e_] at hc
     ·subst hc;exact ⟨rfl,fun k hk _=>by simp [kinds] at hk;subst hk;rfl⟩
     ·exact ⟨rfl,fun k hk _=>by simp [kinds] at hk;subst hk;trivial⟩
     ·refine ⟨?_,fun k hk _=>by simp [kinds] at hk;subst hk;trivial⟩;simp [Mb,e_,ByteArray.toList_eq]
    have hk:∀i k,(kinds (c :: a))[i+1]?=some k→(kinds a)[i]?=some k:=by
     intro i k h;cases c<;>simpa [kinds] using h
    refine ⟨by simp [r1],fun i k hi hk9=>?_,?_⟩
    ·cases i with
     |zero=>simpa using key.2 k hi hk9
     |succ i=>simpa using r2 i k (hk i k hi) hk9
    ·rw [length_cons,List.range_succ_eq_map,List.all_cons,List.all_map];simp only [List.getD_cons_zero,key.1];rw [←r3];rfl
theorem BL:∀(ks:List Nat) (o:Nat) (xs ys:Array Value),mU ks o xs ys=(range' o ks.length).all fun i=>Mb (xs.getD i undef) (ys.getD i undef)
 |[],_,_,_=>rfl
 |k :: ks,o,xs,ys=>by
  simp only [mU,BL ks (o+1) xs ys,length_cons,List.range'_succ,List.all_cons]
theorem rm:∀(a:List SV),(kinds a).length=a.length
 |[]=>rfl
 |c :: a=>by cases c<;>simp [kinds,rm a]
theorem tI {lv:List Nat} (hlv:Oj P T lv=true) {a b:List SV} {xs ys:Array Value} (hx:Den X w (.agg a) (.agg xs)) (hy:Den X w (.agg b) (.agg ys))
  (hc:(b9 a b).2∧kinds a=lv∧lv≠[]):(Op.equalIn 10000 T (.agg xs) (.agg ys)).run P w= .ok (b9 a b).1 w∧P.eqGuardType P.depth T=false:=by
 obtain ⟨hc1,hc2,hc3⟩:=hc;unfold Oj at hlv
 split at hlv
 ·exact absurd rfl hc3
 ·simp only [Bool.and_eq_true,Bool.not_eq_true',beq_iff_eq] at hlv;obtain ⟨⟨⟨h1,h2⟩,h3⟩,h4⟩:=hlv
  cases hx with
  |agg hsx hdx=>
   cases hy with
   |agg hsy hdy=>
    obtain ⟨r1,r2,r3⟩:=rB a b xs.toList ys.toList hc1 (by simpa using hsx) (by simpa using hsy) (by simpa using hdx) (by simpa using hdy);have hk9:∀(i k:Nat),lv[i]?=some k→k≠9:=by
     intro i k hk;have:=List.all_eq_true.1 h4 k (List.mem_of_getElem? hk);simpa using this
    have:=(y6 40 T lv h2 10000 (by omega) w).1 h1 xs ys (fun i k hk=>by
     have:=r2 i k (by rw [hc2];exact hk) (hk9 i k hk);simpa using this)
    refine ⟨?_,h3⟩;rw [this,BL,←r3,←hc2,rm,←hsx];simp [List.range_eq_range']
end
section
variable {P:Program} {X:Nat→Prop} {w:World} {B:List aI} {T:TypeId}
theorem gN {op:BinOp} {x y:Operand} {u v:Value} (h:(∀cs,u≠.agg cs)∧u≠.nilIface):(eqGuard op T x y u v).run P w= .ok () w:=by
 unfold eqGuard
 cases op<;>simp<;>cases u<;>simp at h ⊢
theorem rT {op:BinOp} {k:IntKind} {a b:Int}:wX k (b6 op k a b):=by unfold b6;cases op<;>exact .wrap
theorem za {op:BinOp} {ti:j4} {lv:List Nat} (ht:kB P T ti=true) (hlv:Oj P T lv=true) {x y:Operand} {s t:SV} {u v:Value} (hx:Den X w s u) (hy:Den X w t v) (hc:(kf ti lv op B s t).vc):
  ∃r,((do eqGuard op T x y u v;binOp op T u v):Sem Value).run P w= .ok r w∧Den X w (kf ti lv op B s t).v r∧(kf ti lv op B s t).B=B:=by
 cases hx<;>try (simp only [kf,bF] at hc;done)
 case int k a hka=>
  cases hy<;>try (simp only [kf,bF] at hc;done)
  case int k' b hkb=>
   rw [Sem.run_bind,gN (by simp),Result.andThen_ok];simp only [kf] at hc ⊢
   cases op<;>simp only [Ha] at hc ⊢
   case add=>subst hc;exact ⟨_,by simp [binOp,Op.intArith],.int _ _ .wrap,trivial⟩
   case sub=>subst hc;exact ⟨_,by simp [binOp,Op.intArith],.int _ _ .wrap,trivial⟩
   case mul=>subst hc;exact ⟨_,by simp [binOp,Op.intArith],.int _ _ .wrap,trivial⟩
   case quo=>obtain ⟨rfl,hb⟩:=hc;exact ⟨_,by simp [binOp,Op.intDiv,hb],.int _ _ .wrap,trivial⟩
   case rem=>obtain ⟨rfl,hb⟩:=hc;exact ⟨_,by simp [binOp,Op.intDiv,hb],.int _ _ fun e=>Int.tmod_nonneg _ (hka e),trivial⟩
   case shl=>exact ⟨_,by simp [binOp,Op.shift,Int.not_lt.2 hc],.int _ _ .wrap,trivial⟩
   case shr=>exact ⟨_,by simp [binOp,Op.shift,Int.not_lt.2 hc],.int _ _ fun e=>Int.fdiv_nonneg (hka e) (by have:=Int.pow_pos (n:=(2:Int)) (m:=min b.toNat k.bits) (by decide);omega),trivial⟩
   case and=>subst hc;exact ⟨_,by simp only [binOp,ne_eq,not_true_eq_false,if_false,Op.intBits];rfl,.int _ _ rT,trivial⟩
   case or=>subst hc;exact ⟨_,by simp only [binOp,ne_eq,not_true_eq_false,if_false,Op.intBits];rfl,.int _ _ rT,trivial⟩
   case xor=>subst hc;exact ⟨_,by simp only [binOp,ne_eq,not_true_eq_false,if_false,Op.intBits];rfl,.int _ _ rT,trivial⟩
   case andNot=>subst hc;exact ⟨_,by simp only [binOp,ne_eq,not_true_eq_false,if_false,Op.intBits];rfl,.int _ _ rT,trivial⟩
   case eql=>subst hc;exact ⟨_,by simp [binOp,Op.intCmp],.bool ..,trivial⟩
   case neq=>subst hc;exact ⟨_,by simp [binOp,Op.intCmp],.bool ..,trivial⟩
   case lss=>subst hc;exact ⟨_,by simp [binOp,Op.intCmp],.bool ..,trivial⟩
   case leq=>subst hc;exact ⟨_,by simp [binOp,Op.intCmp],.bool ..,trivial⟩
   case gtr=>subst hc;exact ⟨_,by simp [binOp,Op.intCmp],.bool ..,trivial⟩
   case geq=>subst hc;exact ⟨_,by simp [binOp,Op.intCmp],.bool ..,trivial⟩
 case bool a=>
  cases hy<;>try (simp only [kf,bF] at hc;done)
  case bool b=>
   rw [Sem.run_bind,gN (by simp),Result.andThen_ok]
   cases ti<;>try (simp only [kf,bF] at hc;done)
   have hu:=F1 ht;simp only [kf] at hc ⊢
   cases op<;>try (simp only [bF] at hc;done)
   case eql=>exact ⟨_,by simp only [binOp,Sem.run_bind,run_equal_bool w T a b hu,Result.andThen_ok,Sem.run_pure],.bool ..,rfl⟩
   case neq=>exact ⟨_,by simp only [binOp,Sem.run_bind,run_equal_bool w T a b hu,Result.andThen_ok,Sem.run_pure];rfl,.bool ..,rfl⟩
 case str a=>
  cases hy<;>try (simp only [kf,bF] at hc;done)
  case str b=>
   rw [Sem.run_bind,gN (by simp),Result.andThen_ok];simp only [kf] at hc ⊢
   cases op<;>try (simp only [bF] at hc;done)
   case eql=>exact ⟨_,by simp [binOp,Op.stringOp,ByteArray.toList_eq],.bool ..,rfl⟩
   case neq=>exact ⟨.bool (a !=b),by simp [binOp,Op.stringOp,ByteArray.toList_eq,bne],.bool ..,rfl⟩
   case lss=>exact ⟨_,by simp [binOp,Op.stringOp,ByteArray.toList_eq],.bool ..,rfl⟩
   case leq=>exact ⟨_,by simp [binOp,Op.stringOp,ByteArray.toList_eq],.bool ..,rfl⟩
   case gtr=>exact ⟨_,by simp only [binOp,Op.stringOp,ByteArray.toList_eq,Sem.run_pure],.bool ..,rfl⟩
   case geq=>exact ⟨_,by simp [binOp,Op.stringOp,ByteArray.toList_eq],.bool ..,rfl⟩
   case add=>
    refine ⟨.string ⟨(a ++ b).toArray⟩,?_,.str ..,rfl⟩;have hle:¬(((ByteArray.mk a.toArray).size+(ByteArray.mk b.toArray).size:Nat):Int) > IntKind.i64.max:=by
     have h1:(ByteArray.mk a.toArray).size=a.length:=by simp [ByteArray.size]
     have h2:(ByteArray.mk b.toArray).size=b.length:=by simp [ByteArray.size]
     have h3:IntKind.i64.max=9223372036854775807:=rfl;rw [h1,h2,h3];simp only at hc;omega
    simp only [binOp,Op.stringOp];rw [if_neg hle];simp only [Sem.run_pure]
    congr 2
 case agg a xs hsx hdx=>
  cases hy<;>try (simp only [kf,bF] at hc;done)
  case agg b ys hsy hdy=>
   simp only [kf] at hc ⊢
   cases op<;>try (simp only [bF] at hc;done)
   case eql=>
    obtain ⟨h1,h2⟩:=tI hlv (.agg hsx hdx) (.agg hsy hdy) hc;exact ⟨_,by rw [Sem.run_bind,run_eqGuard_agg w .eql T x y xs ys h2,Result.andThen_ok,run_eql_struct,h1];rfl,.bool ..,rfl⟩
   case neq=>
    obtain ⟨h1,h2⟩:=tI hlv (.agg hsx hdx) (.agg hsy hdy) hc;exact ⟨_,by rw [Sem.run_bind,run_eqGuard_agg w .neq T x y xs ys h2,Result.andThen_ok,run_neq_struct,h1];rfl,.bool ..,rfl⟩
theorem AU {op:UnOp} {s:SV} {u:Value} (hx:Den X w s u) (hc:(BG op B s).vc):
  ∃r,(Op.unary op u).run P w= .ok r w∧Den X w (BG op B s).v r∧(BG op B s).B=B:=by
 cases hx<;>try (simp only [BG,bF] at hc;done)
 case int k n _=>
  cases op<;>simp only [BG,bF] at hc
  case neg=>exact ⟨_,by simp [Op.unary,Op.intArith],.int _ _ .wrap,rfl⟩
  case xor=>exact ⟨_,by simp only [Op.unary,Op.intBits];rfl,.int _ _ rT,rfl⟩
 case bool b=>
  cases op<;>simp only [BG,bF] at hc
  case not=>exact ⟨_,by simp [Op.unary],.bool ..,rfl⟩
theorem tQ {s:SV} {v:Value} {g p:Bool} (h:AG s=some (g,p)) (hd:Den X w s v) (hg:g=true):v= .bool p:=by
 unfold AG at h
 split at h
 ·cases h;cases hd;rfl
 ·cases h
  cases hd with
  |opt h _=>have:=h hg;cases this;rfl
 ·cases h
theorem nq {c a b:SV} {vc va vb:Value} (hc:Den X w c vc) (ha:Den X w a va) (hb:Den X w b vb) (h:(sJ B c a b).vc):
  ∃r,((do pure (.value (if←asBool vc then va else vb)):Sem Next)).run P w= .ok (.value r) w∧Den X w (sJ B c a b).v r∧(sJ B c a b).B=B:=by
 unfold sJ at h ⊢
 split at h
 ·rename_i gc p h1;obtain ⟨hg,hp,hq⟩:=h;have:=tQ h1 hc hg;subst this;have arm:∀{s:SV} {v:Value},Den X w s v→(tS s).1=true→v= .bool (tS s).2:=by
   intro s v hd ht;unfold tS at ht ⊢
   split at ht
   ·cases hd;rfl
   ·exact tQ (s:= .opt _ (.bool _)) rfl hd ht
   ·cases ht
  cases p
  ·have:=arm hb (hq rfl);subst this;exact ⟨_,by simp [asBool],.bool ..,rfl⟩
  ·have:=arm ha (hp rfl);subst this;exact ⟨_,by simp [asBool],.bool ..,rfl⟩
 ·exact h.elim
theorem EX {E:TypeId} (hT:P.underlying T=some (.slice E)) {s:SV} {v:Value} (hd:Den X w s v):∃h,∀b,vo h s=some b→(Op.equal T v (.slice none 0 0)).run P w= .ok b w∧∃a n c,v= .slice a n c:=by
 cases hd
 case gC full e f a cap hf=>
  refine ⟨bif a.isNone then .void none else .at 0 0,fun b hb=>?_⟩;rw [run_equal_slice_nil w T E a 0 cap hT];simp only [vo,beq_self_eq_true,cond_true,Option.some.injEq] at hb;subst hb;refine ⟨?_,_,_,_,rfl⟩
  cases a<;>rfl
 case na full e n f b off cap g hn hcap hf hX hl hw h=>
  refine ⟨.void none,fun b' hb=>?_⟩;rw [run_equal_slice_nil w T E _ n cap hT];have:(n == 0)=false:=by simpa using Nat.pos_iff_ne_zero.1 hn
  simp only [vo,this,cond_false,Option.some.injEq] at hb;subst hb;exact ⟨rfl,_,_,_,rfl⟩
 case rowAt i b cap e n hn=>
  refine ⟨.void none,fun b' hb=>?_⟩;rw [run_equal_slice_nil w T E _ n cap hT];simp only [vo,Option.some.injEq] at hb;subst hb;exact ⟨rfl,_,_,_,rfl⟩
 all_goals exact ⟨.void none,fun b hb=>by simp [vo] at hb⟩
theorem vj {E:TypeId} (hT:P.underlying T=some (.pointer E)) {s:SV} {v:Value} (hd:Den X w s v) {b:Bool} (hb:sE s=some b):
  (Op.equal T v (.pointer none)).run P w= .ok b w∧∃a,v= .pointer a:=by
 have hp:P.underlying T=some (.pointer (P.pointee T)):=by simp [Program.pointee,hT]
 cases hd with
 |xp g hX hw h=>simp only [sE,Option.some.injEq] at hb;subst hb;exact ⟨by rw [run_equal_pointer_nil w T _ hp];rfl,_,rfl⟩
 |bx i b cap esz k off=>simp only [sE,Option.some.injEq] at hb;subst hb;exact ⟨by rw [run_equal_pointer_nil w T _ hp];rfl,_,rfl⟩
 |val v=>
  unfold sE at hb
  split at hb<;>simp only [Option.some.injEq,reduceCtorEq] at hb
  ·rename_i h1;cases h1
  ·rename_i h1;cases h1
  ·rename_i h1
   cases h1
   subst hb;exact ⟨by rw [run_equal_pointer_nil w T _ hp];rfl,_,rfl⟩
 |_=>simp [sE] at hb
end
section
open Go.MapKept (IsKey)
variable {P:Program} {X:Nat→Prop} {w:World} {B:List aI} {T:TypeId} {ti:j4} {k1 k2:IntKind}
theorem Dr (h:kB P T (.Br k1 k2)=true):∃A F,P.underlying T=some (.map A F)∧P.underlying A=some (.int k1)∧∀w,(zeroValue F).run P w= .ok (.int k2 0) w:=by
 simp only [kB,Bool.and_eq_true] at h;replace h:=h.2
 split at h
 ·rename_i A F hu;rw [Bool.and_eq_true] at h;obtain ⟨h1,h2⟩:=h;refine ⟨A,F,hu,?_,fun w=>?_⟩
  ·split at h1
   ·rename_i k hk;rw [beq_iff_eq] at h1;rw [hk,h1]
   ·cases h1
  ·split at h2
   ·rename_i i hi
    split at h2
    ·rename_i k n hz;simp only [Bool.and_eq_true,beq_iff_eq] at h2;obtain ⟨rfl,rfl⟩:=h2;simp [zeroValue,typeInfo,hi,hz]
    ·cases h2
   ·cases h2
 ·cases h
theorem vK (a:Int) (ha:wX k1 a):∀{l:List MapEntry} {es:List (Int×Int)},vL l (es.map (mC k1 k2))→∀i,
  (Instr.findNow (.int k1) (.int k1 a) l i=some none∧tg a es=none∧∀v b,wX k2 v→vL (l ++ [{key:= .int k1 a,val:= .int k2 v,born:=b}]) ((AI a v es).map (mC k1 k2)))∨
  ∃j u,Instr.findNow (.int k1) (.int k1 a) l i=some (some (i+j,.int k2 u))∧tg a es=some u∧wX k2 u∧(l[j]?.map (·.key))=some (.int k1 a)∧
   ∀v,wX k2 v→vL (l.modify j fun e=>{e with key:= .int k1 a,val:= .int k2 v}) ((AI a v es).map (mC k1 k2))
 |[],[],_,i=> .inl ⟨rfl,rfl,fun v b hv=>⟨⟨k1,k2,a,v,ha,hv,rfl,rfl,rfl⟩,trivial⟩⟩
 |[],_ :: _,h,_=>h.elim
 |e :: l,[],h,i=>h.elim
 |e :: l,y :: es,h,i=>by
  obtain ⟨⟨j1,j2,c,u,hc1,hu1,h1,h2,h3⟩,h4⟩:=h;simp only [mC,List.cons.injEq,SV.int.injEq,and_true] at h3;obtain ⟨⟨rfl,rfl⟩,rfl,rfl⟩:=h3;obtain ⟨c,u⟩:=y;have hs:Instr.sameNow (.int k1) (.int k1 a) e.key=some (a == c):=by rw [h1];simp [Instr.sameNow]
  by_cases hac:c=a
  ·subst hac;refine .inr ⟨0,u,?_,?_,hu1,?_,fun v hv=>?_⟩
   ·simp [Instr.findNow,hs,h2]
   ·simp [tg]
   ·simp [h1]
   ·simp only [AI,if_true,map_cons,List.modify_zero_cons];exact ⟨⟨k1,k2,c,v,hc1,hv,rfl,rfl,rfl⟩,h4⟩
  ·have hf:(a == c)=false:=by simpa using fun e=>hac e.symm
   rw [hf] at hs;have hg:tg a ((c,u) :: es)=tg a es:=by simp [tg,hac]
   have hp:∀v,AI a v ((c,u) :: es)=(c,u) :: AI a v es:=fun v=>by simp [AI,hac]
   rcases vK a ha h4 (i+1) with ⟨g1,g2,g3⟩|⟨j,u',g1,g2,gu,g3,g4⟩
   ·refine .inl ⟨by simp [Instr.findNow,hs,g1],by rw [hg,g2],fun v b hv=>?_⟩;rw [hp,map_cons,List.cons_append];exact ⟨⟨k1,k2,c,u,hc1,hu1,h1,h2,rfl⟩,g3 v b hv⟩
   ·refine .inr ⟨j+1,u',by simp [Instr.findNow,hs,g1];omega,by rw [hg,g2],gu,by simpa using g3,fun v hv=>?_⟩;rw [hp,map_cons,List.modify_succ_cons];exact ⟨⟨k1,k2,c,u,hc1,hu1,h1,h2,rfl⟩,g4 v hv⟩
variable {A F:TypeId} {b clock:Nat} {arr:Array MapEntry} {es:List (Int×Int)}
theorem nv (hu:P.underlying T=some (.map A F)) (hA:P.underlying A=some (.int k1)) (hz:∀w,(zeroValue F).run P w= .ok (.int k2 0) w) (hb:w.heap[b]?=some (.map arr clock)) (he:vL arr.toList (es.map (mC k1 k2))) (a:Int) (ha:wX k1 a) (ok:Bool):
  wX k2 ((tg a es).getD 0)∧(Instr.lookup T (.map (some b)) (.int k1 a) ok).run P w= .ok (if ok=true then .tuple #[.int k2 ((tg a es).getD 0),.bool (tg a es).isSome] else .int k2 ((tg a es).getD 0)) w:=by
 have hk:IsKey (.int k1) (.int k1 a):=rfl;rcases vK a ha he 0 with ⟨g1,g2,_⟩|⟨j,u,g1,g2,gu,_,_⟩
 ·refine ⟨by rw [g2];exact .zero,?_⟩;simp only [Instr.lookup,Sem.run_bind,run_underlying hu,Result.andThen_ok,Go.MapKept.run_getObj_map hb,Sem.run_pure,Go.MapKept.run_checkKey hA hk,Go.MapKept.run_findKey hA g1,hz,g2]
  cases ok<;>rfl
 ·refine ⟨by rw [g2];exact gu,?_⟩;simp only [Instr.lookup,Sem.run_bind,run_underlying hu,Result.andThen_ok,Go.MapKept.run_getObj_map hb,Sem.run_pure,Go.MapKept.run_checkKey hA hk,Go.MapKept.run_findKey hA g1,g2]
  cases ok<;>rfl
theorem Cs (hu:P.underlying T=some (.map A F)) (hA:P.underlying A=some (.int k1)) (hb:w.heap[b]?=some (.map arr clock)) (he:vL arr.toList (es.map (mC k1 k2))) (a v:Int) (ha:wX k1 a) (hv:wX k2 v):
  ∃arr' clock',(Instr.mapUpdate T (.map (some b)) (.int k1 a) (.int k2 v)).run P w= .ok () {w with heap:=w.heap.setIfInBounds b (.map arr' clock')}∧vL arr'.toList ((AI a v es).map (mC k1 k2)):=by
 have hk:IsKey (.int k1) (.int k1 a):=rfl;rcases vK a ha he 0 with ⟨g1,_,g3⟩|⟨j,u,g1,_,_,g3,g4⟩
 ·refine ⟨arr.push {key:= .int k1 a,val:= .int k2 v,born:=clock},clock+1,?_,by simpa using g3 v clock hv⟩;simp only [Instr.mapUpdate,Sem.run_bind,run_underlying hu,Result.andThen_ok,Go.MapKept.run_getObj_map hb,Go.MapKept.run_checkKey hA hk,Go.MapKept.run_findKey hA g1,Go.MapKept.run_setObj_map _ hb]
 ·have hj:arr[j]?.map (·.key)=some (.int k1 a):=by simpa using g3
  refine ⟨arr.modify j fun e=>{e with key:= .int k1 a,val:= .int k2 v},clock,?_,by simpa using g4 v hv⟩;simp only [Instr.mapUpdate,Sem.run_bind,run_underlying hu,Result.andThen_ok,Go.MapKept.run_getObj_map hb,Go.MapKept.run_checkKey hA hk,Go.MapKept.run_findKey hA g1,hj,Option.getD_some,Go.MapKept.run_keyThatStays hk,Go.MapKept.run_setObj_map _ hb,zero_add]
theorem Sat.Ld (hs:Sat X w B) {i E esz xs} (hg:au B i= .row (.mp b) E esz xs):∃arr clock,w.heap[b]?=some (.map arr clock)∧vL arr.toList xs:=by
 have:=hs.ok i;rw [hg] at this;exact this
theorem w7 (hs:Sat X w B) {h:aN} (hc:(iZ ti h T B).vc):∃h' u w',(Instr.makeMap T none).run P w= .ok u w'∧
  Sat X w' (iZ ti h' T B).B∧Den X w' (iZ ti h' T B).v u∧Ext X w B X w' (iZ ti h' T B).B:=by
 cases ti<;>try (simp only [iZ,bF] at hc;done)
 case Br k1 k2=>
  have hh:=Go.MapKept.heap_alloc w (.map #[] 0);have hsz:(w.alloc (.map #[] 0)).heap.size=w.heap.size+1:=Array.size_push _;refine ⟨.mp w.heap.size,.map (some w.heap.size),w.alloc (.map #[] 0),rfl,?_,.om ..,?_⟩
  ·exact hs.push (by omega) (fun c hc=>hh.2 c hc) (fun c hc=>by simp [aI.blocks] at hc;subst hc;omega) ⟨_,_,hh.1,trivial⟩
  ·exact Ext.push rfl rfl rfl (by omega) (fun c hc=>hh.2 c hc) (fun c hc=>by simp [aI.blocks] at hc;subst hc;omega)
theorem rq (ht:kB P T ti=true) (hs:Sat X w B) {m k x:SV} {vm vk vx:Value} (hm:Den X w m vm) (hk:Den X w k vk) (hx:Den X w x vx) (hc:(gE ti B m k x).vc):
  ∃w',(Instr.mapUpdate T vm vk vx).run P w= .ok () w'∧Sat X w' (gE ti B m k x).B∧Ext X w B X w' (gE ti B m k x).B∧(gE ti B m k x).v= .any:=by
 cases ti<;>try (simp only [gE,bF] at hc;done)
 case Br k1 k2=>
  obtain ⟨A,F,hu,hA,hz⟩:=Dr ht
  cases hm<;>try (simp only [gE,bF] at hc;done)
  case om i b j1 j2=>
   cases hk<;>try (simp only [gE,bF] at hc;done)
   case int c1 a ha=>
    cases hx<;>try (simp only [gE,bF] at hc;done)
    case int c2 v hv=>
     cases hg:au B i with
     |gone=>simp [gE,hg,bF] at hc
     |row h' E e xs=>
      simp only [gE,hg] at hc ⊢;obtain ⟨rfl,rfl,rfl,rfl,rfl,hxs⟩:=hc;obtain ⟨arr,clock,hb,he⟩:=hs.Ld hg;rw [hxs] at he;obtain ⟨arr',clock',hr,he'⟩:=Cs hu hA hb he a v ha hv;have hset:=MapKept.heap_set (o':= .map arr' clock') hb;have hblk:∀c,c < w.heap.size→c ∉ (au B i).blocks→(w.heap.setIfInBounds b (.map arr' clock'))[c]?=w.heap[c]?:=fun c _ hcn=>hset.2 c (by rw [hg] at hcn;simpa [aI.blocks] using hcn);exact ⟨_,hr,hs.replace (fp hg) (by simp) hblk (fun c hc=> .inl (by rw [hg];simpa [aI.blocks] using hc)) ⟨arr',clock',hset.1,he'⟩,Ext.replace (fp hg) rfl rfl rfl (by simp) hblk (fun c hc=> .inl (by rw [hg];simpa [aI.blocks] using hc)),trivial⟩
theorem DI {r:Option Int} {ok:Bool} {c:Prop} (hu:wX k2 (r.getD 0)):Den X w (On k2 B r ok c).v (if ok=true then .tuple #[.int k2 (r.getD 0),.bool r.isSome] else .int k2 (r.getD 0)):=by
 cases ok with
 |false=>exact .int _ _ hu
 |true=>
  refine .bS rfl fun i s hs=>?_
  match i with
  |0=>simp at hs;subst hs;exact .int _ _ hu
  |1=>simp at hs;subst hs;exact .bool ..
  |i+2=>simp at hs
theorem rk (ht:kB P T ti=true) (hs:Sat X w B) {m k:SV} {vm vk:Value} {ok:Bool} (hm:Den X w m vm) (hk:Den X w k vk) (hc:(iH ti B m k ok).vc):
  ∃u,(∀w',(∀b,(X b∨hU B b)→w'.heap[b]?=w.heap[b]?)→(Instr.lookup T vm vk ok).run P w'= .ok u w')∧Den X w (iH ti B m k ok).v u∧(iH ti B m k ok).B=B:=by
 cases ti<;>try (simp only [iH,bF] at hc;done)
 case Br k1 k2=>
  obtain ⟨A,F,hu,hA,hz⟩:=Dr ht;have hB:∀{r:Option Int} {c:Prop},(On k2 B r ok c).B=B∧((On k2 B r ok c).vc→c):=by intro r c;cases ok<;>exact ⟨rfl,id⟩
  cases hk<;>try (simp only [iH,bF] at hc;done)
  case int c1 a ha=>
   cases hm<;>try (simp only [iH,bF] at hc;done)
   case xm j1 j2 es b clock arr hX hw he=>
    simp only [iH] at hc ⊢;obtain ⟨rfl,rfl,rfl⟩:=hB.2 hc;exact ⟨_,fun w' h'=>(nv hu hA hz (by rw [h' _ (.inl hX)];exact hw) he a ha ok).2,DI (nv hu hA hz hw he a ha ok).1,hB.1⟩
   case om i b j1 j2=>
    cases hg:au B i with
    |gone=>simp [iH,hg,bF] at hc
    |row h' E e xs=>
     simp only [iH,hg] at hc ⊢;obtain ⟨rfl,rfl,rfl,rfl,hxs⟩:=hB.2 hc;obtain ⟨arr,clock,hb,he⟩:=hs.Ld hg;rw [hxs] at he;exact ⟨_,fun w' h'=>(nv hu hA hz (by rw [h' _ (.inr ⟨i,by rw [hg];simp [aI.blocks]⟩)];exact hb) he a ha ok).2,DI (nv hu hA hz hb he a ha ok).1,hB.1⟩
end
structure Env where
 ty:Nat→j4
 zr:Nat→List SV
 lv:Nat→List Nat
 kp:Bool
structure cI (P:Program) (E:Env):Prop where
 ty:∀T,kB P T (E.ty T)=true
 zr:∀T,0 < (E.zr T).length→kO P T (E.zr T)=true
 lv:∀T,Oj P T (E.lv T)=true
def fD (st:Bool) (t:List (Nat×SV)) (x:Operand):SV:=match st with
 |true=>(ev t x).strip
 |false=>ev t x
def AR (st:Bool) (t:List (Nat×SV)):List Operand→List SV
 |[]=>[]
 |x :: r=>fD st t x :: AR st t r
def BH (st:Bool) (t:List (Nat×SV)):List (Nat×Operand)→List (Nat×SV)
 |[]=>[]
 |(i,x) :: r=>(i,fD st t x) :: BH st t r
def DQ (st:Bool) (t:List (Nat×SV)):Option Operand→Option SV
 |none=>none
 |some x=>some (fD st t x)
def DL:SV→Bool
 | .bx .. =>true
 | .xp _=>true
 | .fn .. =>true
 |_=>false
def kZ (ti:j4) (B:List aI) (s:SV):Out:=match ti with
 | .bF=>bF
 |ti=>fZ ti.agg ti.size B s
def rA (ti:j4) (B:List aI) (p s:SV):Out:=match ti with
 | .bF=>bF
 |ti=>jd ti.size B p s
def BI (h:aN) (T:Nat) (B:List aI) (cs:List SV) (c:Prop):Out:=⟨.bx B.length h cs.length 0 0,B ++ [.row h T cs.length [cs]],c⟩
def tG (ti:j4) (B:List aI) (s:SV):Out:=match ti with
 | .array n _ _=>⟨.int .i64 n,B,True⟩
 | .string=>match s with
  | .str l=>⟨.int .i64 (l.length:Nat),B,True⟩
  |_=>bF
 | .slice .. =>match s with
  | .sl _ _ n _=>⟨.int .i64 (n:Nat),B,True⟩
  | .row _ _ _ _ n=>⟨.int .i64 (n:Nat),B,True⟩
  |_=>bF
 |_=>bF
def BK (ti:j4) (B:List aI) (s:SV):Out:=match ti with
 | .slice .. =>match s with
  | .sl true _ n _=>⟨.int .i64 (n:Nat),B,True⟩
  |_=>bF
 |_=>bF
def BJ (B:List aI):SV→SV→Out
 | .int k a,.int k' b=>⟨.int k (re a b),B,k=k'⟩
 |_,_=>bF
def DS (B:List aI):SV→SV→Out
 | .int k a,.int k' b=>⟨.int k (GS a b),B,k=k'⟩
 |_,_=>bF
def ll (B:List aI) (i:Nat):SV→Out
 | .bS cs=>⟨cs.getD i .any,B,i < cs.length⟩
 |_=>bF
def zJ (E:Env):j4→j4
 | .slice e _ _=>E.ty e
 |_=> .bF
def bH (E:Env) (st:Bool) (h:aN) (t:List (Nat×SV)) (B:List aI) (b:Builtin) (args:List Operand) (tys:List TypeId):Out:=
 match b with
 | .len=>match args,tys with
  |[x],[T]=>tG (E.ty T) B (fD st t x)
  |_,_=>bF
 | .cap=>match args,tys with
  |[x],[T]=>BK (E.ty T) B (fD st t x)
  |_,_=>bF
 | .append=>match args,tys with
  |[x,y],[T,T2]=>kg E.kp (E.ty T) (E.ty T2) h B (fD st t x) (fD st t y)
  |_,_=>bF
 | .copy=>match args,tys with
  |[x,y],[T,_]=>qK (E.ty T) B (fD st t x) (fD st t y)
  |_,_=>bF
 | .clear=>match args,tys with
  |[x],[T]=>nC (E.ty T) E.zr B (fD st t x)
  |_,_=>bF
 | .max=>match args with
  |[x,y]=>BJ B (fD st t x) (fD st t y)
  |_=>bF
 | .min=>match args with
  |[x,y]=>DS B (fD st t x) (fD st t y)
  |_=>bF
 |_=>bF
def de (E:Env) (st:Bool) (h:aN) (t:List (Nat×SV)) (B:List aI) (o:Op):Out:=
 match o with
 | .move x=>⟨fD st t x,B,True⟩
 | .assign x=>⟨fD st t x,B,True⟩
 | .pick c a b=>sJ B (ev t c) (ev t a) (ev t b)
 | .alloc T=>BI h T B (E.zr T) (0 < (E.zr T).length)
 | .box T x=>BI h T B (fD st t x).cells (bt (fD st t x).cells=true)
 | .build T ps=>match pL (E.ty T) (E.zr T) B (BH st t ps.toList) with
  |⟨v,B',c⟩=>⟨v,B',0 < (E.zr T).length∧c⟩
 | .buildSlice T n ps=>eC (E.ty T) E.zr h B n (BH st t ps.toList)
 | .load T x=>kZ (E.ty T) B (fD st t x)
 | .store T a x=>rA (E.ty T) B (fD st t a) (fD st t x)
 | .nilCheck x=>⟨fD st t x,B,DL (fD st t x)=true⟩
 | .binOp op T x y _=>tH (E.ty T) (E.lv T) op h B (fD st t x) (fD st t y) y
 | .unOp op _ x=>BG op B (fD st t x)
 | .convert s d x=>match E.ty s with
  | .bF=>bF
  |ti=>ir ti (zJ E ti) (E.ty d) B (fD st t x)
 | .makeFunc (.func f) first caps=>match first.toList with
  |[]=>⟨.fn f (AR st t caps.toList),B,True⟩
  |x :: r=>⟨.bm f (AR st t (x :: r)),B,caps.toList=[]⟩
 | .makeSlice T l c=>ep (E.ty T) E.zr h B (fD st t l) (fD st t c)
 | .slice T x lo hi mx=>pH E.kp (E.ty T) B (fD st t x) (DQ st t lo) (DQ st t hi) (DQ st t mx)
 | .fieldAddr T x f=>i5 (E.ty T) B f (fD st t x)
 | .field T x f=>pK (E.ty T) B f (fD st t x)
 | .indexAddr T x i=>i4 (E.ty T) B (fD st t x) (fD st t i)
 | .index T x i=>pJ (E.ty T) B (fD st t x) (fD st t i)
 | .extract x i=>ll B i (fD st t x)
 | .makeMap T none=>iZ (E.ty T) h T B
 | .insert T m k x=>gE (E.ty T) B (fD st t m) (fD st t k) (fD st t x)
 | .mapUpdate T m k x=>gE (E.ty T) B (fD st t m) (fD st t k) (fD st t x)
 | .lookup T m k ok=>iH (E.ty T) B (fD st t m) (fD st t k) ok
 | .call c=>match c.callee with
  | .builtin b=>bH E st h t B b c.args.toList c.argTypes.toList
  |_=>bF
 |_=>bF
section
variable {P:Program} {E:Env} {X:Nat→Prop} {w:World} {B:List aI}
def AO (P:Program) (X:Nat→Prop) (w:World) (B:List aI) (s:Sem Next) (out:Out):Prop:=
 ∃v w',(s.run P w= .ok (.value v) w'∨(s.run P w= .ok .skip w'∧v=undef))∧Sat X w' out.B∧Den X w' out.v v∧Ext X w B X w' out.B
theorem cD (hs:Sat X w B) {s:Sem Next} {out:Out} {v:Value} (hr:s.run P w= .ok (.value v) w) (hd:Den X w out.v v) (hB:out.B=B):AO P X w B s out:=
 ⟨v,w,.inl hr,hB▸hs,hd,hB▸Ext.refl _ _ _⟩
theorem eG {s:Sem Value} {v:Value} {w':World} (h:s.run P w= .ok v w'):(do pure (.value (←s)):Sem Next).run P w= .ok (.value v) w':=by
 simp [h]
theorem C0 (hE:cI P E) {st:Bool} {t:List (Nat×SV)} {ρ:Operand→Value} {o:Oper} (hs:Sat X w B) (h0:∀x,Den X w (ev t x) (ρ x)) (hk:∀v,ρ (.const v)=v) (hd:∀x∈o.op.operands.toList,Den X w (fD st t x) (ρ x)):
  ∃h,(de E st h t B o.op).vc→AO P X w B (execOp ρ o) (de E st h t B o.op):=by
 obtain ⟨dst,op,type,pos,after,guard⟩:=o;have hlist:∀(l:List Operand),(∀x∈l,Den X w (fD st t x) (ρ x))→∀(i:Nat) (c:SV),(AR st t l)[i]?=some c→Den X w c ((l.map ρ).getD i undef):=by
  intro l
  induction l with
  |nil=>intro _ i c h;simp [AR] at h
  |cons x l ih=>
   intro hl i c h
   cases i with
   |zero=>simp [AR] at h;subst h;simpa using hl x (List.mem_cons_self ..)
   |succ i=>simpa using ih (fun y hy=>hl y (List.mem_cons_of_mem _ hy)) i c (by simpa [AR] using h)
 have hlen:∀(l:List Operand),(AR st t l).length=l.length:=by intro l;induction l with|nil=>rfl|cons x l ih=>simp [AR,ih]
 have hpl:∀(l:List (Nat×Operand)),(BH st t l).length=l.length:=by
  intro l
  induction l with
  |nil=>rfl
  |cons x l ih=>obtain ⟨i,x⟩:=x;simp [BH,ih]
 have hpd:∀(l:List (Nat×Operand)),(∀x∈l.map (·.2),Den X w (fD st t x) (ρ x))→∀(i:Nat) (p:Nat×SV) (q:Nat×Value),(BH st t l)[i]?=some p→(l.map fun (i,x)=>(i,ρ x))[i]?=some q→p.1=q.1∧Den X w p.2 q.2:=by
  intro l
  induction l with
  |nil=>intro _ i p q h;simp [BH] at h
  |cons x l ih=>
   obtain ⟨j,x⟩:=x;intro hl i p q hp hq
   cases i with
   |zero=>simp [BH] at hp hq;subst hp hq;exact ⟨rfl,hl x (by simp)⟩
   |succ i=>exact ih (fun y hy=>hl y (by simp at hy ⊢;exact .inr hy)) i p q (by simpa [BH] using hp) (by simpa using hq)
 have void:(∀h,¬(de E st h t B op).vc)→∃h,(de E st h t B op).vc→AO P X w B (execOp ρ ⟨dst,op,type,pos,after,guard⟩) (de E st h t B op):=fun h=>⟨.void none,fun hc=>absurd hc (h _)⟩;simp only at hd ⊢
 cases op<;>try (refine void fun h hc=>?_;simp only [de,bF] at hc;done)
 case move x=>exact ⟨.void none,fun _=>cD hs rfl (hd x (by simp [Op.operands])) rfl⟩
 case assign x=>exact ⟨.void none,fun _=>cD hs rfl (hd x (by simp [Op.operands])) rfl⟩
 case pick c a b=>
  refine ⟨.void none,fun hc=>?_⟩;obtain ⟨r,h1,h2,h3⟩:=nq (P:=P) (h0 c) (h0 a) (h0 b) hc;exact cD hs (by simpa [execOp] using h1) h2 h3
 case alloc T=>
  by_cases hl:0 < (E.zr T).length
  ·obtain ⟨h',u,w',r1,r2,r3,r4⟩:=Cd hs (hE.zr T hl);exact ⟨h',fun _=>⟨u,w',.inl (by simpa [execOp] using eG r1),r2,r3,r4⟩⟩
  ·exact void fun h hc=>hl (by simpa [de,BI] using hc)
 case box T x=>
  have hx:=hd x (by simp [Op.operands]);by_cases hl:bt (fD st t x).cells=true
  ·obtain ⟨h',u,w',r1,r2,r3,r4⟩:=FC (P:=P) (T:=T) hs hx hl;exact ⟨h',fun _=>⟨u,w',.inl (by simpa [execOp] using eG r1),r2,r3,r4⟩⟩
  ·exact void fun h hc=>hl (by simpa [de,BI] using hc)
 case build T ps=>
  refine ⟨.void none,fun hc=>?_⟩;simp only [de] at hc ⊢;obtain ⟨hz,hc⟩:=hc;obtain ⟨u,r1,r2,r3⟩:=tP (hE.ty T) (hE.zr T hz) (vs:=ps.map fun (i,x)=>(i,ρ x)) (by simp [hpl]) (fun i p q hp hq=>hpd ps.toList (fun x hx=>hd x (by simpa [Op.operands] using hx)) i p q hp (by simpa using hq)) hc;exact cD hs (by simpa [execOp] using eG (r1 w)) r2 r3
 case buildSlice T n ps=>
  by_cases hti:∃e esz eb,E.ty T= .slice e esz eb
  case neg=>exact void fun h hc=>by simp only [de] at hc;cases ht:E.ty T<;>simp [ht,eC,bF] at hc hti
  obtain ⟨e,esz,eb,hti⟩:=hti;by_cases hz:0 < (E.zr e).length
  ·obtain ⟨h',hh⟩:=tc (zr:=E.zr) (hE.ty T) (fun e' esz' eb' he=>by rw [hti] at he;cases he;exact hE.zr _ hz) hs (len:=n) (ps:=BH st t ps.toList) (vs:=ps.map fun (i,x)=>(i,ρ x)) (by simp [hpl])
    (fun i p q hp hq=>hpd ps.toList (fun x hx=>hd x (by simpa [Op.operands] using hx)) i p q hp (by simpa using hq))
   refine ⟨h',fun hc=>?_⟩;obtain ⟨u,w',r1,r2,r3,r4⟩:=hh hc;exact ⟨u,w',.inl (by simpa [execOp] using eG r1),r2,r3,r4⟩
  ·exact void fun h hc=>by simp only [de,hti,eC] at hc;omega
 case load T x=>
  refine ⟨.void none,fun hc=>?_⟩;have hb:E.ty T≠.bF:=fun e=>by simp [de,kZ,e,bF] at hc
  have e1:kZ (E.ty T) B (fD st t x)=fZ (E.ty T).agg (E.ty T).size B (fD st t x):=by
   cases h:E.ty T<;>first|rfl|exact absurd h hb
  simp only [de,e1] at hc ⊢;obtain ⟨u,r1,r2,r3⟩:=vq (hE.ty T) hb hs (hd x (by simp [Op.operands])) hc;exact cD hs (by simpa [execOp] using eG r1) r2 r3
 case store T a x=>
  refine ⟨.void none,fun hc=>?_⟩;have hb:E.ty T≠.bF:=fun e=>by simp [de,rA,e,bF] at hc
  have e1:rA (E.ty T) B (fD st t a) (fD st t x)=jd (E.ty T).size B (fD st t a) (fD st t x):=by
   cases h:E.ty T<;>first|rfl|exact absurd h hb
  simp only [de,e1] at hc ⊢;obtain ⟨w',r1,r2,r3⟩:=A2 (hE.ty T) hb hs (hd a (by simp [Op.operands])) (hd x (by simp [Op.operands])) hc;refine ⟨undef,w',.inr ⟨by simp [execOp,r1],rfl⟩,r2,?_,r3⟩;have:(jd (E.ty T).size B (fD st t a) (fD st t x)).v= .any:=by
   unfold jd;split
   ·split<;>rfl
   ·rfl
  rw [this];exact .any _
 case nilCheck x=>
  refine ⟨.void none,fun hc=>?_⟩;have hx:=hd x (by simp [Op.operands]);simp only [de] at hc ⊢;refine cD hs (v:=ρ x) ?_ hx rfl;simp only [execOp];generalize ρ x=v at hx;generalize fD st t x=s at hx hc
  cases hx<;>simp only [DL,Bool.false_eq_true] at hc
  all_goals rfl
 case binOp op T x y T2=>
  by_cases hsl:∃e a b,E.ty T= .slice e a b
  ·obtain ⟨e,a,b,hti⟩:=hsl;have hT:P.underlying T=some (.slice e):=by have:=hE.ty T;rw [hti] at this;exact (eN this).1
   obtain ⟨h,hh⟩:=EX hT (hd x (by simp [Op.operands]));refine ⟨h,fun hc=>?_⟩;simp only [de,hti,tH,DR] at hc ⊢
   split at hc
   ·rename_i bv hy hb;obtain ⟨hr,a',n',c',hv⟩:=hh _ hb;have hyv:ρ y= .slice none 0 0:=by
     unfold vn at hy
     split at hy
     ·exact hk _
     ·cases hy
    have hg:(eqGuard op T x y (ρ x) (ρ y)).run P w= .ok () w:=gN (by rw [hv];exact ⟨by simp,by simp⟩)
    cases op<;>simp only [y5,bF] at hc
    case eql=>
     have h1:(do eqGuard .eql T x y (ρ x) (ρ y);binOp .eql T (ρ x) (ρ y):Sem Value).run P w= .ok (.bool (bv)) w:=by rw [hyv] at hg ⊢;rw [hv] at hg hr ⊢;simp only [Sem.run_bind,hg,Result.andThen_ok,binOp,hr,Sem.run_pure]
     exact cD hs (by simpa [execOp] using eG h1) (.bool _) rfl
    case neq=>
     have h1:(do eqGuard .neq T x y (ρ x) (ρ y);binOp .neq T (ρ x) (ρ y):Sem Value).run P w= .ok (.bool (!bv)) w:=by rw [hyv] at hg ⊢;rw [hv] at hg hr ⊢;simp only [Sem.run_bind,hg,Result.andThen_ok,binOp,hr,Sem.run_pure]
     exact cD hs (by simpa [execOp] using eG h1) (.bool _) rfl
   ·exact hc.elim
  by_cases hsp:E.ty T= .ptr
  ·have hT:∃e,P.underlying T=some (.pointer e):=by have:=hE.ty T;rw [hsp] at this;exact Dq this
   obtain ⟨e,hT⟩:=hT;refine ⟨.void none,fun hc=>?_⟩;simp only [de,hsp,tH,C1] at hc ⊢
   split at hc
   ·rename_i bv hy hb;obtain ⟨hr,a',hv⟩:=vj hT (hd x (by simp [Op.operands])) hb;have hyv:ρ y= .pointer none:=by
     unfold zD at hy
     split at hy
     ·exact hk _
     ·cases hy
    have hg:(eqGuard op T x y (ρ x) (ρ y)).run P w= .ok () w:=gN (by rw [hv];exact ⟨by simp,by simp⟩)
    cases op<;>simp only [y5,bF] at hc
    case eql=>
     have h1:(do eqGuard .eql T x y (ρ x) (ρ y);binOp .eql T (ρ x) (ρ y):Sem Value).run P w= .ok (.bool (bv)) w:=by rw [hyv] at hg ⊢;rw [hv] at hg hr ⊢;simp only [Sem.run_bind,hg,Result.andThen_ok,binOp,hr,Sem.run_pure]
     exact cD hs (by simpa [execOp] using eG h1) (.bool _) rfl
    case neq=>
     have h1:(do eqGuard .neq T x y (ρ x) (ρ y);binOp .neq T (ρ x) (ρ y):Sem Value).run P w= .ok (.bool (!bv)) w:=by rw [hyv] at hg ⊢;rw [hv] at hg hr ⊢;simp only [Sem.run_bind,hg,Result.andThen_ok,binOp,hr,Sem.run_pure]
     exact cD hs (by simpa [execOp] using eG h1) (.bool _) rfl
   ·exact hc.elim
  have evCmp_bin:∀h,tH (E.ty T) (E.lv T) op h B (fD st t x) (fD st t y) y=kf (E.ty T) (E.lv T) op B (fD st t x) (fD st t y):=by
   intro h
   cases hti:E.ty T<;>first|rfl|exact absurd hti hsp|exact absurd ⟨_,_,_,hti⟩ hsl
  refine ⟨.void none,fun hc=>?_⟩;obtain ⟨u,r1,r2,r3⟩:=za (x:=x) (y:=y) (hE.ty T) (hE.lv T) (hd x (by simp [Op.operands])) (hd y (by simp [Op.operands])) (by simpa only [de,evCmp_bin] using hc);exact cD hs (by simpa [execOp] using eG r1) (by simpa only [de,evCmp_bin] using r2) (by simpa only [de,evCmp_bin] using r3)
 case makeMap T r=>
  cases r with
  |some r=>exact void fun h hc=>by simp [de,bF] at hc
  |none=>
   by_cases hm:(iZ (E.ty T) (.void none) T B).vc
   ·obtain ⟨h',u,w',r1,r2,r3,r4⟩:=w7 (P:=P) hs hm;exact ⟨h',fun _=>⟨u,w',.inl (by simpa [execOp] using eG r1),r2,r3,r4⟩⟩
   ·refine void fun h hc=>hm ?_;simp only [de] at hc
    cases hti:E.ty T<;>simp only [hti,iZ,bF] at hc ⊢
 case insert T m k x=>
  refine ⟨.void none,fun hc=>?_⟩;simp only [de] at hc ⊢;obtain ⟨w',r1,r2,r3,r4⟩:=rq (hE.ty T) hs (hd m (by simp [Op.operands])) (hd k (by simp [Op.operands])) (hd x (by simp [Op.operands])) hc;exact ⟨undef,w',.inr ⟨by simp [execOp,r1],rfl⟩,r2,by rw [r4];exact .any _,r3⟩
 case mapUpdate T m k x=>
  refine ⟨.void none,fun hc=>?_⟩;simp only [de] at hc ⊢;obtain ⟨w',r1,r2,r3,r4⟩:=rq (hE.ty T) hs (hd m (by simp [Op.operands])) (hd k (by simp [Op.operands])) (hd x (by simp [Op.operands])) hc;exact ⟨undef,w',.inr ⟨by simp [execOp,r1],rfl⟩,r2,by rw [r4];exact .any _,r3⟩
 case lookup T m k ok=>
  refine ⟨.void none,fun hc=>?_⟩;simp only [de] at hc ⊢;obtain ⟨u,r1,r2,r3⟩:=rk (P:=P) (hE.ty T) hs (hd m (by simp [Op.operands])) (hd k (by simp [Op.operands])) hc;exact cD hs (by simpa [execOp] using eG (r1 w fun _ _=>rfl)) r2 r3
 case unOp op T x=>
  refine ⟨.void none,fun hc=>?_⟩;obtain ⟨u,r1,r2,r3⟩:=AU (P:=P) (hd x (by simp [Op.operands])) hc;exact cD hs (by simpa [execOp] using eG r1) r2 r3
 case convert s d x=>
  refine ⟨.void none,fun hc=>?_⟩;have hb:E.ty s≠.bF:=fun e=>by simp [de,e,bF] at hc
  have e1:(de E st (.void none) t B (.convert s d x))=ir (E.ty s) (zJ E (E.ty s)) (E.ty d) B (fD st t x):=by
   simp only [de]
  rw [e1] at hc ⊢;obtain ⟨u,r1,r2,r3⟩:=qx (hE.ty s) (fun e esz eb he=>by rw [he];exact hE.ty e) (hE.ty d) hs (hd x (by simp [Op.operands])) hc hb;exact cD hs (by simpa [execOp] using eG r1) r2 r3
 case makeFunc fn first caps=>
  cases fn<;>try (refine void fun h hc=>?_;simp only [de,bF] at hc;done)
  case func f=>
   refine ⟨.void none,fun hc=>?_⟩
   cases hf:first.toList with
   |nil=>
    simp only [de,hf] at hc ⊢;have hf:first=#[]:=by simpa using hf
    subst hf;refine cD hs (v:= .func (.func f) #[] (caps.map ρ)) (by simp [execOp,Instr.makeFunc]) (.fn (by simp [hlen]) fun i c h=>?_) rfl;have:=hlist caps.toList (fun x hx=>hd x (by simpa [Op.operands] using hx)) i c h;simpa using this
   |cons x r=>
    simp only [de,hf] at hc ⊢;have hc0:caps=#[]:=by simpa using hc
    subst hc0;refine cD hs (v:= .func (.func f) (first.map ρ) #[]) (by simp [execOp,Instr.makeFunc]) (.bm (by rw [←hf];simp [hlen]) fun i c h=>?_) rfl;rw [←hf] at h;have:=hlist first.toList (fun x hx=>hd x (by simpa [Op.operands] using hx)) i c h
    simpa using this
 case makeSlice T l c=>
  by_cases hti:∃e esz eb,E.ty T= .slice e esz eb
  case neg=>exact void fun h hc=>by simp only [de] at hc;cases ht:E.ty T<;>simp [ht,ep,bF] at hc hti
  obtain ⟨e,esz,eb,hti⟩:=hti;by_cases hz:0 < (E.zr e).length
  ·obtain ⟨h',hh⟩:=tZ (zr:=E.zr) (hE.ty T) (fun e' esz' eb' he=>by rw [hti] at he;cases he;exact hE.zr _ hz) hs (hd l (by simp [Op.operands])) (hd c (by simp [Op.operands]));refine ⟨h',fun hc=>?_⟩;obtain ⟨u,w',r1,r2,r3,r4⟩:=hh hc;exact ⟨u,w',.inl (by simpa [execOp] using eG r1),r2,r3,r4⟩
  ·refine void fun h hc=>?_;simp only [de,hti,ep] at hc
   split at hc
   ·omega
   ·exact hc
 case slice T x lo hi mx=>
  refine ⟨.void none,fun hc=>?_⟩;have hopt:∀(o:Option Operand),(∀x∈o.toArray.toList,Den X w (fD st t x) (ρ x))→(∀s,DQ st t o=some s→∃y,o.map ρ=some y∧Den X w s y)∧(DQ st t o=none→o.map ρ=none):=by
   intro o ho
   cases o with
   |none=>exact ⟨by simp [DQ],by simp⟩
   |some x=>exact ⟨fun s hs=>by simp [DQ] at hs;subst hs;exact ⟨_,rfl,ho x (by simp)⟩,by simp [DQ]⟩
  have hall:∀x'∈(Op.slice T x lo hi mx).operands.toList,Den X w (fD st t x') (ρ x'):=hd;obtain ⟨a1,a2⟩:=hopt lo fun y hy=>hall y (by simp [Op.operands] at hy ⊢;exact .inr (.inl hy))
  obtain ⟨b1,b2⟩:=hopt hi fun y hy=>hall y (by simp [Op.operands] at hy ⊢;exact .inr (.inr (.inl hy)))
  obtain ⟨c1,c2⟩:=hopt mx fun y hy=>hall y (by simp [Op.operands] at hy ⊢;exact .inr (.inr (.inr hy)))
  obtain ⟨u,r1,r2,r3⟩:=tt (hE.ty T) hs (hall x (by simp [Op.operands])) a1 a2 b1 b2 c1 c2 hc;exact cD hs (by simpa [execOp] using eG (r1 w)) r2 r3
 case fieldAddr T x f=>
  refine ⟨.void none,fun hc=>?_⟩;obtain ⟨u,r1,r2,r3⟩:=nQ (hE.ty T) (hd x (by simp [Op.operands])) hc;exact cD hs (by simpa [execOp] using eG (r1 w)) r2 r3
 case field T x f=>
  refine ⟨.void none,fun hc=>?_⟩;obtain ⟨u,r1,r2,r3⟩:=tF (hE.ty T) (hd x (by simp [Op.operands])) hc;exact cD hs (by simpa [execOp] using eG (r1 w)) r2 r3
 case indexAddr T x i=>
  refine ⟨.void none,fun hc=>?_⟩;obtain ⟨u,r1,r2,r3⟩:=nP (hE.ty T) (hd x (by simp [Op.operands])) (hd i (by simp [Op.operands])) hc;exact cD hs (by simpa [execOp] using eG (r1 w)) r2 r3
 case index T x i=>
  refine ⟨.void none,fun hc=>?_⟩;obtain ⟨u,r1,r2,r3⟩:=tz (hE.ty T) (hd x (by simp [Op.operands])) (hd i (by simp [Op.operands])) hc;exact cD hs (by simpa [execOp] using eG (r1 w)) r2 r3
 case extract x i=>
  refine ⟨.void none,fun hc=>?_⟩;have hx:=hd x (by simp [Op.operands]);simp only [de] at hc ⊢;generalize fD st t x=s at hx hc ⊢;generalize hv:ρ x=v at hx
  cases hx<;>try (simp only [ll,bF] at hc;done)
  case bS cs vs hsz h=>
   simp only [ll] at hc ⊢;refine cD hs (v:=vs.getD i undef) ?_ (h i _ (get?_of_lt _ hc)) rfl;simp only [execOp,hv,Instr.extract];rw [kv (show i < vs.size by omega)];simp
 case call c=>
  obtain ⟨callee,args,tys⟩:=c
  cases callee<;>try (refine void fun h hc=>?_;simp only [de,bF] at hc;done)
  case builtin b=>
  have hargs:∀x∈args.toList,Den X w (fD st t x) (ρ x):=fun x hx=>hd x (by simp [Op.operands,Call.operands];simpa using hx);obtain ⟨args⟩:=args;obtain ⟨tys⟩:=tys;have hex:∀(h:aN),de E st h t B (.call ⟨.builtin b,args.toArray,tys.toArray⟩)=bH E st h t B b args tys:=fun h=>rfl;have hrun:∀(s:Sem Value) (v:Value) (w':World) (b:Builtin) (hb:∀cs,builtin b tys.toArray type cs (args.toArray.map ρ)=(do pure (.value (←s)):Sem Next)),
    s.run P w= .ok v w'→(execOp ρ ⟨dst,.call ⟨.builtin b,args.toArray,tys.toArray⟩,type,pos,after,guard⟩).run P w= .ok (.value v) w':=by
   intro s v w' b hb hr;simp only [execOp,resolve,Sem.run_bind,Sem.run_pure,Result.andThen_ok,invoke];rw [hb];exact eG hr
  simp only [hex]
  cases b<;>try (refine ⟨.void none,fun hc=>?_⟩;simp only [bH,bF] at hc;done)
  case append=>
   match args,tys,hargs,hrun with
   |[x,y],[T,T2],hargs,hrun=>
    obtain ⟨h',hh⟩:=AJ (ty:=type) (hE.ty T) (hE.ty T2) hs (hargs x (by simp)) (hargs y (by simp));refine ⟨h',fun hc=>?_⟩;obtain ⟨u,w',r1,r2,r3,r4⟩:=hh hc;exact ⟨u,w',.inl (hrun _ _ _ .append (fun _=>rfl) (by simpa using r1)),r2,r3,r4⟩
   |[],_,_,_=>exact ⟨.void none,fun hc=>by simp [bH,bF] at hc⟩
   |[_],_,_,_=>exact ⟨.void none,fun hc=>by simp [bH,bF] at hc⟩
   |_ :: _ :: _ :: _,_,_,_=>exact ⟨.void none,fun hc=>by simp [bH,bF] at hc⟩
   |[_,_],[],_,_=>exact ⟨.void none,fun hc=>by simp [bH,bF] at hc⟩
   |[_,_],[_],_,_=>exact ⟨.void none,fun hc=>by simp [bH,bF] at hc⟩
   |[_,_],_ :: _ :: _ :: _,_,_=>exact ⟨.void none,fun hc=>by simp [bH,bF] at hc⟩
  case copy=>
   match args,tys,hargs,hrun with
   |[x,y],[T,T2],hargs,hrun=>
    refine ⟨.void none,fun hc=>?_⟩;obtain ⟨u,w',r1,r2,r3,r4⟩:=Db (T2:=T2) (ty:=type) (hE.ty T) hs (hargs x (by simp)) (hargs y (by simp)) hc;exact ⟨u,w',.inl (hrun _ _ _ .copy (fun _=>rfl) (by simpa using r1)),r2,r3,r4⟩
   |[],_,_,_=>exact ⟨.void none,fun hc=>by simp [bH,bF] at hc⟩
   |[_],_,_,_=>exact ⟨.void none,fun hc=>by simp [bH,bF] at hc⟩
   |_ :: _ :: _ :: _,_,_,_=>exact ⟨.void none,fun hc=>by simp [bH,bF] at hc⟩
   |[_,_],[],_,_=>exact ⟨.void none,fun hc=>by simp [bH,bF] at hc⟩
   |[_,_],[_],_,_=>exact ⟨.void none,fun hc=>by simp [bH,bF] at hc⟩
   |[_,_],_ :: _ :: _ :: _,_,_=>exact ⟨.void none,fun hc=>by simp [bH,bF] at hc⟩
  case clear=>
   match args,tys,hargs,hrun with
   |[x],[T],hargs,hrun=>
    refine ⟨.void none,fun hc=>?_⟩;obtain ⟨u,w',r1,r2,r3,r4⟩:=B_ (ty:=type) (hE.ty T) hE.zr hs (hargs x (by simp)) hc;exact ⟨u,w',.inl (hrun _ _ _ .clear (fun _=>rfl) (by simpa using r1)),r2,r3,r4⟩
   |[],_,_,_=>exact ⟨.void none,fun hc=>by simp [bH,bF] at hc⟩
   |[_],[],_,_=>exact ⟨.void none,fun hc=>by simp [bH,bF] at hc⟩
   |[_],_ :: _ :: _,_,_=>exact ⟨.void none,fun hc=>by simp [bH,bF] at hc⟩
   |_ :: _ :: _,_,_,_=>exact ⟨.void none,fun hc=>by simp [bH,bF] at hc⟩
  case max=>
   match args,hargs,hrun with
   |[x,y],hargs,hrun=>
    refine ⟨.void none,fun hc=>?_⟩;have hx:=hargs x (by simp);have hy:=hargs y (by simp);simp only [bH] at hc ⊢;generalize fD st t x=sx at *;generalize fD st t y=sy at *;generalize hvx:ρ x=vx at hx;generalize hvy:ρ y=vy at hy
    cases hx<;>try (simp only [BJ,bF] at hc;done)
    cases hy<;>try (simp only [BJ,bF] at hc;done)
    rename_i hx _ _ hy;simp only [BJ] at hc ⊢;subst hc;refine cD hs (hrun _ _ _ .max (fun _=>rfl) ?_) (.int _ _ fun e=>by have:=hx e;have:=hy e;unfold re;split<;>assumption) rfl;simp [Builtin.max_,hvx,hvy,Builtin.max2,re]
   |[],_,_=>exact ⟨.void none,fun hc=>by simp [bH,bF] at hc⟩
   |[_],_,_=>exact ⟨.void none,fun hc=>by simp [bH,bF] at hc⟩
   |_ :: _ :: _ :: _,_,_=>exact ⟨.void none,fun hc=>by simp [bH,bF] at hc⟩
  case min=>
   match args,hargs,hrun with
   |[x,y],hargs,hrun=>
    refine ⟨.void none,fun hc=>?_⟩;have hx:=hargs x (by simp);have hy:=hargs y (by simp);simp only [bH] at hc ⊢;generalize fD st t x=sx at *;generalize fD st t y=sy at *;generalize hvx:ρ x=vx at hx;generalize hvy:ρ y=vy at hy
    cases hx<;>try (simp only [DS,bF] at hc;done)
    cases hy<;>try (simp only [DS,bF] at hc;done)
    rename_i hx _ _ hy;simp only [DS] at hc ⊢;subst hc;refine cD hs (hrun _ _ _ .min (fun _=>rfl) ?_) (.int _ _ fun e=>by have:=hx e;have:=hy e;unfold GS;split<;>assumption) rfl;simp [Builtin.min_,hvx,hvy,Builtin.min2,GS]
   |[],_,_=>exact ⟨.void none,fun hc=>by simp [bH,bF] at hc⟩
   |[_],_,_=>exact ⟨.void none,fun hc=>by simp [bH,bF] at hc⟩
   |_ :: _ :: _ :: _,_,_=>exact ⟨.void none,fun hc=>by simp [bH,bF] at hc⟩
  case len=>
   match args,tys,hargs,hrun with
   |[x],[T],hargs,hrun=>
    refine ⟨.void none,fun hc=>?_⟩;have hx:=hargs x (by simp);simp only [bH] at hc ⊢;generalize fD st t x=sx at *;generalize hvx:ρ x=vx at hx;have ht:=hE.ty T
    cases hti:E.ty T<;>simp only [hti] at hc ht ⊢ <;>try (simp only [tG,bF] at hc;done)
    case string=>
     have hu:=iP ht
     cases hx<;>try (simp only [tG,bF] at hc;done)
     refine cD hs (hrun _ _ _ .len (fun _=>rfl) ?_) (.int _ _ .i64) rfl;have hsz:∀l:List UInt8,(ByteArray.mk l.toArray).size=l.length:=fun l=>by simp [ByteArray.size]
     simp only [List.map_toArray,map_cons,map_nil,hvx,Builtin.len_,List.getElem?_toArray,List.getElem?_cons_zero,Sem.run_bind,run_underlying hu,Result.andThen_ok,Sem.run_pure,goInt,hsz]
    case slice e esz eb=>
     obtain ⟨hu,_⟩:=eN ht
     cases hx<;>try (simp only [tG,bF] at hc;done)
     all_goals
      refine cD hs (hrun _ _ _ .len (fun _=>rfl) ?_) (.int _ _ .i64) rfl;simp [Builtin.len_,hvx,run_underlying hu,goInt]
    case array n a e=>
     obtain ⟨e',hu,_⟩:=mJ ht;refine cD hs (hrun _ _ _ .len (fun _=>rfl) ?_) (.int _ _ .i64) rfl;simp [Builtin.len_,run_underlying hu,goInt]
   |[],_,_,_=>exact ⟨.void none,fun hc=>by simp [bH,bF] at hc⟩
   |_ :: _ :: _,_,_,_=>exact ⟨.void none,fun hc=>by simp [bH,bF] at hc⟩
   |[_],[],_,_=>exact ⟨.void none,fun hc=>by simp [bH,bF] at hc⟩
   |[_],_ :: _ :: _,_,_=>exact ⟨.void none,fun hc=>by simp [bH,bF] at hc⟩
  case cap=>
   match args,tys,hargs,hrun with
   |[x],[T],hargs,hrun=>
    refine ⟨.void none,fun hc=>?_⟩;have hx:=hargs x (by simp);simp only [bH] at hc ⊢;generalize fD st t x=sx at *;generalize hvx:ρ x=vx at hx;have ht:=hE.ty T
    cases hti:E.ty T<;>simp only [hti] at hc ht ⊢ <;>try (simp only [BK,bF] at hc;done)
    case slice e esz eb=>
     obtain ⟨hu,_⟩:=eN ht
     cases hx<;>try (simp only [BK,bF] at hc;done)
     case gC full _ _ _ cap hf=>
      cases full
      ·simp only [BK,bF] at hc
      ·have:=hf rfl;subst this;refine cD hs (hrun _ _ _ .cap (fun _=>rfl) ?_) (.int _ _ .i64) rfl;simp [Builtin.cap_,hvx,run_underlying hu,goInt]
     case na full _ n _ _ _ cap _ _ _ hf _ _ _ _=>
      cases full
      ·simp only [BK,bF] at hc
      ·have:=hf rfl;subst this;refine cD hs (hrun _ _ _ .cap (fun _=>rfl) ?_) (.int _ _ .i64) rfl;simp [Builtin.cap_,hvx,run_underlying hu,goInt]
   |[],_,_,_=>exact ⟨.void none,fun hc=>by simp [bH,bF] at hc⟩
   |_ :: _ :: _,_,_,_=>exact ⟨.void none,fun hc=>by simp [bH,bF] at hc⟩
   |[_],[],_,_=>exact ⟨.void none,fun hc=>by simp [bH,bF] at hc⟩
   |[_],_ :: _ :: _,_,_=>exact ⟨.void none,fun hc=>by simp [bH,bF] at hc⟩
end
abbrev aV:=List (Nat×SV)
abbrev gX:=Exit→aV→List aI→Prop
structure St (X:Nat→Prop) (w:World) (B:List aI) (t:aV) (n:Nat) (a:Act):Prop where
 defers:a.defers=[]
 sat:Sat X w B
 den:wU X w t n a.tmps
def Good (n:Nat) (Q:gX) (X0:Nat→Prop) (w0:World) (B0:List aI):Exit→Act→World→Prop:=
 fun e a w=>∃X t B,Q e t B∧St X w B t n a∧Ext X0 w0 B0 X w B
def EV (P:Program) (n:Nat) (c:Code) (t:aV) (B:List aI) (Q:gX):Prop:=
 ∀X0 w0 B0 X w a,Ext X0 w0 B0 X w B→St X w B t n a→c.wp P (Good n Q X0 w0 B0) a w
def EO (P:Program) (n:Nat) (all l:List Oper) (t:aV) (B:List aI) (K:aV→List aI→Prop):Prop:=
 ∀(Q:gX),(∀t B,K t B→Q .normal t B)→∀X0 w0 B0 X w a,Ext X0 w0 B0 X w B→St X w B t n a→wpList P all.toArray (Good n Q X0 w0 B0) l a w
def Cm (X:Nat→Prop) (w:World) (args:List SV) (vs:Array Value):Prop:=vs.size=args.length∧∀(i:Nat) (c:SV),args[i]?=some c→Den X w c (vs.getD i undef)
def fK (P:Program) (f:FuncId):Bool:=match P.funcs[f]? with
 |some fn=>!(fn.name == "runtime.NumGoroutine") && fn.body.isSome
 |none=>false
def EC (P:Program) (f:FuncId) (args:List SV) (B:List aI) (Q:SV→List aI→Prop):Prop:=
 fK P f=true∧∀X w vs,Sat X w B→Cm X w args vs→Calls P f vs w (fun e w'=>∃v r X' B',e= .returned v∧Q r B'∧Sat X' w' B'∧Den X' w' r v∧Ext X w B X' w' B')
theorem EC.mono {P f args B Q Q'} (h:EC P f args B Q) (hq:∀r B',Q r B'→Q' r B'):EC P f args B Q':=
 ⟨h.1,fun X w vs hs hd=>(h.2 X w vs hs hd).mono fun _ _ ⟨v,r,X',B',he,hr,r1⟩=>⟨v,r,X',B',he,hq r B' hr,r1⟩⟩
theorem EC.RL {P f args B Q} {i:Nat} {n:Int} (hi:args[i]?=some (.int .u64 n)) (hc:fK P f=true) (h:0≤n→EC P f args B Q):EC P f args B Q:=by
 refine ⟨hc,fun X w vs hs hd=>?_⟩;have key:∀v,Den X w (.int .u64 n) v→0≤n:=fun v hv=>by
  cases hv with
  |int _ _ h0=>exact h0 rfl
 exact (h (key _ (hd.2 i _ hi))).2 X w vs hs hd
theorem Good.mono {n Q Q' X0 w0 B0 e a w} (h:Good n Q X0 w0 B0 e a w) (hq:∀t B,Q e t B→Q' e t B):Good n Q' X0 w0 B0 e a w:=
 let ⟨X,t,B,h1,h2⟩:=h;⟨X,t,B,hq t B h1,h2⟩
theorem EV.mono {P n c t B} {Q Q':gX} (h:EV P n c t B Q) (hq:∀e t B,Q e t B→Q' e t B):EV P n c t B Q':=
 fun X0 w0 B0 X w a he hs=>wp_mono (h X0 w0 B0 X w a he hs) fun e _ _ hg=>hg.mono (hq e)
section
variable {P:Program} {n:Nat} {t:aV} {B:List aI} {Q:gX}
theorem uP (h:Q .normal t B):EV P n .skip t B Q:=fun _ _ _ X _ _ he hs=>wp_skip ⟨X,t,B,h,hs,he⟩
theorem AL (h:Q .ret t B):EV P n .ret t B Q:=fun _ _ _ X _ _ he hs=>wp_ret ⟨X,t,B,h,hs,he⟩
theorem uQ {id:Nat} (h:Q (.exit id) t B):EV P n (.exit id) t B Q:=fun _ _ _ X _ _ he hs=>wp_exit ⟨X,t,B,h,hs,he⟩
theorem rX {l:Nat} (h:Q .normal t B):EV P n (.label l) t B Q:=fun _ _ _ X _ _ he hs=>wp_label ⟨X,t,B,h,hs,he⟩
def gy (K:aV→List aI→Prop) (Q:gX):gX
 | .normal,t,B=>K t B
 |e,t,B=>Q e t B
theorem ph {x y:Code} (h:∀K:aV→List aI→Prop,(∀t B,EV P n y t B Q→K t B)→EV P n x t B (gy K Q)):EV P n (.seq x y) t B Q:=by
 intro X0 w0 B0 X w a he hs;refine wp_seq (wp_mono (h _ (fun _ _ h=>h) X0 w0 B0 X w a he hs) fun e a' w' hg=>?_);obtain ⟨X',t',B',h1,h2,h3⟩:=hg
 cases e with
 |normal=>exact h1 X0 w0 B0 X' w' a' h3 h2
 |_=>exact ⟨X',t',B',h1,h2,h3⟩
def jM (id:Nat) (Q:gX):gX
 | .exit id',t,B=>if id'=id then Q .normal t B else Q (.exit id') t B
 |e,t,B=>Q e t B
theorem lV {id:Nat} {c:Code} (h:EV P n c t B (jM id Q)):EV P n (.block id c) t B Q:=by
 intro X0 w0 B0 X w a he hs;refine wp_block (wp_mono (h X0 w0 B0 X w a he hs) fun e a' w' hg=>?_);obtain ⟨X',t',B',h1,h2,h3⟩:=hg
 cases e with
 |exit id'=>
  simp only [jM] at h1;simp only [Exit.inBlock];by_cases hid:id'=id
  ·simp only [hid,if_true] at h1 ⊢;exact ⟨X',t',B',h1,h2,h3⟩
  ·simp only [hid,if_false] at h1 ⊢;exact ⟨X',t',B',h1,h2,h3⟩
 |_=>exact ⟨X',t',B',h1,h2,h3⟩
theorem az {c:Operand} {x y:Code} {p:Bool} (hc:ev t c= .bool p) (h1:p=true→EV P n x t B Q) (h2:p=false→EV P n y t B Q):EV P n (.cond c x y) t B Q:=by
 intro X0 w0 B0 X w a he hs;have hd:=lP hs.sat.xg hs.den c;rw [hc] at hd;have ha:a.eval c= .bool p:=by
  generalize a.eval c=v at hd
  cases hd;rfl
 exact wp_cond_split ha (fun hp=>h1 hp X0 w0 B0 X w a he hs) (fun hp=>h2 hp X0 w0 B0 X w a he hs)
def kA (t:aV):aV→Prop
 |[]=>True
 |(i,v) :: r=>dd t i=v∧kA t r
theorem FX {t t':aV} (h:kA t t') (i:Nat):dd t' i= .any∨dd t i=dd t' i:=by
 induction t' with
 |nil=>exact .inl rfl
 |cons p r ih=>
  obtain ⟨j,v⟩:=p;simp only [kA] at h;simp only [dd];by_cases e:i=j
  ·subst e;simp only [if_true];exact .inr h.1
  ·simp only [e,if_false];exact ih h.2
theorem eQ {m i:Nat}:au (B.take m) i=if i < m then au B i else .gone:=by
 unfold au;simp only [List.getD_eq_getElem?_getD,List.getElem?_take]
 split<;>simp
theorem Sat.take {X w} (hs:Sat X w B) (m:Nat):Sat X w (B.take m):=by
 have hb:∀i b,b∈(au (B.take m) i).blocks→b∈(au B i).blocks:=fun i b h=>by
  rw [eQ] at h
  split at h
  ·exact h
  ·simp [aI.blocks] at h
 refine ⟨fun i j b hi hj=>hs.inj i j b (hb i b hi) (hb j b hj),fun i b hi=>hs.lt i b (hb i b hi),hs.xg,fun b hx ⟨i,hi⟩=>hs.apart b hx ⟨i,hb i b hi⟩,fun i=>?_⟩;rw [eQ]
 split
 ·exact hs.ok i
 ·trivial
theorem Ext.take {X w} (m:Nat):Ext X w B X w (B.take m):=by
 refine ⟨rfl,rfl,rfl,le_refl _,fun _ _ _=>rfl,fun _ h=>h,fun _ h=> .inl h,fun b ⟨i,hi⟩=> .inl ⟨i,?_⟩⟩;rw [eQ] at hi
 split at hi
 ·exact hi
 ·simp [aI.blocks] at hi
theorem St.Kf {X w a} {t':aV} (hs:St X w B t n a) (h:kA t t') (m:Nat):St X w (B.take m) t' n a:=
 ⟨hs.defers,hs.sat.take m,hs.den.1,fun i=>by
  rcases FX h i with h1|h1
  ·rw [h1];exact .any _
  ·rw [←h1];exact hs.den.2 i⟩
theorem IV {c:Code} {t':aV} (m:Nat) (h:kA t t') (hv:EV P n c t' (B.take m) Q):EV P n c t B Q:=
 fun X0 w0 B0 X w a he hs=>hv X0 w0 B0 X w a (he.trans (Ext.take m)) (hs.Kf h m)
theorem D5 {σ:Type} (S:σ→aV) (R:σ→List aI) (Inv:σ→Prop) (μ:σ→Nat) (s0:σ) {c:Code} (h0:Inv s0) (hw:kA t (S s0)) (hb:B.take (R s0).length=R s0)
  (round:∀s,Inv s→EV P n c (S s) (R s) (gy (fun t' B'=>∃s',Inv s'∧μ s' < μ s∧kA t' (S s')∧B'.take (R s').length=R s') Q)):EV P n (.loop c) t B Q:=by
 intro X0 w0 B0 X w a he hs;have start:∃s X,Inv s∧St X w (R s) (S s) n a∧Ext X0 w0 B0 X w (R s):=by
  refine ⟨s0,X,h0,?_,?_⟩
  ·rw [←hb];exact hs.Kf hw _
  ·rw [←hb];exact he.trans (Ext.take _)
 intro b k cs;have key:∀m (s:σ) X a w,μ s=m→Inv s→St X w (R s) (S s) n a→Ext X0 w0 B0 X w (R s)→
   ∃e a' w',Good n Q X0 w0 B0 e a' w'∧Arrives P (lone (b.at a (.code c :: .inLoop c :: k)) cs w) b k cs e a' w':=by
  intro m
  induction m using Nat.strongRecOn with
  |_ m ih=>
   intro s X a w hm hI hst hex;obtain ⟨e,a₁,w₁,hq,harr⟩:=round s hI X0 w0 B0 X w a hex hst b (.inLoop c :: k) cs;obtain ⟨X1,t1,B1,hQ,hst1,hex1⟩:=hq
   cases e with
   |normal=>
    obtain ⟨s',hI',hlt,hwk,hbk⟩:=hQ;obtain ⟨e₂,a₂,w₂,hq₂,harr₂⟩:=ih (μ s') (hm▸hlt) s' X1 a₁ w₁ rfl hI' (by rw [←hbk];exact hst1.Kf hwk _) (by rw [←hbk];exact hex1.trans (Ext.take _));exact ⟨e₂,a₂,w₂,hq₂,.of_steps (Steps.trans harr (.one step_inLoop)) harr₂⟩
   |exit id=>exact ⟨_,a₁,w₁,⟨X1,t1,B1,hQ,hst1,hex1⟩,.pass (x:= .inLoop c) rfl (fun _ _=> .inl (by simp)) harr⟩
   |goto l=>exact ⟨_,a₁,w₁,⟨X1,t1,B1,hQ,hst1,hex1⟩,.pass (x:= .inLoop c) rfl (fun _ _=> .inl (by simp)) harr⟩
   |ret=>exact ⟨_,a₁,w₁,⟨X1,t1,B1,hQ,hst1,hex1⟩,.pass (x:= .inLoop c) rfl (fun _ _=> .inl (by simp)) harr⟩
   |panic ch=>exact ⟨_,a₁,w₁,⟨X1,t1,B1,hQ,hst1,hex1⟩,.pass (x:= .inLoop c) rfl (fun _ _=> .inl (by simp)) harr⟩
   |outgrown=>exact ⟨_,a₁,w₁,⟨X1,t1,B1,hQ,hst1,hex1⟩,.pass (x:= .inLoop c) rfl (fun _ _=> .inl (by simp)) harr⟩
 obtain ⟨s,X',hI,hst,hex⟩:=start;obtain ⟨e,a',w',hq,harr⟩:=key _ s X' a w rfl hI hst hex;exact ⟨e,a',w',hq,.of_steps (.one step_loop) harr⟩
def eF (n:Nat) (t:aV) (d:Option Nat) (v:SV):aV:=match d with
 |some d=>if d < n then (d,v) :: t else t
 |none=>t
theorem gJ {X w a} {d:Option Nat} {s:SV} {v:Value} (h:wU X w t n (Act.tmps a)) (hd:Den X w s v):wU X w (eF n t d s) n (a.put d v).tmps:=by
 cases d with
 |none=>exact h
 |some d=>
  obtain ⟨h1,h2⟩:=h;simp only [eF,Act.put];by_cases hlt:d < n
  ·rw [if_pos hlt];refine ⟨by simpa using h1,fun i=>?_⟩;simp only [dd];by_cases e:i=d
   ·subst e;simp only [if_true];simpa [Array.getD_eq_getD_getElem?,h1,hlt] using hd
   ·simp only [e,if_false];have:=h2 i;have hne:d≠i:=fun h=>e h.symm;simpa [Array.getD_eq_getD_getElem?,Array.getElem?_setIfInBounds_ne hne] using this
  ·rw [if_neg hlt];refine ⟨by simpa using h1,fun i=>?_⟩;have:=h2 i;have e:a.tmps.setIfInBounds d v=a.tmps:=by
    apply Array.ext
    ·simp
    ·intro j hj1 hj2;rw [Array.getElem_setIfInBounds_ne];omega
   rw [e];exact this
inductive O_ where
 |done (t:aV) (B:List aI)
 |AE (c:Prop) (r:O_)
 |call (f:FuncId) (args:List SV) (d:Option Nat) (rest:List Oper) (t:aV) (B:List aI)
 |DV (c:Bool) (f:FuncId) (args:List SV) (d:Option Nat) (rest:List Oper) (t:aV) (B:List aI)
 |split (c:Bool) (o:Oper) (rest:List Oper) (t:aV) (B:List aI)
def h_ (st:Bool) (t:aV) (o:Op):Option (FuncId×List SV):=match o with
 | .call c=>match c.callee with
  | .value f=>match fD st t f with
   | .fn g caps=>some (g,AR st t c.args.toList ++ caps)
   | .bm g first=>some (g,first ++ AR st t c.args.toList)
   |_=>none
  |_=>none
 |_=>none
def iz (t:aV):List Operand→Prop
 |[]=>True
 | .tmp i :: r=>(dd t i).cond=true∧iz t r
 |_ :: r=>iz t r
def j_:Op→List Operand
 | .move x| .assign x=>[x]
 | .load _ x| .nilCheck x| .unOp _ _ x| .convert _ _ x| .fieldAddr _ x _| .field _ x _| .extract x _=>[x]
 | .build _ ps=>ps.toList.map (·.2)
 | .binOp _ _ a v _| .indexAddr _ a v| .index _ a v=>[a,v]
 | .makeFunc _ f c=>f.toList ++ c.toList
 | .slice _ x l h m=>[x] ++ l.toList ++ h.toList ++ m.toList
 | .lookup _ m k _=>[m,k]
 | .call c=>match c.callee with
  | .value f=>f :: c.args.toList
  |_=>c.args.toList
 |_=>[]
def quiet:Op→Bool
 | .move _| .assign _| .pick .. | .load .. | .nilCheck _| .unOp .. | .convert .. | .fieldAddr .. | .field .. | .extract .. | .build .. | .binOp .. | .indexAddr .. | .index .. | .makeFunc .. | .slice .. | .lookup .. =>true
 | .call c=>match c.callee with
  | .builtin .len| .builtin .cap| .builtin .max| .builtin .min=>true
  |_=>false
 |_=>false
def guardOf (all:List Oper) (t:aV) (j:Nat) (want:Bool):Option Bool:=match all[j]? with
 |some o=>match o.dst with
  |some d=>match dd t d with
   | .bool b=>some (b == want)
   | .opt c (.bool b)=>some (c && (b == want))
   |_=>none
  |none=>none
 |none=>none
def run (E:Env) (n:Nat) (all:List Oper) (fr:Nat→aN):Nat→List Oper→aV→List aI→O_
 |_,[],t,B=> .done t B
 |k,o :: r,t,B=>match o.guard with
  |none=>match h_ false t o.op with
   |some (f,args)=> .call f args o.dst r t B
   |none=>match de E false (fr k) t B o.op with
    |⟨v,B',c⟩=> .AE c (run E n all fr (k+1) r (eF n t o.dst v) B')
  |some (j,want)=>match guardOf all t j want with
   |some c=>match h_ true t o.op with
    |some (f,args)=> .AE (c=true→iz t (j_ o.op)) (.DV c f args o.dst r t B)
    |none=>match quiet o.op with
     |true=>match de E true (fr k) t B o.op with
      |⟨v,B',vc⟩=> .AE (c=true→iz t (j_ o.op)∧vc∧B'=B) (run E n all fr (k+1) r (eF n t o.dst (.opt c v)) B)
     |false=> .split c o r t B
   |none=> .AE False (.done t B)
def uD (o:Oper):Oper:={o with guard:=none}
def holds (P:Program) (n:Nat) (all:List Oper) (K:aV→List aI→Prop):O_→Prop
 | .done t B=>K t B
 | .AE c r=>c∧holds P n all K r
 | .call f args d rest t B=>EC P f args B fun r B'=>EO P n all rest (eF n t d r) B' K
 | .DV c f args d rest t B=>(c=true→EC P f args B fun r B'=>EO P n all rest (eF n t d r) B' K)∧(c=false→EO P n all rest (eF n t d (.opt false (.bool false))) B K)
 | .split c o rest t B=>(c=true→EO P n all (uD o :: rest) t B K)∧(c=false→EO P n all rest (eF n t o.dst (.opt false (.bool false))) B K)
end
section
variable {P:Program} {E:Env} {n:Nat} {all:List Oper}
theorem py {fr fr':Nat→aN}:∀(l:List Oper) (k:Nat) (t:aV) (B:List aI),(∀i,k≤i→fr i=fr' i)→run E n all fr k l t B=run E n all fr' k l t B
 |[],_,_,_,_=>rfl
 |o :: r,k,t,B,h=>by
  have hk:=h k (le_refl _);have ih:=fun t B=>py r (k+1) t B fun i hi=>h i (by omega);simp only [run];rw [hk]
  split
  ·split
   ·rfl
   ·simp only [ih]
  ·split
   ·split
    ·rfl
    ·split
     ·simp only [ih]
     ·rfl
   ·rfl
theorem rv {X:Nat→Prop} {w:World} {t:aV} {tmps:Array Value} {j:Nat} {want c:Bool} (h:guardOf all t j want=some c) (hd:wU X w t n tmps) (o:Oper) (hg:o.guard=some (j,want)):
  Region.wanted o (yielded all.toArray tmps)=c:=by
 simp only [Region.wanted,hg];unfold guardOf at h
 cases ho:all[j]? with
 |none=>simp [ho] at h
 |some oj=>
  simp only [ho] at h
  cases hdst:oj.dst with
  |none=>simp [hdst] at h
  |some d=>
   simp only [hdst] at h;have hy:yielded all.toArray tmps j=match tmps[d]? with|some (.bool b)=>some b|_=>none:=by
    simp only [yielded,List.getElem?_toArray,ho,Option.bind_some,hdst];rfl
   have hden:=hd.2 d;rw [hy];have hget:tmps.getD d undef=(tmps[d]?).getD undef:=by simp
   split at h
   ·rename_i b hl;simp only [Option.some.injEq] at h;subst h;rw [hl] at hden
    cases hv:tmps[d]? with
    |none=>rw [hget,hv] at hden;simp [undef] at hden;cases hden
    |some v=>rw [hget,hv] at hden;simp at hden;cases hden;cases b<;>cases want<;>rfl
   ·rename_i c b hl;simp only [Option.some.injEq] at h;subst h;rw [hl] at hden
    cases hden with
    |opt h1 h2=>
     cases c
     ·have:=h2 rfl
      cases hv:tmps[d]? with
      |none=>simp
      |some v=>rw [hget,hv] at this;simp at this;subst this;simp [undef]
     ·have:=h1 rfl
      cases hv:tmps[d]? with
      |none=>rw [hget,hv] at this;simp [undef] at this;cases this
      |some v=>rw [hget,hv] at this;simp at this;cases this;cases b<;>cases want<;>rfl
   ·cases h
theorem fQ {X:Nat→Prop} {w:World} {t:aV} {a:Act} (hx:XG X w) (hd:wU X w t n a.tmps) (x:Operand):Den X w (fD false t x) (a.eval x):=lP hx hd x
theorem Fw {X:Nat→Prop} {w:World} {s:SV} {v:Value} (h:Den X w s v) (hc:s.cond=true):Den X w s.strip v:=by
 by_cases ho:∃c s',s= .opt c s'
 ·obtain ⟨c,s',rfl⟩:=ho
  cases h with
  |opt h1 _=>exact h1 hc
 ·have:s.strip=s:=by cases s<;>first|rfl|exact absurd ⟨_,_,rfl⟩ ho
  rw [this];exact h
theorem kt {t:aV}:∀{l:List Operand},iz t l→∀i,Operand.tmp i∈l→(dd t i).cond=true
 |[],_,i,h=>by simp at h
 | .tmp j :: l,h,i,hm=>by
  simp only [iz] at h;rcases List.mem_cons.1 hm with e|e
  ·cases e;exact h.1
  ·exact kt h.2 i e
 | .const _ :: l,h,i,hm=>by
  rcases List.mem_cons.1 hm with e|e
  ·cases e
  ·exact kt (l:=l) h i e
 | .global _ :: l,h,i,hm=>by
  rcases List.mem_cons.1 hm with e|e
  ·cases e
  ·exact kt (l:=l) h i e
 | .func _ :: l,h,i,hm=>by
  rcases List.mem_cons.1 hm with e|e
  ·cases e
  ·exact kt (l:=l) h i e
theorem Bo (v:Value):(SV.qH v).cond=true:=by unfold SV.qH;split<;>first|rfl|(unfold SV.ofInt;split<;>(try split)<;>rfl)
theorem k7 {X:Nat→Prop} {w:World} {t:aV} {a:Act} (hg:XG X w) (hd:wU X w t n a.tmps) {l:List Operand} (hc:iz t l) (x:Operand) (hx:x∈l):Den X w (fD true t x) (a.eval x):=by
 refine Fw (lP hg hd x) ?_
 cases x with
 |tmp i=>exact kt hc i hx
 |const v=>
  simp only [ev,SV.Bn]
  split
  ·rfl
  ·exact Bo _
 |func f=>rfl
 |global g=>show (match GV g with|[]=>SV.any|cs=> .xp cs).cond=true;cases GV g<;>rfl
theorem lT {X:Nat→Prop} {w:World} {st:Bool} {t:aV} {a:Act} {o:Oper} {f:FuncId} {args:List SV} (h:h_ st t o.op=some (f,args)) (hd:∀x∈j_ o.op,Den X w (fD st t x) (a.eval x))
  (hc:fK P f=true):∃vals,(execOp a.eval o).run P w= .ok (.enter f vals) w∧Cm X w args vals:=by
 obtain ⟨dst,op,type,pos,after,guard⟩:=o;simp only at h hd;unfold h_ at h
 cases op<;>simp only at h<;>try (cases h;done)
 case call c=>
  obtain ⟨callee,as,tys⟩:=c
  cases callee<;>simp only at h<;>try (cases h;done)
  case value fo=>
   have hlist:∀(l:List Operand),(∀x∈l,Den X w (fD st t x) (a.eval x))→∀(i:Nat) (c:SV),(AR st t l)[i]?=some c→Den X w c ((l.map a.eval).getD i undef):=by
    intro l
    induction l with
    |nil=>intro _ i c h;simp [AR] at h
    |cons x l ih=>
     intro hl i c h
     cases i with
     |zero=>simp [AR] at h;subst h;simpa using hl x (List.mem_cons_self ..)
     |succ i=>simpa using ih (fun y hy=>hl y (List.mem_cons_of_mem _ hy)) i c (by simpa [AR] using h)
   have hlen:∀(l:List Operand),(AR st t l).length=l.length:=by intro l;induction l with|nil=>rfl|cons x l ih=>simp [AR,ih]
   have hfo:=hd fo (by simp [j_]);have has:=hlist as.toList fun x hx=>hd x (by simp [j_];exact .inr (by simpa using hx))
   split at h
   ·rename_i g caps hg;simp only [Option.some.injEq,Prod.mk.injEq] at h;obtain ⟨rfl,rfl⟩:=h;rw [hg] at hfo;generalize hv:a.eval fo=v at hfo
    cases hfo with
    |fn hsz hcaps=>
     rename_i vs;refine ⟨as.map a.eval ++ vs,?_,?_,?_⟩
     ·simp only [execOp,resolve,Sem.run_bind,hv,Deferred.ofValue,Sem.run_pure,Result.andThen_ok,invoke,callFunc,run_program];unfold fK at hc
      cases hf:P.funcs[g]? with
      |none=>simp [hf] at hc
      |some fn=>
       simp only [hf,Bool.and_eq_true,Bool.not_eq_true',beq_eq_false_iff_ne,ne_eq] at hc;obtain ⟨h1,h2⟩:=hc;have h2':fn.body.isNone=false:=by cases hb:fn.body<;>simp [hb] at h2 ⊢
       simp [h1,h2']
     ·simp [hlen,hsz]
     ·intro i c hic;rw [List.getElem?_append] at hic
      split at hic
      ·rename_i hi;have:=has i c hic;rw [hlen] at hi;simp only [Array.getD_eq_getD_getElem?,List.getD_eq_getElem?_getD,List.getElem?_map] at this ⊢;rw [Array.getElem?_append_left (by simpa using hi)];simpa using this
      ·rename_i hi;have:=hcaps _ c hic;rw [hlen] at hi this;simp only [Array.getD_eq_getD_getElem?] at this ⊢;rw [Array.getElem?_append_right (by simpa using hi)];simpa using this
   ·rename_i g caps hg;simp only [Option.some.injEq,Prod.mk.injEq] at h;obtain ⟨rfl,rfl⟩:=h;rw [hg] at hfo;generalize hv:a.eval fo=v at hfo
    cases hfo with
    |bm hsz hcaps=>
     rename_i vs;refine ⟨vs ++ as.map a.eval,?_,?_,?_⟩
     ·simp only [execOp,resolve,Sem.run_bind,hv,Deferred.ofValue,Sem.run_pure,Result.andThen_ok,invoke,callFunc,run_program];unfold fK at hc
      cases hf:P.funcs[g]? with
      |none=>simp [hf] at hc
      |some fn=>
       simp only [hf,Bool.and_eq_true,Bool.not_eq_true',beq_eq_false_iff_ne,ne_eq] at hc;obtain ⟨h1,h2⟩:=hc;have h2':fn.body.isNone=false:=by cases hb:fn.body<;>simp [hb] at h2 ⊢
       simp [h1,h2']
     ·simp [hlen,hsz]
     ·intro i c hic;rw [List.getElem?_append] at hic
      split at hic
      ·rename_i hi;have:=hcaps i c hic;rw [←hsz] at hi;simp only [Array.getD_eq_getD_getElem?] at this ⊢;rw [Array.getElem?_append_left (by simpa using hi)];simpa using this
      ·rename_i hi;have:=has _ c hic;rw [←hsz] at hi this;simp only [Array.getD_eq_getD_getElem?,List.getD_eq_getElem?_getD,List.getElem?_map] at this ⊢;rw [Array.getElem?_append_right (by simpa using hi)];simpa using this
   ·cases h
theorem tx {op:Op} (h:quiet op=true):∀x∈op.operands.toList,(∃c a b,op= .pick c a b)∨x∈j_ op:=by
 cases op<;>simp only [quiet,Bool.false_eq_true] at h
 case pick c a b=>exact fun x _=> .inl ⟨c,a,b,rfl⟩
 case call c=>
  intro x hx;refine .inr ?_;obtain ⟨callee,as,tys⟩:=c
  cases callee<;>simp only [Bool.false_eq_true] at h
  case builtin b=>
   simpa [Op.operands,Call.operands,j_] using hx
 case slice=>intro x hx;exact .inr (by simpa [Op.operands,j_] using hx)
 case makeFunc=>intro x hx;exact .inr (by simpa [Op.operands,j_] using hx)
 case build=>intro x hx;exact .inr (by simpa [Op.operands,j_] using hx)
 all_goals (intro x hx;exact .inr (by simpa [Op.operands,j_] using hx))
theorem iY {X:Nat→Prop} {w:World} {B:List aI} (hE:cI P E) {st:Bool} {t:aV} {a:Act} {o:Oper} (hs:Sat X w B) (hd:wU X w t n a.tmps) (hst:st=true→quiet o.op=true∧iz t (j_ o.op)):
  ∃h,(de E st h t B o.op).vc→AO P X w B (execOp a.eval o) (de E st h t B o.op):=by
 by_cases hp:∃c x y,o.op= .pick c x y
 ·obtain ⟨c,x,y,hp⟩:=hp;refine ⟨.void none,fun hc=>?_⟩;rw [hp] at hc ⊢;obtain ⟨r,h1,h2,h3⟩:=nq (P:=P) (lP hs.xg hd c) (lP hs.xg hd x) (lP hs.xg hd y) hc;exact cD hs (by simpa [execOp,hp] using h1) h2 h3
 ·refine C0 hE hs (fun x=>lP hs.xg hd x) (fun _=>rfl) fun x hx=>?_
  cases st with
  |false=>exact fQ hs.xg hd x
  |true=>
   obtain ⟨h1,h2⟩:=hst rfl;rcases tx h1 x hx with ⟨c,a',b,e⟩|h3
   ·exact absurd ⟨c,a',b,e⟩ hp
   ·exact k7 hs.xg hd h2 x h3
theorem LQ {t:aV} {B:List aI} {K:aV→List aI→Prop} (h:K t B):EO P n all [] t B K:=
 fun _ hQ _ _ _ X _ _ he hs=>wpList_nil ⟨X,t,B,hQ t B h,hs,he⟩
theorem JQ {o:Oper} {r:List Oper} {t:aV} {B:List aI} {K:aV→List aI→Prop} (hw:∀X w a,St X w B t n a→Region.wanted o (yielded all.toArray a.tmps)=true)
  (h:∀X w a,St X w B t n a→∃out:Out,AO P X w B (execOp a.eval o) out∧EO P n all r (eF n t o.dst out.v) out.B K):EO P n all (o :: r) t B K:=by
 intro Q hQ X0 w0 B0 X w a he hs;unfold wpList;rw [if_pos (hw X w a hs)];left;obtain ⟨out,⟨v,w',hrun,hsat,hden,hext⟩,hr⟩:=h X w a hs;have hst:St X w' out.B (eF n t o.dst out.v) n (a.put o.dst v):=by
  refine ⟨?_,hsat,?_⟩
  ·have:=hs.defers;cases o.dst<;>simpa [Act.put] using this
  ·exact gJ ⟨hs.den.1,fun i=>(hs.den.2 i).ext hs.sat hext⟩ hden
 have:=hr Q hQ X0 w0 B0 X w' _ (he.trans hext) hst;unfold Oper.wp;rcases hrun with hrun|⟨hrun,rfl⟩
 ·rw [hrun];exact this
 ·rw [hrun];exact this
theorem D7 {o:Oper} {r:List Oper} {t:aV} {B:List aI} {K:aV→List aI→Prop} {f:FuncId} {args:List SV} (hw:∀X w a,St X w B t n a→Region.wanted o (yielded all.toArray a.tmps)=true)
  (hrun:∀X w a,St X w B t n a→∃vals,(execOp a.eval o).run P w= .ok (.enter f vals) w∧Cm X w args vals)
  (h:EC P f args B fun s B'=>EO P n all r (eF n t o.dst s) B' K):EO P n all (o :: r) t B K:=by
 intro Q hQ X0 w0 B0 X w a he hs;unfold wpList;rw [if_pos (hw X w a hs)];left;obtain ⟨vals,h1,h2⟩:=hrun X w a hs;unfold Oper.wp;rw [h1];simp only [Oper.upon];refine (h.2 X w vals hs.sat h2).mono ?_;rintro e w' ⟨v,s,X',B',rfl,hK,hsat,hden,hext⟩;simp only;have hst:St X' w' B' (eF n t o.dst s) n (a.put o.dst v):=by
  refine ⟨?_,hsat,?_⟩
  ·have:=hs.defers;cases o.dst<;>simpa [Act.put] using this
  ·exact gJ ⟨hs.den.1,fun i=>(hs.den.2 i).ext hs.sat hext⟩ hden
 exact hK Q hQ X0 w0 B0 X' w' _ (he.trans hext) hst
theorem AM {o:Oper} {r:List Oper} {t:aV} {B:List aI} {K:aV→List aI→Prop} {s:SV} (hw:∀X w a,St X w B t n a→Region.wanted o (yielded all.toArray a.tmps)=false)
  (hu:∀X w,Den X w s undef) (h:EO P n all r (eF n t o.dst s) B K):EO P n all (o :: r) t B K:=by
 intro Q hQ X0 w0 B0 X w a he hs;unfold wpList;rw [if_neg (by rw [hw X w a hs];simp)];refine h Q hQ X0 w0 B0 X w _ he ⟨?_,hs.sat,gJ hs.den (hu X w)⟩;have:=hs.defers;cases o.dst<;>simpa [Act.put] using this
theorem pv (hE:cI P E) {K:aV→List aI→Prop}:∀(l:List Oper) (k:Nat) (t:aV) (B:List aI),(∀fr,holds P n all K (run E n all fr k l t B))→EO P n all l t B K
 |[],k,t,B,h=>LQ (h fun _=> .void none)
 |o :: r,k,t,B,h=>by
  simp only [run] at h
  cases hg:o.guard with
  |none=>
   have hw:∀X w a,St X w B t n a→Region.wanted o (yielded all.toArray a.tmps)=true:=fun X w a _=>by simp [Region.wanted,hg]
   simp only [hg] at h
   cases hcall:h_ false t o.op with
   |some fa=>
    obtain ⟨f,args⟩:=fa;simp only [hcall,holds] at h;have hec:=h fun _=> .void none;exact D7 hw (fun X w a hs=>lT hcall (fun x _=>fQ hs.sat.xg hs.den x) hec.1) hec
   |none=>
    simp only [hcall] at h;refine JQ hw fun X w a hs=>?_;obtain ⟨h0,hh⟩:=iY hE hs.sat hs.den (o:=o) (st:=false) (by simp);have hk:∀fr:Nat→aN,fr k=h0→(de E false h0 t B o.op).vc∧holds P n all K (run E n all fr (k+1) r (eF n t o.dst (de E false h0 t B o.op).v) (de E false h0 t B o.op).B):=by
     intro fr hfr;have:=h fr;rw [hfr] at this;exact this
    refine ⟨_,hh (hk (fun _=>h0) rfl).1,pv hE r (k+1) _ _ fun fr=>?_⟩;have:=(hk (fun i=>if i=k then h0 else fr i) (by simp)).2
    rwa [py (fr':=fr) r (k+1) _ _ fun i hi=>if_neg (by omega)] at this
  |some jw=>
   obtain ⟨j,want⟩:=jw;simp only [hg] at h
   cases hgd:guardOf all t j want with
   |none=>simp only [hgd,holds] at h;exact (h fun _=> .void none).1.elim
   |some c=>
    simp only [hgd] at h;have hwc:∀X w a,St X w B t n a→Region.wanted o (yielded all.toArray a.tmps)=c:=fun X w a hs=>rv hgd hs.den o hg
    cases hcall:h_ true t o.op with
    |some fa=>
     obtain ⟨f,args⟩:=fa;simp only [hcall,holds] at h;obtain ⟨h1,h2,h3⟩:=h fun _=> .void none
     cases c with
     |true=>
      have hec:=h2 rfl;exact D7 hwc (fun X w a hs=>lT hcall (fun x hx=>k7 hs.sat.xg hs.den (h1 rfl) x hx) hec.1) hec
     |false=>exact AM hwc (fun _ _=> .opt (fun e=>by cases e) fun _=>rfl) (h3 rfl)
    |none=>
     simp only [hcall] at h
     cases hq:quiet o.op with
     |false=>
      simp only [hq,holds] at h;obtain ⟨h1,h2⟩:=h fun _=> .void none
      cases c with
      |true=>
       have h1':=h1 rfl;intro Q hQ X0 w0 B0 X w a he hs;have:=h1' Q hQ X0 w0 B0 X w a he hs;unfold wpList at this ⊢;rw [if_pos (by simp [Region.wanted,uD])] at this;rw [if_pos (hwc X w a hs)];exact this
      |false=>exact AM hwc (fun _ _=> .opt (fun e=>by cases e) fun _=>rfl) (h2 rfl)
     |true=>
      simp only [hq] at h
      cases c with
      |false=>
       refine AM hwc (fun _ _=> .opt (fun e=>by cases e) fun _=>rfl) (pv hE r (k+1) _ _ fun fr=>?_) (s:= .opt false (de E true (.void none) t B o.op).v);have:=(h (fun i=>if i=k then .void none else fr i)).2;simp only [if_true] at this
       rwa [py (fr':=fr) r (k+1) _ _ fun i hi=>if_neg (by omega)] at this
      |true=>
       refine JQ hwc fun X w a hs=>?_;have h00:=h fun _=> .void none;have hcond:iz t (j_ o.op):=(h00.1 rfl).1;obtain ⟨h0,hh⟩:=iY hE hs.sat hs.den (o:=o) (st:=true) (fun _=>⟨hq,hcond⟩);have hk:∀fr:Nat→aN,fr k=h0→((de E true h0 t B o.op).vc∧(de E true h0 t B o.op).B=B)∧holds P n all K (run E n all fr (k+1) r (eF n t o.dst (.opt true (de E true h0 t B o.op).v)) B):=by
        intro fr hfr;have:=h fr;rw [hfr] at this;exact ⟨(this.1 rfl).2,this.2⟩
       obtain ⟨⟨hv,hB⟩,_⟩:=hk (fun _=>h0) rfl;obtain ⟨v,w',r1,r2,r3,r4⟩:=hh hv;rw [hB] at r2 r4;refine ⟨⟨.opt true (de E true h0 t B o.op).v,B,True⟩,⟨v,w',r1,r2,.opt (fun _=>r3) (fun e=>by cases e),r4⟩,pv hE r (k+1) _ _ fun fr=>?_⟩;have:=(hk (fun i=>if i=k then h0 else fr i) (by simp)).2
       rwa [py (fr':=fr) r (k+1) _ _ fun i hi=>if_neg (by omega)] at this
end
section
variable {P:Program} {E:Env} {n:Nat}
def fL:Nat→List SV→aV
 |_,[]=>[]
 |i,a :: r=>(i,a) :: fL (i+1) r
theorem yX:∀(args:List SV) (i j:Nat),dd (fL i args) j=if i≤j then args.getD (j - i) .any else .any
 |[],i,j=>by simp [fL,dd]
 |a :: r,i,j=>by
  simp only [fL,dd,yX r (i+1) j];by_cases e:j=i
  ·subst e;simp
  ·simp only [e,if_false];by_cases h:i+1≤j
   ·rw [if_pos h,if_pos (by omega)];have:j - i=(j - (i+1))+1:=by omega
    rw [this];simp
   ·rw [if_neg h,if_neg (by omega)]
def vJ (E:Env) (t:aV) (B:List aI):ResultVar→SV×Prop
 | .tmp i=>(dd t i,True)
 | .cell a T=>match kZ (E.ty T) B (dd t a) with
  |⟨v,_,c⟩=>(v,c)
def qa (E:Env) (t:aV) (B:List aI):List ResultVar→List SV×Prop
 |[]=>([],True)
 |r :: rs=>match vJ E t B r,qa E t B rs with
  |(v,c),(vs,d)=>(v :: vs,c∧d)
def FL (E:Env) (t:aV) (B:List aI) (rs:List ResultVar):SV×Prop:=match qa E t B rs with
 |([v],c)=>(v,c)
 |(vs,c)=>(.bS vs,c)
def wZ (E:Env) (rs:List ResultVar) (Q:SV→List aI→Prop):gX
 | .normal,t,B=>(FL E t B rs).2∧Q (FL E t B rs).1 B
 | .ret,t,B=>(FL E t B rs).2∧Q (FL E t B rs).1 B
 |_,_,_=>False
def A9 (tmps:Array Value):ResultVar→Sem Value
 | .tmp t=>pure (tmps.getD t undef)
 | .cell a t=>do loadVar t (←asAddr (tmps.getD a undef))
theorem CG (fn:Func) (tmps:Array Value):results fn tmps=(do let vs←fn.results.mapM (A9 tmps);pure (if h:vs.size=1 then vs[0] else .tuple vs)):=by
 unfold results
 congr 2
theorem yI (hE:cI P E) {X:Nat→Prop} {w:World} {B:List aI} {t:aV} {tmps:Array Value} (hs:Sat X w B) (hd:wU X w t n tmps):∀(rs:List ResultVar),(qa E t B rs).2→
  ∃vs:List Value,(rs.mapM (A9 tmps)).run P w= .ok vs w∧vs.length=(qa E t B rs).1.length∧
   ∀(i:Nat) (c:SV),(qa E t B rs).1[i]?=some c→Den X w c (vs.getD i undef)
 |[],_=>⟨[],by simp,rfl,by simp [qa]⟩
 |r :: rs,h=>by
  simp only [qa] at h ⊢;obtain ⟨h1,h2⟩:=h;obtain ⟨vs,r1,r2,r3⟩:=yI hE hs hd rs h2;have one:∃v,(A9 tmps r).run P w= .ok v w∧Den X w (vJ E t B r).1 v:=by
   cases r with
   |tmp i=>exact ⟨_,rfl,hd.2 i⟩
   |cell a T=>
    simp only [vJ] at h1 ⊢;have hb:E.ty T≠.bF:=fun e=>by simp [kZ,e,bF] at h1
    have e1:kZ (E.ty T) B (dd t a)=fZ (E.ty T).agg (E.ty T).size B (dd t a):=by
     cases h:E.ty T<;>first|rfl|exact absurd h hb
    rw [e1] at h1 ⊢;obtain ⟨u,q1,q2,q3⟩:=vq (hE.ty T) hb hs (hd.2 a) h1;refine ⟨u,?_,q2⟩;simp only [Instr.loadAt,Instr.sureAddr,asAddr,A9] at q1 ⊢
    cases hv:tmps.getD a undef<;>simp only [hv] at q1 ⊢ <;>try (simp at q1;done)
    case pointer p=>
     cases p with
     |none=>simp at q1
     |some ad=>simpa using q1
  obtain ⟨v,q1,q2⟩:=one;refine ⟨v :: vs,?_,by simp [r2],fun i c hc=>?_⟩
  ·rw [List.mapM_cons,Sem.run_bind,q1];simp only [Result.andThen_ok,Sem.run_bind,r1,Sem.run_pure]
  ·cases i with
   |zero=>simp at hc;subst hc;simpa using q2
   |succ i=>simpa using r3 i c (by simpa using hc)
theorem w3 (hE:cI P E) {X:Nat→Prop} {w:World} {B:List aI} {t:aV} {tmps:Array Value} (fn:Func) (hs:Sat X w B) (hd:wU X w t n tmps) (h:(FL E t B fn.results.toList).2):
  ∃v,(results fn tmps).run P w= .ok v w∧Den X w (FL E t B fn.results.toList).1 v:=by
 have h':(qa E t B fn.results.toList).2:=by
  unfold FL at h
  split at h<;>(rename_i e;rw [e];exact h)
 obtain ⟨vs,r1,r2,r3⟩:=yI hE hs hd fn.results.toList h';have hm:(fn.results.mapM (A9 tmps)).run P w= .ok vs.toArray w:=by
  rw [Array.mapM_eq_mapM_toList];simp only [Sem.run_map,r1,Result.andThen_ok]
 refine ⟨if h:vs.toArray.size=1 then vs.toArray[0] else .tuple vs.toArray,?_,?_⟩
 ·rw [CG,Sem.run_bind,hm];rfl
 ·unfold FL
  split
  ·rename_i v c e;rw [e] at r2 r3;simp at r2;have hsz:vs.toArray.size=1:=by simpa using r2
   rw [dif_pos hsz];have:=r3 0 v rfl;simpa [getD,r2] using this
  ·rename_i us c hne e;rw [e] at r2 r3;simp only at r2 r3;have hsz:¬vs.toArray.size=1:=by
    intro h1;have h2:us.length=1:=by rw [←r2];simpa using h1
    match us,h2 with
    |[u],_=>exact hne u rfl
   rw [dif_neg hsz];exact .bS (by simpa using r2) (by simpa using r3)
theorem EC.enter (hE:cI P E) {f:FuncId} {fn:Func} {c:Code} {args:List SV} {B:List aI} {Q:SV→List aI→Prop} (hc:fK P f=true) (hf:P.funcs[f]?=some fn) (hb:fn.body=some c) (hn:args.length≤fn.ntmps)
  (h:EV P fn.ntmps c (fL 0 args) B (wZ E fn.results.toList Q)):EC P f args B Q:=by
 refine ⟨hc,fun X w vs hs hd=>?_⟩;refine calls_of_wp hf hb ?_;have hden:wU X w (fL 0 args) fn.ntmps (vs ++ Array.replicate (fn.ntmps - vs.size) undef):=by
  refine ⟨by simp;have:=hd.1;omega,fun i=>?_⟩;rw [yX];simp only [zero_le,if_true,Nat.sub_zero];rcases lt_or_ge i args.length with hi|hi
  ·have:=hd.2 i _ (get?_of_lt .any hi);simp only [Array.getD_eq_getD_getElem?] at this ⊢;rw [Array.getElem?_append_left (by have:=hd.1;omega)];exact this
  ·have:args.getD i .any= .any:=by simp [getD,List.getElem?_eq_none hi]
   rw [this];exact .any _
 refine wp_mono (h X w B X w _ (Ext.refl _ _ _) ⟨rfl,hs,hden⟩) fun e a w' hg=>?_;obtain ⟨X',t',B',hQ,hst,hext⟩:=hg;have fin:(FL E t' B' fn.results.toList).2∧Q (FL E t' B' fn.results.toList).1 B'→a.defers=[]∧∃v,(results fn a.tmps).run P w'= .ok v w'∧∃v' r X' B',Ending.returned v= .returned v'∧Q r B'∧Sat X' w' B'∧Den X' w' r v'∧Ext X w B X' w' B':=by
  rintro ⟨h1,h2⟩;obtain ⟨v,r1,r2⟩:=w3 hE fn hst.sat hst.den h1;exact ⟨hst.defers,v,r1,v,_,X',B',rfl,h2,hst.sat,r2,hext⟩
 cases e<;>simp only [wZ] at hQ
 case normal=>exact fin hQ
 case ret=>exact fin hQ
def bq (s s':SV):Prop:=∀X w v,Den X w s v→Den X w s' v
theorem bq.refl (s:SV):bq s s:=fun _ _ _ h=>h
theorem bq.any (s:SV):bq s .any:=fun _ _ v _=> .any v
theorem bq.sl {full full':Bool} {esz esz' n:Nat} {f g:Nat→List SV} (hf:full'=true→full=true) (he:n=0∨esz=esz') (h:∀k,k < n→f k=g k):bq (.sl full esz n f) (.sl full' esz' n g):=by
 intro X w v hd
 cases hd with
 |gC hc=>exact .gC fun h=>hc (hf h)
 |na g' hn hcap hfull hX hl hw hden=>
  have he':esz=esz':=by omega
  subst he';exact .na g' hn hcap (fun h=>hfull (hf h)) hX (fun k hk=>by rw [←h k hk];exact hl k hk) hw (fun k j c hk hc=>hden k j c hk (by rw [h k hk];exact hc))
inductive eD:List SV→List SV→Prop
 |nil:eD [] []
 |cons {s s':SV} {l l':List SV} (h:bq s s') (hr:eD l l'):eD (s :: l) (s' :: l')
theorem eD.refl:∀(l:List SV),eD l l
 |[]=> .nil
 |s :: r=> .cons (bq.refl s) (eD.refl r)
theorem eD.spec {l l':List SV} (h:eD l l'):l.length=l'.length∧∀(i:Nat) (c:SV),l'[i]?=some c→∃d,l[i]?=some d∧bq d c:=by
 induction h with
 |nil=>exact ⟨rfl,by simp⟩
 |cons h _ ih=>
  refine ⟨by simp [ih.1],fun i c hc=>?_⟩
  cases i with
  |zero=>simp at hc;subst hc;exact ⟨_,rfl,h⟩
  |succ i=>simpa using ih.2 i c (by simpa using hc)
theorem bq.agg {l l':List SV} (h:eD l l'):bq (.agg l) (.agg l'):=by
 intro X w v hd
 cases hd with
 |agg hs hh=>
  refine .agg (by rw [hs,h.spec.1]) fun i c hc=>?_;obtain ⟨d,hd,hle⟩:=h.spec.2 i c hc;exact hle _ _ _ (hh i d hd)
theorem bq.bS {l l':List SV} (h:eD l l'):bq (.bS l) (.bS l'):=by
 intro X w v hd
 cases hd with
 |bS hs hh=>
  refine .bS (by rw [hs,h.spec.1]) fun i c hc=>?_;obtain ⟨d,hd,hle⟩:=h.spec.2 i c hc;exact hle _ _ _ (hh i d hd)
theorem EC.ret {f args B} {Q:SV→List aI→Prop} (h:EC P f args B fun r B'=>∃r',bq r r'∧Q r' B'):EC P f args B Q:=
 ⟨h.1,fun X w vs hs hd=>(h.2 X w vs hs hd).mono fun _ _ ⟨v,_,X',B',he,⟨r',hle,hr⟩,h1,h2,h3⟩=>⟨v,r',X',B',he,hr,h1,hle _ _ _ h2,h3⟩⟩
theorem EC.args {f args args' B} {Q:SV→List aI→Prop} (hle:eD args args') (h:EC P f args' B Q):EC P f args B Q:=
 ⟨h.1,fun X w vs hs hd=>h.2 X w vs hs ⟨by rw [hd.1,hle.spec.1],fun i c hc=>by
  obtain ⟨d,h1,h2⟩:=hle.spec.2 i c hc;exact h2 _ _ _ (hd.2 i d h1)⟩⟩
def gl (sel:Nat→Bool) (B:List aI):SV→SV
 | .row i h esz lo n=>match sel i with
  |true=>match au B i with
   | .row _ _ _ xs=> .sl false esz n fun k=>xs.getD (lo+k) []
   | .gone=> .any
  |false=> .row i h esz lo n
 | .bx i h esz k off=>match sel i with
  |true=>match au B i with
   | .row _ _ _ xs=> .xp ((xs.getD k []).drop off)
   | .gone=> .any
  |false=> .bx i h esz k off
 | .om i h k1 k2=>match sel i with
  |true=>match au B i with
   | .row _ _ _ xs=> .xm k1 k2 (sL xs)
   | .gone=> .any
  |false=> .om i h k1 k2
 |s=>s
def cf (sel:Nat→Bool) (B:List aI):SV→Prop
 | .row i h esz lo n=>match sel i with
  |true=>match au B i with
   | .row h' _ e' xs=>h'=h∧e'=esz∧lo+n≤xs.length
   | .gone=>True
  |false=>True
 | .bx i h esz k _=>match sel i with
  |true=>match au B i with
   | .row h' _ e' xs=>h'=h∧e'=esz∧k < xs.length
   | .gone=>True
  |false=>True
 | .om i h k1 k2=>match sel i with
  |true=>match au B i with
   | .row h' _ _ xs=>h'=h∧xs=(sL xs).map (mC k1 k2)
   | .gone=>True
  |false=>True
 |_=>True
def ew (sel:Nat→Bool) (B:List aI):List SV→List SV
 |[]=>[]
 |s :: r=>gl sel B s :: ew sel B r
def bC (sel:Nat→Bool) (B:List aI):List SV→Prop
 |[]=>True
 |s :: r=>cf sel B s∧bC sel B r
def iT (sel:Nat→Bool) (B:List aI):SV→SV
 | .agg cs=> .agg (ew sel B cs)
 |s=>gl sel B s
def fw (sel:Nat→Bool) (B:List aI):SV→Prop
 | .agg cs=>bC sel B cs
 |s=>cf sel B s
def ry (sel:Nat→Bool) (B:List aI):List SV→List SV
 |[]=>[]
 |s :: r=>iT sel B s :: ry sel B r
def zG (sel:Nat→Bool) (B:List aI):List SV→Prop
 |[]=>True
 |s :: r=>fw sel B s∧zG sel B r
def fu (sel:Nat→Bool) (B:List aI):SV→SV
 | .bS cs=> .bS (ry sel B cs)
 |s=>iT sel B s
def dE (sel:Nat→Bool) (B:List aI):SV→Prop
 | .bS cs=>zG sel B cs
 |s=>fw sel B s
variable {X:Nat→Prop} {w:World} {B:List aI} {sel:Nat→Bool}
def dz (X:Nat→Prop) (B:List aI) (sel:Nat→Bool) (b:Nat):Prop:=X b∨∃i,sel i=true∧b∈(au B i).blocks
theorem Den.HM {s v} (h:Den X w s v):Den (dz X B sel) w s v:=h.mono (fun _ h=> .inl h) fun _ _=>rfl
theorem vD (hs:Sat X w B) {s:SV} {v:Value} (hd:Den X w s v) (hk:cf sel B s):Den (dz X B sel) w (gl sel B s) v:=by
 have pt:∀(i b cap esz k off:Nat),cf sel B (.bx i (.at b cap) esz k off)→Den (dz X B sel) w (gl sel B (.bx i (.at b cap) esz k off)) (.pointer (some ⟨b,k*esz+off,none⟩)):=by
  intro i b cap esz k off hk;simp only [gl,cf] at hk ⊢
  cases hsel:sel i with
  |false=>exact .bx ..
  |true=>
   simp only [hsel] at hk
   cases hg:au B i with
   |gone=>exact .any _
   |row h' E' e' xs=>
    simp only [hg] at hk ⊢;obtain ⟨rfl,rfl,hlt⟩:=hk;obtain ⟨vs,a1,a2,a3,a4,a5⟩:=hs.row hg;have hx:=get?_of_lt (α:=List SV) [] hlt;have hl:=a4 k _ hx;refine .xp (fun j=>vs.getD (k*e'+(off+j)) undef) (.inr ⟨i,hsel,by rw [hg];simp [aI.blocks]⟩) (fun j hj=>?_) (fun j c hc=>?_)
    ·simp only [length_drop] at hj;rw [add_assoc];exact ju a1 (by have:=kE (m:=cap) (esz:=e') (show k < cap by omega) (show off+j < e' by omega);omega)
    ·rw [List.getElem?_drop] at hc;exact (a5 k _ _ _ hx hc).HM
 have rw1:∀(i b cap esz lo n c:Nat) (a:Option Addr),cf sel B (.row i (.at b cap) esz lo n)→(0 < n→a=some ⟨b,lo*esz,none⟩)→n≤c→Den X w (.row i (.at b cap) esz lo n) (.slice a n c)→
   Den (dz X B sel) w (gl sel B (.row i (.at b cap) esz lo n)) (.slice a n c):=by
  intro i b cap esz lo n c a hk ha hnc hden;simp only [gl,cf] at hk ⊢
  cases hsel:sel i with
  |false=>exact hden.HM
  |true=>
   simp only [hsel] at hk
   cases hg:au B i with
   |gone=>exact .any _
   |row h' E' e' xs=>
    simp only [hg] at hk ⊢;obtain ⟨rfl,rfl,hlt⟩:=hk;obtain ⟨vs,a1,a2,a3,a4,a5⟩:=hs.row hg;by_cases hn:n=0
    ·subst hn;exact .gC (by simp)
    ·rw [ha (by omega)];refine .na (fun k j=>vs.getD ((lo+k)*e'+j) undef) (by omega) hnc (by simp) (.inr ⟨i,hsel,by rw [hg];simp [aI.blocks]⟩) (fun k hk=>a4 _ _ (get?_of_lt (α:=List SV) [] (by omega))) (fun k j hk hj=>?_) (fun k j c hk hc=>?_)
     ·have e:lo*e'+(k*e'+j)=(lo+k)*e'+j:=by rw [add_mul];omega
      rw [e];exact ju a1 (by have:=kE (m:=cap) (esz:=e') (show lo+k < cap by omega) hj;omega)
     ·exact (a5 _ _ _ _ (get?_of_lt (α:=List SV) [] (show lo+k < xs.length by omega)) hc).HM
 have hd0:=hd
 cases hd
 case bx i b cap esz k off=>exact pt _ _ _ _ _ _ hk
 case rowAt i b cap esz n hn=>exact rw1 _ _ _ _ _ _ _ _ hk (fun _=>by simp) hn hd0
 case kS i b cap esz lo n c hn hc=>exact rw1 _ _ _ _ _ _ _ _ hk (fun _=>rfl) hc hd0
 case hO i b cap esz lo c a=>exact rw1 _ _ _ _ _ _ _ _ hk (fun h=>by omega) (zero_le _) hd0
 case dh i a esz lo=>
  simp only [gl,cf] at hk ⊢
  cases hsel:sel i with
  |false=>exact .dh ..
  |true=>
   simp only [hsel] at hk
   cases hg:au B i with
   |gone=>exact .any _
   |row h' E' e' xs=>exact .gC (by simp)
 case om i b k1 k2=>
  simp only [gl,cf] at hk ⊢
  cases hsel:sel i with
  |false=>exact .om ..
  |true=>
   simp only [hsel] at hk
   cases hg:au B i with
   |gone=>exact .any _
   |row h' E' e' xs=>
    simp only [hg] at hk ⊢;obtain ⟨rfl,hxs⟩:=hk;obtain ⟨arr,clock,hb,he⟩:=hs.Ld hg;rw [hxs] at he;exact .xm (.inr ⟨i,hsel,by rw [hg];simp [aI.blocks]⟩) hb he
 all_goals exact hd0.HM
theorem fv (hs:Sat X w B):∀{l:List SV} (_:bC sel B l),(ew sel B l).length=l.length∧∀(vs:Array Value),(∀(i:Nat) (c:SV),l[i]?=some c→Den X w c (vs.getD i undef))→∀(i:Nat) (c:SV),(ew sel B l)[i]?=some c→Den (dz X B sel) w c (vs.getD i undef)
 |[],_=>⟨rfl,by simp [ew]⟩
 |s :: r,hk=>by
  obtain ⟨h1,h2⟩:=fv hs (l:=r) hk.2;refine ⟨by simp [ew,h1],fun vs hv i c hc=>?_⟩
  cases i with
  |zero=>simp [ew] at hc;subst hc;exact vD hs (hv 0 s rfl) hk.1
  |succ i=>
   have:=h2 (vs.extract 1 vs.size) (fun i c hc=>by
    have:=hv (i+1) c (by simpa using hc);simp only [Array.getD_eq_getD_getElem?,Array.getElem?_extract] at this ⊢;rcases lt_or_ge (i+1) vs.size with hlt|hge
    ·rw [if_pos (by omega),Nat.add_comm 1 i];exact this
    ·rw [if_neg (by omega)];rw [Array.getElem?_eq_none hge] at this;exact this) i c (by simpa [ew] using hc)
   simp only [Array.getD_eq_getD_getElem?,Array.getElem?_extract] at this ⊢;rcases lt_or_ge (i+1) vs.size with hlt|hge
   ·rw [if_pos (by omega),Nat.add_comm 1 i] at this;exact this
   ·rw [if_neg (by omega)] at this;rw [Array.getElem?_eq_none hge];exact this
theorem vE (hs:Sat X w B) {s:SV} {v:Value} (hd:Den X w s v) (hk:fw sel B s):Den (dz X B sel) w (iT sel B s) v:=by
 by_cases ha:∃cs,s= .agg cs
 ·obtain ⟨cs,rfl⟩:=ha
  cases hd with
  |agg hsz h=>
   obtain ⟨h1,h2⟩:=fv hs (l:=cs) hk;exact .agg (by rw [h1];exact hsz) (h2 _ h)
 ·have e1:iT sel B s=gl sel B s:=by cases s<;>first|rfl|exact absurd ⟨_,rfl⟩ ha
  have e2:fw sel B s=cf sel B s:=by cases s<;>first|rfl|exact absurd ⟨_,rfl⟩ ha
  rw [e1];rw [e2] at hk;exact vD hs hd hk
theorem tB (hs:Sat X w B):∀{l:List SV} (_:zG sel B l),(ry sel B l).length=l.length∧∀(vs:Nat→Value),(∀(i:Nat) (c:SV),l[i]?=some c→Den X w c (vs i))→∀(i:Nat) (c:SV),(ry sel B l)[i]?=some c→Den (dz X B sel) w c (vs i)
 |[],_=>⟨rfl,by simp [ry]⟩
 |s :: r,hk=>by
  obtain ⟨h1,h2⟩:=tB hs (l:=r) hk.2;refine ⟨by simp [ry,h1],fun vs hv i c hc=>?_⟩
  cases i with
  |zero=>simp [ry] at hc;subst hc;exact vE hs (hv 0 s rfl) hk.1
  |succ i=>exact h2 (fun i=>vs (i+1)) (fun i c hc=>hv (i+1) c (by simpa using hc)) i c (by simpa [ry] using hc)
theorem eR (hs:Sat X w B) {s:SV} {v:Value} (hd:Den X w s v) (hk:dE sel B s):Den (dz X B sel) w (fu sel B s) v:=by
 by_cases ha:∃cs,s= .bS cs
 ·obtain ⟨cs,rfl⟩:=ha
  cases hd with
  |bS hsz h=>
   obtain ⟨h1,h2⟩:=tB hs (l:=cs) hk;exact .bS (by rw [h1];exact hsz) (h2 (fun i=>Array.getD _ i undef) h)
 ·have e1:fu sel B s=iT sel B s:=by cases s<;>first|rfl|exact absurd ⟨_,rfl⟩ ha
  have e2:dE sel B s=fw sel B s:=by cases s<;>first|rfl|exact absurd ⟨_,rfl⟩ ha
  rw [e1];rw [e2] at hk;exact vE hs hd hk
theorem Sat.dY (hs:Sat X w B) {B':List aI} (hb:∀i,au B' i=if sel i then .gone else au B i):Sat (dz X B sel) w B':=by
 have sub:∀i b,b∈(au B' i).blocks→sel i=false∧b∈(au B i).blocks:=fun i b h=>by
  rw [hb] at h
  cases hsel:sel i
  ·simpa [hsel] using h
  ·simp [hsel,aI.blocks] at h
 refine ⟨fun i j b hi hj=>hs.inj i j b (sub i b hi).2 (sub j b hj).2,fun i b hi=>hs.lt i b (sub i b hi).2,hs.xg.mono (fun _ h=> .inl h) (fun _ _=>rfl) ?_,?_,fun i=>?_⟩
 ·rintro b (h|⟨i,_,h⟩)
  ·exact hs.og b h
  ·exact hs.lt i b h
 ·rintro b (h|⟨i,hi,h⟩) ⟨j,hj⟩
  ·exact hs.apart b h ⟨j,(sub j b hj).2⟩
  ·obtain ⟨h1,h2⟩:=sub j b hj;have:=hs.inj i j b h h2;subst this;rw [hi] at h1;cases h1
 ·rw [hb]
  cases sel i
  ·exact aI.ig (hs.ok i) (fun _ h=> .inl h) (fun _ _=>rfl) fun _ _=>rfl
  ·trivial
theorem Ext.dY {B':List aI} (hb:∀i,au B' i=if sel i then .gone else au B i):Ext X w B (dz X B sel) w B':=by
 refine ⟨rfl,rfl,rfl,le_refl _,fun _ _ _=>rfl,fun _ h=> .inl h,?_,?_⟩
 ·rintro b (h|⟨i,_,h⟩)
  ·exact .inl h
  ·exact .inr (.inl ⟨i,h⟩)
 ·rintro b ⟨i,hi⟩;rw [hb] at hi
  cases hsel:sel i
  ·exact .inl ⟨i,by simpa [hsel] using hi⟩
  ·simp [hsel,aI.blocks] at hi
def bc (m:Nat) (i:Nat):Bool:=decide (m≤i)
theorem EC.close {f args B0} (m:Nat) {Q:SV→List aI→Prop} (h:EC P f args B0 fun r B'=>dE (bc m) B' r∧Q (fu (bc m) B' r) (B'.take m)):EC P f args B0 Q:=by
 refine ⟨h.1,fun X w vs hs hd=>(h.2 X w vs hs hd).mono ?_⟩;rintro e w' ⟨v,r,X',B',he,⟨hk,hq⟩,h1,h2,h3⟩;have hb:∀i,au (B'.take m) i=if bc m i then .gone else au B' i:=fun i=>by
  rw [eQ];by_cases hi:i < m
  ·have:bc m i=false:=by simp [bc];omega
   simp [hi,this]
  ·have:bc m i=true:=by simp [bc];omega
   simp [hi,this]
 exact ⟨v,_,_,_,he,hq,h1.dY hb,eR h1 h2 hk,h3.trans (Ext.dY hb)⟩
theorem EC.frame {f args} {Q:SV→Prop} (h:EC P f args [] fun r B'=>B'=[]∧Q r) (B:List aI):EC P f args B fun r B'=>B'=B∧Q r:=by
 refine ⟨h.1,fun X w vs hs hd=>?_⟩;have hs0:Sat X w []:=⟨fun i j b hi=>by simp [au,aI.blocks] at hi,fun i b hi=>by simp [au,aI.blocks] at hi,hs.xg,fun b _ ⟨i,hi⟩=>by simp [au,aI.blocks] at hi,fun i=>by simp [au,aI.ok]⟩;refine (h.2 X w vs hs0 hd).mono ?_;rintro e w' ⟨v,r,X',B',he,⟨rfl,hq⟩,h1,h2,h3⟩;have hno:∀b,¬hU [] b:=fun b ⟨i,hi⟩=>by simp [au,aI.blocks] at hi
 have hblk:∀b,b < w.heap.size→w'.heap[b]?=w.heap[b]?:=fun b hb=>h3.block b hb (hno b);refine ⟨v,r,X',B,he,⟨rfl,hq⟩,⟨hs.inj,fun i b hi=>lt_of_lt_of_le (hs.lt i b hi) h3.size,h1.xg,fun b hb ⟨i,hi⟩=>?_,fun i=>aI.ig (hs.ok i) h3.AS (fun b hb=>hblk b (hs.og b hb)) fun b hb=>hblk b (hs.lt i b hb)⟩,h2,?_⟩
 ·rcases h3.pT b hb with h|h|h
  ·exact hs.apart b h ⟨i,hi⟩
  ·exact hno b h
  ·have:=hs.lt i b hi;omega
 ·refine ⟨h3.os,h3.tape,h3.output,h3.size,fun b hb _=>hblk b hb,h3.AS,fun b hb=>?_,fun b hb=> .inl hb⟩;rcases h3.pT b hb with h|h|h
  ·exact .inl h
  ·exact absurd h (hno b)
  ·exact .inr (.inr h)
end
end Go.Lift
