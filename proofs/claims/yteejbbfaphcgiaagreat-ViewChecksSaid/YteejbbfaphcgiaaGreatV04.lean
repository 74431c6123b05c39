/- Part 4. -/
import Derived.Test.YteejbbfaphcgiaaGreatV02
import Derived.Test.YteejbbfaphcgiaaGreatV03
namespace Go.Proofs.YteejbbfaphcgiaaGreat
open Go.Lift _root_.Go.Proofs.Tryz
set_option linter.unusedSimpArgs false
set_option linter.unusedVariables false
set_option maxRecDepth 100000
open List (take_succ_eq_append_getElem getD all_append getElem_mem range all_eq_false take_length map map_append cons_append length_map map_set)
open Nat (zero_le)
theorem Tryz.own:ownKnob prog.godebug=none:=by kernel_rfl
theorem Tryz.laidOut:laidOutB prog=true:=by kernel_rfl
theorem NI:RD prog 3 ((aS .i64)) (fun x=>(Lit.int .i64 x).wf=true):=RD.int underlying3
theorem Nz:IU prog 3 (fun n=> .int .i64 n) (fun x=>(Lit.int .i64 x).wf=true):=IU.cell (by kernel_rfl) NI
theorem NJ:RD prog 22 (fun l=>[bG 1 (aS .i64) default l]) (fun x=>(x.length≤maxLen∧∀z0∈x,(Lit.int .i64 z0).wf=true)):=RD.slice (c:=(aS .i64)) underlying22 (show prog.cellsOf 3=1 by kernel_rfl) (by decide) (fun _=>rfl) NI
theorem tv:IU prog 22 (fun l=>bG 1 (aS .i64) default l) (fun x=>(x.length≤maxLen∧∀z0∈x,(Lit.int .i64 z0).wf=true)):=IU.cell (by kernel_rfl) NJ
def bp.ok (y:bp):Prop:=(Lit.int .i64 y.Op).wf=true∧(Lit.int .i64 y.A).wf=true∧(Lit.int .i64 y.B).wf=true∧(Lit.int .i64 y.C).wf=true∧True
def aP.ok (y:aP):Prop:=(y.Code.length≤maxLen∧∀z0∈y.Code,bp.ok z0)∧(y.Strings.length≤maxLen∧∀z0∈y.Strings,z0.length≤maxLen)∧(Lit.int .i64 y.aQ).wf=true∧True
def ey.ok (y:ey):Prop:=(Lit.int .i64 y.x0).wf=true∧(Lit.int .i64 y.x1).wf=true∧(Lit.int .i64 y.x2).wf=true∧(Lit.int .i64 y.x3).wf=true∧(Lit.int .i64 y.x4).wf=true∧(Lit.int .i64 y.x5).wf=true∧(Lit.int .i64 y.x6).wf=true∧(Lit.int .i64 y.x7).wf=true∧True
def cb.ok (y:cb):Prop:=(Lit.int .i64 y.PC).wf=true∧ey.ok y.cu∧True
def ay.ok (y:ay):Prop:=(Lit.int .u64 y.ID).wf=true∧True∧True
def aK.ok (y:aK):Prop:=(Lit.int .i64 y.aU).wf=true∧(Lit.int .u64 y.bn).wf=true∧(Lit.int .u64 y.Target).wf=true∧(Lit.int .i64 y.End).wf=true∧True
def aC.ok (y:aC):Prop:=(Lit.int .i64 y.State).wf=true∧(Lit.int .u64 y.dg).wf=true∧(y.aZ.length≤maxLen∧∀z0∈y.aZ,(Lit.int .u64 z0).wf=true)∧aP.ok y.Program∧cb.ok y.d9∧(y.aQ.length≤maxLen∧∀z0∈y.aQ,ay.ok z0)∧(y.aH.length≤maxLen∧∀z0∈y.aH,aK.ok z0)∧(Lit.int .i64 y.cy).wf=true∧(Lit.int .i64 y.eP).wf=true∧(Lit.int .i64 y.Status).wf=true∧True
def dO.ok (y:dO):Prop:=(y.x0.length≤maxLen∧∀z0∈y.x0,(Lit.int .u8 z0).wf=true)∧(y.x1.length≤maxLen∧∀z0∈y.x1,(Lit.int .u8 z0).wf=true)∧True
def cV.ok (y:cV):Prop:=(Lit.int .i64 y.x0).wf=true∧(Lit.int .i64 y.x1).wf=true∧True
def a8.ok (y:a8):Prop:=y.Path.length≤maxLen∧(Lit.int .i64 y.aU).wf=true∧(y.kN.length≤maxLen∧∀z0∈y.kN,(Lit.int .u64 z0).wf=true)∧True
def af.ok (y:af):Prop:=(Lit.int .u64 y.ID).wf=true∧(Lit.int .i64 y.aU).wf=true∧(Lit.int .i64 y.Refs).wf=true∧aC.ok y.ae∧(y.fF.length≤maxLen∧∀z0∈y.fF,(Lit.int .i64 z0).wf=true)∧(y.Data.length≤maxLen∧∀z0∈y.Data,(Lit.int .u8 z0).wf=true)∧(Lit.int .i64 y.Offset).wf=true∧(Lit.int .u64 y.Target).wf=true∧(Lit.int .i64 y.br).wf=true∧(Lit.int .i64 y.ef).wf=true∧(y.bI.length≤maxLen∧∀z0∈y.bI,(Lit.int .u64 z0).wf=true)∧dO.ok y.bj∧cV.ok y.Ends∧(Lit.int .i64 y.fG).wf=true∧(y.cN.length≤maxLen∧∀z0∈y.cN,a8.ok z0)∧True
def ax.ok (y:ax):Prop:=af.ok y.ae∧(y.aQ.length≤maxLen∧∀z0∈y.aQ,af.ok z0)∧(y.dt.length≤maxLen∧∀z0∈y.dt,af.ok z0)∧True
def aB.ok (y:aB):Prop:=(Lit.int .i64 y.aU).wf=true∧(Lit.int .u64 y.ae).wf=true∧(Lit.int .i64 y.bW).wf=true∧(Lit.int .i64 y.N).wf=true∧(y.kN.length≤maxLen∧∀z0∈y.kN,(Lit.int .u64 z0).wf=true)∧aP.ok y.Program∧(Lit.int .i64 y.Code).wf=true∧ax.ok y.cX∧True
def aG.ok (y:aG):Prop:=(y.ah.length≤maxLen∧∀z0∈y.ah,af.ok z0)∧True
def b8.ok (y:b8):Prop:=(Lit.int .u64 y.ae).wf=true∧(Lit.int .i64 y.bW).wf=true∧True
def cn.ok (y:cn):Prop:=(Lit.int .i64 y.bW).wf=true∧(Lit.int .i64 y.lU).wf=true∧True
def aO.ok (y:aO):Prop:=(Lit.int .i64 y.ea).wf=true∧(y.bL.length≤maxLen∧∀z0∈y.bL,(Lit.int .i64 z0).wf=true)∧aG.ok y.bz∧(y.cz.length≤maxLen∧∀z0∈y.cz,b8.ok z0)∧(y.b_.length≤maxLen∧∀z0∈y.b_,cn.ok z0)∧(y.cX.length≤maxLen∧∀z0∈y.cX,ax.ok z0)∧True
def aL.ok (y:aL):Prop:=(Lit.int .i64 y.bW).wf=true∧(Lit.int .i64 y.fR).wf=true∧(Lit.int .i64 y.bP).wf=true∧True
def bw.ok (y:bw):Prop:=(Lit.int .u64 y.ID).wf=true∧(Lit.int .i64 y.gb).wf=true∧af.ok y.ba∧(Lit.int .i64 y.Ea).wf=true∧True∧True∧True
def a9.ok (y:a9):Prop:=(Lit.int .i64 y.bW).wf=true∧(y.aD.length≤maxLen∧∀z0∈y.aD,bw.ok z0)∧True
def gK.ok (y:gK):Prop:=(Lit.int .i64 y.bW).wf=true∧(Lit.int .i64 y.gb).wf=true∧True
def bg.ok (y:bg):Prop:=(Lit.int .u64 y.ID).wf=true∧(Lit.int .i64 y.m8).wf=true∧(y.br.length≤maxLen∧∀z0∈y.br,(Lit.int .i64 z0).wf=true)∧af.ok y.ba∧(y.bX.length≤maxLen∧∀z0∈y.bX,(Lit.int .i64 z0).wf=true)∧(y.bA.length≤maxLen∧∀z0∈y.bA,gK.ok z0)∧True
def aW.ok (y:aW):Prop:=(Lit.int .i64 y.bW).wf=true∧(y.Entries.length≤maxLen∧∀z0∈y.Entries,bg.ok z0)∧True
def bB.ok (y:bB):Prop:=(Lit.int .u64 y.ID).wf=true∧(Lit.int .i64 y.gb).wf=true∧True
def eg.ok (y:eg):Prop:=(Lit.int .u64 y.ae).wf=true∧(y.kU.length≤maxLen∧∀z0∈y.kU,bB.ok z0)∧(Lit.int .i64 y.Pinned).wf=true∧True∧True
def aj.ok (y:aj):Prop:=(Lit.int .i64 y.fR).wf=true∧(Lit.int .i64 y.ea).wf=true∧aL.ok y.bD∧a9.ok y.aD∧aW.ok y.dq∧(y.cT.length≤maxLen∧∀z0∈y.cT,(Lit.int .u64 z0).wf=true)∧(Lit.int .u64 y.FG).wf=true∧eg.ok y.Task∧True
def aA.ok (y:aA):Prop:=(Lit.int .i64 y.nJ).wf=true∧(Lit.int .i64 y.To).wf=true∧(Lit.int .i64 y.aU).wf=true∧(Lit.int .u64 y.ID).wf=true∧(Lit.int .i64 y.gb).wf=true∧af.ok y.ba∧(Lit.int .u64 y.Number).wf=true∧(Lit.int .i64 y.Value).wf=true∧(Lit.int .u64 y.ae).wf=true∧(Lit.int .i64 y.ea).wf=true∧True
def cr.ok (y:cr):Prop:=(Lit.int .i64 y.nJ).wf=true∧(Lit.int .i64 y.To).wf=true∧True∧(y.bA.length≤maxLen∧∀z0∈y.bA,aA.ok z0)∧True
def aR.ok (y:aR):Prop:=(y.bU.length≤maxLen∧∀z0∈y.bU,cr.ok z0)∧True
def ao.ok (y:ao):Prop:=aO.ok y.aY∧(y.aq.length≤maxLen∧∀z0∈y.aq,aj.ok z0)∧aR.ok y.bQ∧True
def c9.ok (y:c9):Prop:=(y.iV.length≤maxLen∧∀z0∈y.iV,aB.ok z0)∧ao.ok y.ld∧True
def cm.ok (y:cm):Prop:=(Lit.int .i64 y.Steps).wf=true∧(Lit.int .i64 y.dF).wf=true∧(Lit.int .i64 y.DZ).wf=true∧(Lit.int .i64 y.rU).wf=true∧(Lit.int .i64 y.D3).wf=true∧(Lit.int .i64 y.uO).wf=true∧True
theorem Tryz.follows:prog.follows .mixedOrders=true:=by kernel_rfl
theorem bZ:prog.follows .mixedOrders=true:=Tryz.follows
theorem Lm {α:Type} (l:List α):((l.length:Int) == 0)=l.isEmpty:=by
 cases l with
 |nil=>rfl
 |cons a l=>simp;omega
theorem bne_eq (a b:Int):(a !=b)= !(a == b):=rfl
def CA (p:aC):Prop:=p.aZ.length≤1000000∧p.Program.Code.length≤1000000∧p.Program.Strings.length≤1000000∧p.aQ.length≤1000000∧p.aH.length≤1000000
def cS (o:af):Prop:=CA o.ae∧o.fF.length≤1000000∧o.Data.length≤1000000∧o.bI.length≤1000000∧o.bj.x0.length≤1000000∧o.bj.x1.length≤1000000∧o.cN.length≤1000000∧
 (∀n∈o.cN,n.kN.length≤1000000∧n.Path.length≤1000000)
def q5 (p:aC):Bool:=p.aZ.isEmpty && p.Program.Code.isEmpty && p.Program.Strings.isEmpty && p.aQ.isEmpty && p.aH.isEmpty && p.Program.aQ == 0 && p.d9 == default && p.cy == 0 && p.eP == 0
def td (p:aC):Bool:=p.State == 0 && p.dg == 0 && p.Status == 0 && q5 p
theorem qW {α:Type} [Inhabited α] {a b:List α} {i:Nat} (h1:i < a.length) (h2:i < b.length) (h:a.take i=b.take i) (he:a.getD i default=b.getD i default):a.take (i+1)=b.take (i+1):=by
 rw [take_succ_eq_append_getElem h1,take_succ_eq_append_getElem h2,h];simp [getD,h1,h2] at he;rw [he]
theorem all_succ {α:Type} [Inhabited α] {l:List α} {p:α→Bool} {i:Nat} (hi:i < l.length) (h:(l.take i).all p=true) (hp:p (l.getD i default)=true):(l.take (i+1)).all p=true:=by
 rw [take_succ_eq_append_getElem hi,all_append,h];simpa [getD,hi] using hp
theorem Hl {α:Type} [Inhabited α] {l:List α} {p:α→Bool} {i:Nat} (hi:i < l.length) (hp:p (l.getD i default)=false):l.all p=false:=by
 apply Bool.eq_false_iff.2;intro h;have:=List.all_eq_true.1 h l[i] (getElem_mem hi);simp [getD,hi] at hp;rw [hp] at this;cases this
theorem bk {α:Type} [Inhabited α] {l:List α} {i:Nat} (hi:i < l.length):l.getD i default∈l:=by
 rw [show l.getD i default=l[i] by simp [getD,hi]];exact getElem_mem hi
theorem wx (p:aC):EC prog 290 [.agg p.c] [] fun r B=>B=[]∧r= .bool (td p):=by
 refine EC.fin (nA ab (ca 290) func290 ntmps290 results290 ?_)
 repeat first|refine ai ?_|refine aw ab fun fr=>⟨?_⟩
 ((try refine sC ?_);refine sF ?_;refine bq.of_eq ?_;(simp only [Lm];congr 1;simp only [td,q5];ac_rfl))
def ia (o:af):Bool:=o.Refs == 0 && o.fF.isEmpty && o.Data.isEmpty && o.Offset == 0 && o.Target == 0 && o.br == 0 && o.ef == 0 && o.bI.isEmpty && o.bj.x0.isEmpty && o.bj.x1.isEmpty && o.Ends == default && o.fG == 0 && o.cN.isEmpty && td o.ae
theorem cZ (o:af):EC prog 236 [.agg o.c] [] fun r B=>B=[]∧r= .bool (ia o):=by
 refine EC.fin (nA ab (ca 236) func236 ntmps236 results236 ?_);have c:=wx o.ae
 repeat first|refine ai ?_|refine aw ab fun fr=>⟨?_⟩
 (try refine aw ab fun fr=>⟨?_⟩);refine ⟨fun hg=>?_,fun hg=>?_⟩
 ·(refine EC.use (c) ?_;(try simp only [hg]);refine gA ab fun fr=>⟨?_⟩);(repeat (refine ai ?_));((try refine sC ?_);refine sF ?_;refine bq.of_eq ?_;(simp only [Lm] at hg ⊢;simp only [ia,hg,Bool.true_and]))
 ·((try simp only [hg]);refine gA ab fun fr=>⟨?_⟩);(repeat (refine ai ?_));((try refine sC ?_);refine sF ?_;refine bq.of_eq ?_;(simp only [Lm] at hg ⊢;simp only [ia,hg,Bool.false_and]))
def mk (b:Bool) (m s:Int):Int:=if b then b6 .or .i64 s m else s
def okB (u m:Int) (b:Bool):Bool:=!b || (b6 .andNot .i64 m u == 0)
def eB (o:af) (u:Int):Bool:=
 okB u 1 (!(o.Refs == 0)) && okB u 2 (!td o.ae) && okB u 4 (!o.fF.isEmpty) && okB u 8 (!o.Data.isEmpty) && okB u 16 (!(o.Offset == 0)) && okB u 32 (!(o.Target == 0)) && okB u 64 (!(o.br == 0)) && okB u 128 (!(o.ef == 0)) &&
 okB u 256 (!o.bI.isEmpty) && okB u 512 (!(o.bj.x0.isEmpty && o.bj.x1.isEmpty)) && okB u 1024 (!(o.Ends == default)) && okB u 2048 (!(o.fG == 0)) && okB u 4096 (!o.cN.isEmpty)
theorem vf (v:BitVec 64):BitVec.ofInt 64 (IntKind.i64.wrap (v.toNat:Int))=v:=by
 have hv:=v.isLt;apply BitVec.eq_of_toInt_eq;rw [BitVec.toInt_ofInt];simp only [IntKind.wrap,IntKind.bits,IntKind.signed,BitVec.toInt,Int.bmod,Bool.true_and,decide_eq_true_eq,Nat.reducePow,Int.reducePow,Nat.reduceSub] at hv ⊢
 split<;>split<;>split<;>omega
theorem FP (v:BitVec 64):(IntKind.i64.wrap (v.toNat:Int) == 0)=(v == 0#64):=by
 apply Bool.eq_iff_iff.2;simp only [beq_iff_eq]
 constructor
 ·intro h;have:=vf v;rw [h] at this;rw [←this];rfl
 ·rintro rfl;rfl
theorem tR (x u:Int):b6 .andNot .i64 x u=IntKind.i64.wrap (((BitVec.ofInt 64 x &&& ~~~BitVec.ofInt 64 u).toNat:Nat):Int):=rfl
theorem IP (x u:Int):b6 .or .i64 x u=IntKind.i64.wrap (((BitVec.ofInt 64 x ||| BitVec.ofInt 64 u).toNat:Nat):Int):=rfl
section
variable {B:List aI}
def gY (B:List aI) (s r:SV):Prop:=cf (bc 0) B s∧bq (gl (bc 0) B s) r
def eU (B:List aI) (cs ds:List SV):Prop:=bC (bc 0) B cs∧eD (ew (bc 0) B cs) ds
def a6 (B:List aI) (s r:SV):Prop:=fw (bc 0) B s∧bq (iT (bc 0) B s) r
theorem gY.row {α:Type} {i e n E:Nat} {h:aN} {xs:List (List SV)} {cells:α→List SV} {d:α} {l:List α} (hB:au B i= .row h E e xs) (hx:xs=l.map cells) (hn:n=l.length):gY B (.row i h e 0 n) (bG e cells d l):=by
 subst hx hn;unfold gY;simp only [cf,gl,bc,zero_le,decide_true,hB];refine ⟨⟨trivial,trivial,by simp⟩,bq.sl (fun h=>h) (.inr rfl) fun k hk=>?_⟩;simp [getD,hk]
theorem gY.part {α:Type} {i e lo n E:Nat} {h:aN} {xs:List (List SV)} {cells:α→List SV} {d:α} {l m:List α} (hB:au B i= .row h E e xs) (hx:xs=l.map cells) (hn:n=m.length) (hm:(l.drop lo).take n=m) (hl:lo+n≤l.length):gY B (.row i h e lo n) (bG e cells d m):=by
 subst hx hn;unfold gY;simp only [cf,gl,bc,zero_le,decide_true,hB];refine ⟨⟨trivial,trivial,by simpa using hl⟩,bq.sl (fun h=>h) (.inr rfl) fun k hk=>?_⟩;have h1:lo+k < l.length:=by omega
 rw [show m.getD k d=m[k] by simp [getD,hk]];have h2:m[k]?=l[lo+k]?:=by rw [←hm];simp [hk]
 rw [List.getElem?_eq_getElem hk,List.getElem?_eq_getElem h1] at h2;simp only [Option.some.injEq] at h2;simp [getD,h1,h2]
theorem gY.nil {α:Type} {e e':Nat} {fl:Bool} {cells:α→List SV} {d:α} {f:Nat→List SV}:gY B (.sl fl e' 0 f) (bG e cells d []):=⟨trivial,cB⟩
theorem gY.sl {e n:Nat} {fl:Bool} {f:Nat→List SV}:gY B (.sl fl e n f) (.sl fl e n f):=⟨trivial,bq.refl _⟩
theorem gY.bG {α:Type} {e:Nat} {cells:α→List SV} {d:α} {l:List α}:gY B (bG e cells d l) (bG e cells d l):=⟨trivial,bq.refl _⟩
theorem gY.int {k:IntKind} {n:Int}:gY B (.int k n) (.int k n):=⟨trivial,bq.refl _⟩
theorem eU.obj {cs:List SV} (hk:∀sel B,bC sel B cs=True) (hz:∀sel B,ew sel B cs=cs):eU B cs cs:=⟨by rw [hk];trivial,by rw [hz];exact eD.refl _⟩
theorem eU.put {cs ds r:List SV} {s s':SV} (h:eU B cs ds) (j:Nat) (hs:gY B s s') (e:aJ ds j [s']=r):eU B (aJ cs j [s]) r:=by
 refine ⟨lj _ _ _ _ _ h.1 ⟨hs.1,trivial⟩,?_⟩;rw [mS];exact eD.put h.2 j hs.2 e
theorem a6.agg {cs ds:List SV} (h:eU B cs ds):a6 B (.agg cs) (.agg ds):=⟨h.1,bq.agg h.2⟩
theorem a6.int {k:IntKind} {n:Int}:a6 B (.int k n) (.int k n):=⟨trivial,bq.refl _⟩
theorem a6.bool {b:Bool}:a6 B (.bool b) (.bool b):=⟨trivial,bq.refl _⟩
theorem a6.row {α:Type} {i e n E:Nat} {h:aN} {xs:List (List SV)} {cells:α→List SV} {d:α} {l:List α} (hB:au B i= .row h E e xs) (hx:xs=l.map cells) (hn:n=l.length):a6 B (.row i h e 0 n) (bG e cells d l):=gY.row hB hx hn
theorem a6.part {α:Type} {i e lo n E:Nat} {h:aN} {xs:List (List SV)} {cells:α→List SV} {d:α} {l m:List α} (hB:au B i= .row h E e xs) (hx:xs=l.map cells) (hn:n=m.length) (hm:(l.drop lo).take n=m) (hl:lo+n≤l.length):a6 B (.row i h e lo n) (bG e cells d m):=gY.part hB hx hn hm hl
theorem a6.nil {α:Type} {e e':Nat} {fl:Bool} {cells:α→List SV} {d:α} {f:Nat→List SV}:a6 B (.sl fl e' 0 f) (Go.Lift.bG e cells d []):=⟨trivial,cB⟩
theorem a6.bG {α:Type} {e:Nat} {cells:α→List SV} {d:α} {l:List α}:a6 B (Go.Lift.bG e cells d l) (Go.Lift.bG e cells d l):=⟨trivial,bq.refl _⟩
theorem uM {cs ds:List SV} (h:eU B cs ds):dE (bc 0) B (.agg cs)∧bq (fu (bc 0) B (.agg cs)) (.agg ds):=⟨h.1,bq.agg h.2⟩
theorem mT {α:Type} {i e n E:Nat} {h:aN} {xs:List (List SV)} {cells:α→List SV} {d:α} {l:List α} (hB:au B i= .row h E e xs) (hx:xs=l.map cells) (hn:n=l.length):dE (bc 0) B (.row i h e 0 n)∧bq (fu (bc 0) B (.row i h e 0 n)) (Go.Lift.bG e cells d l):=gY.row hB hx hn
theorem hY {a b c d:SV} (h1:a6 B a c) (h2:a6 B b d):dE (bc 0) B (.bS [a,b])∧bq (fu (bc 0) B (.bS [a,b])) (.bS [c,d]):=⟨⟨h1.1,h2.1,trivial⟩,bq.bS (.cons h1.2 (.cons h2.2 .nil))⟩
theorem jK {a b c d e f:SV} (h1:a6 B a d) (h2:a6 B b e) (h3:a6 B c f):dE (bc 0) B (.bS [a,b,c])∧bq (fu (bc 0) B (.bS [a,b,c])) (.bS [d,e,f]):=⟨⟨h1.1,h2.1,h3.1,trivial⟩,bq.bS (.cons h1.2 (.cons h2.2 (.cons h3.2 .nil)))⟩
theorem eU.O (x:af):eU B x.c x.c:=eU.obj (fun s B=>by rw [af.fk]) (fun s B=>by rw [af.fz])
end
section
variable {B:List aI}
def Lt (B:List aI) (s r:SV):Prop:=dE (bc 0) B s∧bq (fu (bc 0) B s) r
theorem EC.cQ {P:Program} {f:Nat} {args:List SV} {R:SV} (h:EC P f args [] fun r B'=>Lt B' r R):EC P f args [] fun r N=>N=[]∧r=R:=EC.fin h
theorem EC.bh {P:Program} {f:Nat} {args:List SV} {σ:Type} {C:σ→Prop} {R:σ→SV} (h:EC P f args [] fun r B'=>∃x,C x∧Lt B' r (R x)):EC P f args [] fun r N=>N=[]∧∃x,C x∧r=R x:=
 EC.G_ (h.mono fun r B' ⟨x,h1,h2,h3⟩=>⟨h2,x,h1,h3⟩)
theorem Lt.bool {p q:Bool} (h:p=q):Lt B (.bool p) (.bool q):=by subst h;exact ⟨trivial,bq.refl _⟩
theorem Lt.int {k:IntKind} {p q:Int} (h:p=q):Lt B (.int k p) (.int k q):=by subst h;exact ⟨trivial,bq.refl _⟩
theorem Lt.str {p q:List UInt8} (h:p=q):Lt B (.str p) (.str q):=by subst h;exact ⟨trivial,bq.refl _⟩
theorem Lt.agg {cs ds:List SV} (h:eU B cs ds):Lt B (.agg cs) (.agg ds):=uM h
theorem Lt.t0:Lt B (.bS []) (.bS []):=⟨trivial,bq.refl _⟩
theorem Lt.t2 {a b c d:SV} (h1:a6 B a c) (h2:a6 B b d):Lt B (.bS [a,b]) (.bS [c,d]):=hY h1 h2
theorem Lt.t3 {a b c d e f:SV} (h1:a6 B a d) (h2:a6 B b e) (h3:a6 B c f):Lt B (.bS [a,b,c]) (.bS [d,e,f]):=jK h1 h2 h3
theorem Lt.t4 {a b c d e f g h:SV} (h1:a6 B a e) (h2:a6 B b f) (h3:a6 B c g) (h4:a6 B d h):Lt B (.bS [a,b,c,d]) (.bS [e,f,g,h]):=
 ⟨⟨h1.1,h2.1,h3.1,h4.1,trivial⟩,bq.bS (.cons h1.2 (.cons h2.2 (.cons h3.2 (.cons h4.2 .nil))))⟩
theorem a6.JN {p q:Bool} (h:p=q):a6 B (.bool p) (.bool q):=by subst h;exact a6.bool
theorem a6.jC {k:IntKind} {p q:Int} (h:p=q):a6 B (.int k p) (.int k q):=by subst h;exact a6.int
theorem a6.tf {x y:af} (h:x=y):a6 B (.agg x.c) (.agg y.c):=by subst h;exact a6.agg (eU.O x)
theorem Lt.tf {x y:af} (h:x=y):Lt B (.agg x.c) (.agg y.c):=by subst h;exact Lt.agg (eU.O x)
theorem Lt.row {α:Type} {i e n E:Nat} {h:aN} {xs:List (List SV)} {cells:α→List SV} {d:α} {l:List α} (hB:au B i= .row h E e xs) (hx:xs=l.map cells) (hn:n=l.length):Lt B (.row i h e 0 n) (.sl false e l.length (cA cells d l)):=mT hB hx hn
theorem Ia {x:af} {L:List SV} (h:L.length=36):aJ x.c 0 L=L:=bb (by rw [h,af.len];decide) (by rw [List.drop_of_length_le (by rw [h,af.len];decide)];simp)
theorem KN {L:List SV} (h:L.length=36):L.take 36=L:=List.take_of_length_le (by omega)
theorem Cz {cs ys:List SV} {o:Nat} (h:bt cs=true∧bt ys=true):bt (aJ cs o ys)=true:=Gx cs ys o h.1 h.2
attribute [push_cast] KN Ia Cz
end
theorem jI {α:Type} {l:List α} {h:aN} (e:(l.length == 0 && Rm h)=true):l=[]:=by
 cases l with
 |nil=>rfl
 |cons a l=>simp at e
theorem o5 (l:List Int) (hl:l.length≤1000000):EC prog 233 [bG 1 (aS .u8) default l] [] fun r B=>B=[]∧r=bG 1 (aS .u8) default l:=by
 refine EC.fin (nA ab (ca 233) func233 ntmps233 results233 ?_)
 repeat first|refine ai ?_|refine aw ab fun fr=>⟨?_⟩
 (apply az;exact rfl;all_goals intro h)
 ·have e:=jI h;subst e
  repeat first|refine ai ?_|refine aw ab fun fr=>⟨?_⟩
  (try refine sC ?_);exact ⟨trivial,cB⟩
 ·repeat first|refine ai ?_|refine aw ab fun fr=>⟨?_⟩
  (try refine sC ?_);exact iq rfl rfl
theorem nI (l:List Int) (hl:l.length≤1000000):EC prog 228 [bG 1 (aS .u64) default l] [] fun r B=>B=[]∧r=bG 1 (aS .u64) default l:=by
 refine EC.fin (nA ab (ca 228) func228 ntmps228 results228 ?_)
 repeat first|refine ai ?_|refine aw ab fun fr=>⟨?_⟩
 (apply az;exact rfl;all_goals intro h)
 ·have e:=jI h;subst e
  repeat first|refine ai ?_|refine aw ab fun fr=>⟨?_⟩
  (try refine sC ?_);exact ⟨trivial,cB⟩
 ·repeat first|refine ai ?_|refine aw ab fun fr=>⟨?_⟩
  (try refine sC ?_);exact iq rfl rfl
theorem s8 (l:List ay) (hl:l.length≤1000000):EC prog 229 [bG 2 ay.c default l] [] fun r B=>B=[]∧r=bG 2 ay.c default l:=by
 refine EC.fin (nA ab (ca 229) func229 ntmps229 results229 ?_)
 repeat first|refine ai ?_|refine aw ab fun fr=>⟨?_⟩
 (apply az;exact rfl;all_goals intro h)
 ·have e:=jI h;subst e
  repeat first|refine ai ?_|refine aw ab fun fr=>⟨?_⟩
  (try refine sC ?_);exact ⟨trivial,cB⟩
 ·repeat first|refine ai ?_|refine aw ab fun fr=>⟨?_⟩
  (try refine sC ?_);exact iq rfl rfl
theorem yq (l:List aK) (hl:l.length≤1000000):EC prog 230 [bG 4 aK.c default l] [] fun r B=>B=[]∧r=bG 4 aK.c default l:=by
 refine EC.fin (nA ab (ca 230) func230 ntmps230 results230 ?_)
 repeat first|refine ai ?_|refine aw ab fun fr=>⟨?_⟩
 (apply az;exact rfl;all_goals intro h)
 ·have e:=jI h;subst e
  repeat first|refine ai ?_|refine aw ab fun fr=>⟨?_⟩
  (try refine sC ?_);exact ⟨trivial,cB⟩
 ·repeat first|refine ai ?_|refine aw ab fun fr=>⟨?_⟩
  (try refine sC ?_);exact iq rfl rfl
theorem wH (l:List bp) (hl:l.length≤1000000):EC prog 287 [bG 4 bp.c default l] [] fun r B=>B=[]∧r=bG 4 bp.c default l:=by
 refine EC.fin (nA ab (ca 287) func287 ntmps287 results287 ?_)
 repeat first|refine ai ?_|refine aw ab fun fr=>⟨?_⟩
 (apply az;exact rfl;all_goals intro h)
 ·have e:=jI h;subst e
  repeat first|refine ai ?_|refine aw ab fun fr=>⟨?_⟩
  (try refine sC ?_);exact ⟨trivial,cB⟩
 ·repeat first|refine ai ?_|refine aw ab fun fr=>⟨?_⟩
  (try refine sC ?_);exact iq rfl rfl
theorem Az (l:List (List UInt8)) (hl:l.length≤1000000):EC prog 288 [bG 1 jz default l] [] fun r B=>B=[]∧r=bG 1 jz default l:=by
 refine EC.fin (nA ab (ca 288) func288 ntmps288 results288 ?_)
 repeat first|refine ai ?_|refine aw ab fun fr=>⟨?_⟩
 (apply az;exact rfl;all_goals intro h)
 ·have e:=jI h;subst e
  repeat first|refine ai ?_|refine aw ab fun fr=>⟨?_⟩
  (try refine sC ?_);exact ⟨trivial,cB⟩
 ·repeat first|refine ai ?_|refine aw ab fun fr=>⟨?_⟩
  (try refine sC ?_);exact iq rfl rfl
theorem Gi {α:Type} {e:Nat} {cells:α→List SV} {d:α} {l:List α}:bq (.sl false e l.length fun k=>(l.map cells).getD k []) (bG e cells d l):=by
 refine bq.sl (fun h=>h) (.inr rfl) fun k hk=>?_;simp [getD,hk]
theorem QH (o:af) (s:SV):(aJ o.c 23 [s]).take 36=aJ o.c 23 [s]:=rfl
theorem N4 (o:af) (s:SV):(aJ o.c 23 [s]).length=36:=rfl
theorem QI (o:af) (i:Nat) (h:aN) (e a n:Nat):bt (aJ o.c 23 [.row i h e a n])=true:=by simp [aJ,af.c,bt,SV.fh]
theorem QJ (o:af) (s:SV):aJ (af.c default) 0 (aJ o.c 23 [s])=aJ o.c 23 [s]:=bb (by simp only [af.len,N4];decide) rfl
attribute [push_cast] QH N4 QI QJ
theorem QE (o:af) (s:SV):(aJ o.c 24 [s]).take 36=aJ o.c 24 [s]:=rfl
theorem N3 (o:af) (s:SV):(aJ o.c 24 [s]).length=36:=rfl
theorem QF (o:af) (i:Nat) (h:aN) (e a n:Nat):bt (aJ o.c 24 [.row i h e a n])=true:=by simp [aJ,af.c,bt,SV.fh]
theorem QG (o:af) (s:SV):aJ (af.c default) 0 (aJ o.c 24 [s])=aJ o.c 24 [s]:=bb (by simp only [af.len,N3];decide) rfl
attribute [push_cast] QE N3 QF QG
theorem QB (o:af) (s:SV):(aJ o.c 29 [s]).take 36=aJ o.c 29 [s]:=rfl
theorem N2 (o:af) (s:SV):(aJ o.c 29 [s]).length=36:=rfl
theorem QC (o:af) (i:Nat) (h:aN) (e a n:Nat):bt (aJ o.c 29 [.row i h e a n])=true:=by simp [aJ,af.c,bt,SV.fh]
theorem QD (o:af) (s:SV):aJ (af.c default) 0 (aJ o.c 29 [s])=aJ o.c 29 [s]:=bb (by simp only [af.len,N2];decide) rfl
attribute [push_cast] QB N2 QC QD
theorem QA (o:af) (s:SV):(aJ o.c 30 [s]).length=36:=rfl
attribute [push_cast] QA
theorem Qz (o:af) (s:SV):(aJ o.c 31 [s]).length=36:=rfl
attribute [push_cast] Qz
theorem Qx (o:af) (s:SV):(aJ o.c 35 [s]).take 36=aJ o.c 35 [s]:=rfl
theorem Qy (o:af) (s:SV):(aJ o.c 35 [s]).length=36:=rfl
attribute [push_cast] Qx Qy
theorem Am (id:Int):EC prog 316 [.int .u64 id] [] fun r B=>B=[]∧r= .agg (af.c {(default:af) with ID:=id,aU:=3}):=by
 refine EC.fin (nA ab (ca 316) func316 ntmps316 results316 ?_)
 repeat first|refine ai ?_|refine aw ab fun fr=>⟨?_⟩
 ((try refine sC ?_);refine sF ?_;refine bq.of_eq ?_;rfl)
theorem n5 (id t:Int):EC prog 317 [.int .u64 id,.int .u64 t] [] fun r B=>B=[]∧r= .agg (af.c {(default:af) with ID:=id,aU:=4,Refs:=1,Target:=t}):=by
 refine EC.fin (nA ab (ca 317) func317 ntmps317 results317 ?_)
 repeat first|refine ai ?_|refine aw ab fun fr=>⟨?_⟩
 ((try refine sC ?_);refine sF ?_;refine bq.of_eq ?_;rfl)
theorem Aj (id:Int):EC prog 267 [.int .u64 id] [] fun r B=>B=[]∧r= .agg (af.c {(default:af) with ID:=id,aU:=5,br:=1,ef:=1}):=by
 refine EC.fin (nA ab (ca 267) func267 ntmps267 results267 ?_)
 repeat first|refine ai ?_|refine aw ab fun fr=>⟨?_⟩
 ((try refine sC ?_);refine sF ?_;refine bq.of_eq ?_;rfl)
theorem sV (id:Int):EC prog 320 [.int .u64 id] [] fun r B=>B=[]∧r= .agg (af.c {(default:af) with ID:=id,aU:=6,Refs:=1}):=by
 refine EC.fin (nA ab (ca 320) func320 ntmps320 results320 ?_)
 repeat first|refine ai ?_|refine aw ab fun fr=>⟨?_⟩
 ((try refine sC ?_);refine sF ?_;refine bq.of_eq ?_;rfl)
theorem Ai (id:Int):EC prog 329 [.int .u64 id] [] fun r B=>B=[]∧r= .agg (af.c {(default:af) with ID:=id,aU:=7,Ends:=⟨1,1⟩}):=by
 refine EC.fin (nA ab (ca 329) func329 ntmps329 results329 ?_)
 repeat first|refine ai ?_|refine aw ab fun fr=>⟨?_⟩
 ((try refine sC ?_);refine sF ?_;refine bq.of_eq ?_;rfl)
theorem Al:EC prog 113 [] [] fun r B=>B=[]∧r= .agg (af.c {(default:af) with ID:=1,aU:=10}):=by
 refine EC.fin (nA ab (ca 113) func113 ntmps113 results113 ?_)
 repeat first|refine ai ?_|refine aw ab fun fr=>⟨?_⟩
 ((try refine sC ?_);refine sF ?_;refine bq.of_eq ?_;rfl)
def gj (id n:Int):af×Int:=if id == 0 then (default,1) else if decide (n < 0) || decide (1073741824 < n) then (default,2) else ({(default:af) with ID:=id,aU:=8,fG:=n},0)
theorem Ah (id n:Int):EC prog 321 [.int .u64 id,.int .i64 n] [] fun r B=>B=[]∧r= .bS [.agg (gj id n).1.c,.int .i64 (gj id n).2]:=by
 refine EC.fin (nA ab (ca 321) func321 ntmps321 results321 ?_)
 repeat first|refine ai ?_|refine aw ab fun fr=>⟨?_⟩
 (apply az;exact rfl;all_goals intro h)
 ·repeat first|refine ai ?_|refine aw ab fun fr=>⟨?_⟩
  ((try refine sC ?_);refine sF ?_;refine bq.of_eq ?_;(simp [gj,h]))
 have h0:=h;clear h
 repeat first|refine ai ?_|refine aw ab fun fr=>⟨?_⟩
 (apply az;exact rfl;all_goals intro h)
 ·repeat first|refine ai ?_|refine aw ab fun fr=>⟨?_⟩
  ((try refine sC ?_);refine sF ?_;refine bq.of_eq ?_;(simp only [gj,h0,h,Bool.false_eq_true,if_false,if_true]))
 ·repeat first|refine ai ?_|refine aw ab fun fr=>⟨?_⟩
  ((try refine sC ?_);refine sF ?_;refine bq.of_eq ?_;(simp only [gj,h0,h,Bool.false_eq_true,if_false,if_true]))
theorem Gh {α:Type} {e n:Nat} {xs:List (List SV)} {cells:α→List SV} {d:α} {l:List α} (hx:xs=l.map cells) (hn:n=l.length):bq (.sl false e n fun k=>xs.getD k []) (bG e cells d l):=by
 subst hx hn;exact Gi

theorem pS {P:Program} {f:Nat} {args:List SV} {Q:SV→List aI→Prop} (h:EC P f args [] fun r B'=>∃o B1,B'=o :: B1∧Q r B1):EC P f args [] Q:=by
 refine ⟨h.1,fun X w vs hs hd=>(h.2 X w vs hs hd).mono ?_⟩;rintro e w' ⟨v,r,X',_,he,⟨o,B1,rfl,hq⟩,h1,h2,h3⟩;exact ⟨v,r,X',B1,he,hq,⟨fun i j b h4 h5=>Nat.succ.inj (h1.inj (i+1) (j+1) b h4 h5),fun i b h4=>h1.lt (i+1) b h4,h1.xg,fun b hx ⟨i,hi⟩=>h1.apart b hx ⟨i+1,hi⟩,fun i=>h1.ok (i+1)⟩,h2,
  ⟨h3.os,h3.tape,h3.output,h3.size,h3.block,h3.AS,h3.pT,fun b ⟨i,hi⟩=>h3.own b ⟨i+1,hi⟩⟩⟩
def pg (id:Int) (ws:List Int):af:={(default:af) with ID:=id,aU:=2,fF:=ws}
def m_ (n:a8):Prop:=n.kN.length≤1000000∧n.Path.length≤1000000
theorem pF {l:List a8} {i:Nat} (hi:i < l.length):l[i]?.getD default∈l:=by
 rw [show l[i]?.getD default=l[i] by simp [hi]];exact getElem_mem hi
theorem R0 (o:a8) (s:SV):(aJ o.c 2 [s]).take 3=aJ o.c 2 [s]:=rfl
theorem Rs (o:a8) (s:SV):(aJ o.c 2 [s]).length=3:=rfl
theorem R1 (o:a8) (i:Nat) (h:aN) (e a n:Nat):bt (aJ o.c 2 [.row i h e a n])=true:=by simp [aJ,a8.c,bt,SV.fh]
theorem R3 (o:a8) (s:SV):aJ (a8.c default) 0 (aJ o.c 2 [s])=aJ o.c 2 [s]:=bb (by simp only [a8.len,Rs];decide) rfl
attribute [push_cast] R0 Rs R1 R3
theorem gQ (s:List UInt8) (hs:s.length≤1000000):EC prog 237 [.str s] [] fun r N=>N=[]∧∃b:Bool,True∧r= .bool b:=by
 refine EC.G_ (nA ab (ca 237) func237 ntmps237 results237 ?_)
 repeat first|refine ai ?_|refine aw ab fun fr=>⟨?_⟩
 (apply az;exact rfl;all_goals intro h)
 ·repeat first|refine ai ?_|refine aw ab fun fr=>⟨?_⟩
  (try refine sC ?_);refine sF ?_;exact ⟨_,bq.refl _⟩
 have h1:2≤s.length∧s.length≤128:=by simp at h;omega
 clear h
 repeat first|refine ai ?_|refine aw ab fun fr=>⟨?_⟩
 refine eL [0] (fun i:Nat=>[(3,.int .i64 i)]) (fun i=>1≤i∧i≤s.length) (fun i=>s.length - i) 1 ⟨by decide,by omega⟩ ⟨rfl,trivial⟩ ?_;rintro i ⟨hi,hi2⟩;refine sK ?_
 repeat first|refine ai ?_|refine aw ab fun fr=>⟨?_⟩
 (apply az;exact rfl;all_goals intro h)
 ·have hlt:i < s.length:=by simp at h;omega
  clear h
  repeat first|refine ai ?_|refine aw ab fun fr=>⟨?_⟩
  (apply az;exact rfl;all_goals intro h)
  ·repeat first|refine ai ?_|refine aw ab fun fr=>⟨?_⟩
   (try refine sC ?_);refine sF ?_;exact ⟨_,bq.refl _⟩
  ·repeat first|refine ai ?_|refine aw ab fun fr=>⟨?_⟩
   ((try refine sT ?_);first|refine ra (i+1) ?_ ?_|refine q' (i+1) ?_ ?_)
   ·omega
   ·omega
 ·repeat first|refine ai ?_|refine aw ab fun fr=>⟨?_⟩
  (try refine sC ?_);refine sF ?_;exact ⟨_,bq.refl _⟩
theorem da (n:a8) (hn:m_ n):EC prog 238 [.agg n.c] [] fun r N=>N=[]∧r= .agg n.c:=by
 refine EC.fin (nA ab (ca 238) func238 ntmps238 results238 ?_);obtain ⟨h1,h2⟩:=hn
 repeat first|refine ai ?_|refine aw ab fun fr=>⟨?_⟩
 (try refine sC ?_);exact uM ((eU.obj (cs:=n.c) (fun s B=>by rw [a8.fk]) (fun s B=>by rw [a8.fz])).put 2 (gY.row (cells:=aS .u64) (d:=default) rfl rfl rfl) (a8.p2 _ _))
theorem oZ (n:a8) (hn:m_ n):EC prog 173 [.agg n.c] [] fun r N=>N=[]∧∃b:Bool,True∧r= .bool b:=by
 obtain ⟨hids,hp⟩:=hn;refine EC.G_ (nA ab (ca 173) func173 ntmps173 results173 ?_)
 repeat first|refine ai ?_|refine aw ab fun fr=>⟨?_⟩
 by_cases k3:n.aU=3
 ·simp only [k3];(apply az;exact rfl;all_goals intro h);rotate_left 1
  ·exfalso;revert h;decide
  clear h;(repeat (refine ai ?_));(apply az;exact rfl;all_goals intro h);rotate_left 1
  ·exfalso;revert h;decide
  clear h
  repeat first|refine ai ?_|refine aw ab fun fr=>⟨?_⟩
  (apply az;exact rfl;all_goals intro h)
  ·repeat first|refine ai ?_|refine aw ab fun fr=>⟨?_⟩
   (try refine sC ?_);refine sF ?_;exact ⟨_,bq.refl _⟩
  clear h
  repeat first|refine ai ?_|refine aw ab fun fr=>⟨?_⟩
  refine eL [1,29,30] (fun i:Nat=>[(31,.int .i64 i)]) (fun i=>i≤n.kN.length) (fun i=>n.kN.length - i) 0 (zero_le _) ⟨rfl,trivial⟩ ?_;intro i hi;refine sK ?_
  repeat first|refine ai ?_|refine aw ab fun fr=>⟨?_⟩
  (apply az;exact rfl;all_goals intro h)
  ·have hlt:i < n.kN.length:=by simp at h;omega
   repeat first|refine ai ?_|refine aw ab fun fr=>⟨?_⟩
   (apply az;exact rfl;all_goals intro h)
   ·repeat first|refine ai ?_|refine aw ab fun fr=>⟨?_⟩
    (try refine sC ?_);refine sF ?_;exact ⟨_,bq.refl _⟩
   ·repeat first|refine ai ?_|refine aw ab fun fr=>⟨?_⟩
    ((try refine sT ?_);first|refine ra (i+1) ?_ ?_|refine q' (i+1) ?_ ?_)
    ·omega
    ·omega
  ·repeat first|refine ai ?_|refine aw ab fun fr=>⟨?_⟩
   (try refine aw ab fun fr=>⟨?_⟩);(refine EC.aM (gQ n.Path hp) ?_;rintro b -;(try simp only [hg]);refine gA ab fun fr=>⟨?_⟩);(repeat (refine ai ?_));(try refine sC ?_);refine sF ?_;exact ⟨_,bq.refl _⟩
 by_cases k6:n.aU=6
 ·simp only [k6];(apply az;exact rfl;all_goals intro h)
  ·exfalso;revert h;decide
  clear h
  repeat first|refine ai ?_|refine aw ab fun fr=>⟨?_⟩
  (apply az;exact rfl;all_goals intro h);rotate_left 1
  ·exfalso;revert h;decide
  clear h;(repeat (refine ai ?_));(apply az;exact rfl;all_goals intro h);rotate_left 1
  ·exfalso;revert h;decide
  clear h
  repeat first|refine ai ?_|refine aw ab fun fr=>⟨?_⟩
  (apply az;exact rfl;all_goals intro h)
  ·repeat first|refine ai ?_|refine aw ab fun fr=>⟨?_⟩
   (try refine sC ?_);refine sF ?_;exact ⟨_,bq.refl _⟩
  clear h
  repeat first|refine ai ?_|refine aw ab fun fr=>⟨?_⟩
  refine eL [1,29,30] (fun i:Nat=>[(31,.int .i64 i)]) (fun i=>i≤n.kN.length) (fun i=>n.kN.length - i) 0 (zero_le _) ⟨rfl,trivial⟩ ?_;intro i hi;refine sK ?_
  repeat first|refine ai ?_|refine aw ab fun fr=>⟨?_⟩
  (apply az;exact rfl;all_goals intro h)
  ·have hlt:i < n.kN.length:=by simp at h;omega
   repeat first|refine ai ?_|refine aw ab fun fr=>⟨?_⟩
   (apply az;exact rfl;all_goals intro h)
   ·repeat first|refine ai ?_|refine aw ab fun fr=>⟨?_⟩
    (try refine sC ?_);refine sF ?_;exact ⟨_,bq.refl _⟩
   ·repeat first|refine ai ?_|refine aw ab fun fr=>⟨?_⟩
    ((try refine sT ?_);first|refine ra (i+1) ?_ ?_|refine q' (i+1) ?_ ?_)
    ·omega
    ·omega
  ·repeat first|refine ai ?_|refine aw ab fun fr=>⟨?_⟩
   (try refine aw ab fun fr=>⟨?_⟩);(refine EC.aM (gQ n.Path hp) ?_;rintro b -;(try simp only [hg]);refine gA ab fun fr=>⟨?_⟩);(repeat (refine ai ?_));(try refine sC ?_);refine sF ?_;exact ⟨_,bq.refl _⟩
 by_cases k8:n.aU=8
 ·simp only [k8];(apply az;exact rfl;all_goals intro h)
  ·exfalso;revert h;decide
  clear h
  repeat first|refine ai ?_|refine aw ab fun fr=>⟨?_⟩
  (apply az;exact rfl;all_goals intro h)
  ·exfalso;revert h;decide
  clear h
  repeat first|refine ai ?_|refine aw ab fun fr=>⟨?_⟩
  (apply az;exact rfl;all_goals intro h);rotate_left 1
  ·exfalso;revert h;decide
  clear h;(repeat (refine ai ?_));(apply az;exact rfl;all_goals intro h);rotate_left 1
  ·exfalso;revert h;decide
  clear h
  repeat first|refine ai ?_|refine aw ab fun fr=>⟨?_⟩
  (apply az;exact rfl;all_goals intro h)
  ·repeat first|refine ai ?_|refine aw ab fun fr=>⟨?_⟩
   (try refine sC ?_);refine sF ?_;exact ⟨_,bq.refl _⟩
  clear h
  repeat first|refine ai ?_|refine aw ab fun fr=>⟨?_⟩
  refine eL [1,29,30] (fun i:Nat=>[(31,.int .i64 i)]) (fun i=>i≤n.kN.length) (fun i=>n.kN.length - i) 0 (zero_le _) ⟨rfl,trivial⟩ ?_;intro i hi;refine sK ?_
  repeat first|refine ai ?_|refine aw ab fun fr=>⟨?_⟩
  (apply az;exact rfl;all_goals intro h)
  ·have hlt:i < n.kN.length:=by simp at h;omega
   repeat first|refine ai ?_|refine aw ab fun fr=>⟨?_⟩
   (apply az;exact rfl;all_goals intro h)
   ·repeat first|refine ai ?_|refine aw ab fun fr=>⟨?_⟩
    (try refine sC ?_);refine sF ?_;exact ⟨_,bq.refl _⟩
   ·repeat first|refine ai ?_|refine aw ab fun fr=>⟨?_⟩
    ((try refine sT ?_);first|refine ra (i+1) ?_ ?_|refine q' (i+1) ?_ ?_)
    ·omega
    ·omega
  ·repeat first|refine ai ?_|refine aw ab fun fr=>⟨?_⟩
   (try refine aw ab fun fr=>⟨?_⟩);(refine EC.aM (gQ n.Path hp) ?_;rintro b -;(try simp only [hg]);refine gA ab fun fr=>⟨?_⟩);(repeat (refine ai ?_));(try refine sC ?_);refine sF ?_;exact ⟨_,bq.refl _⟩
 by_cases k9:n.aU=9
 ·simp only [k9];(apply az;exact rfl;all_goals intro h)
  ·exfalso;revert h;decide
  clear h
  repeat first|refine ai ?_|refine aw ab fun fr=>⟨?_⟩
  (apply az;exact rfl;all_goals intro h)
  ·exfalso;revert h;decide
  clear h
  repeat first|refine ai ?_|refine aw ab fun fr=>⟨?_⟩
  (apply az;exact rfl;all_goals intro h)
  ·exfalso;revert h;decide
  clear h;(repeat (refine aw ab fun fr=>⟨?_⟩));(apply az;exact rfl;all_goals intro h);rotate_left 1
  ·exfalso;revert h;decide
  clear h
  repeat first|refine ai ?_|refine aw ab fun fr=>⟨?_⟩
  (apply az;exact rfl;all_goals intro h)
  ·repeat first|refine ai ?_|refine aw ab fun fr=>⟨?_⟩
   (try refine sC ?_);refine sF ?_;exact ⟨_,bq.refl _⟩
  clear h
  repeat first|refine ai ?_|refine aw ab fun fr=>⟨?_⟩
  refine eL [1,29,30] (fun i:Nat=>[(31,.int .i64 i)]) (fun i=>i≤n.kN.length) (fun i=>n.kN.length - i) 0 (zero_le _) ⟨rfl,trivial⟩ ?_;intro i hi;refine sK ?_
  repeat first|refine ai ?_|refine aw ab fun fr=>⟨?_⟩
  (apply az;exact rfl;all_goals intro h)
  ·have hlt:i < n.kN.length:=by simp at h;omega
   repeat first|refine ai ?_|refine aw ab fun fr=>⟨?_⟩
   (apply az;exact rfl;all_goals intro h)
   ·repeat first|refine ai ?_|refine aw ab fun fr=>⟨?_⟩
    (try refine sC ?_);refine sF ?_;exact ⟨_,bq.refl _⟩
   ·repeat first|refine ai ?_|refine aw ab fun fr=>⟨?_⟩
    ((try refine sT ?_);first|refine ra (i+1) ?_ ?_|refine q' (i+1) ?_ ?_)
    ·omega
    ·omega
  ·repeat first|refine ai ?_|refine aw ab fun fr=>⟨?_⟩
   (try refine aw ab fun fr=>⟨?_⟩);(refine EC.aM (gQ n.Path hp) ?_;rintro b -;(try simp only [hg]);refine gA ab fun fr=>⟨?_⟩);(repeat (refine ai ?_));(try refine sC ?_);refine sF ?_;exact ⟨_,bq.refl _⟩
 by_cases k2:n.aU=2
 ·simp only [k2];(apply az;exact rfl;all_goals intro h)
  ·exfalso;revert h;decide
  clear h
  repeat first|refine ai ?_|refine aw ab fun fr=>⟨?_⟩
  (apply az;exact rfl;all_goals intro h)
  ·exfalso;revert h;decide
  clear h
  repeat first|refine ai ?_|refine aw ab fun fr=>⟨?_⟩
  (apply az;exact rfl;all_goals intro h)
  ·exfalso;revert h;decide
  clear h;(repeat (refine aw ab fun fr=>⟨?_⟩));(apply az;exact rfl;all_goals intro h)
  ·exfalso;revert h;decide
  clear h
  repeat first|refine ai ?_|refine aw ab fun fr=>⟨?_⟩
  (apply az;exact rfl;all_goals intro h);rotate_left 1
  ·exfalso;revert h;decide
  clear h
  repeat first|refine ai ?_|refine aw ab fun fr=>⟨?_⟩
  (apply az;exact rfl;all_goals intro h)
  ·repeat first|refine ai ?_|refine aw ab fun fr=>⟨?_⟩
   (try refine sC ?_);refine sF ?_;exact ⟨_,bq.refl _⟩
  clear h
  repeat first|refine ai ?_|refine aw ab fun fr=>⟨?_⟩
  refine eL [1,29,30] (fun i:Nat=>[(31,.int .i64 i)]) (fun i=>i≤n.kN.length) (fun i=>n.kN.length - i) 0 (zero_le _) ⟨rfl,trivial⟩ ?_;intro i hi;refine sK ?_
  repeat first|refine ai ?_|refine aw ab fun fr=>⟨?_⟩
  (apply az;exact rfl;all_goals intro h)
  ·have hlt:i < n.kN.length:=by simp at h;omega
   repeat first|refine ai ?_|refine aw ab fun fr=>⟨?_⟩
   (apply az;exact rfl;all_goals intro h)
   ·repeat first|refine ai ?_|refine aw ab fun fr=>⟨?_⟩
    (try refine sC ?_);refine sF ?_;exact ⟨_,bq.refl _⟩
   ·repeat first|refine ai ?_|refine aw ab fun fr=>⟨?_⟩
    ((try refine sT ?_);first|refine ra (i+1) ?_ ?_|refine q' (i+1) ?_ ?_)
    ·omega
    ·omega
  ·repeat first|refine ai ?_|refine aw ab fun fr=>⟨?_⟩
   (try refine aw ab fun fr=>⟨?_⟩);(refine EC.aM (gQ n.Path hp) ?_;rintro b -;(try simp only [hg]);refine gA ab fun fr=>⟨?_⟩);(repeat (refine ai ?_));(try refine sC ?_);refine sF ?_;exact ⟨_,bq.refl _⟩
 ·(apply az;exact rfl;all_goals intro h)
  ·exfalso;rw [show (n.aU == 3)=false by simp;omega] at h;cases h
  clear h
  repeat first|refine ai ?_|refine aw ab fun fr=>⟨?_⟩
  (apply az;exact rfl;all_goals intro h)
  ·exfalso;rw [show (n.aU == 6)=false by simp;omega] at h;cases h
  clear h
  repeat first|refine ai ?_|refine aw ab fun fr=>⟨?_⟩
  (apply az;exact rfl;all_goals intro h)
  ·exfalso;rw [show (n.aU == 8)=false by simp;omega] at h;cases h
  clear h;(repeat (refine aw ab fun fr=>⟨?_⟩));(apply az;exact rfl;all_goals intro h)
  ·exfalso;rw [show (n.aU == 9)=false by simp;omega] at h;cases h
  clear h
  repeat first|refine ai ?_|refine aw ab fun fr=>⟨?_⟩
  (apply az;exact rfl;all_goals intro h)
  ·exfalso;rw [show (n.aU == 2)=false by simp;omega] at h;cases h
  clear h
  repeat first|refine ai ?_|refine aw ab fun fr=>⟨?_⟩
  (try refine sC ?_);refine sF ?_;exact ⟨_,bq.refl _⟩
theorem lL (o:af) (hl:o.cN.length≤1000000) (hn:∀n∈o.cN,m_ n):EC prog 172 [.agg o.c] [] fun r N=>N=[]∧∃b:Bool,True∧r= .bool b:=by
 refine EC.G_ (nA ab (ca 172) func172 ntmps172 results172 ?_)
 repeat first|refine ai ?_|refine aw ab fun fr=>⟨?_⟩
 (apply az;exact rfl;all_goals intro h)
 ·repeat first|refine ai ?_|refine aw ab fun fr=>⟨?_⟩
  (try refine sC ?_);refine sF ?_;exact ⟨_,bq.refl _⟩
 clear h
 repeat first|refine ai ?_|refine aw ab fun fr=>⟨?_⟩
 refine eL [1,20,21] (fun i:Nat=>[(22,.int .i64 i)]) (fun i=>i≤o.cN.length) (fun i=>o.cN.length - i) 0 (zero_le _) ⟨rfl,trivial⟩ ?_;intro i hi;refine sK ?_
 repeat first|refine ai ?_|refine aw ab fun fr=>⟨?_⟩
 (apply az;exact rfl;all_goals intro h)
 ·have hlt:i < o.cN.length:=by simp at h;omega
  clear h
  repeat first|refine ai ?_|refine aw ab fun fr=>⟨?_⟩
  (refine dD ab [] [false,false] [0,1,2,3,4,5,6,7,8,9,10,11,12,13,14,15,16,17,18] bZ fun R hR=>?_;(repeat intro rh);(try refine sB ⟨?_⟩);(repeat ((with_reducible apply And.intro);exact fE));(repeat intro rh);(repeat ((with_reducible apply And.intro);exact fE));(try apply_assumption -exfalso));(refine EC.aM (oZ _ (hn _ (bk hlt))) ?_;rintro b -;(try simp only [hg]);refine dR ab [2,3,4,5,6,7,8,9,10,11,12,13,14,15,16,17,18] ?_;(repeat intro rh);(try refine sB ⟨?_⟩);(repeat ((with_reducible apply And.intro);exact fE));((try simp only [gy])));refine ⟨fun hb=>⟨hb,by simp at hb;omega,by simp at hb;omega⟩,fun hb=>⟨hb,fun h2=>by simp [hb];omega⟩,fun hb=>by simpa using hb,?_⟩
  (apply_assumption -exfalso)
  (repeat (refine ai ?_));(apply az;exact rfl;all_goals intro h)
  ·repeat first|refine ai ?_|refine aw ab fun fr=>⟨?_⟩
   (try refine sC ?_);refine sF ?_;exact ⟨_,bq.refl _⟩
  ·repeat first|refine ai ?_|refine aw ab fun fr=>⟨?_⟩
   ((try refine sT ?_);first|refine ra (i+1) ?_ ?_|refine q' (i+1) ?_ ?_)
   ·omega
   ·omega
 ·repeat first|refine ai ?_|refine aw ab fun fr=>⟨?_⟩
  (try refine aw ab fun fr=>⟨?_⟩);(refine EC.F0 (cZ {o with cN:=[]}) (.cons (bq.agg (by (repeat (first|exact eD.refl _|apply af.Rw|exact cB)))) .nil) ?_;(try simp only [hg]);refine gA ab fun fr=>⟨?_⟩);(repeat (refine ai ?_));(try refine sC ?_);refine sF ?_;exact ⟨_,bq.refl _⟩

def KT (s:Int):Int:=IntKind.i64.wrap (1*2 ^ (min s.toNat 64))
def cg (p:aC) (s:Int):aC×Int:=
 if (decide (s < 1) || decide (31 < s))=true then (default,2) else if (!(p.State == 1) && !(p.State == 2))=true then (default,6) else
 if (!(s == 9))=true then ({p with cy:=b6 .or .i64 p.cy (KT s)},0) else if (p.State == 1)=true then ({p with State:=2,Status:=-9},0) else (p,0)
def Et (x:aC×Int):SV:= .bS [.agg x.1.c,.int .i64 x.2]
def PZ (x:Int×aC):SV:= .bS [.int .i64 x.1,.agg x.2.c]
theorem oY (p:aC) (s:Int):EC prog 284 [.agg p.c,.int .i64 s] [] fun r B=>B=[]∧r=Et (cg p s):=by
 refine EC.fin (nA ab (ca 284) func284 ntmps284 results284 ?_)
 repeat first|refine ai ?_|refine aw ab fun fr=>⟨?_⟩
 (apply az;exact rfl;all_goals intro h)
 ·repeat first|refine ai ?_|refine aw ab fun fr=>⟨?_⟩
  ((try refine sC ?_);refine sF ?_;refine bq.of_eq ?_;(simp only [cg,h,if_true,Et]))
 repeat first|refine ai ?_|refine aw ab fun fr=>⟨?_⟩
 have h1:=h;clear h;(apply az;exact rfl;all_goals intro h)
 ·repeat first|refine ai ?_|refine aw ab fun fr=>⟨?_⟩
  simp only [bne_eq] at h;((try refine sC ?_);refine sF ?_;refine bq.of_eq ?_;(simp only [cg,h1,h,if_true,if_false,Et,Bool.false_eq_true]))
 repeat first|refine ai ?_|refine aw ab fun fr=>⟨?_⟩
 simp only [bne_eq] at h;have h2:=h;clear h;have hs:1≤s∧s≤31:=by simp at h1;omega
 (apply az;exact rfl;all_goals intro h)
 ·(repeat (done));(refine dD ab [6] [false,false] [0,1,2,3,4,5,6] bZ fun R hR=>?_;(repeat intro rh);(try refine sB ⟨?_⟩);(repeat ((with_reducible apply And.intro);exact fE));(repeat intro rh);(repeat ((with_reducible apply And.intro);exact fE));(try apply_assumption -exfalso))
  repeat first|refine ai ?_|refine aw ab fun fr=>⟨?_⟩
  simp only [bne_eq] at h;((try refine sC ?_);refine sF ?_;refine bq.of_eq ?_;(simp only [cg,h1,h2,h,if_true,if_false,Et,Bool.false_eq_true];(try rfl)))
 repeat first|refine ai ?_|refine aw ab fun fr=>⟨?_⟩
 simp only [bne_eq] at h;have h3:=h;clear h;(apply az;exact rfl;all_goals intro h)
 ·repeat first|refine ai ?_|refine aw ab fun fr=>⟨?_⟩
  ((try refine sC ?_);refine sF ?_;refine bq.of_eq ?_;(simp only [cg,h1,h2,h3,if_false,Bool.false_eq_true];simp only [h,if_true,if_false,Et,Bool.false_eq_true]))
 ·repeat first|refine ai ?_|refine aw ab fun fr=>⟨?_⟩
  ((try refine sC ?_);refine sF ?_;refine bq.of_eq ?_;(simp only [cg,h1,h2,h3,if_false,Bool.false_eq_true];simp only [h,if_true,if_false,Et,Bool.false_eq_true]))
theorem xU (p:aC):EC prog 264 [.agg p.c] [] fun r B=>B=[]∧r=PZ (p.cy,{p with cy:=0}):=by
 refine EC.fin (nA ab (ca 264) func264 ntmps264 results264 ?_)
 repeat first|refine ai ?_|refine aw ab fun fr=>⟨?_⟩
 (refine dD ab [] [false,true] [0,1,2,3] bZ fun R hR=>?_;(repeat intro rh);(try refine sB ⟨?_⟩);(repeat ((with_reducible apply And.intro);exact fE));(repeat intro rh);(repeat ((with_reducible apply And.intro);exact fE));(try apply_assumption -exfalso));(repeat (refine ai ?_));((try refine sC ?_);refine sF ?_;refine bq.of_eq ?_;rfl)
def kQ (x:Int):Bool:=b6 .andNot .i64 x 4294966782 == 0
def zl (x:Int):Bool:=decide (0≤x) && decide (x < 4294967296) && b6 .and .i64 x 1 == 0 && b6 .and .i64 (x.fdiv 512) 1 == 0
theorem we (x:Int):EC prog 246 [.int .i64 x] [] fun r B=>B=[]∧r= .bool (zl x):=by
 refine EC.fin (nA ab (ca 246) func246 ntmps246 results246 ?_)
 repeat first|refine ai ?_|refine aw ab fun fr=>⟨?_⟩
 ((try refine sC ?_);refine sF ?_;refine bq.of_eq ?_;rfl)
theorem EF:∀i,i < 64→(BitVec.ofInt 64 4294966782).getLsbD i=(decide (i < 32) && !decide (i=0) && !decide (i=9)):=by decide
theorem AZ (x:Int) (h:-9223372036854775808≤x∧x≤9223372036854775807):(BitVec.ofInt 64 x).toInt=x:=by
 rw [BitVec.toInt_ofInt,Int.bmod_eq_of_le (by omega) (by omega)]
theorem y' (x:Int):(b6 .and .i64 x 1 == 0)= !(BitVec.ofInt 64 x).getLsbD 0:=by
 rw [show b6 .and .i64 x 1=IntKind.i64.wrap (((BitVec.ofInt 64 x &&& BitVec.ofInt 64 1).toNat:Nat):Int) from rfl,FP];apply Bool.eq_iff_iff.2;simp only [beq_iff_eq,Bool.not_eq_true']
 constructor
 ·intro h;have:=congrArg (fun v=>v.getLsbD 0) h;simpa using this
 ·intro h;apply BitVec.eq_of_getLsbD_eq;intro i hi;rw [BitVec.getLsbD_and];by_cases h0:i=0
  ·subst h0;rw [h,Bool.false_and,BitVec.getLsbD_zero]
  ·have:(BitVec.ofInt 64 1).getLsbD i=false:=by
    rw [show BitVec.ofInt 64 1=1#64 from rfl,BitVec.getLsbD_one];simp [h0]
   rw [this,Bool.and_false,BitVec.getLsbD_zero]
theorem Gk (x:Int) (h:-9223372036854775808≤x∧x≤9223372036854775807):kQ x=zl x:=by
 unfold kQ zl;rw [tR,FP,y',y'];have hx:=AZ x h;generalize hv:BitVec.ofInt 64 x=v at *;have hc:=EF;generalize hcv:BitVec.ofInt 64 4294966782=c at *;have e9:(BitVec.ofInt 64 (x.fdiv 512)).getLsbD 0=v.getLsbD 9:=by
  have e:BitVec.ofInt 64 (x.fdiv 512)=v.sshiftRight 9:=by
   apply BitVec.eq_of_toInt_eq;rw [BitVec.toInt_sshiftRight,hx,Int.shiftRight_eq_div_pow,Int.fdiv_eq_ediv_of_nonneg _ (by decide),AZ _ (by omega)];rfl
  rw [e,BitVec.getLsbD_sshiftRight];simp
 rw [e9];apply Bool.eq_iff_iff.2;simp only [beq_iff_eq,Bool.and_eq_true,decide_eq_true_eq,Bool.not_eq_true']
 constructor
 ·intro h1;have hb:∀i,i < 64→v.getLsbD i=true→(decide (i < 32) && !decide (i=0) && !decide (i=9))=true:=by
   intro i hi hvi;rw [←hc i hi];have:=congrArg (fun u=>u.getLsbD i) h1;simp only [BitVec.getLsbD_and,BitVec.getLsbD_not,hvi,hi,decide_true,Bool.true_and,BitVec.getLsbD_zero] at this;simpa using this
  have hlt:v.toNat < 2 ^ 32:=by
   apply Nat.lt_pow_two_of_testBit;intro i hi;by_cases h64:i < 64
   ·cases hvi:v.getLsbD i with
    |false=>exact hvi
    |true=>have:=hb i h64 hvi;simp at this;omega
   ·exact Nat.testBit_lt_two_pow (Nat.lt_of_lt_of_le v.isLt (Nat.pow_le_pow_right (by decide) (by omega)))
  have hti:v.toInt=v.toNat:=by rw [BitVec.toInt_eq_toNat_cond];split<;>omega
  refine ⟨⟨⟨by omega,by omega⟩,?_⟩,?_⟩
  ·cases hvi:v.getLsbD 0 with
   |false=>rfl
   |true=>have:=hb 0 (by decide) hvi;simp at this
  ·cases hvi:v.getLsbD 9 with
   |false=>rfl
   |true=>have:=hb 9 (by decide) hvi;simp at this
 ·rintro ⟨⟨⟨h1,h2⟩,h3⟩,h4⟩;have hlt:v.toNat < 2 ^ 32:=by
   rw [BitVec.toInt_eq_toNat_cond] at hx;have:=v.isLt
   split at hx<;>omega
  apply BitVec.eq_of_getLsbD_eq;intro i hi;simp only [BitVec.getLsbD_and,BitVec.getLsbD_not,hi,decide_true,Bool.true_and,BitVec.getLsbD_zero];rw [hc i hi]
  cases hvi:v.getLsbD i with
  |false=>rfl
  |true=>
   have hi32:i < 32:=by
    rcases Nat.lt_or_ge i 32 with h|h
    ·exact h
    ·have:v.getLsbD i=false:=Nat.testBit_lt_two_pow (Nat.lt_of_lt_of_le hlt (Nat.pow_le_pow_right (by decide) h));rw [this] at hvi;cases hvi
   have h0:i≠0:=by rintro rfl;rw [h3] at hvi;cases hvi
   have h9:i≠9:=by rintro rfl;rw [h4] at hvi;cases hvi
   simp [hi32,h0,h9]
def oh (n:Int):Bool:=decide (n < 0) || decide (1073741824 < n)
def mH (p:aC) (t:Int):Int×aC×Int:=if oh t=true then (0,default,2) else (p.eP,{p with eP:=t},0)
def j3 (p:aC) (n:Int):aC×Int:=if oh n=true then (default,2) else if (p.eP == 0 || (!(p.State == 1) && !(p.State == 2)))=true then (p,0) else
 if decide (n < p.eP)=true then ({p with eP:=IntKind.i64.wrap (p.eP - n)},0) else cg {p with eP:=0} 14
def A' (x:Int×aC×Int):SV:= .bS [.int .i64 x.1,.agg x.2.1.c,.int .i64 x.2.2]
theorem Ag (p:aC) (t:Int):EC prog 272 [.agg p.c,.int .i64 t] [] fun r B=>B=[]∧r=A' (mH p t):=by
 refine EC.fin (nA ab (ca 272) func272 ntmps272 results272 ?_)
 repeat first|refine ai ?_|refine aw ab fun fr=>⟨?_⟩
 (apply az;exact rfl;all_goals intro h)
 ·repeat first|refine ai ?_|refine aw ab fun fr=>⟨?_⟩
  ((try refine sC ?_);refine sF ?_;refine bq.of_eq ?_;(simp only [mH,oh,h,if_true,A']))
 repeat first|refine ai ?_|refine aw ab fun fr=>⟨?_⟩
 (refine dD ab [] [false,true] [0,1,2,3,4] bZ fun R hR=>?_;(repeat intro rh);(try refine sB ⟨?_⟩);(repeat ((with_reducible apply And.intro);exact fE));(repeat intro rh);(repeat ((with_reducible apply And.intro);exact fE));(try apply_assumption -exfalso));(repeat (refine ai ?_));((try refine sC ?_);refine sF ?_;refine bq.of_eq ?_;(simp only [mH,oh,h,if_false,A',Bool.false_eq_true]))
theorem xT (p:aC) (n:Int):EC prog 212 [.agg p.c,.int .i64 n] [] fun r B=>B=[]∧r=Et (j3 p n):=by
 refine EC.fin (nA ab (ca 212) func212 ntmps212 results212 ?_)
 repeat first|refine ai ?_|refine aw ab fun fr=>⟨?_⟩
 (apply az;exact rfl;all_goals intro h)
 ·repeat first|refine ai ?_|refine aw ab fun fr=>⟨?_⟩
  ((try refine sC ?_);refine sF ?_;refine bq.of_eq ?_;(simp only [j3,oh,h,if_true,Et]))
 repeat first|refine ai ?_|refine aw ab fun fr=>⟨?_⟩
 have h0:oh n=false:=h;clear h;(apply az;exact rfl;all_goals intro h)
 ·simp only [bne_eq] at h
  repeat first|refine ai ?_|refine aw ab fun fr=>⟨?_⟩
  ((try refine sC ?_);refine sF ?_;refine bq.of_eq ?_;(simp only [j3,h0,h,if_true,if_false,Bool.false_eq_true,Et]))
 ·simp only [bne_eq] at h;have h2:=h;clear h
  repeat first|refine ai ?_|refine aw ab fun fr=>⟨?_⟩
  (apply az;exact rfl;all_goals intro h)
  ·repeat first|refine ai ?_|refine aw ab fun fr=>⟨?_⟩
   ((try refine sC ?_);refine sF ?_;refine bq.of_eq ?_;(simp only [j3,h0,h2,h,if_true,if_false,Bool.false_eq_true,Et]))
  ·have cR:=oY {p with eP:=0} 14;simp only [Et] at cR
   repeat first|refine ai ?_|refine aw ab fun fr=>⟨?_⟩
   (try refine aw ab fun fr=>⟨?_⟩);(refine EC.use (cR) ?_;(try simp only [hg]);refine gA ab fun fr=>⟨?_⟩);(repeat (refine ai ?_));((try refine sC ?_);refine sF ?_;refine bq.of_eq ?_;(simp only [j3,h0,h2,h,if_true,if_false,Bool.false_eq_true,Et]))
attribute [push_cast] Option.toList_none Option.toList_some
theorem bq.fn {f:FuncId} {l l':List SV} (h:eD l l'):bq (.fn f l) (.fn f l'):=by
 intro X w v hd
 cases hd with
 |fn hs hc=>
  refine .fn (by rw [hs,h.spec.1]) fun i c hi=>?_;obtain ⟨d,h1,h2⟩:=h.spec.2 i c hi;exact h2 _ _ _ (hc i d h1)
def oc {α:Type} (p:α→Bool):Nat→List α→Int
 |_,[]=>-1
 |i,y :: t=>if p y then (i:Int) else oc p (i+1) t
theorem DM {α:Type} (p:α→Bool) (l:List α):∀i,decide (0≤oc p i l)=l.any p:=by
 induction l with
 |nil=>intro i;simp [oc]
 |cons y t ih=>
  intro i;simp only [oc,List.any_cons]
  split
  ·simp [*]
  ·simp [*]
theorem yY {α:Type} [Inhabited α] {p:α→Bool} {l:List α} {i:Nat} (h:i < l.length):oc p i (l.drop i)=if p (l.getD i default) then (i:Int) else oc p (i+1) (l.drop (i+1)):=by
 rw [List.drop_eq_getElem_cons h];simp [oc,getD,h]
def again (p q:ay):Bool:=q.ID == p.ID && (!q.eS || !p.eS)
def HB (l:List ay) (i:Nat):Bool:=!((l.getD i default).ID == 0) && !((l.take i).any (again (l.getD i default)))
def kC (l:List ay):Bool:=(range l.length).all (HB l) && decide ((l.length:Int)≤16)
theorem Bd {l:List ay} {i:Nat} (h:i < l.length) (hp:HB l i=false):kC l=false:=by
 have:(range l.length).all (HB l)=false:=by
  simp only [all_eq_false];exact ⟨i,by simpa using h,by simp [hp]⟩
 simp only [kC,this,Bool.false_and]
theorem zb (p q:ay):(p.ID == q.ID && !(p.eS && q.eS))=again p q:=by
 rw [again,Bool.beq_comm,Bool.not_and,Bool.or_comm]
theorem yu {α:Type} [Inhabited α] {l:List α} {p:α→Bool} {j:Nat} (h:j < l.length):(l.take (j+1)).any p=((l.take j).any p || p (l.getD j default)):=by
 rw [take_succ_eq_append_getElem h,List.any_append];simp [getD,h]
theorem fy (l:List ay) (hl:l.length≤1000000):EC prog 244 [bG 2 ay.c default l] [] fun r B=>B=[]∧r= .bool (kC l):=by
 refine EC.fin (nA ab (ca 244) func244 ntmps244 results244 ?_)
 repeat first|refine ai ?_|refine aw ab fun fr=>⟨?_⟩
 refine eL [0,7,8] (fun i:Nat=>[(9,.int .i64 i)]) (fun i=>i≤l.length∧(range i).all (HB l)=true) (fun i=>l.length - i) 0 ⟨zero_le _,rfl⟩ ⟨rfl,trivial⟩ ?_;rintro i ⟨hi,hp⟩;refine sK ?_
 repeat first|refine ai ?_|refine aw ab fun fr=>⟨?_⟩
 (apply az;exact rfl;all_goals intro h)
 ·have hlt:i < l.length:=by simp at h;omega
  clear h
  repeat first|refine ai ?_|refine aw ab fun fr=>⟨?_⟩
  generalize hx:l.getD i default=x;(apply az;exact rfl;all_goals intro h)
  ·have hn:HB l i=false:=by simp only [HB,hx,h];rfl
   repeat first|refine ai ?_|refine aw ab fun fr=>⟨?_⟩
   ((try refine sC ?_);refine sF ?_;refine bq.of_eq ?_;(simp only [Bd hlt hn]))
  have hid:=h;clear h
  repeat first|refine ai ?_|refine aw ab fun fr=>⟨?_⟩
  obtain ⟨m,hm⟩:∃m,List.take i l=m:=⟨_,rfl⟩;have hmi:m.length=i:=by rw [←hm];simp;omega
  have hml:m.length≤1000000:=by omega
  simp only [hm];refine eL [0,7,8,9,3,4,19,20] (fun j:Nat=>[(21,.int .i64 j)]) (fun j=>j≤m.length∧(m.take j).any (again x)=false) (fun j=>m.length - j) 0 ⟨zero_le _,rfl⟩ ⟨rfl,trivial⟩ ?_;rintro j ⟨hj,hq⟩;refine sK ?_
  repeat first|refine ai ?_|refine aw ab fun fr=>⟨?_⟩
  (apply az;exact rfl;all_goals intro h)
  ·have hlj:j < m.length:=by simp at h;omega
   clear h
   repeat first|refine ai ?_|refine aw ab fun fr=>⟨?_⟩
   generalize hy:m.getD j default=y;(apply az;exact rfl;all_goals intro h)
   ·have ha:again x y=true:=by rw [←zb];exact h
    have hn:HB l i=false:=by
     have:m.any (again x)=true:=List.any_eq_true.2 ⟨y,by rw [←hy];exact bk hlj,ha⟩;simp only [HB,hx,hm,this,hid];rfl
    repeat first|refine ai ?_|refine aw ab fun fr=>⟨?_⟩
    ((try refine sC ?_);refine sF ?_;refine bq.of_eq ?_;(simp only [Bd hlt hn]))
   ·have ha:again x y=false:=by rw [←zb];exact h
    repeat first|refine ai ?_|refine aw ab fun fr=>⟨?_⟩
    ((try refine sT ?_);first|refine ra (j+1) ?_ ?_|refine q' (j+1) ?_ ?_)
    ·exact ⟨by omega,by rw [yu hlj,hq,hy,ha];rfl⟩
    ·omega
  ·have e:j=m.length:=by simp at h;omega
   clear h;rw [e,take_length] at hq;have hn:HB l i=true:=by simp only [HB,hx,hm,hq,hid];rfl
   repeat first|refine ai ?_|refine aw ab fun fr=>⟨?_⟩
   ((try refine sT ?_);first|refine ra (i+1) ?_ ?_|refine q' (i+1) ?_ ?_)
   ·exact ⟨by omega,by rw [List.range_succ,all_append,hp];simp [hn]⟩
   ·omega
 ·have e:i=l.length:=by simp at h;omega
  clear h;subst e
  repeat first|refine ai ?_|refine aw ab fun fr=>⟨?_⟩
  ((try refine sC ?_);refine sF ?_;refine bq.of_eq ?_;(simp only [kC,hp,Bool.true_and]))
def zj (l:List ay) (a:Int):Int×Int×Int:=
 if (!kC l)=true then (0,0,1) else if (decide (a < 0) || decide ((l.length:Int)*16≤a))=true then (0,0,11) else ((l.getD (a/16).toNat default).ID,a%16,0)
def NK (x:Int×Int×Int):SV:= .bS [.int .u64 x.1,.int .i64 x.2.1,.int .i64 x.2.2]
theorem i_ {l:List ay} (h:(!kC l)=false):l.length≤16:=by
 simp [kC] at h;omega
theorem G8 {a:Int} (h:0≤a∧a≤9223372036854775807):IntKind.i64.wrap (a.tdiv 16)=((a/16).toNat:Int)∧a.tmod 16=a%16:=by
 rw [Int.tdiv_eq_ediv_of_nonneg h.1,Int.tmod_eq_emod_of_nonneg h.1,bu (by omega)];omega
theorem qp (l:List ay) (a:Int) (hl:l.length≤1000000) (ha:-9223372036854775808≤a∧a≤9223372036854775807):EC prog 258 [bG 2 ay.c default l,.int .i64 a] [] fun r B=>B=[]∧r=NK (zj l a):=by
 refine EC.fin (nA ab (ca 258) func258 ntmps258 results258 ?_)
 repeat first|refine ai ?_|refine aw ab fun fr=>⟨?_⟩
 (try refine aw ab fun fr=>⟨?_⟩);(refine EC.use (fy l hl) ?_;(try simp only [hg]);refine gA ab fun fr=>⟨?_⟩);(repeat (done));(apply az;exact rfl;all_goals intro h)
 ·repeat first|refine ai ?_|refine aw ab fun fr=>⟨?_⟩
  ((try refine sC ?_);refine sF ?_;refine bq.of_eq ?_;(simp only [zj,h,if_true,NK]))
 have h0:=h;clear h;have hl16:=i_ h0
 repeat first|refine ai ?_|refine aw ab fun fr=>⟨?_⟩
 (apply az;exact rfl;all_goals intro h)
 ·repeat first|refine ai ?_|refine aw ab fun fr=>⟨?_⟩
  ((try refine sC ?_);refine sF ?_;refine bq.of_eq ?_;(simp only [zj,h0,h,if_true,if_false,Bool.false_eq_true,NK]))
 ·have hq:0≤a∧a≤9223372036854775807:=by
   simp only [Bool.or_eq_false_iff,decide_eq_false_iff_not] at h;omega
  obtain ⟨e1,e2⟩:=G8 hq;have hlt:(a/16).toNat < l.length:=by
   simp only [Bool.or_eq_false_iff,decide_eq_false_iff_not] at h;omega
  repeat first|refine ai ?_|refine aw ab fun fr=>⟨?_⟩
  ((try refine sC ?_);refine sF ?_;refine bq.of_eq ?_;(simp only [zj,h0,h,e1,e2,Int.toNat_natCast,if_true,if_false,Bool.false_eq_true,NK]))
theorem d_.NA {α:Type} {B:List aI} {i e n E:Nat} {h:aN} {xs:List (List SV)} {cells:α→List SV} {d:α} {l:List α} {r r':List SV} (hB:au B i= .row h E e xs) (hx:xs=l.map cells) (hn:n=l.length) (hr:d_ 0 B r r'):
  d_ 0 B (.row i h e 0 n :: r) (bG e cells d l :: r'):=d_.row hB hx hn hr
def Sc (n:Nat) (h:aN) (i:Nat):SV:= .row i h 2 0 n
attribute [push_cast] Sc
def shr (id:Int):ay:=⟨id,true⟩
def jE (l:List ay) (ids:List Int):List ay×Int×Int:=
 if (!kC l)=true then ([],0,1) else if ((ids.length:Int) == 0)=true then ([],0,2) else if decide (16 < (l.length:Int)+ids.length)=true then ([],0,3)
 else if (!kC (l ++ ids.map shr))=true then ([],0,1) else (l ++ ids.map shr,(l.length:Int)*16,0)
def Es (x:List ay×Int×Int):SV:= .bS [bG 2 ay.c default x.1,.int .i64 x.2.1,.int .i64 x.2.2]
theorem n6 (l:List ay) (ids:List Int) (hl:l.length≤1000000) (hi:ids.length≤1000000):EC prog 319 [bG 2 ay.c default l,bG 1 (aS .u64) default ids] [] fun r B=>B=[]∧r=Es (jE l ids):=by
 refine EC.fin (nA ab (ca 319) func319 ntmps319 results319 ?_)
 repeat first|refine ai ?_|refine aw ab fun fr=>⟨?_⟩
 (try refine aw ab fun fr=>⟨?_⟩);(refine EC.use (fy l hl) ?_;(try simp only [hg]);refine gA ab fun fr=>⟨?_⟩);(repeat (done));(apply az;exact rfl;all_goals intro h)
 ·repeat first|refine ai ?_|refine aw ab fun fr=>⟨?_⟩
  (try refine sC ?_);rw [show Es (jE l ids)= .bS [bG 2 ay.c default [],.int .i64 0,.int .i64 1] by simp only [jE,h,if_true,Es]];exact jK a6.nil a6.int a6.int
 have h0:=h;clear h;have hl16:=i_ h0
 repeat first|refine ai ?_|refine aw ab fun fr=>⟨?_⟩
 (apply az;exact rfl;all_goals intro h)
 ·repeat first|refine ai ?_|refine aw ab fun fr=>⟨?_⟩
  (try refine sC ?_);rw [show Es (jE l ids)= .bS [bG 2 ay.c default [],.int .i64 0,.int .i64 2] by simp only [jE,h0,h,if_true,if_false,Bool.false_eq_true,Es]];exact jK a6.nil a6.int a6.int
 have h1:=h;clear h
 repeat first|refine ai ?_|refine aw ab fun fr=>⟨?_⟩
 (apply az;exact rfl;all_goals intro h)
 ·repeat first|refine ai ?_|refine aw ab fun fr=>⟨?_⟩
  (try refine sC ?_);rw [show Es (jE l ids)= .bS [bG 2 ay.c default [],.int .i64 0,.int .i64 3] by simp only [jE,h0,h1,h,if_true,if_false,Bool.false_eq_true,Es]];exact jK a6.nil a6.int a6.int
 have h2:=h;have hi16:ids.length≤16:=by simp at h;omega
 clear h
 repeat first|refine ai ?_|refine aw ab fun fr=>⟨?_⟩
 refine jx [0,1,27,28] (fun s:Nat×aN=>[(29,.int .i64 s.1),(7,.row 0 s.2 2 0 (l ++ (ids.take s.1).map shr).length)]) (fun B s=>cW B 0 s.2 ((l ++ (ids.take s.1).map shr).map ay.c)) (fun s=>s.1≤ids.length) (fun s=>ids.length - s.1) (0,_) (zero_le _) ⟨rfl,congrArg (SV.row 0 _ 2 0) (by simp),trivial⟩ (by simp [cW]) ?_;rintro ⟨i,hr⟩ hi1;dsimp only at hi1;obtain ⟨m,hm,hml⟩:∃m,l ++ (ids.take i).map shr=m∧m.length=l.length+i:=⟨_,rfl,by simp;omega⟩;have hml2:m.length≤100:=by omega
 refine sK ?_;simp only [hm]
 repeat first|refine ai ?_|refine aw ab fun fr=>⟨?_⟩
 (apply az;exact rfl;all_goals intro h)
 ·have hlt:i < ids.length:=by simp at h;omega
  clear h;have e:map ay.c m ++ [ay.c ⟨ids.getD i default,true⟩]=(l ++ (ids.take (i+1)).map shr).map ay.c:=by
   rw [←hm,take_succ_eq_append_getElem hlt];simp only [map_append,List.append_assoc,List.map_cons,List.map_nil,shr];rw [show ids.getD i default=ids[i] by simp [getD,hlt]]
  have e2:m.length+1=(l ++ (ids.take (i+1)).map shr).length:=by simp [hml];omega
  repeat first|refine ai ?_|refine aw ab fun fr=>⟨?_⟩
  rw [e,e2];((try refine sT ?_);first|refine ra ((i+1,_)) ?_ ?_|refine q' ((i+1,_)) ?_ ?_)
  ·dsimp only;omega
  ·dsimp only;omega
 ·have e:i=ids.length:=by simp at h;omega
  clear h;rw [e,take_length] at hm;subst hm
  repeat first|refine ai ?_|refine aw ab fun fr=>⟨?_⟩
  (try refine aw ab fun fr=>⟨?_⟩);refine EC.t6 (fy (l ++ ids.map shr) (by omega)) (d_.NA rfl rfl (show l.length+ids.length=(l ++ ids.map shr).length by simp) .nil) (by rintro _ rfl;rfl) ?_;rintro _ rfl;((try simp only [hg]);refine gA ab fun fr=>⟨?_⟩);(repeat (done));(apply az;exact rfl;all_goals intro h)
  ·repeat first|refine ai ?_|refine aw ab fun fr=>⟨?_⟩
   (try refine sC ?_);rw [show Es (jE l ids)= .bS [bG 2 ay.c default [],.int .i64 0,.int .i64 1] by simp only [jE,h0,h1,h2,h,if_true,if_false,Bool.false_eq_true,Es]];exact jK a6.nil a6.int a6.int
  ·repeat first|refine ai ?_|refine aw ab fun fr=>⟨?_⟩
   (try refine sC ?_);rw [show Es (jE l ids)= .bS [bG 2 ay.c default (l ++ ids.map shr),.int .i64 ((l.length:Int)*16),.int .i64 0] by simp only [jE,h0,h1,h2,h,if_false,Bool.false_eq_true,Es]];exact jK (a6.row (cells:=ay.c) (d:=default) rfl rfl (by simp)) a6.int a6.int
def cC (l:List ay):List Int:=if (!kC l)=true then [] else (l.filter fun p=>!p.eS).map ay.ID
theorem yN {l:List ay} {i:Nat} (h:i < l.length):((l.take (i+1)).filter fun p=>!p.eS).map ay.ID=((l.take i).filter fun p=>!p.eS).map ay.ID ++ (if (!(l.getD i default).eS)=true then [(l.getD i default).ID] else []):=by
 rw [take_succ_eq_append_getElem h,List.filter_append,map_append];rw [show l.getD i default=l[i] by simp [getD,h]]
 cases hs:l[i].eS<;>simp [hs]
theorem dp (l:List ay) (hl:l.length≤1000000):EC prog 193 [bG 2 ay.c default l] [] fun r B=>B=[]∧r=bG 1 (aS .u64) default (cC l):=by
 refine EC.fin (nA ab (ca 193) func193 ntmps193 results193 ?_)
 repeat first|refine ai ?_|refine aw ab fun fr=>⟨?_⟩
 (try refine aw ab fun fr=>⟨?_⟩);(refine EC.use (fy l hl) ?_;(try simp only [hg]);refine gA ab fun fr=>⟨?_⟩);(repeat (done));(apply az;exact rfl;all_goals intro h)
 ·repeat first|refine ai ?_|refine aw ab fun fr=>⟨?_⟩
  (try refine sC ?_);rw [show cC l=[] by simp only [cC,h,if_true]];exact ⟨trivial,cB⟩
 have h0:=h;clear h
 repeat first|refine ai ?_|refine aw ab fun fr=>⟨?_⟩
 refine cw 3 42 1 rfl ?_;intro hh;simp only [List.length_cons,List.length_nil,cons_append,List.nil_append,Nat.zero_add];refine jx [0,9,10] (fun s:Nat×aN=>[(11,.int .i64 s.1),(3,.row 0 s.2 1 0 (((l.take s.1).filter fun p=>!p.eS).map ay.ID).length)]) (fun B s=>cW B 0 s.2 ((((l.take s.1).filter fun p=>!p.eS).map ay.ID).map (aS .u64))) (fun s=>s.1≤l.length) (fun s=>l.length - s.1) (0,hh) (zero_le _) ⟨rfl,rfl,trivial⟩ rfl ?_;rintro ⟨i,hr⟩ hi1;dsimp only at hi1;obtain ⟨m,hm⟩:∃m,((l.take i).filter fun p=>!p.eS).map ay.ID=m:=⟨_,rfl⟩;have hml:m.length≤1000000:=by
  rw [←hm,length_map];exact Nat.le_trans (List.length_filter_le _ _) (by simp;omega)
 refine sK ?_;simp only [hm]
 repeat first|refine ai ?_|refine aw ab fun fr=>⟨?_⟩
 (apply az;exact rfl;all_goals intro h)
 ·have hlt:i < l.length:=by simp at h;omega
  clear h;have hs:=yN hlt;rw [hm] at hs
  repeat first|refine ai ?_|refine aw ab fun fr=>⟨?_⟩
  (apply az;exact rfl;all_goals intro h)
  ·rw [if_pos h] at hs;have e2:m.length+1=(((l.take (i+1)).filter fun p=>!p.eS).map ay.ID).length:=by rw [hs];simp
   (repeat (refine aw ab fun fr=>⟨?_⟩));rw [←hs,e2];((try refine sT ?_);first|refine ra ((i+1,_)) ?_ ?_|refine q' ((i+1,_)) ?_ ?_)
   ·dsimp only;omega
   ·dsimp only;omega
  ·rw [if_neg (by rw [h];simp),List.append_nil] at hs;rw [←hs]
   repeat first|refine ai ?_|refine aw ab fun fr=>⟨?_⟩
   ((try refine sT ?_);first|refine ra ((i+1,hr)) ?_ ?_|refine q' ((i+1,hr)) ?_ ?_)
   ·dsimp only;omega
   ·dsimp only;omega
 ·have e:i=l.length:=by simp at h;omega
  clear h;rw [e,take_length] at hm
  repeat first|refine ai ?_|refine aw ab fun fr=>⟨?_⟩
  (try refine sC ?_);rw [show cC l=m by simp only [cC,h0,if_false,Bool.false_eq_true,hm]];exact mT (cells:=aS .u64) (d:=default) rfl rfl rfl
def np (l:List ay):Nat:=(l.filter fun p=>!p.eS).length
theorem Il {l:List ay} {i:Nat} (h:i < l.length):np (l.take (i+1))=np (l.take i)+(if (!(l.getD i default).eS)=true then 1 else 0):=by
 have:=congrArg List.length (yN h);simp only [length_map,List.length_append] at this;rw [np,this,np]
 split<;>rfl
theorem N_ (l:List ay) (i:Nat):np (l.take i)≤np l:=by
 unfold np
 conv=>rhs;rw [←List.take_append_drop i l]
 rw [List.filter_append,List.length_append];omega
def Bq (p:ay) (r:List Int):ay:=if p.eS=true then p else {p with ID:=r.getD 0 default}
def gU:List ay→List Int→List ay
 |[],_=>[]
 |p :: t,r=>Bq p r :: gU t (if p.eS=true then r else r.drop 1)
theorem yJ (l:List ay):∀r,(gU l r).length=l.length:=by
 induction l with
 |nil=>intro r;rfl
 |cons p t ih=>intro r;simp [gU,ih]
theorem CI (l:List ay) (p:ay):∀r,gU (l ++ [p]) r=gU l r ++ [Bq p (r.drop (np l))]:=by
 induction l with
 |nil=>intro r;simp [gU,np]
 |cons q t ih=>
  intro r;simp only [cons_append,gU,ih]
  congr 3
  by_cases h:q.eS=true
  ·simp [h,np]
  ·simp [h,np]
def dw (l:List ay) (ids:List Int):List ay×Int:=
 if (!kC l)=true then ([],1) else if ((ids.length:Int) !=((cC l).length:Int))=true then ([],2) else if (!kC (gU l ids))=true then ([],1) else (gU l ids,0)
def Gu (x:List ay×Int):SV:= .bS [bG 2 ay.c default x.1,.int .i64 x.2]
theorem Cy {l:List ay} (h:(!kC l)=false):(cC l).length=np l:=by
 simp only [cC,h,if_false,Bool.false_eq_true,np,length_map]
theorem CH {l:List ay} {ids r:List Int} {i:Nat} (h:i < l.length) (hr:r=ids.drop (np (l.take i))):gU (l.take (i+1)) ids=gU (l.take i) ids ++ [Bq (l.getD i default) r]:=by
 rw [show l.take (i+1)=l.take i ++ [l.getD i default] by rw [take_succ_eq_append_getElem h];simp [getD,h],CI,hr]
theorem mZ (l:List ay) (ids:List Int) (hl:l.length≤1000000) (hi:ids.length≤1000000):EC prog 223 [bG 2 ay.c default l,bG 1 (aS .u64) default ids] [] fun r B=>B=[]∧r=Gu (dw l ids):=by
 refine EC.fin (nA ab (ca 223) func223 ntmps223 results223 ?_)
 repeat first|refine ai ?_|refine aw ab fun fr=>⟨?_⟩
 (try refine aw ab fun fr=>⟨?_⟩);(refine EC.use (fy l hl) ?_;(try simp only [hg]);refine gA ab fun fr=>⟨?_⟩);(repeat (done));(apply az;exact rfl;all_goals intro h)
 ·repeat first|refine ai ?_|refine aw ab fun fr=>⟨?_⟩
  (try refine sC ?_);rw [show Gu (dw l ids)= .bS [bG 2 ay.c default [],.int .i64 1] by simp only [dw,h,if_true,Gu]];exact hY a6.nil a6.int
 have h0:=h;clear h;have hl16:=i_ h0;have hpl:=Cy h0;have hpm:np l≤l.length:=List.length_filter_le _ _
 repeat first|refine ai ?_|refine aw ab fun fr=>⟨?_⟩
 (try refine aw ab fun fr=>⟨?_⟩);(refine EC.use (dp l hl) ?_;(try simp only [hg]);refine gA ab fun fr=>⟨?_⟩);(repeat (done));(apply az;exact rfl;all_goals intro h)
 ·repeat first|refine ai ?_|refine aw ab fun fr=>⟨?_⟩
  (try refine sC ?_);rw [show Gu (dw l ids)= .bS [bG 2 ay.c default [],.int .i64 2] by simp only [dw,h0,h,if_true,if_false,Bool.false_eq_true,Gu]];exact hY a6.nil a6.int
 have h1:=h;have hin:ids.length=np l:=by simp only [bne_eq_false_iff_eq] at h;omega
 clear h
 repeat first|refine ai ?_|refine aw ab fun fr=>⟨?_⟩
 refine cw 6 337 2 rfl ?_;intro hh;simp only [List.length_cons,List.length_nil,cons_append,List.nil_append,Nat.zero_add];refine jx [0,18,19] (fun s:Nat×List Int×aN=>[(20,.int .i64 s.1),(1,.sl false 1 s.2.1.length (cA (aS .u64) default s.2.1)),(6,.row 0 s.2.2 2 0 (gU (l.take s.1) ids).length)]) (fun B s=>cW B 0 s.2.2 ((gU (l.take s.1) ids).map ay.c)) (fun s=>s.1≤l.length∧s.2.1=ids.drop (np (l.take s.1))) (fun s=>l.length - s.1) (0,ids,hh) ⟨zero_le _,rfl⟩ ⟨rfl,rfl,rfl,trivial⟩ rfl ?_;rintro ⟨i,r,hr⟩ ⟨hi1,hre⟩;dsimp only at hi1 hre;have hrl:r.length=np l - np (l.take i):=by rw [hre];simp;omega
 obtain ⟨m,hm⟩:∃m,gU (l.take i) ids=m:=⟨_,rfl⟩;have hml:m.length=i:=by rw [←hm,yJ];simp;omega
 refine sK ?_;simp only [hm]
 repeat first|refine ai ?_|refine aw ab fun fr=>⟨?_⟩
 (apply az;exact rfl;all_goals intro h)
 ·have hlt:i < l.length:=by simp at h;omega
  clear h;have hst:=Il hlt;have hle:=N_ l (i+1);have hnx:=CH hlt hre;rw [hm] at hnx
  repeat first|refine ai ?_|refine aw ab fun fr=>⟨?_⟩
  generalize hp:l.getD i default=p at hst hnx;(apply az;exact rfl;all_goals intro h)
  ·rw [if_pos h] at hst;have hsh:p.eS=false:=by simpa using h
   have hr0:0 < r.length:=by omega
   obtain ⟨D,hD,hDl⟩:∃D,List.drop 1 r=D∧r.length - 1=D.length:=⟨_,rfl,by simp⟩;have hnp:Bq p r=⟨r.getD 0 default,p.eS⟩:=by simp [Bq,hsh]
   rw [hnp] at hnx;have e2:m.length+1=(gU (l.take (i+1)) ids).length:=by rw [hnx];simp
   (refine dD ab [] [true,true] [0,1,2,3,4,5,6,7] bZ fun R hR=>?_;(repeat intro rh);(try refine sB ⟨?_⟩);(repeat ((with_reducible apply And.intro);exact fE));(repeat intro rh);(repeat ((with_reducible apply And.intro);exact fE));(try apply_assumption -exfalso));simp only [hD,hDl]
   repeat first|refine ai ?_|refine aw ab fun fr=>⟨?_⟩
   rw [show map ay.c m ++ [ay.c ⟨r.getD 0 default,p.eS⟩]=(gU (l.take (i+1)) ids).map ay.c by rw [hnx,map_append];rfl,e2];((try refine sT ?_);first|refine ra ((i+1,D,_)) ?_ ?_|refine q' ((i+1,D,_)) ?_ ?_)
   ·exact ⟨by dsimp only;omega,by dsimp only;rw [←hD,hre,hst,List.drop_drop]⟩
   ·dsimp only;omega
  ·rw [if_neg (by rw [h];simp)] at hst;have hsh:p.eS=true:=by simpa using h
   have hnp:Bq p r=p:=by simp [Bq,hsh]
   rw [hnp] at hnx;have e2:m.length+1=(gU (l.take (i+1)) ids).length:=by rw [hnx];simp
   repeat first|refine ai ?_|refine aw ab fun fr=>⟨?_⟩
   rw [show map ay.c m ++ [ay.c p]=(gU (l.take (i+1)) ids).map ay.c by rw [hnx,map_append];rfl,e2];((try refine sT ?_);first|refine ra ((i+1,r,_)) ?_ ?_|refine q' ((i+1,r,_)) ?_ ?_)
   ·exact ⟨by dsimp only;omega,by dsimp only;rw [hre,hst];rfl⟩
   ·dsimp only;omega
 ·have e:i=l.length:=by simp at h;omega
  clear h;rw [e,take_length] at hm;subst hm
  repeat first|refine ai ?_|refine aw ab fun fr=>⟨?_⟩
  (try refine aw ab fun fr=>⟨?_⟩);refine EC.t6 (fy (gU l ids) (by omega)) (d_.NA rfl rfl rfl .nil) (by rintro _ rfl;rfl) ?_;rintro _ rfl;((try simp only [hg]);refine gA ab fun fr=>⟨?_⟩);(repeat (done));(apply az;exact rfl;all_goals intro h)
  ·repeat first|refine ai ?_|refine aw ab fun fr=>⟨?_⟩
   (try refine sC ?_);rw [show Gu (dw l ids)= .bS [bG 2 ay.c default [],.int .i64 1] by simp only [dw,h0,h1,h,if_true,if_false,Bool.false_eq_true,Gu]];exact hY a6.nil a6.int
  ·repeat first|refine ai ?_|refine aw ab fun fr=>⟨?_⟩
   (try refine sC ?_);rw [show Gu (dw l ids)= .bS [bG 2 ay.c default (gU l ids),.int .i64 0] by simp only [dw,h0,h1,h,if_false,Bool.false_eq_true,Gu]];exact hY (a6.row (cells:=ay.c) (d:=default) rfl rfl rfl) a6.int
theorem yg (a b:List ay) (ha:a.length≤1000000) (hb:b.length≤1000000):EC prog 225 [bG 2 ay.c default a,bG 2 ay.c default b] [] fun r B=>B=[]∧r= .bool (decide (a=b)):=by
 refine EC.fin (nA ab (ca 225) func225 ntmps225 results225 ?_)
 repeat first|refine ai ?_|refine aw ab fun fr=>⟨?_⟩
 (apply az;exact rfl;all_goals intro h)
 ·have:¬a=b:=fun e=>by subst e;simp at h
  repeat first|refine ai ?_|refine aw ab fun fr=>⟨?_⟩
  ((try refine sC ?_);refine sF ?_;refine bq.of_eq ?_;(simp [this]))
 have hlen:a.length=b.length:=by simp only [bne_eq_false_iff_eq] at h;omega
 clear h
 repeat first|refine ai ?_|refine aw ab fun fr=>⟨?_⟩
 refine eL [0,1,12] (fun i:Nat=>[(13,.int .i64 i)]) (fun i=>i≤a.length∧a.take i=b.take i) (fun i=>a.length - i) 0 ⟨zero_le _,rfl⟩ ⟨rfl,trivial⟩ ?_;rintro i ⟨hi,hab⟩;refine sK ?_
 repeat first|refine ai ?_|refine aw ab fun fr=>⟨?_⟩
 (apply az;exact rfl;all_goals intro h)
 ·have hlt:i < a.length:=by simp at h;omega
  have hlb:i < b.length:=by omega
  clear h
  repeat first|refine ai ?_|refine aw ab fun fr=>⟨?_⟩
  (refine dD ab [] [] [0,1,2,3,4,5,6,7,8] bZ fun R hR=>?_;(repeat intro rh);(try refine sB ⟨?_⟩);(repeat ((with_reducible apply And.intro);exact fE));(repeat intro rh);(repeat ((with_reducible apply And.intro);exact fE));(try apply_assumption -exfalso));(repeat (refine ai ?_));(apply az;exact rfl;all_goals intro h)
  ·have:¬a=b:=fun e=>by subst e;simp at h
   repeat first|refine ai ?_|refine aw ab fun fr=>⟨?_⟩
   ((try refine sC ?_);refine sF ?_;refine bq.of_eq ?_;(simp [this]))
  ·have he:a.getD i default=b.getD i default:=by simpa using h
   repeat first|refine ai ?_|refine aw ab fun fr=>⟨?_⟩
   ((try refine sT ?_);first|refine ra (i+1) ?_ ?_|refine q' (i+1) ?_ ?_)
   ·exact ⟨by omega,qW hlt hlb hab he⟩
   ·omega
 ·have e:i=a.length:=by simp at h;omega
  clear h;have hee:a=b:=by
   have:=hab;rw [e,take_length,hlen,take_length] at this;exact this
  repeat first|refine ai ?_|refine aw ab fun fr=>⟨?_⟩
  ((try refine sC ?_);refine sF ?_;refine bq.of_eq ?_;(simp [hee]))
theorem Ad (id:Int):EC prog 117 [.int .u64 id] [] fun r B=>B=[]∧r= .agg (af.c {(default:af) with ID:=id,aU:=9}):=by
 refine EC.fin (nA ab (ca 117) func117 ntmps117 results117 ?_)
 repeat first|refine ai ?_|refine aw ab fun fr=>⟨?_⟩
 ((try refine sC ?_);refine sF ?_;refine bq.of_eq ?_;rfl)
def wL (o:af):Bool:=o.aU == 9 && !(o.ID == 0) && eB o 2048
theorem B9 (o:af):eB o 2048=ia {o with fG:=0}:=by
 have h1:b6 .andNot .i64 1 2048=1:=by decide
 have h2:b6 .andNot .i64 2 2048=2:=by decide
 have h3:b6 .andNot .i64 4 2048=4:=by decide
 have h4:b6 .andNot .i64 8 2048=8:=by decide
 have h5:b6 .andNot .i64 16 2048=16:=by decide
 have h6:b6 .andNot .i64 32 2048=32:=by decide
 have h7:b6 .andNot .i64 64 2048=64:=by decide
 have h8:b6 .andNot .i64 128 2048=128:=by decide
 have h9:b6 .andNot .i64 256 2048=256:=by decide
 have h10:b6 .andNot .i64 512 2048=512:=by decide
 have h11:b6 .andNot .i64 1024 2048=1024:=by decide
 have h12:b6 .andNot .i64 2048 2048=0:=by decide
 have h13:b6 .andNot .i64 4096 2048=4096:=by decide
 apply Bool.eq_iff_iff.2;simp [eB,okB,ia,h1,h2,h3,h4,h5,h6,h7,h8,h9,h10,h11,h12,h13]
 constructor<;>(intro h;simp [h])
theorem jj (o:af):EC prog 298 [.agg o.c] [] fun r B=>B=[]∧r= .bool (wL o):=by
 refine EC.fin (nA ab (ca 298) func298 ntmps298 results298 ?_)
 repeat first|refine ai ?_|refine aw ab fun fr=>⟨?_⟩
 (try refine aw ab fun fr=>⟨?_⟩);refine ⟨fun hg=>?_,fun hg=>?_⟩
 ·(refine EC.use (cZ {o with fG:=0}) ?_;(try simp only [hg]);refine gA ab fun fr=>⟨?_⟩);(repeat (refine ai ?_));((try refine sC ?_);refine sF ?_;refine bq.of_eq ?_;(simp only [wL,←bne_eq,hg,B9];(try rfl)))
 ·((try simp only [hg]);refine gA ab fun fr=>⟨?_⟩);(repeat (refine ai ?_));((try refine sC ?_);refine sF ?_;refine bq.of_eq ?_;(simp only [wL,←bne_eq,hg];(try rfl)))
def o8 (o:af) (v:Int):Int×af×Int:=if wL o then (o.fG,{o with fG:=IntKind.i64.wrap (o.fG+v)},0) else (0,default,1)
def NL (x:Int×af×Int):SV:= .bS [.int .i64 x.1,.agg x.2.1.c,.int .i64 x.2.2]
theorem B5 (o:af) (v:Int):EC prog 333 [.agg o.c,.int .i64 v] [] fun r B=>B=[]∧r=NL (o8 o v):=by
 refine EC.fin (nA ab (ca 333) func333 ntmps333 results333 ?_)
 repeat first|refine ai ?_|refine aw ab fun fr=>⟨?_⟩
 (try refine aw ab fun fr=>⟨?_⟩);(refine EC.use (jj o) ?_;(try simp only [hg]);refine gA ab fun fr=>⟨?_⟩);(repeat (done));(apply az;exact rfl;all_goals intro h)
 ·repeat first|refine ai ?_|refine aw ab fun fr=>⟨?_⟩
  ((try refine sC ?_);refine sF ?_;refine bq.of_eq ?_;(simp at h;simp [o8,h,NL]))
 ·repeat first|refine ai ?_|refine aw ab fun fr=>⟨?_⟩
  (refine dD ab [] [false,true] [0,1,2,3,4] bZ fun R hR=>?_;(repeat intro rh);(try refine sB ⟨?_⟩);(repeat ((with_reducible apply And.intro);exact fE));(repeat intro rh);(repeat ((with_reducible apply And.intro);exact fE));(try apply_assumption -exfalso));(repeat (refine ai ?_));((try refine sC ?_);refine sF ?_;refine bq.of_eq ?_;(simp at h;simp [o8,h,NL]))

def j8 (s:aK):Bool:=
 if (s.aU == 0)=true then s == default else decide (0 < s.aU) && decide (s.aU≤8) && s.Target !=0 && ((s.bn !=0) == (s.aU == 1)) && (s.End == 0 || s.End == 1 && s.aU == 4)
theorem jX (s:aK):EC prog 305 [.agg s.c] [] fun r B=>B=[]∧r= .bool (j8 s):=by
 refine EC.fin (nA ab (ca 305) func305 ntmps305 results305 ?_)
 repeat first|refine ai ?_|refine aw ab fun fr=>⟨?_⟩
 (apply az;exact rfl;all_goals intro h)
 ·repeat first|refine ai ?_|refine aw ab fun fr=>⟨?_⟩
  ((try refine sC ?_);refine sF ?_;refine bq.of_eq ?_;(simp only [j8,h,if_true]))
 ·repeat first|refine ai ?_|refine aw ab fun fr=>⟨?_⟩
  ((try refine sC ?_);refine sF ?_;refine bq.of_eq ?_;(simp only [j8,h,if_false,Bool.false_eq_true]))
def i7 (t:List aK):Bool:=t.all j8 && decide ((t.length:Int)≤16) && ((t.length:Int) == 0 || (t.getD (t.length - 1) default).aU !=0)
theorem vp (n:Nat):n - 1=((n:Int) - 1).toNat:=by omega
attribute [push_cast] Es
theorem yv {α:Type} [Inhabited α] {p:α→Bool} {l:List α} {i:Nat} (h:i < l.length):(l.take (i+1)).all p=((l.take i).all p && p (l.getD i default)):=by
 rw [take_succ_eq_append_getElem h,all_append];simp [getD,h]
theorem LL {α:Type} [Inhabited α] {p:α→Bool} {l:List α} {i:Nat} (h:i < l.length) (hp:p (l.getD i default)=false):l.all p=false:=by
 rw [all_eq_false];exact ⟨_,bk h,by rw [hp];simp⟩
theorem lK (t:List aK) (hl:t.length≤1000000):EC prog 245 [bG 4 aK.c default t] [] fun r N=>N=[]∧r= .bool (i7 t):=by
 refine EC.fin (nA ab (ca 245) func245 ntmps245 results245 ?_)
 repeat first|refine ai ?_|refine aw ab fun fr=>⟨?_⟩
 refine eL [0,5,6] (fun i:Nat=>[(7,.int .i64 i)]) (fun i=>i≤t.length∧(t.take i).all j8=true) (fun i=>t.length - i) 0 ⟨zero_le _,rfl⟩ ⟨rfl,trivial⟩ ?_;rintro i ⟨hi,hp⟩;refine sK ?_
 repeat first|refine ai ?_|refine aw ab fun fr=>⟨?_⟩
 (apply az;exact rfl;all_goals intro h)
 ·have hlt:i < t.length:=by simp at h;omega
  clear h
  repeat first|refine ai ?_|refine aw ab fun fr=>⟨?_⟩
  (try refine aw ab fun fr=>⟨?_⟩);(refine EC.use (jX (t.getD i default)) ?_;(try simp only [hg]);refine gA ab fun fr=>⟨?_⟩);(repeat (done));(apply az;exact rfl;all_goals intro h)
  ·repeat first|refine ai ?_|refine aw ab fun fr=>⟨?_⟩
   ((try refine sC ?_);refine sF ?_;refine bq.of_eq ?_;(rw [i7,LL hlt (by simpa using h),Bool.false_and,Bool.false_and]))
  ·repeat first|refine ai ?_|refine aw ab fun fr=>⟨?_⟩
   ((try refine sT ?_);first|refine ra (i+1) ?_ ?_|refine q' (i+1) ?_ ?_)
   ·exact ⟨by omega,by rw [yv hlt,hp,Bool.true_and];simpa using h⟩
   ·omega
 ·have e:i=t.length:=by simp at h;omega
  clear h;rw [e,take_length] at hp
  repeat first|refine ai ?_|refine aw ab fun fr=>⟨?_⟩
  (try refine aw ab fun fr=>⟨?_⟩);refine ⟨fun hx=>⟨hx,?_⟩,fun hx=>⟨hx,fun hy=>by rw [hy,decide_eq_true hx];rfl⟩,?_⟩
  ·have:(t.length:Int)≠0:=by intro e;rw [e] at hx;simp at hx
   omega
  ((try refine sT ?_));(repeat (refine ai ?_));((try refine sC ?_);refine sF ?_;refine bq.of_eq ?_;(rw [i7,hp,Bool.true_and,vp]))
def d8 (t:List aK) (i:Int):aK×Int:=
 if (decide (i < 0) || decide ((t.length:Int)≤i) || (t.getD i.toNat default).aU == 0)=true then (default,6) else (t.getD i.toNat default,0)
@[push_cast] def Rk (x:aK×Int):SV:= .bS [.agg x.1.c,.int .i64 x.2]
theorem dI (t:List aK) (i:Int) (hl:t.length≤1000000):EC prog 191 [bG 4 aK.c default t,.int .i64 i] [] fun r N=>N=[]∧r=Rk (d8 t i):=by
 refine EC.fin (nA ab (ca 191) func191 ntmps191 results191 ?_)
 repeat first|refine ai ?_|refine aw ab fun fr=>⟨?_⟩
 (apply az;exact rfl;all_goals intro h)
 ·repeat first|refine ai ?_|refine aw ab fun fr=>⟨?_⟩
  ((try refine sC ?_);refine sF ?_;refine bq.of_eq ?_;(simp only [d8,h,if_true]))
 ·have hr:0≤i∧i < (t.length:Int):=by simp at h;omega
  repeat first|refine ai ?_|refine aw ab fun fr=>⟨?_⟩
  ((try refine sC ?_);refine sF ?_;refine bq.of_eq ?_;(simp only [d8,h,if_false,Bool.false_eq_true]))
def hH (s:aK):Int:=if j8 s=true then (if (s.aU == 1)=true then s.bn else if (s.aU == 2 || s.aU == 3 || s.aU == 4 || s.aU == 5)=true then s.Target else 0) else 0
theorem gG (s:aK):EC prog 307 [.agg s.c] [] fun r N=>N=[]∧r= .int .u64 (hH s):=by
 refine EC.fin (nA ab (ca 307) func307 ntmps307 results307 ?_)
 repeat first|refine ai ?_|refine aw ab fun fr=>⟨?_⟩
 (try refine aw ab fun fr=>⟨?_⟩);(refine EC.use (jX s) ?_;(try simp only [hg]);refine gA ab fun fr=>⟨?_⟩);(repeat (done));(apply az;exact rfl;all_goals intro h)
 ·have h0:j8 s=false:=by simpa using h
  repeat first|refine ai ?_|refine aw ab fun fr=>⟨?_⟩
  ((try refine sC ?_);refine sF ?_;refine bq.of_eq ?_;(simp only [hH,h0,if_false,Bool.false_eq_true]))
 have h0:j8 s=true:=by simpa using h
 clear h
 repeat first|refine ai ?_|refine aw ab fun fr=>⟨?_⟩
 (apply az;exact rfl;all_goals intro h)
 ·repeat first|refine ai ?_|refine aw ab fun fr=>⟨?_⟩
  ((try refine sC ?_);refine sF ?_;refine bq.of_eq ?_;(simp only [hH,h0,h,if_true]))
 have h1:=h;clear h
 repeat first|refine ai ?_|refine aw ab fun fr=>⟨?_⟩
 refine pj (σ:=Bool) [1,2] (fun b=>[(12,.bool b)]) (fun B b=>B) (fun b=>b=(s.aU == 2 || s.aU == 3 || s.aU == 4 || s.aU == 5)) ?_ ?_
 ·intro b hbb;(intro t1 B1 ht hB;(try apply_assumption -exfalso);(try refine sT ?_);refine pf ht hB ?_);refine sK ?_;(repeat (done));(apply az;exact rfl;all_goals intro h)
  ·rw [h] at hbb
   repeat first|refine ai ?_|refine aw ab fun fr=>⟨?_⟩
   ((try refine sC ?_);refine sF ?_;refine bq.of_eq ?_;(simp only [hH,h0,h1,←hbb,if_true,if_false,Bool.false_eq_true]))
  ·rw [h] at hbb
   repeat first|refine ai ?_|refine aw ab fun fr=>⟨?_⟩
   ((try refine sC ?_);refine sF ?_;refine bq.of_eq ?_;(simp only [hH,h0,h1,←hbb,if_true,if_false,Bool.false_eq_true]))
 ·(apply az;exact rfl;all_goals intro h)
  ·(repeat (refine ai ?_));((try refine sT ?_);first|refine HE ((s.aU == 2)) ?_|refine HD ((s.aU == 2)) ?_);rw [h];rfl
  ·have h2:=h;clear h
   repeat first|refine ai ?_|refine aw ab fun fr=>⟨?_⟩
   (apply az;exact rfl;all_goals intro h)
   ·(repeat (refine ai ?_));((try refine sT ?_);first|refine HE ((s.aU == 3)) ?_|refine HD ((s.aU == 3)) ?_);rw [h2,h];rfl
   ·have h3:=h;clear h
    repeat first|refine ai ?_|refine aw ab fun fr=>⟨?_⟩
    (apply az;exact rfl;all_goals intro h)
    ·(repeat (refine ai ?_));((try refine sT ?_);first|refine HE ((s.aU == 4)) ?_|refine HD ((s.aU == 4)) ?_);rw [h2,h3,h];rfl
    ·(repeat (refine aw ab fun fr=>⟨?_⟩));((try refine sT ?_);first|refine HE ((s.aU == 5)) ?_|refine HD ((s.aU == 5)) ?_);rw [h2,h3,h];rfl
def Sa (n:Nat) (h:aN) (i:Nat):SV:= .row i h 4 0 n
attribute [push_cast] Sa
theorem x8 (a b:List aK) (ha:a.length≤1000000) (hb:b.length≤1000000):EC prog 226 [bG 4 aK.c default a,bG 4 aK.c default b] [] fun r B=>B=[]∧r= .bool (decide (a=b)):=by
 refine EC.fin (nA ab (ca 226) func226 ntmps226 results226 ?_)
 repeat first|refine ai ?_|refine aw ab fun fr=>⟨?_⟩
 (apply az;exact rfl;all_goals intro h)
 ·have:¬a=b:=fun e=>by subst e;simp at h
  repeat first|refine ai ?_|refine aw ab fun fr=>⟨?_⟩
  ((try refine sC ?_);refine sF ?_;refine bq.of_eq ?_;(simp [this]))
 have hlen:a.length=b.length:=by simp only [bne_eq_false_iff_eq] at h;omega
 clear h
 repeat first|refine ai ?_|refine aw ab fun fr=>⟨?_⟩
 refine eL [0,1,12] (fun i:Nat=>[(13,.int .i64 i)]) (fun i=>i≤a.length∧a.take i=b.take i) (fun i=>a.length - i) 0 ⟨zero_le _,rfl⟩ ⟨rfl,trivial⟩ ?_;rintro i ⟨hi,hab⟩;refine sK ?_
 repeat first|refine ai ?_|refine aw ab fun fr=>⟨?_⟩
 (apply az;exact rfl;all_goals intro h)
 ·have hlt:i < a.length:=by simp at h;omega
  have hlb:i < b.length:=by omega
  clear h
  repeat first|refine ai ?_|refine aw ab fun fr=>⟨?_⟩
  (refine dD ab [] [] [0,1,2,3,4,5,6,7,8] bZ fun R hR=>?_;(repeat intro rh);(try refine sB ⟨?_⟩);(repeat ((with_reducible apply And.intro);exact fE));(repeat intro rh);(repeat ((with_reducible apply And.intro);exact fE));(try apply_assumption -exfalso));(repeat (refine ai ?_));(apply az;exact rfl;all_goals intro h)
  ·have:¬a=b:=fun e=>by subst e;simp at h
   repeat first|refine ai ?_|refine aw ab fun fr=>⟨?_⟩
   ((try refine sC ?_);refine sF ?_;refine bq.of_eq ?_;(simp [this]))
  ·have he:a.getD i default=b.getD i default:=by simpa using h
   repeat first|refine ai ?_|refine aw ab fun fr=>⟨?_⟩
   ((try refine sT ?_);first|refine ra (i+1) ?_ ?_|refine q' (i+1) ?_ ?_)
   ·exact ⟨by omega,qW hlt hlb hab he⟩
   ·omega
 ·have e:i=a.length:=by simp at h;omega
  clear h;have hee:a=b:=by
   have:=hab;rw [e,take_length,hlen,take_length] at this;exact this
  repeat first|refine ai ?_|refine aw ab fun fr=>⟨?_⟩
  ((try refine sC ?_);refine sF ?_;refine bq.of_eq ?_;(simp [hee]))
theorem d_.slot {m:Nat} {B:List aI} {o:aK} {r r':List SV} (hr:d_ m B r r'):d_ m B (.agg o.c :: r) (.agg o.c :: r'):=by
 refine .cons (by simp only [dE,fw,aK.fk]) ?_ hr;simp only [fu,iT,aK.fz];exact bq.refl _
def fz (t:List aK):Nat:=t.findIdx fun x=>x.aU == 0
theorem Ox (t:List aK):fz t≤t.length:=List.findIdx_le_length
def putAt (t:List aK) (s:aK):List aK:=if fz t < t.length then t.set (fz t) s else t ++ [s]
def jD (t:List aK) (s:aK):List aK×Int×Int:=
 if (!i7 t || !j8 s || s.aU == 0)=true then ([],0,1) else if fz t=16 then ([],0,3) else (putAt t s,(fz t:Int),0)
def H3 (x:List aK×Int×Int):SV:= .bS [bG 4 aK.c default x.1,.int .i64 x.2.1,.int .i64 x.2.2]
theorem lx {t:List aK} (h:i7 t=true):t.length≤16∧t.all j8=true:=by
 simp only [i7,Bool.and_eq_true,decide_eq_true_eq] at h;exact ⟨by omega,h.1.1⟩
theorem Oy {t:List aK} {i:Nat} (h:i < t.length) (hi:i≤fz t):((t.getD i default).aU == 0)=true→fz t=i:=by
 intro hk;rcases Nat.lt_or_eq_of_le hi with hlt|he
 ·exfalso;have:=List.not_of_lt_findIdx hlt;rw [show t.getD i default=t[i] by simp [getD,h]] at hk;simp_all
 ·exact he.symm
theorem Ow {t:List aK} {i:Nat} (h:i < t.length) (hi:i≤fz t) (hk:((t.getD i default).aU == 0)=false):i+1≤fz t:=by
 rcases Nat.lt_or_eq_of_le hi with hlt|he
 ·exact hlt
 ·exfalso;have hw:t.findIdx (fun x=>x.aU == 0) < t.length:=by rw [show t.findIdx (fun x=>x.aU == 0)=fz t from rfl];omega
  have:=List.findIdx_getElem (w:=hw);rw [show t.getD i default=t[i] by simp [getD,h]] at hk;have e:t.findIdx (fun x=>x.aU == 0)=i:=he.symm;simp only [e] at this;rw [hk] at this;simp at this
theorem Ak (t:List aK) (s:aK) (hl:t.length≤1000000):EC prog 318 [bG 4 aK.c default t,.agg s.c] [] fun r N=>N=[]∧r=H3 (jD t s):=by
 refine EC.fin (nA ab (ca 318) func318 ntmps318 results318 ?_)
 repeat first|refine ai ?_|refine aw ab fun fr=>⟨?_⟩
 (try refine aw ab fun fr=>⟨?_⟩);(refine EC.use (lK t hl) ?_;(try simp only [hg]);refine gA ab fun fr=>⟨?_⟩);refine ⟨fun hg=>?_,fun hg=>?_⟩;rotate_left 1
 ·have hg0:i7 t=false:=by simpa using hg
  ((try simp only [hg]);refine gA ab fun fr=>⟨?_⟩);(repeat (done));(apply az;exact rfl;all_goals intro h)
  ·repeat first|refine ai ?_|refine aw ab fun fr=>⟨?_⟩
   (try refine sC ?_);rw [show H3 (jD t s)= .bS [bG 4 aK.c default [],.int .i64 0,.int .i64 1] by simp only [jD,hg0,Bool.not_false,Bool.true_or,if_true,H3]];exact jK a6.nil a6.int a6.int
  ·simp [hg0] at h
 have hok:i7 t=true:=by simpa using hg
 obtain ⟨ht16,hall⟩:=lx hok;(refine EC.use (jX s) ?_;(try simp only [hg]);refine gA ab fun fr=>⟨?_⟩);(repeat (done));(apply az;exact rfl;all_goals intro h)
 ·repeat first|refine ai ?_|refine aw ab fun fr=>⟨?_⟩
  (try refine sC ?_);rw [show H3 (jD t s)= .bS [bG 4 aK.c default [],.int .i64 0,.int .i64 1] by simp only [jD,hok,Bool.not_true,Bool.false_or,h,if_true,H3]];exact jK a6.nil a6.int a6.int
 have h0:=h;clear h;have hfl:=Ox t
 repeat first|refine ai ?_|refine aw ab fun fr=>⟨?_⟩
 refine eL [3,7,25,26] (fun i:Nat=>[(27,.int .i64 i)]) (fun i=>i≤t.length∧i≤fz t) (fun i=>t.length - i) 0 ⟨zero_le _,zero_le _⟩ ⟨rfl,trivial⟩ ?_;rintro i ⟨hi,hx⟩;refine sK ?_
 repeat first|refine ai ?_|refine aw ab fun fr=>⟨?_⟩
 (apply az;exact rfl;all_goals intro h)
 ·have hlt:i < t.length:=by simp at h;omega
  clear h
  repeat first|refine ai ?_|refine aw ab fun fr=>⟨?_⟩
  (apply az;exact rfl;all_goals intro h)
  ·have hf:=Oy hlt hx h
   repeat first|refine ai ?_|refine aw ab fun fr=>⟨?_⟩
   (try refine sC ?_);rw [show jD t s=(t.set i s,(i:Int),0) by simp only [jD,putAt,hok,Bool.not_true,Bool.false_or,h0,Bool.false_eq_true,if_false,if_neg (show ¬fz t=16 by omega),if_pos (show fz t < t.length by omega)];rw [hf]];exact jK (a6.row (cells:=aK.c) (d:=default) rfl (by simp [map_set]) (by simp)) a6.int a6.int
  ·have hn:=Ow hlt hx h
   repeat first|refine ai ?_|refine aw ab fun fr=>⟨?_⟩
   ((try refine sT ?_);first|refine ra (i+1) ?_ ?_|refine q' (i+1) ?_ ?_)
   ·exact ⟨by omega,hn⟩
   ·omega
 ·have e:i=t.length:=by simp at h;omega
  have hf:¬fz t < t.length:=by omega
  have hfe:fz t=t.length:=by omega
  clear h
  repeat first|refine ai ?_|refine aw ab fun fr=>⟨?_⟩
  (apply az;exact rfl;all_goals intro h)
  ·have h16:fz t=16:=by simp at h;omega
   repeat first|refine ai ?_|refine aw ab fun fr=>⟨?_⟩
   (try refine sC ?_);rw [show H3 (jD t s)= .bS [bG 4 aK.c default [],.int .i64 0,.int .i64 3] by simp only [jD,hok,Bool.not_true,Bool.false_or,h0,Bool.false_eq_true,if_false,if_pos h16,H3]];exact jK a6.nil a6.int a6.int
  ·have h16:¬fz t=16:=by simp at h;omega
   clear h
   repeat first|refine ai ?_|refine aw ab fun fr=>⟨?_⟩
   (try refine sC ?_);rw [show jD t s=(t ++ [s],(t.length:Int),0) by simp only [jD,putAt,hok,Bool.not_true,Bool.false_or,h0,Bool.false_eq_true,if_false,if_neg h16,if_neg hf];rw [hfe]];exact jK (a6.row (cells:=aK.c) (d:=default) rfl (by simp [aK.q]) (by simp)) a6.int a6.int
def fH (l:List aK):Nat→Nat
 |0=>0
 |n+1=>if ((l.getD n default).aU == 0)=true then fH l n else n+1
theorem Ei {u:List aK} {n:Nat} (h:0 < n) (h2:((u.getD (n - 1) default).aU == 0)=true):fH u (n - 1)=fH u n:=by
 obtain ⟨k,rfl⟩:∃k,n=k+1:=⟨n - 1,by omega⟩;rw [Nat.add_sub_cancel] at h2 ⊢;rw [fH,if_pos h2]
theorem yC (l:List aK):∀n,fH l n≤n
 |0=>Nat.le_refl _
 |n+1=>by
  rw [fH]
  split
  ·exact Nat.le_succ_of_le (yC l n)
  ·exact Nat.le_refl _
def strip (l:List aK):List aK:=l.take (fH l l.length)
def gh (t:List aK) (i:Int):List aK×Int:=
 if (!i7 t)=true then ([],1) else if ((d8 t i).2 !=0)=true then ([],(d8 t i).2) else (strip (t.set i.toNat default),0)
def A5 (x:List aK×Int):SV:= .bS [bG 4 aK.c default x.1,.int .i64 x.2]
theorem F7 {t:List aK} {i:Int} (h:((d8 t i).2 !=0)=false):0≤i∧i < (t.length:Int):=by
 unfold d8 at h
 split at h
 ·simp at h
 ·rename_i hc;simp at hc;omega
theorem wo (t:List aK) (i:Int) (hl:t.length≤1000000):EC prog 323 [bG 4 aK.c default t,.int .i64 i] [] fun r N=>N=[]∧r=A5 (gh t i):=by
 refine EC.fin (nA ab (ca 323) func323 ntmps323 results323 ?_)
 repeat first|refine ai ?_|refine aw ab fun fr=>⟨?_⟩
 (try refine aw ab fun fr=>⟨?_⟩);(refine EC.use (lK t hl) ?_;(try simp only [hg]);refine gA ab fun fr=>⟨?_⟩);(repeat (done));(apply az;exact rfl;all_goals intro h)
 ·repeat first|refine ai ?_|refine aw ab fun fr=>⟨?_⟩
  (try refine sC ?_);rw [show A5 (gh t i)= .bS [bG 4 aK.c default [],.int .i64 1] by simp only [gh,h,if_true,A5]];exact hY a6.nil a6.int
 have hok:=h;clear h
 repeat first|refine ai ?_|refine aw ab fun fr=>⟨?_⟩
 (try refine aw ab fun fr=>⟨?_⟩);(refine EC.use (dI t i hl) ?_;(try simp only [hg]);refine gA ab fun fr=>⟨?_⟩)
 repeat first|refine ai ?_|refine aw ab fun fr=>⟨?_⟩
 (apply az;exact rfl;all_goals intro h)
 ·repeat first|refine ai ?_|refine aw ab fun fr=>⟨?_⟩
  (try refine sC ?_);rw [show A5 (gh t i)= .bS [bG 4 aK.c default [],.int .i64 (d8 t i).2] by simp only [gh,hok,h,Bool.false_eq_true,if_false,if_true,A5]];exact hY a6.nil a6.int
 have hge:=h;have hin:=F7 h;clear h
 repeat first|refine ai ?_|refine aw ab fun fr=>⟨?_⟩
 have hset:(map aK.c t).set i.toNat (aK.c default)=(t.set i.toNat default).map aK.c:=by rw [map_set]
 obtain ⟨u,hu,hul⟩:∃u,t.set i.toNat default=u∧u.length=t.length:=⟨_,rfl,by simp⟩;simp only [hset,hu];refine eL [] (fun n:Nat=>[(8,.row 1 _ 4 0 n)]) (fun n=>n≤u.length∧fH u n=fH u u.length) (fun n=>n) t.length ⟨by omega,by rw [hul]⟩ ⟨rfl,trivial⟩ ?_;rintro n ⟨hn,hs⟩;refine sK ?_
 repeat first|refine ai ?_|refine aw ab fun fr=>⟨?_⟩
 (apply az;exact rfl;all_goals intro h)
 ·have hn0:0 < n∧((u.getD (n - 1) default).aU == 0)=true:=by
   rw [Bool.and_eq_true,←vp] at h;exact ⟨by have:=of_decide_eq_true h.1;omega,h.2⟩
  have hs1:fH u (n - 1)=fH u n:=by
   exact Ei hn0.1 hn0.2
  clear h
  repeat first|refine ai ?_|refine aw ab fun fr=>⟨?_⟩
  ((try refine sT ?_);first|refine ra (n - 1) ?_ ?_|refine q' (n - 1) ?_ ?_)
  ·exact ⟨by omega,by rw [hs1,hs]⟩
  ·omega
 ·have hs1:fH u n=n:=by
   rw [←vp] at h
   cases n with
   |zero=>rfl
   |succ k=>
    rw [fH,if_neg];intro e;simp only [Nat.add_sub_cancel] at h;rw [e] at h;simp at h
  clear h
  repeat first|refine ai ?_|refine aw ab fun fr=>⟨?_⟩
  (try refine sC ?_);rw [show gh t i=(u.take n,0) by simp only [gh,hok,hge,Bool.false_eq_true,if_false,strip,hu,←hs,hs1]];exact hY (a6.part (cells:=aK.c) (d:=default) (l:=u) rfl rfl (by simp;omega) (by simp) (by omega)) a6.int
attribute [push_cast] H3 A5
def qB (s:aK):Int:=if (s.aU == 1)=true then 4 else if (s.aU == 2 || s.aU == 3)=true then 5 else if (s.aU == 4)=true then 7 else 6
def j9 (o:af) (s:aK):Int:=if (s.aU == 2)=true then o.br else if (s.aU == 3)=true then o.ef else if (s.aU == 4)=true then (if s.End=0 then o.Ends.x0 else o.Ends.x1) else o.Refs
def mL (o:af) (s:aK) (n:Int):af:=if (s.aU == 2)=true then {o with br:=n} else if (s.aU == 3)=true then {o with ef:=n} else if (s.aU == 4)=true then (if s.End=0 then {o with Ends:=⟨n,o.Ends.x1⟩} else {o with Ends:=⟨o.Ends.x0,n⟩}) else {o with Refs:=n}
theorem xZ (s:aK):EC prog 354 [.agg s.c] [] fun r B=>B=[]∧r= .int .i64 (qB s):=by
 refine EC.fin (nA ab (ca 354) func354 ntmps354 results354 ?_)
 repeat first|refine ai ?_|refine aw ab fun fr=>⟨?_⟩
 (apply az;exact rfl;all_goals intro h)
 ·repeat first|refine ai ?_|refine aw ab fun fr=>⟨?_⟩
  ((try refine sC ?_);refine sF ?_;refine bq.of_eq ?_;(simp only [qB,h,if_true]))
 have h1:=h;clear h
 repeat first|refine ai ?_|refine aw ab fun fr=>⟨?_⟩
 refine pj (σ:=Bool) [1,2,4] (fun b=>[(7,.bool b)]) (fun B b=>B) (fun b=>b=(s.aU == 2 || s.aU == 3)) ?_ ?_
 ·intro b hbb;(intro t1 B1 ht hB;(try apply_assumption -exfalso);(try refine sT ?_);refine pf ht hB ?_);refine sK ?_;(repeat (done));(apply az;exact rfl;all_goals intro h)
  ·rw [h] at hbb
   repeat first|refine ai ?_|refine aw ab fun fr=>⟨?_⟩
   ((try refine sC ?_);refine sF ?_;refine bq.of_eq ?_;(simp only [qB,h1,←hbb,if_true,if_false,Bool.false_eq_true]))
  ·rw [h] at hbb
   repeat first|refine ai ?_|refine aw ab fun fr=>⟨?_⟩
   (apply az;exact rfl;all_goals intro h)
   ·repeat first|refine ai ?_|refine aw ab fun fr=>⟨?_⟩
    ((try refine sC ?_);refine sF ?_;refine bq.of_eq ?_;(simp only [qB,h1,←hbb,h,if_true,if_false,Bool.false_eq_true]))
   ·repeat first|refine ai ?_|refine aw ab fun fr=>⟨?_⟩
    ((try refine sC ?_);refine sF ?_;refine bq.of_eq ?_;(simp only [qB,h1,←hbb,h,if_true,if_false,Bool.false_eq_true]))
 ·(apply az;exact rfl;all_goals intro h)
  ·(repeat (refine ai ?_));((try refine sT ?_);first|refine HE ((s.aU == 2)) ?_|refine HD ((s.aU == 2)) ?_);rw [h];rfl
  ·(repeat (refine aw ab fun fr=>⟨?_⟩));((try refine sT ?_);first|refine HE ((s.aU == 3)) ?_|refine HD ((s.aU == 3)) ?_);rw [h];rfl
theorem jn (o:af) (s:aK) (he:s.End=0∨s.End=1):EC prog 344 [.agg o.c,.agg s.c] [] fun r B=>B=[]∧r= .int .i64 (j9 o s):=by
 refine EC.fin (nA ab (ca 344) func344 ntmps344 results344 ?_)
 repeat first|refine ai ?_|refine aw ab fun fr=>⟨?_⟩
 (apply az;exact rfl;all_goals intro h)
 ·repeat first|refine ai ?_|refine aw ab fun fr=>⟨?_⟩
  ((try refine sC ?_);refine sF ?_;refine bq.of_eq ?_;(simp only [j9,h,if_true]))
 have h1:=h;clear h
 repeat first|refine ai ?_|refine aw ab fun fr=>⟨?_⟩
 (apply az;exact rfl;all_goals intro h)
 ·repeat first|refine ai ?_|refine aw ab fun fr=>⟨?_⟩
  ((try refine sC ?_);refine sF ?_;refine bq.of_eq ?_;(simp only [j9,h1,h,if_true,if_false,Bool.false_eq_true]))
 have h2:=h;clear h
 repeat first|refine ai ?_|refine aw ab fun fr=>⟨?_⟩
 (apply az;exact rfl;all_goals intro h)
 ·rcases he with e|e
  ·rw [show s.c=aK.c {s with End:=0} by rw [←e]]
   repeat first|refine ai ?_|refine aw ab fun fr=>⟨?_⟩
   ((try refine sC ?_);refine sF ?_;refine bq.of_eq ?_;(simp only [j9,h1,h2,h,e,if_true,if_false,Bool.false_eq_true]))
  ·rw [show s.c=aK.c {s with End:=1} by rw [←e]]
   repeat first|refine ai ?_|refine aw ab fun fr=>⟨?_⟩
   ((try refine sC ?_);refine sF ?_;refine bq.of_eq ?_;(simp only [j9,h1,h2,h,e,if_true,if_false,Bool.false_eq_true];(try rfl)))
 repeat first|refine ai ?_|refine aw ab fun fr=>⟨?_⟩
 ((try refine sC ?_);refine sF ?_;refine bq.of_eq ?_;(simp only [j9,h1,h2,h,if_false,Bool.false_eq_true]))
theorem mX (o:af) (s:aK) (n:Int) (he:s.End=0∨s.End=1):EC prog 345 [.agg o.c,.agg s.c,.int .i64 n] [] fun r B=>B=[]∧r= .agg (mL o s n).c:=by
 refine EC.fin (nA ab (ca 345) func345 ntmps345 results345 ?_)
 repeat first|refine ai ?_|refine aw ab fun fr=>⟨?_⟩
 (apply az;exact rfl;all_goals intro h)
 ·repeat first|refine ai ?_|refine aw ab fun fr=>⟨?_⟩
  ((try refine sC ?_);refine sF ?_;refine bq.of_eq ?_;(simp only [mL,h,if_true]))
 have h1:=h;clear h
 repeat first|refine ai ?_|refine aw ab fun fr=>⟨?_⟩
 (apply az;exact rfl;all_goals intro h)
 ·repeat first|refine ai ?_|refine aw ab fun fr=>⟨?_⟩
  ((try refine sC ?_);refine sF ?_;refine bq.of_eq ?_;(simp only [mL,h1,h,if_true,if_false,Bool.false_eq_true]))
 have h2:=h;clear h
 repeat first|refine ai ?_|refine aw ab fun fr=>⟨?_⟩
 (apply az;exact rfl;all_goals intro h)
 ·rcases he with e|e
  ·rw [show s.c=aK.c {s with End:=0} by rw [←e]]
   repeat first|refine ai ?_|refine aw ab fun fr=>⟨?_⟩
   ((try refine sC ?_);refine sF ?_;refine bq.of_eq ?_;(simp only [mL,h1,h2,h,e,if_true,if_false,Bool.false_eq_true]))
  ·rw [show s.c=aK.c {s with End:=1} by rw [←e]]
   repeat first|refine ai ?_|refine aw ab fun fr=>⟨?_⟩
   ((try refine sC ?_);refine sF ?_;refine bq.of_eq ?_;(simp only [mL,h1,h2,h,e,if_true,if_false,Bool.false_eq_true];(try rfl)))
 repeat first|refine ai ?_|refine aw ab fun fr=>⟨?_⟩
 ((try refine sC ?_);refine sF ?_;refine bq.of_eq ?_;(simp only [mL,h1,h2,h,if_false,Bool.false_eq_true]))
def fV (o:af) (s:aK):Int:=if (!j8 s)=true then 1 else if (hH s == 0 || o.ID !=hH s || o.aU !=qB s)=true then 10 else 0
theorem qo (o:af) (s:aK):EC prog 343 [.agg o.c,.agg s.c] [] fun r B=>B=[]∧r= .int .i64 (fV o s):=by
 refine EC.fin (nA ab (ca 343) func343 ntmps343 results343 ?_)
 repeat first|refine ai ?_|refine aw ab fun fr=>⟨?_⟩
 (try refine aw ab fun fr=>⟨?_⟩);(refine EC.use (jX s) ?_;(try simp only [hg]);refine gA ab fun fr=>⟨?_⟩);(repeat (done));(apply az;exact rfl;all_goals intro h)
 ·repeat first|refine ai ?_|refine aw ab fun fr=>⟨?_⟩
  ((try refine sC ?_);refine sF ?_;refine bq.of_eq ?_;(simp only [fV,h,if_true]))
 have h1:=h;clear h
 repeat first|refine ai ?_|refine aw ab fun fr=>⟨?_⟩
 (try refine aw ab fun fr=>⟨?_⟩);(refine EC.use (gG s) ?_;(try simp only [hg]);refine gA ab fun fr=>⟨?_⟩);(repeat (refine ai ?_));(refine dD ab [] [false,false] [0,1,2,3,4,5,6,7,8,9,10,11,12,13,14] bZ fun R hR=>?_;(repeat intro rh);(try refine sB ⟨?_⟩);(repeat ((with_reducible apply And.intro);exact fE));(repeat intro rh);(repeat ((with_reducible apply And.intro);exact fE));(try apply_assumption -exfalso));refine ⟨fun hg=>?_,fun hg=>?_⟩
 ·(refine EC.use (xZ s) ?_;(try simp only [hg]);refine dR ab [13,14] ?_;(repeat intro rh);(try refine sB ⟨?_⟩);(repeat ((with_reducible apply And.intro);exact fE));(apply_assumption -exfalso));(repeat (refine ai ?_));(apply az;exact rfl;all_goals intro h)
  ·repeat first|refine ai ?_|refine aw ab fun fr=>⟨?_⟩
   ((try refine sC ?_);refine sF ?_;refine bq.of_eq ?_;(simp only [fV,h1,hg,Bool.false_or,h,if_true,if_false,Bool.false_eq_true]))
  ·repeat first|refine ai ?_|refine aw ab fun fr=>⟨?_⟩
   ((try refine sC ?_);refine sF ?_;refine bq.of_eq ?_;(simp only [fV,h1,hg,Bool.false_or,h,if_true,if_false,Bool.false_eq_true]))
 ·have hg2:(hH s == 0 || o.ID !=hH s)=true:=by rw [Bool.not_eq_false'] at hg;exact hg
  simp only [hg2]
  (skip;(try simp only [hg]);refine dR ab [13,14] ?_;(repeat intro rh);(try refine sB ⟨?_⟩);(repeat ((with_reducible apply And.intro);exact fE));(apply_assumption -exfalso))
  (repeat (refine ai ?_));(apply az;exact rfl;all_goals intro h)
  ·repeat first|refine ai ?_|refine aw ab fun fr=>⟨?_⟩
   ((try refine sC ?_);refine sF ?_;refine bq.of_eq ?_;(simp only [fV,h1,hg2,Bool.true_or,if_true,if_false,Bool.false_eq_true]))
  ·simp [hg2] at h
def dL (o:af) (s:aK) (b:Int):af×Int:=
 if (fV o s !=0)=true then (default,fV o s) else if (decide (0 < b) && decide (1073741824≤j9 o s))=true then (default,3)
 else if (decide (b < 0) && decide (j9 o s < 1))=true then (default,8) else (mL o s (IntKind.i64.wrap (j9 o s+b)),0)
def Mf (x:af×Int):SV:= .bS [.agg x.1.c,.int .i64 x.2]
theorem Dt {o:af} {s:aK} {b n:Int} (h:fV o s=n) (hn:(n !=0)=true):dL o s b=(default,n):=by
 rw [dL,h,if_pos hn]
theorem F4 {o:af} {s:aK} {b:Int} (h:fV o s=0):dL o s b=if (decide (0 < b) && decide (1073741824≤j9 o s))=true then (default,3)
 else if (decide (b < 0) && decide (j9 o s < 1))=true then (default,8) else (mL o s (IntKind.i64.wrap (j9 o s+b)),0):=by
 rw [dL,h,if_neg (by simp)]
theorem A4 {s:aK} (h:j8 s=true):s.End=0∨s.End=1:=by
 by_cases hk:(s.aU == 0)=true
 ·rw [j8,if_pos hk] at h;have:s=default:=by simpa using h
  subst this;exact .inl rfl
 ·rw [j8,if_neg hk] at h;simp at h;omega
attribute [push_cast] Mf
theorem Iw {o:af} {s:aK} (h:fV o s=0):dL o s 1=if decide (1073741824≤j9 o s)=true then (default,3) else (mL o s (IntKind.i64.wrap (j9 o s+1)),0):=by
 rw [F4 h];rfl
theorem drop_eq {o:af} {s:aK} (h:fV o s=0):dL o s (-1)=if decide (j9 o s < 1)=true then (default,8) else (mL o s (IntKind.i64.wrap (j9 o s - 1)),0):=by
 rw [F4 h];rfl
theorem DO {o:af} {s:aK} (h:(fV o s !=0)=false):fV o s=0∧j8 s=true:=by
 have h0:fV o s=0:=by simpa using h
 refine ⟨h0,?_⟩;unfold fV at h0
 split at h0
 ·simp at h0
 ·rename_i hc;simpa using hc
theorem x9 (o:af) (s:aK):EC prog 346 [.agg o.c,.agg s.c] [] fun r B=>B=[]∧r=Mf (dL o s 1):=by
 refine EC.fin (nA ab (ca 346) func346 ntmps346 results346 ?_)
 repeat first|refine ai ?_|refine aw ab fun fr=>⟨?_⟩
 (try refine aw ab fun fr=>⟨?_⟩);(refine EC.use (qo o s) ?_;(try simp only [hg]);refine gA ab fun fr=>⟨?_⟩)
 repeat first|refine ai ?_|refine aw ab fun fr=>⟨?_⟩
 (apply az;exact rfl;all_goals intro h)
 ·have hch:=Dt (b:=1) (rfl:fV o s=_) h
  repeat first|refine ai ?_|refine aw ab fun fr=>⟨?_⟩
  ((try refine sC ?_);refine sF ?_;refine bq.of_eq ?_;(simp only [hch,Mf]))
 obtain ⟨h0,hok⟩:=DO h;have hend:=A4 hok;have hch:=Iw h0;clear h
 repeat first|refine ai ?_|refine aw ab fun fr=>⟨?_⟩
 (try refine aw ab fun fr=>⟨?_⟩);(refine EC.use (jn o s hend) ?_;(try simp only [hg]);refine gA ab fun fr=>⟨?_⟩);(repeat (done));(apply az;exact rfl;all_goals intro h)
 ·rw [if_pos h] at hch
  repeat first|refine ai ?_|refine aw ab fun fr=>⟨?_⟩
  ((try refine sC ?_);refine sF ?_;refine bq.of_eq ?_;(simp only [hch,Mf]))
 rw [h,if_neg (by simp)] at hch;clear h;(repeat (refine ai ?_));(refine dD ab [7] [false,false,false] [0,1,2,3,4,5,6,7,8] bZ fun R hR=>?_;(repeat intro rh);(try refine sB ⟨?_⟩);(repeat ((with_reducible apply And.intro);exact fE));(repeat intro rh);(repeat ((with_reducible apply And.intro);exact fE));(try apply_assumption -exfalso));(refine EC.use (jn o s hend) ?_;(try simp only [hg]);refine dR ab [5,6,7,8] ?_;(repeat intro rh);(try refine sB ⟨?_⟩);(repeat ((with_reducible apply And.intro);exact fE));((try simp only [gy])));(refine EC.use (mX o s _ hend) ?_;(try simp only [hg]);refine dR ab [7,8] ?_;(repeat intro rh);(try refine sB ⟨?_⟩);(repeat ((with_reducible apply And.intro);exact fE));(apply_assumption -exfalso));(repeat (refine ai ?_));((try refine sC ?_);refine sF ?_;refine bq.of_eq ?_;(simp only [hch,Mf]))
def vA (x:af):Bool:=if (x.aU == 4)=true then x.Refs == 0 else if (x.aU == 5)=true then x.br == 0 && x.ef == 0 else if (x.aU == 7)=true then x.Ends == default else false
def g_ (o:af) (s:aK):af×Bool×Int:=if ((dL o s (-1)).2 !=0)=true then (default,false,(dL o s (-1)).2) else ((dL o s (-1)).1,vA (dL o s (-1)).1,0)
@[push_cast] def Rp (x:af×Bool×Int):SV:= .bS [.agg x.1.c,.bool x.2.1,.int .i64 x.2.2]
theorem x_ (o:af) (s:aK):EC prog 308 [.agg o.c,.agg s.c] [] fun r B=>B=[]∧r=Rp (g_ o s):=by
 refine EC.fin (nA ab (ca 308) func308 ntmps308 results308 ?_)
 repeat first|refine ai ?_|refine aw ab fun fr=>⟨?_⟩
 (try refine aw ab fun fr=>⟨?_⟩);(refine EC.use (qo o s) ?_;(try simp only [hg]);refine gA ab fun fr=>⟨?_⟩)
 repeat first|refine ai ?_|refine aw ab fun fr=>⟨?_⟩
 (apply az;exact rfl;all_goals intro h)
 ·have hch:=Dt (b:=-1) (rfl:fV o s=_) h;have hd:g_ o s=(default,false,fV o s):=by rw [g_,hch,if_pos h]
  repeat first|refine ai ?_|refine aw ab fun fr=>⟨?_⟩
  ((try refine sC ?_);refine sF ?_;refine bq.of_eq ?_;(simp only [hd]))
 obtain ⟨h0,hok⟩:=DO h;have hend:=A4 hok;have hch:=drop_eq h0;clear h
 repeat first|refine ai ?_|refine aw ab fun fr=>⟨?_⟩
 (try refine aw ab fun fr=>⟨?_⟩);(refine EC.use (jn o s hend) ?_;(try simp only [hg]);refine gA ab fun fr=>⟨?_⟩);(repeat (done));(apply az;exact rfl;all_goals intro h)
 ·rw [if_pos h] at hch;have hd:g_ o s=(default,false,8):=by rw [g_,hch];rfl
  repeat first|refine ai ?_|refine aw ab fun fr=>⟨?_⟩
  ((try refine sC ?_);refine sF ?_;refine bq.of_eq ?_;(simp only [hd]))
 rw [h,if_neg (by simp)] at hch;have hd:g_ o s=((dL o s (-1)).1,vA (dL o s (-1)).1,0):=by rw [g_,hch];rfl
 rw [hch] at hd;clear h;(repeat (refine ai ?_));(refine dD ab [7] [false,false,false] [0,1,2,3,4,5,6,7] bZ fun R hR=>?_;(repeat intro rh);(try refine sB ⟨?_⟩);(repeat ((with_reducible apply And.intro);exact fE));(repeat intro rh);(repeat ((with_reducible apply And.intro);exact fE));(try apply_assumption -exfalso));(refine EC.use (jn o s hend) ?_;(try simp only [hg]);refine dR ab [5,6,7] ?_;(repeat intro rh);(try refine sB ⟨?_⟩);(repeat ((with_reducible apply And.intro);exact fE));((try simp only [gy])));(refine EC.use (mX o s _ hend) ?_;(try simp only [hg]);refine dR ab [7] ?_;(repeat intro rh);(try refine sB ⟨?_⟩);(repeat ((with_reducible apply And.intro);exact fE));(apply_assumption -exfalso));generalize mL o s (IntKind.i64.wrap (j9 o s - 1))=x at hd ⊢;(repeat (first|refine Gb ?_|refine aw ab fun fr=>⟨?_⟩));refine pj (σ:=Bool) [2,4,5,6] (fun b=>[(8,.bool b)]) (fun B b=>B) (fun b=>b=vA x) ?_ ?_
 ·intro b hbb;(intro t1 B1 ht hB;(try apply_assumption -exfalso);(try refine sT ?_);refine pf ht hB ?_);refine sK ?_
  repeat first|refine ai ?_|refine aw ab fun fr=>⟨?_⟩
  ((try refine sC ?_);refine sF ?_;refine bq.of_eq ?_;(simp only [hd,hbb]))
 ·refine lV ?_
  repeat first|refine ai ?_|refine aw ab fun fr=>⟨?_⟩
  (apply az;exact rfl;all_goals intro h)
  ·(repeat (refine aw ab fun fr=>⟨?_⟩));((try refine sT ?_);first|refine HE ((x.Refs == 0)) ?_|refine HD ((x.Refs == 0)) ?_);rw [vA,if_pos h]
  have h4:=h;clear h
  repeat first|refine ai ?_|refine aw ab fun fr=>⟨?_⟩
  (apply az;exact rfl;all_goals intro h)
  ·(repeat (refine aw ab fun fr=>⟨?_⟩));((try refine sT ?_);first|refine HE ((x.br == 0 && x.ef == 0)) ?_|refine HD ((x.br == 0 && x.ef == 0)) ?_);rw [vA,if_neg (by rw [h4];simp),if_pos h]
  have h5:=h;clear h
  repeat first|refine ai ?_|refine aw ab fun fr=>⟨?_⟩
  (apply az;exact rfl;all_goals intro h)
  ·(repeat (refine aw ab fun fr=>⟨?_⟩));((try refine sT ?_);first|refine HE ((x.Ends == default)) ?_|refine HD ((x.Ends == default)) ?_);rw [vA,if_neg (by rw [h4];simp),if_neg (by rw [h5];simp),if_pos h]
  ·(repeat (refine ai ?_));((try refine sT ?_);first|refine HE (false) ?_|refine HD (false) ?_);rw [vA,if_neg (by rw [h4];simp),if_neg (by rw [h5];simp),if_neg (by rw [h];simp)]
theorem EC.mu {P:Program} {f:Nat} {args args':List SV} {B:List aI} {Q:SV→List aI→Prop} (m:Nat) (ha:d_ m B args args') (h:EC P f args' (B.take m) Q):EC P f args B Q:=by
 have hb:∀i,au (B.take m) i=if bc m i then .gone else au B i:=fun i=>by
  rw [eQ];by_cases hi:i < m
  ·have:bc m i=false:=by simp [bc];omega
   simp [hi,this]
  ·have:bc m i=true:=by simp [bc];omega
   simp [hi,this]
 refine ⟨h.1,fun X w vs hs hd=>?_⟩;have hsp:=ha.spec;refine (h.2 (dz X B (bc m)) w vs (hs.dY hb) ⟨by rw [hd.1,hsp.1],fun i c hc=>?_⟩).mono ?_
 ·obtain ⟨d,h1,h2,h3⟩:=hsp.2 i c hc;exact h3 _ _ _ (eR hs (hd.2 i d h1) h2)
 ·rintro e w' ⟨v,r,X',B',he,hq,hsat,hden,hext⟩;exact ⟨v,r,X',B',he,hq,hsat,hden,(Ext.dY hb).trans hext⟩
theorem d_.mi {α:Type} {m:Nat} {B:List aI} {i e n E:Nat} {h:aN} {xs:List (List SV)} {cells:α→List SV} {d:α} {l:List α} {r r':List SV} (hm:m≤i) (hB:au B i= .row h E e xs) (hx:xs=l.map cells) (hn:n=l.length) (hr:d_ m B r r'):
  d_ m B (.row i h e 0 n :: r) (bG e cells d l :: r'):=by
 subst hx hn;refine .cons ?_ ?_ hr
 ·simp [dE,fw,cf,bc,hm,hB]
 ·simp only [fu,iT,gl,bc,hm,decide_true,hB];refine bq.sl (fun h=>h) (.inr rfl) fun k hk=>?_;simp [getD,hk,cA]
attribute [push_cast] Option.toList_none Option.toList_some
def QV (x:Int):Nat→List Int→Int
 |_,[]=>-1
 |i,y :: t=>if x=y then (i:Int) else QV x (i+1) t
theorem ec (l:List Int) (x:Int) (hl:l.length≤1000000):EC prog 114 [bG 1 (aS .u64) default l,.int .u64 x] [] fun r B=>B=[]∧r= .bool (decide (x∈l)):=by
 refine EC.fin (nA ab (ca 114) func114 ntmps114 results114 ?_)
 repeat first|refine ai ?_|refine aw ab fun fr=>⟨?_⟩
 refine eL [0,1,7,8] (fun i:Nat=>[(9,.int .i64 i)]) (fun i=>i≤l.length∧x ∉ l.take i) (fun i=>l.length - i) 0 ⟨zero_le _,by simp⟩ ⟨rfl,trivial⟩ ?_;rintro i ⟨hi,hx⟩;refine sK ?_
 repeat first|refine ai ?_|refine aw ab fun fr=>⟨?_⟩
 (apply az;exact rfl;all_goals intro h)
 ·have hlt:i < l.length:=by simp at h;omega
  clear h
  repeat first|refine ai ?_|refine aw ab fun fr=>⟨?_⟩
  (apply az;exact rfl;all_goals intro h)
  ·have e:x∈l:=by
    have:l.getD i default=x:=by simpa using h
    rw [←this];exact bk hlt
   repeat first|refine ai ?_|refine aw ab fun fr=>⟨?_⟩
   ((try refine sC ?_);refine sF ?_;refine bq.of_eq ?_;simp [e])
  ·have e:¬l.getD i default=x:=by simpa using h
   repeat first|refine ai ?_|refine aw ab fun fr=>⟨?_⟩
   ((try refine sT ?_);first|refine ra (i+1) ?_ ?_|refine q' (i+1) ?_ ?_)
   ·refine ⟨by omega,?_⟩;rw [take_succ_eq_append_getElem hlt];have:l.getD i default=l[i]:=by simp [getD,hlt]
    rw [this] at e;simp only [List.mem_append,List.mem_singleton,not_or];exact ⟨hx,fun h=>e h.symm⟩
   ·omega
 ·have e:i=l.length:=by simp at h;omega
  clear h;rw [e,take_length] at hx
  repeat first|refine ai ?_|refine aw ab fun fr=>⟨?_⟩
  ((try refine sC ?_);refine sF ?_;refine bq.of_eq ?_;simp [hx])
def HG (l:List Int) (i:Nat):Bool:=!(l.getD i default == 0) && !decide (l.getD i default∈l.take i)
def G2 (l:List Int):Bool:=(range l.length).all (HG l)
section
open Go.Lift Go.ChangeShapes Go.WideShapes Go.ChangeAt Go.RowKit
end
def PI (c:Int) (n len:Int):Bool:=if c == 114 then decide (0≤n) && decide (n < 8) else if c == 110 then decide (-9007199254740992≤n) && decide (n≤9007199254740992) else if c == 116 then decide (0≤n) && decide (n≤len) else if c == 111 then decide (0≤n) && decide (n≤256) else decide (1≤n) && decide (n≤24)
def GB (op:Int):List UInt8:=match op.toNat with|1=>[114,110]|2=>[114,114]|3=>[114,114,114]|4=>[114,114,114]|5=>[114,114,114]|6=>[114,114,114]|7=>[114,114,114]|8=>[116]|9=>[114,116]|10=>[114,114,111]|11=>[114,114,111]|12=>[99]|_=>[]
def m7 (x:bp) (i:Nat):Int:=[x.A,x.B,x.C].getD i 0
def CQ (x:bp) (len:Int) (i:Nat):Bool:=if ((GB x.Op).length:Int)≤i then m7 x i == 0 else PI ((GB x.Op).getD i 0).toNat (m7 x i) len
def sn (x:bp) (len:Int):Bool:=decide (0≤x.Op) && decide (x.Op < 13) && (CQ x len 0 && CQ x len 1 && CQ x len 2)
def K' (op:Int):List UInt8:=match op.toNat with|0=>[110,111,112]|1=>[115,101,116]|2=>[109,111,118,101]|3=>[97,100,100]|4=>[115,117,98]|5=>[109,117,108]|6=>[108,101,115,115]|7=>[101,113,117,97,108]|8=>[106,117,109,112]|9=>[105,102]|10=>[108,111,97,100]|11=>[115,116,111,114,101]|12=>[99,97,108,108]|_=>[]
def m5 (p:aP):Int:=if decide (256 < (p.Code.length:Int)) || decide (32 < (p.Strings.length:Int)) || p.Strings.any (fun s=>decide (128 < (s.length:Int))) then 3 else if decide (p.aQ < 0) || decide (16 < p.aQ) then 2 else if p.Code.all (fun x=>sn x p.Code.length) then 0 else 1
theorem Jg {i n:Nat} (hi:i < n) (hn:n≤1000000):IntKind.i64.wrap ((i:Int)+1)=((i+1:Nat):Int):=by rw [bu (by omega)];omega
def t7 (id:Int) (l:List Int) (i:Nat):Bool:=!(l.getD i default == 0) && !(l.getD i default == id) && !decide (l.getD i default∈l.take i)
def nB (id:Int) (l:List Int):Bool:=(range l.length).all (t7 id l)
def Fl (o:af):Bool:=nB o.ID o.ae.aZ && (o.ae.dg !=o.ID && decide ((o.ae.aZ.length:Int)≤32))
theorem tw {p:Nat→Bool} {n i:Nat} (h:i < n) (hp:p i=false):(range n).all p=false:=by
 simp only [all_eq_false];exact ⟨i,by simpa using h,by simp [hp]⟩
theorem p_ {p:Nat→Bool} {i:Nat} (h:(range i).all p=true) (hp:p i=true):(range (i+1)).all p=true:=by rw [List.range_succ,all_append,h];simp [hp]
def gW (o:af):Bool:=
 if o.aU !=1 || o.ID == 0 || !eB o 2 || !Fl o then false
 else if o.ae.State == 3 then o.ae.dg !=0 && q5 o.ae
 else if o.ae.State == 1 || o.ae.State == 2 then m5 o.ae.Program == 0 && kC o.ae.aQ && i7 o.ae.aH && kQ o.ae.cy && decide (0≤o.ae.eP) && decide (o.ae.eP≤1073741824) && (o.ae.State == 2 || o.ae.Status == 0)
 else false
def RY (n:Nat) (h:aN) (i:Nat):SV:= .row i h 3 0 n
attribute [push_cast] RY
theorem Cl:cI prog (OC E):=IE ab
def PR (n:Nat) (h:aN) (i:Nat):SV:= .row i h 1 0 n
attribute [push_cast] PR
def BM (o:af) (status:Int):af×Bool×Int:=
 if (!gW o)=true then (default,false,1) else if (o.ae.State == 3)=true then (default,false,8) else if (o.ae.dg == 0)=true then (default,true,0)
 else ({(default:af) with ID:=o.ID,aU:=1,ae:={(default:aC) with State:=3,dg:=o.ae.dg,Status:=status}},false,0)
def P6 (x:af×Bool×Int):SV:= .bS [.agg x.1.c,.bool x.2.1,.int .i64 x.2.2]
attribute [push_cast] P6
def P5 (x:af×af×Int):SV:= .bS [.agg x.1.c,.agg x.2.1.c,.int .i64 x.2.2]
attribute [push_cast] P5 Gu
def Rl (x:af×Int×Int):SV:= .bS [.agg x.1.c,.int .i64 x.2.1,.int .i64 x.2.2]
attribute [push_cast] Rl
def P8 (x:af×Int):SV:= .bS [.agg x.1.c,.int .i64 x.2]
attribute [push_cast] P8
def iQ (o:af):Bool:=o.aU == 2 && !(o.ID == 0) && ((o.fF.length:Int) == 16) && eB o 4
theorem EG (o:af):eB o 4=ia {o with fF:=[]}:=by
 have h1:b6 .andNot .i64 1 4=1:=by decide
 have h2:b6 .andNot .i64 2 4=2:=by decide
 have h3:b6 .andNot .i64 4 4=0:=by decide
 have h4:b6 .andNot .i64 8 4=8:=by decide
 have h5:b6 .andNot .i64 16 4=16:=by decide
 have h6:b6 .andNot .i64 32 4=32:=by decide
 have h7:b6 .andNot .i64 64 4=64:=by decide
 have h8:b6 .andNot .i64 128 4=128:=by decide
 have h9:b6 .andNot .i64 256 4=256:=by decide
 have h10:b6 .andNot .i64 512 4=512:=by decide
 have h11:b6 .andNot .i64 1024 4=1024:=by decide
 have h12:b6 .andNot .i64 2048 4=2048:=by decide
 have h13:b6 .andNot .i64 4096 4=4096:=by decide
 apply Bool.eq_iff_iff.2;simp [eB,okB,ia,h1,h2,h3,h4,h5,h6,h7,h8,h9,h10,h11,h12,h13]
 constructor<;>(intro h;simp [h])
theorem jr (o:af) (ho:cS o):EC prog 291 [.agg o.c] [] fun r B=>B=[]∧r= .bool (iQ o):=by
 refine EC.fin (nA ab (ca 291) func291 ntmps291 results291 ?_)
 repeat first|refine ai ?_|refine aw ab fun fr=>⟨?_⟩
 (try refine aw ab fun fr=>⟨?_⟩);refine ⟨fun hg=>?_,fun hg=>?_⟩
 ·(refine EC.F0 (cZ {o with fF:=[]}) (.cons (bq.agg (by (repeat (first|exact eD.refl _|apply af.R5|exact cB)))) .nil) ?_;(try simp only [hg]);refine gA ab fun fr=>⟨?_⟩);(repeat (refine ai ?_));((try refine sC ?_);refine sF ?_;refine bq.of_eq ?_;(simp only [iQ,←bne_eq,hg,EG];(try rfl)))
 ·((try simp only [hg]);refine gA ab fun fr=>⟨?_⟩);(repeat (refine ai ?_));((try refine sC ?_);refine sF ?_;refine bq.of_eq ?_;(simp only [iQ,←bne_eq,hg];(try rfl)))
def ic (o:af) (w:Int):Int×Int:=if !iQ o then (0,1) else if decide (w < 0) || decide (16≤w) then (0,2) else (o.fF.getD w.toNat default,0)
def Me (x:Int×Int):SV:= .bS [.int .i64 x.1,.int .i64 x.2]
theorem qE {o:af} (h:iQ o=true):o.fF.length=16:=by
 simp [iQ] at h;omega
theorem rL (o:af) (w:Int) (ho:cS o):EC prog 259 [.agg o.c,.int .i64 w] [] fun r B=>B=[]∧r=Me (ic o w):=by
 refine EC.fin (nA ab (ca 259) func259 ntmps259 results259 ?_)
 repeat first|refine ai ?_|refine aw ab fun fr=>⟨?_⟩
 (try refine aw ab fun fr=>⟨?_⟩);(refine EC.use (jr o ho) ?_;(try simp only [hg]);refine gA ab fun fr=>⟨?_⟩);(repeat (done));(apply az;exact rfl;all_goals intro h)
 ·repeat first|refine ai ?_|refine aw ab fun fr=>⟨?_⟩
  ((try refine sC ?_);refine sF ?_;refine bq.of_eq ?_;(simp only [ic,h,if_true,Me]))
 have h0:=h;clear h;have hl:=qE (o:=o) (by simpa using h0)
 repeat first|refine ai ?_|refine aw ab fun fr=>⟨?_⟩
 (apply az;exact rfl;all_goals intro h)
 ·repeat first|refine ai ?_|refine aw ab fun fr=>⟨?_⟩
  ((try refine sC ?_);refine sF ?_;refine bq.of_eq ?_;(simp only [ic,h0,h,if_true,if_false,Bool.false_eq_true,Me]))
 ·have h1:0≤w∧w < 16:=by simp at h;omega
  repeat first|refine ai ?_|refine aw ab fun fr=>⟨?_⟩
  ((try refine sC ?_);refine sF ?_;refine bq.of_eq ?_;(simp only [ic,h0,h,if_true,if_false,Bool.false_eq_true,Me]))
end Go.Proofs.YteejbbfaphcgiaaGreat
