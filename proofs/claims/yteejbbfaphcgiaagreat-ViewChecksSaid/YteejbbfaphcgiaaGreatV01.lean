/- Part 1. -/
import Derived.OrdersHeld
import Derived.Test.YteejbbfaphcgiaaGreatV00
namespace Go.Lift
set_option linter.unusedVariables false
open List (range getD map_nil any_eq_true mem_singleton)
open Nat (lt_or_ge le_refl lt_of_lt_of_le lt_irrefl)
def rD (Dn:List j4) (Cq:List (List SV)) (DH:List (List Nat)):Env:=⟨fun T=>Dn.getD T .bF,fun T=>Cq.getD T [],fun T=>DH.getD T [],false⟩
def OD (P:Program) (Dn:List j4) (Cq:List (List SV)) (DH:List (List Nat)):Bool:=
 (range Dn.length).all (fun T=>kB P T (Dn.getD T .bF)) && (range Cq.length).all (fun T=>(Cq.getD T []).isEmpty || kO P T (Cq.getD T [])) && (range DH.length).all (fun T=>Oj P T (DH.getD T []))
theorem Hb {P:Program} {Dn:List j4} {Cq:List (List SV)} {DH:List (List Nat)} (h:OD P Dn Cq DH=true):cI P (rD Dn Cq DH):=by
 simp only [OD,Bool.and_eq_true,List.all_eq_true,List.mem_range,Bool.or_eq_true,List.isEmpty_iff] at h;obtain ⟨⟨h1,h2⟩,h3⟩:=h;refine ⟨fun T=>?_,fun T hT=>?_,fun T=>?_⟩
 ·rcases lt_or_ge T Dn.length with h'|h'
  ·exact h1 T h'
  ·have:(rD Dn Cq DH).ty T= .bF:=by simp [rD,getD,List.getElem?_eq_none h']
   rw [this];rfl
 ·rcases lt_or_ge T Cq.length with h'|h'
  ·rcases h2 T h' with h4|h4
   ·have:(rD Dn Cq DH).zr T=[]:=h4;rw [this] at hT;simp at hT
   ·exact h4
  ·have:(rD Dn Cq DH).zr T=[]:=by simp [rD,getD,List.getElem?_eq_none h']
   rw [this] at hT;simp at hT
 ·rcases lt_or_ge T DH.length with h'|h'
  ·exact h3 T h'
  ·have:(rD Dn Cq DH).lv T=[]:=by simp [rD,getD,List.getElem?_eq_none h']
   rw [this];rfl
def bG {α:Type} (esz:Nat) (cells:α→List SV) (d:α) (l:List α):SV:= .sl false esz l.length fun k=>cells (l.getD k d)
theorem HL (n:Nat):0 < n+1:=Nat.succ_pos n
theorem zm {α β:Type} (f:α→β) (d:α) (l:List α):(range l.length).map (fun k=>f (l.getD k d))=l.map f:=by
 apply List.ext_getElem
 ·simp
 ·intro i h1 h2;simp at h1;simp [getD,h1]
def aS (k:IntKind) (x:Int):List SV:=[.int k x]
theorem bu {x:Int} (h:-9223372036854775808≤x∧x≤9223372036854775807):IntKind.i64.wrap x=x:=IntWalk.i64_in _ h
theorem zg {α β:Type} (f:α→β) (l:List α):(l.map f).take l.length=l.map f:=by
 rw [List.take_of_length_le (by simp)]
theorem EC.fin {P:Program} {f:Nat} {args:List SV} {R:SV} (h:EC P f args [] fun r B'=>dE (bc 0) B' r∧bq (fu (bc 0) B' r) R):EC P f args [] fun r B=>B=[]∧r=R:=by
 have h2:EC P f args [] fun r B=>B=[]∧bq r R:=EC.close 0 (h.mono fun r B hq=>⟨hq.1,List.take_zero ..,hq.2⟩);exact EC.ret (h2.mono fun r B hq=>⟨R,hq.2,hq.1,rfl⟩)
theorem iq {α:Type} {esz E:Nat} {h:aN} {n:Nat} {xs:List (List SV)} {Bs:List aI} {cells:α→List SV} {d:α} {l:List α} (hx:xs=l.map cells) (hn:n=l.length):
  dE (bc 0) (.row h E esz xs :: Bs) (.row 0 h esz 0 n)∧bq (fu (bc 0) (.row h E esz xs :: Bs) (.row 0 h esz 0 n)) (bG esz cells d l):=by
 subst hx hn;refine ⟨⟨rfl,rfl,by simp⟩,bq.sl (fun h=>h) (.inr rfl) fun k hk=>?_⟩;simp [getD,hk]
theorem IW {σ:Type} (S:σ→aV) (R:σ→List aI) (Inv:σ→Prop) {P:Program} {n:Nat} {c:Code} {t:aV} {B:List aI} {K:aV→List aI→Prop} {Q:gX}
  (hrest:∀s t B,Inv s→kA t (S s)→B.take (R s).length=R s→K t B)
  (h:EV P n c t B (gy (fun t B=>∃s,Inv s∧kA t (S s)∧B.take (R s).length=R s) Q)):EV P n c t B (gy K Q):=
 h.mono fun e t' B' hq=>by
  cases e with
  |normal=>obtain ⟨s,h1,h2,h3⟩:=hq;exact hrest s t' B' h1 h2 h3
  |_=>exact hq
def nc (Q:gX):gX
 | .goto _,_,_=>False
 |e,t,B=>Q e t B
theorem rW {P:Program} {n:Nat} {c:Code} {t:aV} {B:List aI} {Q:gX} (h:EV P n c t B (nc Q)):EV P n (.scope c) t B Q:=by
 intro X0 w0 B0 X w a he hs;refine wp_scope_straight (wp_mono (h X0 w0 B0 X w a he hs) fun e a' w' hg=>?_);obtain ⟨X',t',B',h1,h2,h3⟩:=hg
 cases e with
 |goto l=>exact h1.elim
 |_=>exact ⟨X',t',B',h1,h2,h3⟩
theorem EC.use {P:Program} {f:Nat} {args:List SV} {B:List aI} {R:SV} {Q:SV→List aI→Prop} (h:EC P f args [] fun r B'=>B'=[]∧r=R) (hk:Q R B):EC P f args B Q:=
 (EC.frame h B).mono (by rintro r B' ⟨rfl,rfl⟩;exact hk)
theorem Den.H8 {X:Nat→Prop} {w:World} {i j:Nat} {h:aN} {e lo n:Nat} {v:Value} (hd:Den X w (.row i h e lo n) v):Den X w (.row j h e lo n) v:=by
 cases hd with
 |dh=>exact .dh ..
 |rowAt _ _ _ _ _ h=>exact .rowAt _ _ _ _ _ h
 |kS _ _ _ _ _ _ _ hn h=>exact .kS _ _ _ _ _ _ _ hn h
 |hO=>exact .hO ..
theorem bq.of_eq {s s':SV} (h:s=s'):bq s s':=h▸bq.refl s
theorem Iv (x:List Int):(∀y,y∈List.map (aS .u8) x→isByte y=true)=True:=
 eq_true fun y hy=>by obtain ⟨z,_,rfl⟩:=List.mem_map.1 hy;rfl
def Ed (m:Nat) (B:List aI) (t:aV):aV→Prop
 |[]=>True
 |(i,v) :: r=>(dE (bc m) B (dd t i)∧bq (fu (bc m) B (dd t i)) v)∧Ed m B t r
theorem qU {m:Nat} {B:List aI} {t:aV}:∀{t':aV},Ed m B t t'→∀i,dd t' i= .any∨(dE (bc m) B (dd t i)∧bq (fu (bc m) B (dd t i)) (dd t' i))
 |[],_,i=> .inl rfl
 |(j,v) :: r,h,i=>by
  by_cases hj:j=i
  ·subst hj;right;have:dd ((j,v) :: r) j=v:=by simp [dd]
   rw [this];exact h.1
  ·have:dd ((j,v) :: r) i=dd r i:=by simp [dd,Ne.symm hj]
   rw [this];exact qU h.2 i
inductive d_ (m:Nat) (B:List aI):List SV→List SV→Prop where
 |nil:d_ m B [] []
 |cons {s s':SV} {l l':List SV} (hk:dE (bc m) B s) (h:bq (fu (bc m) B s) s') (hr:d_ m B l l'):d_ m B (s :: l) (s' :: l')
theorem d_.spec {m:Nat} {B:List aI} {l l':List SV} (h:d_ m B l l'):l.length=l'.length∧∀(i:Nat) (c:SV),l'[i]?=some c→∃d,l[i]?=some d∧dE (bc m) B d∧bq (fu (bc m) B d) c:=by
 induction h with
 |nil=>exact ⟨rfl,fun i c h=>by simp at h⟩
 |cons hk h _ ih=>
  refine ⟨by simp [ih.1],fun i c hc=>?_⟩
  cases i with
  |zero=>simp at hc;subst hc;exact ⟨_,rfl,hk,h⟩
  |succ i=>simpa using ih.2 i c (by simpa using hc)
theorem EC.mu {P:Program} {f:Nat} {args args':List SV} {B:List aI} {Q:SV→List aI→Prop} (m:Nat) (ha:d_ m B args args') (h:EC P f args' (B.take m) Q):EC P f args B Q:=by
 have hb:∀i,au (B.take m) i=if bc m i then .gone else au B i:=fun i=>by
  rw [eQ];by_cases hi:i < m
  ·have:bc m i=false:=by simp [bc];omega
   simp [hi,this]
  ·have:bc m i=true:=by simp [bc];omega
   simp [hi,this]
 refine ⟨h.1,fun X w vs hs hd=>?_⟩;have hsp:=ha.spec;refine (h.2 (dz X B (bc m)) w vs (hs.dY hb) ⟨by rw [hd.1,hsp.1],fun i c hc=>?_⟩).mono ?_
 ·obtain ⟨d,h1,h2,h3⟩:=hsp.2 i c hc;exact h3 _ _ _ (eR hs (hd.2 i d h1) h2)
 ·rintro e w' ⟨v,r,X',B',he,hq,h1,h2,h3⟩;exact ⟨v,r,X',B',he,hq,h1,h2,(Ext.dY hb).trans h3⟩
def Fg:SV→Bool
 | .int .. =>true
 | .bool _=>true
 | .str _=>true
 |_=>false
def fo:SV→Bool
 | .agg cs=>cs.all Fg
 |s=>Fg s
theorem G6 {X X':Nat→Prop} {w w':World} {s:SV} {u v:Value} (h:Fg s=true) (hu:Den X w s u) (hv:Den X' w' s v):u=v:=by
 cases hu<;>simp only [Fg,Bool.false_eq_true] at h<;>cases hv<;>rfl
theorem Oz {X X':Nat→Prop} {w w':World} {s:SV} {u v:Value} (h:fo s=true) (hu:Den X w s u) (hv:Den X' w' s v):u=v:=by
 by_cases ha:∃cs,s= .agg cs
 ·obtain ⟨cs,rfl⟩:=ha;simp only [fo,List.all_eq_true] at h
  cases hu with
  |agg h1 h2=>cases hv with
   |agg h3 h4=>
    congr 1
    apply Array.ext (by omega);intro i a b;have hi:i < cs.length:=by omega
    have hc:cs[i]?=some cs[i]:=List.getElem?_eq_getElem hi;have:=G6 (h _ (List.getElem_mem hi)) (h2 i _ hc) (h4 i _ hc);simpa [a,b] using this
 ·have:Fg s=true:=by cases s<;>first|exact h|exact absurd ⟨_,rfl⟩ ha
  exact G6 this hu hv
structure Kept (w:World) (B:List aI) (w':World):Prop where
 os:w'.os=w.os
 tape:w'.tape=w.tape
 output:w'.output=w.output
 size:w.heap.size≤w'.heap.size
 block:∀b,b < w.heap.size→¬hU B b→w'.heap[b]?=w.heap[b]?
theorem Kept.refl (w:World) (B:List aI):Kept w B w:=⟨rfl,rfl,rfl,le_refl _,fun _ _ _=>rfl⟩
def qT:List Bool→List aI→List aI
 |[],_=>[]
 |_ :: _,[]=>[]
 |false :: r,o :: B=>o :: qT r B
 |true :: r,_ :: B=> .gone :: qT r B
def kR:List Bool→List aI→List aI
 |[],B=>B
 |_ :: _,[]=>[]
 |false :: r,_ :: B=> .gone :: kR r B
 |true :: r,o :: B=>o :: kR r B
def pV:List Bool→List aI→List aI→List aI
 |[],_,N=>N
 |_ :: _,_,[]=>[]
 |_ :: _,[],n :: N=>n :: N
 |false :: r,o :: B,_ :: N=>o :: pV r B N
 |true :: r,_ :: B,n :: N=>n :: pV r B N
def iF (ws:List Bool) (i:Nat):Bool:=ws[i]? == some false
theorem uG:∀(ws:List Bool) (B:List aI) (i:Nat),au (qT ws B) i=if iF ws i=true then au B i else .gone
 |[],B,i=>by simp [qT,iF,au]
 |_ :: _,[],i=>by simp [qT,au]
 |false :: r,o :: B,i=>by
  cases i with
  |zero=>simp [qT,iF,au]
  |succ i=>exact uG r B i
 |true :: r,o :: B,i=>by
  cases i with
  |zero=>simp [qT,iF,au]
  |succ i=>exact uG r B i
theorem ng:∀(ws:List Bool) (B:List aI) (i:Nat),au (kR ws B) i=if iF ws i=true then .gone else au B i
 |[],B,i=>by simp [kR,iF]
 |_ :: _,[],i=>by simp [kR,au]
 |false :: r,o :: B,i=>by
  cases i with
  |zero=>simp [kR,iF,au]
  |succ i=>exact ng r B i
 |true :: r,o :: B,i=>by
  cases i with
  |zero=>simp [kR,iF,au]
  |succ i=>exact ng r B i
theorem uL:∀(ws:List Bool) (B N:List aI) (i:Nat),au (pV ws B N) i=if iF ws i=true∧i < B.length∧i < N.length then au B i else au N i
 |[],B,N,i=>by simp [pV,iF]
 |_ :: _,B,[],i=>by simp [pV]
 |_ :: _,[],_ :: _,i=>by simp [pV]
 |false :: r,o :: B,n :: N,i=>by
  cases i with
  |zero=>simp [pV,iF,au]
  |succ i=>
   have e1:∀b,(iF (b :: r) (i+1)=true∧i+1 < (o :: B).length∧i+1 < (n :: N).length)↔(iF r i=true∧i < B.length∧i < N.length):=fun b=>by simp [iF]
   simp only [e1];exact uL r B N i
 |true :: r,o :: B,n :: N,i=>by
  cases i with
  |zero=>simp [pV,iF,au]
  |succ i=>
   have e1:∀b,(iF (b :: r) (i+1)=true∧i+1 < (o :: B).length∧i+1 < (n :: N).length)↔(iF r i=true∧i < B.length∧i < N.length):=fun b=>by simp [iF]
   simp only [e1];exact uL r B N i
theorem q6 {ws:List Bool} {B:List aI} {b:Nat} (h:hU (kR ws B) b):hU B b:=by
 obtain ⟨i,hi⟩:=h;rw [ng] at hi
 split at hi
 ·simp [aI.blocks] at hi
 ·exact ⟨i,hi⟩
theorem Sat.sub {X:Nat→Prop} {w:World} {B B':List aI} (hs:Sat X w B) (h:∀i,au B' i=au B i∨au B' i= .gone):Sat X w B':=by
 have hb:∀i b,b∈(au B' i).blocks→b∈(au B i).blocks:=fun i b hb=>by
  rcases h i with e|e
  ·rwa [e] at hb
  ·rw [e] at hb;simp [aI.blocks] at hb
 refine ⟨fun i j b h1 h2=>hs.inj i j b (hb i b h1) (hb j b h2),fun i b h1=>hs.lt i b (hb i b h1),hs.xg,fun b hx ⟨i,hi⟩=>hs.apart b hx ⟨i,hb i b hi⟩,fun i=>?_⟩;rcases h i with e|e
 ·rw [e];exact hs.ok i
 ·rw [e];trivial
theorem Sat.rw {X:Nat→Prop} {w:World} {B:List aI} (hs:Sat X w B) (ws:List Bool):Sat X w (kR ws B):=hs.sub fun i=>by
 rw [ng];split
 ·exact .inr rfl
 ·exact .inl rfl
theorem Sat.merge {X X':Nat→Prop} {w w':World} {B N:List aI} {ws:List Bool} (hs:Sat X w B) (hn:Sat X' w' N) (he:Ext X w (kR ws B) X' w' N):Sat X' w' (pV ws B N)∧Ext X w B X' w' (pV ws B N):=by
 have Bh:∀i b,iF ws i=true→b∈(au B i).blocks→¬hU (kR ws B) b:=by
  rintro i b hi hb ⟨j,hj⟩;rw [ng] at hj
  split at hj
  ·simp [aI.blocks] at hj
  ·rename_i hne;have:=hs.inj i j b hb hj;subst this;exact hne hi
 have oldN:∀i b,iF ws i=true→b∈(au B i).blocks→¬hU N b:=fun i b hi hb ho=>by
  rcases he.own b ho with h|h
  ·exact Bh i b hi hb h
  ·have:=hs.lt i b hb;omega
 have cases:∀i,(iF ws i=true∧au (pV ws B N) i=au B i)∨au (pV ws B N) i=au N i:=fun i=>by
  rw [uL];split
  ·rename_i h;exact .inl ⟨h.1,rfl⟩
  ·exact .inr rfl
 refine ⟨⟨fun i j b h1 h2=>?_,fun i b h1=>?_,hn.xg,fun b hx ⟨i,hi⟩=>?_,fun i=>?_⟩,⟨he.os,he.tape,he.output,he.size,fun b hb hno=>he.block b hb fun h=>hno (q6 h),he.AS,fun b hb=>(he.pT b hb).imp_right fun h=>h.imp_left q6,fun b hb=>?_⟩⟩
 ·rcases cases i with ⟨ri,ei⟩|ei<;>rcases cases j with ⟨rj,ej⟩|ej<;>rw [ei] at h1<;>rw [ej] at h2
  ·exact hs.inj i j b h1 h2
  ·exact absurd ⟨j,h2⟩ (oldN i b ri h1)
  ·exact absurd ⟨i,h1⟩ (oldN j b rj h2)
  ·exact hn.inj i j b h1 h2
 ·rcases cases i with ⟨_,ei⟩|ei<;>rw [ei] at h1
  ·exact lt_of_lt_of_le (hs.lt i b h1) he.size
  ·exact hn.lt i b h1
 ·rcases cases i with ⟨ri,ei⟩|ei<;>rw [ei] at hi
  ·rcases he.pT b hx with h|h|h
   ·exact hs.apart b h ⟨i,hi⟩
   ·exact Bh i b ri hi h
   ·have:=hs.lt i b hi;omega
  ·exact hn.apart b hx ⟨i,hi⟩
 ·rcases cases i with ⟨ri,ei⟩|ei<;>rw [ei]
  ·exact aI.ig (hs.ok i) he.AS (fun b hb=>he.block b (hs.og b hb) fun h=>hs.apart b hb (q6 h)) fun b hb=>he.block b (hs.lt i b hb) (Bh i b ri hb)
  ·exact hn.ok i
 ·obtain ⟨i,hi⟩:=hb;rcases cases i with ⟨_,ei⟩|ei<;>rw [ei] at hi
  ·exact .inl ⟨i,hi⟩
  ·exact (he.own b ⟨i,hi⟩).imp_left q6
section
variable {P:Program} {E:Env} {X:Nat→Prop} {w:World} {B:List aI}
theorem Kept.den {w':World} (hk:Kept w B w') (hs:Sat X w B) {s:SV} {v:Value} (h:Den X w s v):Den X w' s v:=
 h.mono (fun _ h=>h) fun b hb=>hk.block b (hs.og b hb) (hs.apart b hb)
theorem Kept.sat {w':World} (hk:Kept w B w') (hs:Sat X w B):Sat X w' []:=
 ⟨fun i j b hi=>by simp [au,aI.blocks] at hi,fun i b hi=>by simp [au,aI.blocks] at hi,hs.xg.mono (fun _ h=>h) (fun b hb=>hk.block b (hs.og b hb) (hs.apart b hb)) fun b hb=>lt_of_lt_of_le (hs.og b hb) hk.size,fun b _ ⟨i,hi⟩=>by simp [au,aI.blocks] at hi,fun i=>by simp [au,aI.ok]⟩
theorem Kept.ext {X':Nat→Prop} {w':World} {B':List aI} (h:Ext X w B X' w' B'):Kept w B w':=⟨h.os,h.tape,h.output,h.size,h.block⟩
theorem Kept.trans {X':Nat→Prop} {w1 w2:World} {B1:List aI} (h:Ext X w B X' w1 B1) (k:Kept w1 B1 w2):Kept w B w2:=
 ⟨k.os.trans h.os,k.tape.trans h.tape,k.output.trans h.output,Nat.le_trans h.size k.size,fun b hb hn=>by
  rw [k.block b (lt_of_lt_of_le hb h.size) fun ho=>(h.own b ho).elim hn fun h=>by omega,h.block b hb hn]⟩
theorem Kept.ro {ws:List Bool} {w':World} (hk:Kept w (kR ws B) w') (hs:Sat X w B):Sat X w' (qT ws B)∧(∀b,X b∨hU (qT ws B) b→w'.heap[b]?=w.heap[b]?):=by
 have hb:∀b,X b∨hU (qT ws B) b→w'.heap[b]?=w.heap[b]?:=by
  rintro b (h|⟨i,hi⟩)
  ·exact hk.block b (hs.og b h) fun ho=>hs.apart b h (q6 ho)
  ·rw [uG] at hi
   split at hi
   ·rename_i hr;refine hk.block b (hs.lt i b hi) ?_;rintro ⟨j,hj⟩;rw [ng] at hj
    split at hj
    ·simp [aI.blocks] at hj
    ·rename_i hne;have:=hs.inj i j b hi hj;subst this;exact hne hr
   ·simp [aI.blocks] at hi
 have h0:Sat X w (qT ws B):=hs.sub fun i=>by
  rw [uG];split
  ·exact .inl rfl
  ·exact .inr rfl
 refine ⟨⟨h0.inj,fun i b h=>lt_of_lt_of_le (h0.lt i b h) hk.size,hs.xg.mono (fun _ h=>h) (fun x hx=>hb x (.inl hx)) fun b h=>lt_of_lt_of_le (hs.og b h) hk.size,h0.apart,fun i=>?_⟩,hb⟩;exact aI.ig (h0.ok i) (fun _ h=>h) (fun b h=>hb b (.inl h)) fun b h=>hb b (.inr ⟨i,h⟩)
theorem Kept.wO {ws:List Bool} {w':World} (hk:Kept w (kR ws B) w') (hs:Sat X w B) {s:SV} {v:Value} (h:Den X w s v):Den X w' s v:=
 h.mono (fun _ h=>h) fun b hb=>(hk.ro hs).2 b (.inl hb)
def Rh (P:Program) (X:Nat→Prop) (w:World) (B:List aI) (s:Sem Next) (sv:SV):Prop:=
 ∃v,Den X w sv v∧∀w',Kept w B w'→s.run P w'= .ok (.value v) w'
theorem sa {s:Sem Next} {sv:SV} (hf:fo sv=true) (h:∀w',Kept w B w'→∃u,s.run P w'= .ok (.value u) w'∧Den X w' sv u):Rh P X w B s sv:=by
 obtain ⟨v,_,h2⟩:=h w (Kept.refl w B);refine ⟨v,h2,fun w' hk=>?_⟩;obtain ⟨u,h3,h4⟩:=h w' hk;rw [Oz hf h2 h4];exact h3
def mn (o:Op) (sv:SV):Prop:=match o with
 | .move _=>True
 | .assign _=>True
 | .pick .. =>fo sv=true
 | .load .. =>True
 | .build .. =>True
 | .nilCheck _=>True
 | .binOp _ _ _ y _=>fo sv=true∧vn y=false
 | .unOp .. =>fo sv=true
 | .convert .. =>fo sv=true
 | .slice .. =>True
 | .fieldAddr .. =>True
 | .field .. =>True
 | .indexAddr .. =>True
 | .index .. =>True
 | .extract .. =>True
 | .lookup .. =>True
 | .call c=>match c.callee with
  | .builtin .len=>fo sv=true
  |_=>False
 |_=>False
theorem Gz (hE:cI P E) {st:Bool} {t:List (Nat×SV)} {ρ:Operand→Value} {o:Oper} {ws:List Bool} (hs:Sat X w B) (h0:∀x,Den X w (ev t x) (ρ x)) (hk:∀v,ρ (.const v)=v) (hd:∀x∈o.op.operands.toList,Den X w (fD st t x) (ρ x))
  (hp:mn o.op (de E st (.void none) t (qT ws B) o.op).v) (hc:(de E st (.void none) t (qT ws B) o.op).vc):Rh P X w (kR ws B) (execOp ρ o) (de E st (.void none) t (qT ws B) o.op).v:=by
 obtain ⟨dst,op,type,pos,after,guard⟩:=o;simp only at hd hp hc ⊢
 cases op<;>try (simp only [mn] at hp;done)
 case move x=>exact ⟨_,hd x (by simp [Op.operands]),fun w' _=>rfl⟩
 case assign x=>exact ⟨_,hd x (by simp [Op.operands]),fun w' _=>rfl⟩
 case pick c a b=>
  refine sa hp fun w' hk=>?_;obtain ⟨r,h1,h2,h3⟩:=nq (P:=P) (hk.wO hs (h0 c)) (hk.wO hs (h0 a)) (hk.wO hs (h0 b)) hc;exact ⟨_,by simpa [execOp] using h1,h2⟩
 case load T x=>
  have hb:E.ty T≠.bF:=fun e=>by simp [de,kZ,e,bF] at hc
  have e1:kZ (E.ty T) (qT ws B) (fD st t x)=fZ (E.ty T).agg (E.ty T).size (qT ws B) (fD st t x):=by
   cases h:E.ty T<;>first|rfl|exact absurd h hb
  simp only [de,e1] at hc hp ⊢;obtain ⟨u,r1,r2,r3⟩:=Bu (hE.ty T) hb ((Kept.refl w (kR ws B)).ro hs).1 (hd x (by simp [Op.operands])) hc;exact ⟨u,r2,fun w' hk=>by simpa [execOp] using eG (r1 w' (hk.ro hs).2)⟩
 case build T ps=>
  simp only [de] at hc ⊢;obtain ⟨hz,hc⟩:=hc;have hpl:∀(l:List (Nat×Operand)),(BH st t l).length=l.length:=by
   intro l
   induction l with
   |nil=>rfl
   |cons x l ih=>obtain ⟨i,x⟩:=x;simp [BH,ih]
  have hpd:∀(l:List (Nat×Operand)),(∀x∈l.map (·.2),Den X w (fD st t x) (ρ x))→∀(i:Nat) (p:Nat×SV) (q:Nat×Value),(BH st t l)[i]?=some p→(l.map fun (i,x)=>(i,ρ x))[i]?=some q→p.1=q.1∧Den X w p.2 q.2:=by
   intro l
   induction l with
   |nil=>intro _ i p q h;simp [BH] at h
   |cons x l ih=>
    obtain ⟨j,x⟩:=x;intro hl i p q hp hq
    cases i with
    |zero=>simp [BH] at hp hq;subst hp hq;exact ⟨rfl,hl x (by simp)⟩
    |succ i=>exact ih (fun y hy=>hl y (by simp at hy ⊢;exact .inr hy)) i p q (by simpa [BH] using hp) (by simpa using hq)
  obtain ⟨u,r1,r2,r3⟩:=tP (hE.ty T) (hE.zr T hz) (vs:=ps.map fun (i,x)=>(i,ρ x)) (by simp [hpl]) (fun i p q hp hq=>hpd ps.toList (fun x hx=>hd x (by simpa [Op.operands] using hx)) i p q hp (by simpa using hq)) hc;exact ⟨u,r2,fun w' _=>by simpa [execOp] using eG (r1 w')⟩
 case nilCheck x=>
  have hx:=hd x (by simp [Op.operands]);simp only [de] at hc ⊢;refine ⟨_,hx,fun w' _=>?_⟩;simp only [execOp];generalize ρ x=v at hx;generalize fD st t x=s at hx hc
  cases hx<;>simp only [DL,Bool.false_eq_true] at hc
  all_goals rfl
 case binOp op T x y T2=>
  obtain ⟨hp,hy0⟩:=hp;by_cases hsl:∃e a b,E.ty T= .slice e a b
  ·obtain ⟨e,a,b,hti⟩:=hsl;simp only [de,hti,tH,DR,hy0,bF] at hc
  by_cases hsp:E.ty T= .ptr
  ·have hT:∃e,P.underlying T=some (.pointer e):=by have:=hE.ty T;rw [hsp] at this;exact Dq this
   obtain ⟨e,hT⟩:=hT;refine sa hp fun w' hk'=>?_;simp only [de,hsp,tH,C1] at hc ⊢
   split at hc
   ·rename_i bv hy hb;obtain ⟨hr,a',hv⟩:=vj (w:=w') hT (hk'.wO hs (hd x (by simp [Op.operands]))) hb;have hyv:ρ y= .pointer none:=by
     unfold zD at hy
     split at hy
     ·exact hk _
     ·cases hy
    have hg:(eqGuard op T x y (ρ x) (ρ y)).run P w'= .ok () w':=gN (by rw [hv];exact ⟨by simp,by simp⟩)
    cases op<;>simp only [y5,bF] at hc
    case eql=>
     have h1:(do eqGuard .eql T x y (ρ x) (ρ y);binOp .eql T (ρ x) (ρ y):Sem Value).run P w'= .ok (.bool (bv)) w':=by rw [hyv] at hg ⊢;rw [hv] at hg hr ⊢;simp only [Sem.run_bind,hg,Result.andThen_ok,binOp,hr,Sem.run_pure]
     exact ⟨_,by simpa [execOp] using eG h1,.bool _⟩
    case neq=>
     have h1:(do eqGuard .neq T x y (ρ x) (ρ y);binOp .neq T (ρ x) (ρ y):Sem Value).run P w'= .ok (.bool (!bv)) w':=by rw [hyv] at hg ⊢;rw [hv] at hg hr ⊢;simp only [Sem.run_bind,hg,Result.andThen_ok,binOp,hr,Sem.run_pure]
     exact ⟨_,by simpa [execOp] using eG h1,.bool _⟩
   ·exact hc.elim
  have evCmp_bin:∀h,tH (E.ty T) (E.lv T) op h (qT ws B) (fD st t x) (fD st t y) y=kf (E.ty T) (E.lv T) op (qT ws B) (fD st t x) (fD st t y):=by
   intro h
   cases hti:E.ty T<;>first|rfl|exact absurd hti hsp|exact absurd ⟨_,_,_,hti⟩ hsl
  simp only [de,evCmp_bin] at hp hc ⊢;refine sa hp fun w' hk=>?_;obtain ⟨u,r1,r2,r3⟩:=za (x:=x) (y:=y) (hE.ty T) (hE.lv T) (hk.wO hs (hd x (by simp [Op.operands]))) (hk.wO hs (hd y (by simp [Op.operands]))) hc;exact ⟨u,by simpa [execOp] using eG r1,r2⟩
 case unOp op T x=>
  refine sa hp fun w' hk=>?_;obtain ⟨u,r1,r2,r3⟩:=AU (P:=P) (hk.wO hs (hd x (by simp [Op.operands]))) hc;exact ⟨u,by simpa [execOp] using eG r1,r2⟩
 case convert s d x=>
  have hb:E.ty s≠.bF:=fun e=>by simp [de,e,bF] at hc
  have e1:(de E st (.void none) t (qT ws B) (.convert s d x))=ir (E.ty s) (zJ E (E.ty s)) (E.ty d) (qT ws B) (fD st t x):=by
   simp only [de]
  rw [e1] at hc ⊢;rw [e1] at hp;refine sa hp fun w' hk=>?_;obtain ⟨u,r1,r2,r3⟩:=qx (hE.ty s) (fun e esz eb he=>by rw [he];exact hE.ty e) (hE.ty d) (hk.ro hs).1 (hk.wO hs (hd x (by simp [Op.operands]))) hc hb;exact ⟨u,by simpa [execOp] using eG r1,r2⟩
 case fieldAddr T x f=>
  obtain ⟨u,r1,r2,r3⟩:=nQ (hE.ty T) (hd x (by simp [Op.operands])) hc;exact ⟨u,r2,fun w' _=>by simpa [execOp] using eG (r1 w')⟩
 case field T x f=>
  obtain ⟨u,r1,r2,r3⟩:=tF (hE.ty T) (hd x (by simp [Op.operands])) hc;exact ⟨u,r2,fun w' _=>by simpa [execOp] using eG (r1 w')⟩
 case indexAddr T x i=>
  obtain ⟨u,r1,r2,r3⟩:=nP (hE.ty T) (hd x (by simp [Op.operands])) (hd i (by simp [Op.operands])) hc;exact ⟨u,r2,fun w' _=>by simpa [execOp] using eG (r1 w')⟩
 case index T x i=>
  obtain ⟨u,r1,r2,r3⟩:=tz (hE.ty T) (hd x (by simp [Op.operands])) (hd i (by simp [Op.operands])) hc;exact ⟨u,r2,fun w' _=>by simpa [execOp] using eG (r1 w')⟩
 case slice T x lo hi mx=>
  have hopt:∀(o:Option Operand),(∀y,o=some y→Den X w (fD st t y) (ρ y))→(∀z,DQ st t o=some z→∃y,o.map ρ=some y∧Den X w z y)∧(DQ st t o=none→o.map ρ=none):=by
   intro o ho
   cases o with
   |none=>exact ⟨fun z h=>by simp [DQ] at h,fun _=>rfl⟩
   |some y=>exact ⟨fun z h=>by simp [DQ] at h;subst h;exact ⟨_,rfl,ho y rfl⟩,fun h=>by simp [DQ] at h⟩
  obtain ⟨a1,a2⟩:=hopt lo fun y hy=>hd y (by subst hy;simp [Op.operands])
  obtain ⟨b1,b2⟩:=hopt hi fun y hy=>hd y (by subst hy;simp [Op.operands])
  obtain ⟨c1,c2⟩:=hopt mx fun y hy=>hd y (by subst hy;simp [Op.operands])
  obtain ⟨u,r1,r2,r3⟩:=tt (hE.ty T) ((Kept.refl w (kR ws B)).ro hs).1 (hd x (by simp [Op.operands])) a1 a2 b1 b2 c1 c2 hc;exact ⟨u,r2,fun w' _=>by simpa [execOp] using eG (r1 w')⟩
 case lookup T m k ok=>
  simp only [de] at hc ⊢;obtain ⟨u,r1,r2,r3⟩:=rk (P:=P) (hE.ty T) ((Kept.refl w (kR ws B)).ro hs).1 (hd m (by simp [Op.operands])) (hd k (by simp [Op.operands])) hc;exact ⟨u,r2,fun w' hk=>by simpa [execOp] using eG (r1 w' (hk.ro hs).2)⟩
 case extract x i=>
  have hx:=hd x (by simp [Op.operands]);simp only [de] at hc ⊢;generalize fD st t x=s at hx hc ⊢;generalize hv:ρ x=v at hx
  cases hx<;>try (simp only [ll,bF] at hc;done)
  case bS cs vs hsz h=>
   simp only [ll] at hc ⊢;refine ⟨vs.getD i undef,h i _ (get?_of_lt _ hc),fun w' _=>?_⟩;simp only [execOp,hv,Instr.extract];rw [kv (show i < vs.size by omega)];simp
 case call c=>
  obtain ⟨callee,args,tys⟩:=c
  cases callee<;>try (simp only [mn] at hp;done)
  case builtin b=>
  cases b<;>try (simp only [mn] at hp;done)
  case len=>
  have hargs:∀x∈args.toList,Den X w (fD st t x) (ρ x):=fun x hx=>hd x (by simp [Op.operands,Call.operands];simpa using hx);obtain ⟨args⟩:=args;obtain ⟨tys⟩:=tys;have hex:de E st (.void none) t (qT ws B) (.call ⟨.builtin .len,args.toArray,tys.toArray⟩)=bH E st (.void none) t (qT ws B) .len args tys:=rfl;have hrun:∀(s:Sem Value) (v:Value) (w':World) (hb:∀cs,builtin .len tys.toArray type cs (args.toArray.map ρ)=(do pure (.value (←s)):Sem Next)),
    s.run P w'= .ok v w'→(execOp ρ ⟨dst,.call ⟨.builtin .len,args.toArray,tys.toArray⟩,type,pos,after,guard⟩).run P w'= .ok (.value v) w':=by
   intro s v w' hb hr;simp only [execOp,resolve,Sem.run_bind,Sem.run_pure,Result.andThen_ok,invoke];rw [hb];exact eG hr
  rw [hex] at hc ⊢
  match args,tys,hargs,hrun with
  |[x],[T],hargs,hrun=>
   have hx:=hargs x (by simp);simp only [bH] at hc ⊢;clear hex hp hd;generalize fD st t x=sx at *;generalize hvx:ρ x=vx at hx;have ht:=hE.ty T
   cases hti:E.ty T<;>simp only [hti] at hc ht ⊢ <;>try (simp only [tG,bF] at hc;done)
   case string=>
    have hu:=iP ht
    cases hx<;>try (simp only [tG,bF] at hc;done)
    refine ⟨_,.int _ _ .i64,fun w' _=>hrun _ _ _ (fun _=>rfl) ?_⟩;have hsz:∀l:List UInt8,(ByteArray.mk l.toArray).size=l.length:=fun l=>by simp [ByteArray.size]
    simp only [List.map_toArray,List.map_cons,map_nil,hvx,Builtin.len_,List.getElem?_toArray,List.getElem?_cons_zero,Sem.run_bind,run_underlying hu,Result.andThen_ok,Sem.run_pure,goInt,hsz]
   case slice e esz eb=>
    obtain ⟨hu,_⟩:=eN ht
    cases hx<;>try (simp only [tG,bF] at hc;done)
    all_goals
     refine ⟨_,.int _ _ .i64,fun w' _=>hrun _ _ _ (fun _=>rfl) ?_⟩;simp [Builtin.len_,hvx,run_underlying hu,goInt]
   case array n a e=>
    obtain ⟨e',hu,_⟩:=mJ ht;refine ⟨_,.int _ _ .i64,fun w' _=>hrun _ _ _ (fun _=>rfl) ?_⟩;simp [Builtin.len_,run_underlying hu,goInt]
  |[],_,_,_=>simp [bH,bF] at hc
  |_ :: _ :: _,_,_,_=>simp [bH,bF] at hc
  |[_],[],_,_=>simp [bH,bF] at hc
  |[_],_ :: _ :: _,_,_=>simp [bH,bF] at hc
end
section
variable {P:Program} {E:Env} {n:Nat}
def tT (n:Nat) (K:aV→List aI→Prop) (X0:Nat→Prop) (w0:World) (B0:List aI):Exit→Act→World→Prop:=
 fun e a w=>e= .normal∧∃X t B,K t B∧St X w B t n a∧Ext X0 w0 B0 X w B
def gk (late:List Nat) (listed:Array Bool):Bool:=late.any fun b=>listed.getD b false
def wpAnyS (P:Program) (ops:Array Oper) (Q:Exit→Act→World→Prop) (late:List Nat) (S:World→Prop):Nat→Array Bool→Act→World→Prop
 |0,listed,a,w=>Region.ready .any ops listed=[]∧Q .normal a w
 |fuel+1,listed,a,w=>(Region.ready .any ops listed=[]→Q .normal a w)∧
  ∀i∈Region.ready .any ops listed,wpOp P ops Q i (fun a' w'=>(gk late (listed.setIfInBounds i true)=true∨S w')∧wpAnyS P ops Q late S fuel (listed.setIfInBounds i true) a' w') a w
theorem yz {ops:Array Oper} {Q:Exit→Act→World→Prop} {late:List Nat} {S:World→Prop}:∀(fuel:Nat) (listed:Array Bool) (a:Act) (w:World),wpAnyS P ops Q late S fuel listed a w→wpAny P .any ops Q fuel listed a w
 |0,_,_,_,h=>h
 |fuel+1,_,_,_,h=>⟨h.1,fun i hi=>wpOp_mono (fun _ _ k=>yz fuel _ _ _ k.2) (h.2 i hi)⟩
theorem gZ {ops:Array Oper} {Q:Exit→Act→World→Prop} {late:List Nat} {S S':World→Prop} (h:∀w,S w→S' w):∀(fuel:Nat) (listed:Array Bool) (a:Act) (w:World),wpAnyS P ops Q late S fuel listed a w→wpAnyS P ops Q late S' fuel listed a w
 |0,_,_,_,k=>k
 |fuel+1,_,_,_,k=>⟨k.1,fun i hi=>wpOp_mono (fun a' w' h'=>⟨h'.1.imp id (h _),gZ h fuel _ a' w' h'.2⟩) (k.2 i hi)⟩
theorem oo {ops:Array Oper} {Q:Exit→Act→World→Prop} {late:List Nat} {S S':World→Prop}:∀(fuel:Nat) (listed:Array Bool) (a:Act) (w:World),gk late listed=true→wpAnyS P ops Q late S fuel listed a w→wpAnyS P ops Q late S' fuel listed a w
 |0,_,_,_,_,k=>k
 |fuel+1,listed,_,_,hl,k=>by
  refine ⟨k.1,fun i hi=>wpOp_mono (fun a' w' h'=>?_) (k.2 i hi)⟩;have h1:gk late (listed.setIfInBounds i true)=true:=by
   simp only [gk,any_eq_true] at hl ⊢;obtain ⟨b,hb,h⟩:=hl;exact ⟨b,hb,getD_set_true h⟩
  exact ⟨.inl h1,oo fuel _ a' w' h1 h'.2⟩
theorem ru {late:List Nat} {listed:Array Bool} {i:Nat} (hi:∀b∈late,b≠i):gk late (listed.setIfInBounds i true)=gk late listed:=by
 apply Bool.eq_iff_iff.2;simp only [gk,any_eq_true]
 constructor
 ·rintro ⟨b,hb,h⟩;exact ⟨b,hb,by rw [getD_set_ne false (Ne.symm (hi b hb))] at h;exact h⟩
 ·rintro ⟨b,hb,h⟩;exact ⟨b,hb,getD_set_true h⟩
theorem wpAnyS_first {ops:Array Oper} {Q:Exit→Act→World→Prop} {late:List Nat} {S:World→Prop} {i:Nat} {oi:Oper} {v:Value} (hi:ops[i]?=some oi) (hsel:∀(j:Nat) (o:Oper) cs b,ops[j]?=some o→o.op≠.select cs b)
  (hQ:∀c a w,Q (.panic c) (a.put oi.dst v) w→Q (.panic c) a w) (hne:∀b∈late,b≠i) (hwait:∀b∈late,∀o,ops[b]?=some o→∃e∈o.after,Region.binds .any e=true∧e.on=i):
  ∀(fuel:Nat) (listed:Array Bool) (a:Act) (w:World),
   (∀j oj,ops[j]?=some oj→j≠i→listed.getD j true=false→(∀e∈oj.after,Region.binds .any e=true→e.on≠i)→oi.apart ops oj=true)→
   i∈Region.ready .any ops listed→YieldsIf P ops S oi v a→S w→gk late listed=false→
   wpAnyS P ops Q late S fuel (listed.setIfInBounds i true) (a.put oi.dst v) w→wpAnyS P ops Q late S (fuel+1) listed a w:=by
 intro fuel
 induction fuel with
 |zero=>
  intro listed a w _ hr hy hS hL H;refine ⟨fun h=>(by rw [h] at hr;cases hr),fun j hj=>?_⟩;by_cases hji:j=i
  ·subst hji;exact hy.wpOp hi hS ⟨.inr hS,H⟩
  ·have h1:=ready_mono hj hji;rw [H.1] at h1
   cases h1
 |succ fuel ih=>
  intro listed a w hfree hr hy hS hL H;refine ⟨fun h=>(by rw [h] at hr;cases hr),fun j hj=>?_⟩;by_cases hji:j=i
  ·subst hji;exact hy.wpOp hi hS ⟨.inr hS,H⟩
  obtain ⟨hun,oj,hoj,hall⟩:=mem_ready.1 hj;have hni:=(mem_ready.1 hr).1;have hfi:listed.getD i false=false:=by
   rcases lt_or_ge i listed.size with h'|h'
   ·simp [h'] at hni ⊢;exact hni
   ·simp [Array.getElem?_eq_none h']
  have hno:∀e∈oj.after,Region.binds .any e=true→e.on≠i:=fun e he hb heq=>by
   have:=hall e he hb;rw [heq,hfi] at this
   cases this
  have hjl:∀b∈late,b≠j:=fun b hb heq=>by
   subst heq;obtain ⟨e,he,hb1,hb2⟩:=hwait b hb oj hoj;exact hno e he hb1 hb2
  have k1:=wpOp_putIf hoj (hfree j oj hoj hji hun hno) (fun cs b=>hsel i oi cs b hi) (fun cs b=>hsel j oj cs b hoj) hQ hy (H.2 j (ready_mono hj hji));have hL':gk late (listed.setIfInBounds j true)=false:=by rw [ru hjl];exact hL
  refine wpOp_mono (fun a' w' k=>?_) k1;obtain ⟨ky,ks,kw⟩:=k;have hS':S w':=by
   rcases ks with ks|ks
   ·rw [ru hjl,ru hne,hL] at ks;cases ks
   ·exact ks
  refine ⟨.inr hS',ih _ a' w' (fun k ok hk hki hkun hkno=>hfree k ok hk hki ?_ hkno) (ready_mono hr (Ne.symm hji)) ky hS' hL' ?_⟩
  ·by_cases hjk:j=k
   ·subst hjk;exact hun
   ·rw [getD_set_ne true hjk] at hkun;exact hkun
  ·rw [Array.setIfInBounds_comm _ _ hji];exact kw
theorem fN {ops:Array Oper} {Q:Exit→Act→World→Prop} {late:List Nat} {S:World→Prop} {rs:List Nat} {fuel:Nat} {listed:Array Bool} {a:Act} {w:World} (hr:Region.ready .any ops listed=rs) (hne:rs≠[])
  (h:∀i∈rs,wpOp P ops Q i (fun a' w'=>(gk late (listed.setIfInBounds i true)=true∨S w')∧wpAnyS P ops Q late S fuel (listed.setIfInBounds i true) a' w') a w):wpAnyS P ops Q late S (fuel+1) listed a w:=
 ⟨fun h0=>absurd (hr▸h0) hne,hr▸h⟩
theorem AT {ops:Array Oper} {Q:Exit→Act→World→Prop} {late:List Nat} {S:World→Prop} {listed:Array Bool} {a:Act} {w:World} (hr:Region.ready .any ops listed=[]) (h:Q .normal a w):∀fuel,wpAnyS P ops Q late S fuel listed a w
 |0=>⟨hr,h⟩
 |_+1=>⟨fun _=>h,by rw [hr];simp⟩
theorem pA {ws:List Bool} {B N:List aI} {b:Nat} (hb:hU (kR ws (pV ws B N)) b):hU N b:=by
 obtain ⟨i,hi⟩:=hb;rw [ng] at hi
 split at hi
 ·simp [aI.blocks] at hi
 ·rename_i hne;rw [uL,if_neg fun h=>hne h.1] at hi;exact ⟨i,hi⟩
theorem Kept.sb {X X':Nat→Prop} {w w1 w2:World} {B B1 B2:List aI} (h:Ext X w B X' w1 B1) (hb:∀b,hU B2 b→hU B1 b) (k:Kept w1 B2 w2):Kept w B w2:=
 ⟨k.os.trans h.os,k.tape.trans h.tape,k.output.trans h.output,Nat.le_trans h.size k.size,fun b hl hn=>by
  rw [k.block b (lt_of_lt_of_le hl h.size) fun ho=>(h.own b (hb b ho)).elim hn fun h=>by omega,h.block b hl hn]⟩
def ED (P:Program) (n:Nat) (ops:Array Oper) (late:List Nat) (ws:List Bool) (t:aV) (B:List aI) (K:aV→List aI→Prop) (fuel:Nat) (listed:Array Bool):Prop:=
 ∀X0 w0 B0 X w a,Ext X0 w0 B0 X w B→St X w B t n a→wpAnyS P ops (tT n K X0 w0 B0) late (Kept w (kR ws B)) fuel listed a w
variable {late:List Nat} {ws:List Bool} {ops:Array Oper} {t:aV} {B:List aI} {K:aV→List aI→Prop} {fuel:Nat} {listed:Array Bool}
theorem I_ (hr:Region.ready .any ops listed=[]) (h:K t B):ED P n ops late ws t B K fuel listed:=
 fun X0 w0 B0 X w a he hs=>AT hr ⟨rfl,X,t,B,h,hs,he⟩ fuel
theorem St.put {X:Nat→Prop} {w:World} {a:Act} {d:Option Nat} {s:SV} {v:Value} (hs:St X w B t n a) (hd:Den X w s v):St X w B (eF n t d s) n (a.put d v):=by
 refine ⟨?_,hs.sat,gJ hs.den hd⟩;have:=hs.defers;cases d<;>simpa [Act.put] using this
theorem uS {i:Nat} {o:Oper} {sv:SV} (hi:ops[i]?=some o) (hs:Region.noSelect ops=true) (hf:Region.free .any ops listed i=true) (hr:(Region.ready .any ops listed).contains i=true)
  (hL:gk late listed=false) (hne:∀b∈late,b≠i) (hwait:∀b∈late,∀o,ops[b]?=some o→∃e∈o.after,Region.binds .any e=true∧e.on=i)
  (hu:∀X w a,St X w B t n a→∃v,YieldsIf P ops (Kept w (kR ws B)) o v a∧Den X w sv v) (h:ED P n ops late ws (eF n t o.dst sv) B K fuel (listed.setIfInBounds i true)):ED P n ops late ws t B K (fuel+1) listed:=by
 intro X0 w0 B0 X w a he hst;obtain ⟨v,hy,hd⟩:=hu X w a hst;exact wpAnyS_first hi (Region.noSelect_spec hs) (fun c a w h=>by cases h.1) hne hwait fuel listed a w (Region.free_spec hi hf) (by simpa using hr) hy (Kept.refl w (kR ws B)) hL (h X0 w0 B0 X w _ he (hst.put hd))
theorem D8 {i:Nat} {o:Oper} {f:FuncId} {args:List SV} (hi:ops[i]?=some o) (hr:Region.ready .any ops listed=[i]) (hw:∀X w a,St X w B t n a→Region.wanted o (yielded ops a.tmps)=true)
  (hrun:∀X w a,St X w B t n a→∃vals,(execOp a.eval o).run P w= .ok (.enter f vals) w∧Cm X w args vals)
  (h:EC P f args (kR ws B) fun s B'=>ED P n ops late ws (eF n t o.dst s) (pV ws B B') K fuel (listed.setIfInBounds i true)):ED P n ops late ws t B K (fuel+1) listed:=by
 intro X0 w0 B0 X w a he hs;refine fN hr (by simp) fun j hj=>?_;simp only [mem_singleton] at hj;subst hj;unfold wpOp;simp only [hi];rw [if_pos (hw X w a hs)];left;obtain ⟨vals,h1,h2⟩:=hrun X w a hs;unfold Oper.wp;rw [h1];simp only [Oper.upon];refine (h.2 X w vals (hs.sat.rw ws) h2).mono ?_;rintro e w' ⟨v,s,X',B',rfl,hK,hsat0,hden,hext0⟩;simp only;obtain ⟨hsat,hext⟩:=hs.sat.merge hsat0 hext0;have hst:St X' w' (pV ws B B') (eF n t o.dst s) n (a.put o.dst v):=by
  refine ⟨?_,hsat,?_⟩
  ·have:=hs.defers;cases o.dst<;>simpa [Act.put] using this
  ·exact gJ ⟨hs.den.1,fun i=>(hs.den.2 i).ext hs.sat hext⟩ hden
 exact ⟨.inr (Kept.ext hext0),gZ (fun w'' hk=>Kept.sb hext0 (fun b hb=>pA hb) hk) _ _ _ _ (hK X0 w0 B0 X' w' _ (he.trans hext) hst)⟩
theorem LU {i:Nat} {o:Oper} {out:aN→Out} (hi:ops[i]?=some o) (hr:Region.ready .any ops listed=[i]) (hw:∀X w a,St X w B t n a→Region.wanted o (yielded ops a.tmps)=true)
  (hu:∀X w a,St X w B t n a→∃h,(out h).vc→AO P X w (kR ws B) (execOp a.eval o) (out h)) (hh:∀h,(out h).vc∧ED P n ops late ws (eF n t o.dst (out h).v) (pV ws B (out h).B) K fuel (listed.setIfInBounds i true)):ED P n ops late ws t B K (fuel+1) listed:=by
 intro X0 w0 B0 X w a he hs;refine fN hr (by simp) fun j hj=>?_;simp only [mem_singleton] at hj;subst hj;unfold wpOp;simp only [hi];rw [if_pos (hw X w a hs)];left;obtain ⟨hd,hu⟩:=hu X w a hs;obtain ⟨hvc,h⟩:=hh hd;obtain ⟨v,w',h1,hsat0,hden,hext0⟩:=hu hvc;obtain ⟨hsat,hext⟩:=hs.sat.merge hsat0 hext0;have hst:St X w' (pV ws B (out hd).B) (eF n t o.dst (out hd).v) n (a.put o.dst v):=by
  refine ⟨?_,hsat,?_⟩
  ·have:=hs.defers;cases o.dst<;>simpa [Act.put] using this
  ·exact gJ ⟨hs.den.1,fun i=>(hs.den.2 i).ext hs.sat hext⟩ hden
 have key:(gk late (listed.setIfInBounds j true)=true∨Kept w (kR ws B) w')∧wpAnyS P ops (tT n K X0 w0 B0) late (Kept w (kR ws B)) fuel (listed.setIfInBounds j true) (a.put o.dst v) w':=
  ⟨.inr (Kept.ext hext0),gZ (fun w'' hk=>Kept.sb hext0 (fun b hb=>pA hb) hk) _ _ _ _ (h X0 w0 B0 X w' _ (he.trans hext) hst)⟩
 unfold Oper.wp;rcases h1 with h1|⟨h1,rfl⟩
 ·rw [h1];simp only [Oper.upon];exact key
 ·rw [h1];simp only [Oper.upon];exact key
theorem Hu {i:Nat} {o:Oper} {f:FuncId} {args:List SV} (hi:ops[i]?=some o) (hr:Region.ready .any ops listed=[i]) (hl:gk late (listed.setIfInBounds i true)=true) (hw:∀X w a,St X w B t n a→Region.wanted o (yielded ops a.tmps)=true)
  (hrun:∀X w a,St X w B t n a→∃vals,(execOp a.eval o).run P w= .ok (.enter f vals) w∧Cm X w args vals)
  (h:EC P f args B fun s B'=>ED P n ops late ws (eF n t o.dst s) B' K fuel (listed.setIfInBounds i true)):ED P n ops late ws t B K (fuel+1) listed:=by
 intro X0 w0 B0 X w a he hs;refine fN hr (by simp) fun j hj=>?_;simp only [mem_singleton] at hj;subst hj;unfold wpOp;simp only [hi];rw [if_pos (hw X w a hs)];left;obtain ⟨vals,h1,h2⟩:=hrun X w a hs;unfold Oper.wp;rw [h1];simp only [Oper.upon];refine (h.2 X w vals hs.sat h2).mono ?_;rintro e w' ⟨v,s,X',B',rfl,hK,hsat,hden,hext⟩;simp only;have hst:St X' w' B' (eF n t o.dst s) n (a.put o.dst v):=by
  refine ⟨?_,hsat,?_⟩
  ·have:=hs.defers;cases o.dst<;>simpa [Act.put] using this
  ·exact gJ ⟨hs.den.1,fun i=>(hs.den.2 i).ext hs.sat hext⟩ hden
 exact ⟨.inl hl,oo _ _ _ _ hl (hK X0 w0 B0 X' w' _ (he.trans hext) hst)⟩
theorem I9 {i:Nat} {o:Oper} {out:aN→Out} (hi:ops[i]?=some o) (hr:Region.ready .any ops listed=[i]) (hl:gk late (listed.setIfInBounds i true)=true) (hw:∀X w a,St X w B t n a→Region.wanted o (yielded ops a.tmps)=true)
  (hu:∀X w a,St X w B t n a→∃h,(out h).vc→AO P X w B (execOp a.eval o) (out h)) (hh:∀h,(out h).vc∧ED P n ops late ws (eF n t o.dst (out h).v) (out h).B K fuel (listed.setIfInBounds i true)):ED P n ops late ws t B K (fuel+1) listed:=by
 intro X0 w0 B0 X w a he hs;refine fN hr (by simp) fun j hj=>?_;simp only [mem_singleton] at hj;subst hj;unfold wpOp;simp only [hi];rw [if_pos (hw X w a hs)];left;obtain ⟨hd,hu⟩:=hu X w a hs;obtain ⟨hvc,h⟩:=hh hd;obtain ⟨v,w',h1,hsat,hden,hext⟩:=hu hvc;have hst:St X w' (out hd).B (eF n t o.dst (out hd).v) n (a.put o.dst v):=by
  refine ⟨?_,hsat,?_⟩
  ·have:=hs.defers;cases o.dst<;>simpa [Act.put] using this
  ·exact gJ ⟨hs.den.1,fun i=>(hs.den.2 i).ext hs.sat hext⟩ hden
 have key:=oo (P:=P) (S':=Kept w (kR ws B)) _ _ _ _ hl (h X0 w0 B0 X w' _ (he.trans hext) hst);unfold Oper.wp;rcases h1 with h1|⟨h1,rfl⟩
 ·rw [h1];simp only [Oper.upon];exact ⟨.inl hl,key⟩
 ·rw [h1];simp only [Oper.upon];exact ⟨.inl hl,key⟩
theorem rY {id:Nat} {Q:gX} (hm:P.follows .mixedOrders=true) (h:∀K:aV→List aI→Prop,(∀t B,Q .normal t B→K t B)→ED P n ops late ws t B K ops.size (Array.replicate ops.size false)):EV P n (.region id ops true) t B Q:=by
 intro X0 w0 B0 X w a he hs;have hext:Ext X w B X {w with drawn:=w.drawn+1} B:=⟨rfl,rfl,rfl,le_refl _,fun _ _ _=>rfl,fun _ h=>h,fun _ h=> .inl h,fun _ h=> .inl h⟩;have hs':St X {w with drawn:=w.drawn+1} B t n a:=⟨hs.defers,⟨hs.sat.inj,hs.sat.lt,hs.sat.xg.mono (fun _ h=>h) (fun _ _=>rfl) hs.sat.og,hs.sat.apart,fun i=>aI.ig (hs.sat.ok i) (fun _ h=>h) (fun _ _=>rfl) fun _ _=>rfl⟩,hs.den.1,fun i=>(hs.den.2 i).ext hs.sat hext⟩;refine wp_mono (wp_region_any hm (yz _ _ _ _ (h (fun t B=>Q .normal t B) (fun _ _ h=>h) X0 w0 B0 X _ a (he.trans hext) hs'))) ?_;rintro e a' w' ⟨rfl,X',t',B',h1,h2,h3⟩;exact ⟨X',t',B',h1,h2,h3⟩
theorem I8 {i:Nat} {o:Oper} {s:SV} (hi:ops[i]?=some o) (hr:Region.ready .any ops listed=[i]) (hw:∀X w a,St X w B t n a→Region.wanted o (yielded ops a.tmps)=false)
  (hu:∀X w,Den X w s undef) (h:ED P n ops late ws (eF n t o.dst s) B K fuel (listed.setIfInBounds i true)):ED P n ops late ws t B K (fuel+1) listed:=by
 intro X0 w0 B0 X w a he hs;refine fN hr (by simp) fun j hj=>?_;simp only [mem_singleton] at hj;subst hj;unfold wpOp;simp only [hi];rw [if_neg (by rw [hw X w a hs];simp)];exact ⟨.inr (Kept.refl w _),h X0 w0 B0 X w _ he (hs.put (hu X w))⟩
def fm:Op→Bool
 | .call c=>match c.callee with
  | .value _=>true
  |_=>false
 |_=>false
def kW:Op→Bool
 | .store .. | .alloc _| .box .. | .buildSlice .. | .makeSlice .. | .makeMap .. | .insert .. | .mapUpdate .. =>true
 | .call c=>match c.callee with
  | .builtin .append| .builtin .copy| .builtin .clear=>true
  |_=>false
 | .binOp _ _ _ y _=>vn y
 |_=>false
def Fa:List Nat→Nat→Bool
 |[],_=>false
 |a :: r,i=>if i=a then true else Fa r i
theorem rr:∀(l:List Nat) (i:Nat),Fa l i=l.contains i
 |[],_=>rfl
 |a :: r,i=>by
  simp only [Fa,List.contains_cons,rr r i];by_cases h:i=a<;>simp [h]
def q7 (ops:Array Oper) (late:List Nat):List Nat→Array Bool→Bool
 |[],listed=>Region.ready .any ops listed == []
 |i :: r,listed=>(match ops[i]? with
  |none=>false
  |some o=>match fm o.op || kW o.op || late.contains i || gk late listed with
   |true=>Region.ready .any ops listed == [i]
   |false=>Region.free .any ops listed i && (Region.ready .any ops listed).contains i && late.all fun b=>match ops[b]? with
    |some ob=>ob.after.any fun e=>Region.binds .any e && e.on == i
    |none=>true) && q7 ops late r (listed.setIfInBounds i true)
def tV (P:Program) (E:Env) (n:Nat) (ops:Array Oper) (late:List Nat) (ws:List Bool) (K:aV→List aI→Prop):Bool→List Nat→aV→List aI→Array Bool→Prop
 |_,[],t,B,_=>K t B
 |b,i :: r,t,B,listed=>match ops[i]? with
  |none=>False
  |some o=>match o.guard with
   |none=>match b || Fa late i with
    |true=>match fm o.op with
     |true=>match h_ false t o.op with
      |some (f,args)=>EC P f args B fun s B'=>ED P n ops late ws (eF n t o.dst s) B' K r.length (listed.setIfInBounds i true)
      |none=>False
     |false=>∀h,match de E false h t B o.op with
      |⟨v,B',c⟩=>c∧tV P E n ops late ws K (b || Fa late i) r (eF n t o.dst v) B' (listed.setIfInBounds i true)
    |false=>match fm o.op with
     |true=>match h_ false t o.op with
      |some (f,args)=>EC P f args (kR ws B) fun s B'=>ED P n ops late ws (eF n t o.dst s) (pV ws B B') K r.length (listed.setIfInBounds i true)
      |none=>False
     |false=>match kW o.op with
      |true=>∀h,match de E false h t (kR ws B) o.op with
       |⟨v,B',c⟩=>c∧tV P E n ops late ws K (b || Fa late i) r (eF n t o.dst v) (pV ws B B') (listed.setIfInBounds i true)
      |false=>match de E false (.void none) t (qT ws B) o.op with
       |⟨v,_,c⟩=>mn o.op v∧c∧tV P E n ops late ws K (b || Fa late i) r (eF n t o.dst v) B (listed.setIfInBounds i true)
   |some (j,want)=>match b || Fa late i with
    |true=>False
    |false=>match guardOf ops.toList t j want with
     |none=>False
     |some c=>match fm o.op with
      |true=>match h_ true t o.op with
       |some (f,args)=>(c=true→iz t (j_ o.op))∧(c=true→EC P f args (kR ws B) fun s B'=>ED P n ops late ws (eF n t o.dst s) (pV ws B B') K r.length (listed.setIfInBounds i true))∧
         (c=false→ED P n ops late ws (eF n t o.dst (.opt false (.bool false))) B K r.length (listed.setIfInBounds i true))
       |none=>False
      |false=>match kW o.op with
       |true=>False
       |false=>match de E true (.void none) t (qT ws B) o.op with
        |⟨v,_,vc⟩=>quiet o.op=true∧(c=true→iz t (j_ o.op)∧mn o.op v∧vc)∧tV P E n ops late ws K (b || Fa late i) r (eF n t o.dst (.opt c v)) B (listed.setIfInBounds i true)
theorem uH (hE:cI P E) {X:Nat→Prop} {w:World} {a:Act} {o:Oper} {st:Bool} (hs:St X w B t n a) (hst:st=true→quiet o.op=true∧iz t (j_ o.op)) (hp:mn o.op (de E st (.void none) t (qT ws B) o.op).v)
  (hc:(de E st (.void none) t (qT ws B) o.op).vc):Rh P X w (kR ws B) (execOp a.eval o) (de E st (.void none) t (qT ws B) o.op).v:=by
 by_cases hpk:∃c x y,o.op= .pick c x y
 ·obtain ⟨c,x,y,hpk⟩:=hpk;rw [hpk] at hc hp ⊢;refine sa hp fun w' hk=>?_;obtain ⟨r,h1,h2,h3⟩:=nq (P:=P) (hk.wO hs.sat (lP hs.sat.xg hs.den c)) (hk.wO hs.sat (lP hs.sat.xg hs.den x)) (hk.wO hs.sat (lP hs.sat.xg hs.den y)) hc;exact ⟨r,by simpa [execOp,hpk] using h1,h2⟩
 ·refine Gz hE hs.sat (fun x=>lP hs.sat.xg hs.den x) (fun _=>rfl) (fun x hx=>?_) hp hc
  cases st with
  |false=>exact fQ hs.sat.xg hs.den x
  |true=>
   obtain ⟨h1,h2⟩:=hst rfl;rcases tx h1 x hx with ⟨c,a',b,e⟩|h3
   ·exact absurd ⟨c,a',b,e⟩ hpk
   ·exact k7 hs.sat.xg hs.den h2 x h3
theorem Dj {ops:Array Oper} {late:List Nat} {i:Nat} (h:(late.all fun b=>match ops[b]? with|some ob=>ob.after.any fun e=>Region.binds .any e && e.on == i|none=>true)=true):
  ∀b∈late,∀o,ops[b]?=some o→∃e∈o.after,Region.binds .any e=true∧e.on=i:=by
 intro b hb o ho;have:=List.all_eq_true.1 h b hb;simp only [ho,Array.any_eq_true',Bool.and_eq_true,beq_iff_eq] at this;exact this
theorem zE {late:List Nat} {i:Nat} (h:late.contains i=false):∀b∈late,b≠i:=fun b hb e=>by subst e;rw [List.contains_iff_mem.2 hb] at h;cases h
theorem Bz {late:List Nat} {listed:Array Bool} {i:Nat} (h:gk late (listed.setIfInBounds i true)=false):(late.contains i || gk late listed)=false∨listed.size≤i:=by
 by_cases hi:i < listed.size
 ·left;have h1:gk late listed=false:=Bool.eq_false_iff.2 fun h2=>by
   simp only [gk,any_eq_true] at h2;obtain ⟨b,hb,hh⟩:=h2;have:gk late (listed.setIfInBounds i true)=true:=by
    simp only [gk,any_eq_true];exact ⟨b,hb,getD_set_true hh⟩
   rw [h] at this;cases this
  rw [h1,Bool.or_false];refine Bool.eq_false_iff.2 fun h2=>?_;have:gk late (listed.setIfInBounds i true)=true:=by
   simp only [gk,any_eq_true];refine ⟨i,List.contains_iff_mem.1 h2,?_⟩;simp [hi]
  rw [h] at this;cases this
 ·exact .inr (by omega)
theorem u5 {listed:Array Bool} {i:Nat} (h:i∈Region.ready .any ops listed):i < listed.size:=by
 have:=(mem_ready.1 h).1;rcases lt_or_ge i listed.size with h'|h'
 ·exact h'
 ·simp [Array.getElem?_eq_none h'] at this
theorem th (hE:cI P E) (hns:Region.noSelect ops=true):∀(b:Bool) (ord:List Nat) (t:aV) (B:List aI) (listed:Array Bool),b=gk late listed→q7 ops late ord listed=true→tV P E n ops late ws K b ord t B listed→ED P n ops late ws t B K ord.length listed
 |_,[],t,B,listed,_,ho,h=>I_ (by simpa [q7] using ho) h
 |b,i :: r,t,B,listed,hb,ho,h=>by
  simp only [q7,Bool.and_eq_true] at ho;obtain ⟨ho,ho2⟩:=ho;simp only [tV] at h
  cases hi:ops[i]? with
  |none=>simp [hi] at h
  |some o=>
   simp only [hi] at h ho;have hlt:i < listed.size:=by
    refine u5 (ops:=ops) ?_
    split at ho
    ·rw [beq_iff_eq.1 ho];simp
    ·simp only [Bool.and_eq_true] at ho;exact List.contains_iff_mem.1 ho.1.2
   have hset:gk late (listed.setIfInBounds i true)=(b || Fa late i):=by
    rw [hb,rr];apply Bool.eq_iff_iff.2;simp only [gk,any_eq_true,Bool.or_eq_true,List.contains_iff_mem]
    constructor
    ·rintro ⟨c,hc,h1⟩;by_cases e:c=i
     ·exact .inr (e▸hc)
     ·exact .inl ⟨c,hc,by rw [getD_set_ne false (Ne.symm e)] at h1;exact h1⟩
    ·rintro (⟨c,hc,h1⟩|h1)
     ·exact ⟨c,hc,getD_set_true h1⟩
     ·exact ⟨i,h1,by simp [hlt]⟩
   rw [←hset] at h
   cases hl:gk late (listed.setIfInBounds i true) with
   |true=>
    cases hg:o.guard with
    |some jw=>obtain ⟨j,want⟩:=jw;simp [hg,hl] at h
    |none=>
     have hw:∀X w a,St X w B t n a→Region.wanted o (yielded ops a.tmps)=true:=fun X w a _=>by simp [Region.wanted,hg]
     have halone:Region.ready .any ops listed=[i]:=by
      have hor:(late.contains i || gk late listed)=true:=by
       cases hc:late.contains i with
       |true=>rfl
       |false=>rw [ru (zE hc)] at hl;simpa using hl
      have:(fm o.op || kW o.op || late.contains i || gk late listed)=true:=by rw [Bool.or_assoc,hor,Bool.or_true]
      simp only [this] at ho;simpa using ho
     simp only [hg,hl] at h
     cases hco:fm o.op with
     |true=>
      simp only [hco] at h
      cases hcall:h_ false t o.op with
      |none=>simp [hcall] at h
      |some fa=>
       obtain ⟨f,args⟩:=fa;simp only [hcall] at h;exact Hu hi halone hl hw (fun X w a hs=>lT hcall (fun x _=>fQ hs.sat.xg hs.den x) h.1) h
     |false=>
      simp only [hco] at h;exact I9 hi halone hl hw (out:=fun h=>de E false h t B o.op) (fun X w a hs=>iY hE hs.sat hs.den (o:=o) (st:=false) (by simp)) fun hd=>⟨(h hd).1,th hE hns _ r _ _ _ hl.symm ho2 (h hd).2⟩
   |false=>
   cases hg:o.guard with
   |none=>
    have hw:∀X w a,St X w B t n a→Region.wanted o (yielded ops a.tmps)=true:=fun X w a _=>by simp [Region.wanted,hg]
    simp only [hg,hl] at h
    cases hco:fm o.op with
    |true=>
     simp only [hco,Bool.true_or] at h ho
     cases hcall:h_ false t o.op with
     |none=>simp [hcall] at h
     |some fa=>
      obtain ⟨f,args⟩:=fa;simp only [hcall] at h;exact D8 hi (by simpa using ho) hw (fun X w a hs=>lT hcall (fun x _=>fQ hs.sat.xg hs.den x) h.1) h
    |false=>
     simp only [hco,Bool.false_or] at h ho
     cases hmo:kW o.op with
     |true=>
      simp only [hmo,Bool.true_or] at h ho;exact LU hi (by simpa using ho) hw (out:=fun h=>de E false h t (kR ws B) o.op) (fun X w a hs=>iY hE (hs.sat.rw ws) hs.den (o:=o) (st:=false) (by simp)) fun hd=>⟨(h hd).1,th hE hns _ r _ _ _ hl.symm ho2 (h hd).2⟩
     |false=>
     simp only [hmo,Bool.false_or] at h ho;obtain ⟨h1,h2,h3⟩:=h
     cases hlc:(late.contains i || gk late listed) with
     |true=>
      simp only [hlc] at ho;have hr1:Region.ready .any ops listed=[i]:=by simpa using ho
      rcases Bz hl with h4|h4
      ·rw [hlc] at h4;cases h4
      ·have:=u5 (ops:=ops) (listed:=listed) (i:=i) (by rw [hr1];simp);omega
     |false=>
     simp only [hlc,Bool.and_eq_true] at ho;simp only [Bool.or_eq_false_iff] at hlc;refine uS hi hns ho.1.1 ho.1.2 hlc.2 (zE hlc.1) (Dj ho.2) (fun X w a hs=>?_) (th hE hns _ r _ _ _ hl.symm ho2 h3);obtain ⟨v,hd,hu⟩:=uH hE hs (st:=false) (by simp) h1 h2;exact ⟨v,.inl ⟨hw X w a hs,hu⟩,hd⟩
   |some jw=>
    obtain ⟨j,want⟩:=jw;simp only [hg,hl] at h
    cases hgd:guardOf ops.toList t j want with
    |none=>simp [hgd] at h
    |some c=>
     simp only [hgd] at h;have hwc:∀X w a,St X w B t n a→Region.wanted o (yielded ops a.tmps)=c:=fun X w a hs=>by simpa using rv hgd hs.den o hg
     cases hco:fm o.op with
     |true=>
      simp only [hco,Bool.true_or] at h ho
      cases hcall:h_ true t o.op with
      |none=>simp [hcall] at h
      |some fa=>
       obtain ⟨f,args⟩:=fa;simp only [hcall] at h;obtain ⟨h1,h2,h3⟩:=h
       cases c with
       |true=>exact D8 hi (by simpa using ho) hwc (fun X w a hs=>lT hcall (fun x hx=>k7 hs.sat.xg hs.den (h1 rfl) x hx) (h2 rfl).1) (h2 rfl)
       |false=>exact I8 hi (by simpa using ho) hwc (fun _ _=> .opt (fun e=>by cases e) fun _=>rfl) (h3 rfl)
     |false=>
      simp only [hco,Bool.false_or] at h ho
      cases hmo:kW o.op with
      |true=>simp [hmo] at h
      |false=>
      simp only [hmo,Bool.false_or] at h ho;obtain ⟨hq,h1,h3⟩:=h
      cases hlc:(late.contains i || gk late listed) with
      |true=>
       simp only [hlc] at ho;have hr1:Region.ready .any ops listed=[i]:=by simpa using ho
       rcases Bz hl with h4|h4
       ·rw [hlc] at h4;cases h4
       ·have:=u5 (ops:=ops) (listed:=listed) (i:=i) (by rw [hr1];simp);omega
      |false=>
      simp only [hlc,Bool.and_eq_true] at ho;simp only [Bool.or_eq_false_iff] at hlc;refine uS hi hns ho.1.1 ho.1.2 hlc.2 (zE hlc.1) (Dj ho.2) (fun X w a hs=>?_) (th hE hns _ r _ _ _ hl.symm ho2 h3)
      cases c with
      |true=>
       obtain ⟨k1,k2,k3⟩:=h1 rfl;obtain ⟨v,hd,hu⟩:=uH hE hs (st:=true) (fun _=>⟨hq,k1⟩) k2 k3;exact ⟨v,.inl ⟨hwc X w a hs,hu⟩,.opt (fun _=>hd) fun e=>by cases e⟩
      |false=>exact ⟨undef,.inr ⟨hwc X w a hs,rfl⟩,.opt (fun e=>by cases e) fun _=>rfl⟩
theorem Ck (hE:cI P E) {id:Nat} {Q:gX} (late:List Nat) (ws:List Bool) (ord:List Nat) (hm:P.follows .mixedOrders=true) (hns:Region.noSelect ops=true) (hl:ord.length=ops.size) (ho:q7 ops late ord (Array.replicate ops.size false)=true)
  (h:∀K:aV→List aI→Prop,(∀t B,Q .normal t B→K t B)→tV P E n ops late ws K false ord t B (Array.replicate ops.size false)):EV P n (.region id ops true) t B Q:=
 rY hm fun K hK=>by
  have:=th hE hns false ord t B _ (by simp [gk,Array.getD]) ho (h K hK);rw [hl] at this;exact this
end
def OZ (b:Bool):List SV:=[.bool b]
def jz (s:List UInt8):List SV:=[.str s]
def cA {α:Type} (c:α→List SV) (d:α) (l:List α) (k:Nat):List SV:=c (l.getD k d)
section
variable {α:Type} {c:α→List SV} {d:α} {l:List α}
theorem H2 {e:Nat}:bG e c d l= .sl false e l.length (cA c d l):=rfl
theorem Lv (k:Nat):cA c d l k=c (l.getD k d):=rfl
theorem su:(range l.length).map (cA c d l)=l.map c:=zm c d l
theorem pE {k:Nat} (h:l.length≤k):l.getD k d=d:=by simp [getD,List.getElem?_eq_none h]
theorem uE {fl:Bool} {e lo hi:Nat} (h:hi≤l.length):SV.sl fl e (hi - lo) (sub (cA c d l) l.length lo (hi - lo))= .sl fl e ((l.take hi).drop lo).length (cA c d ((l.take hi).drop lo)):=by
 have e1:((l.take hi).drop lo).length=hi - lo:=by simp;omega
 rw [e1]
 congr 1
 funext k
 simp only [sub,cA]
 split
 ·rename_i hk
  congr 1
  simp only [getD,List.getElem?_drop,List.getElem?_take];rw [if_pos (by omega)]
 ·rename_i hk;rw [pE (le_refl _),pE (by rw [e1];omega)]
theorem lz {fl:Bool} {e hi:Nat} (h:hi≤l.length):SV.sl fl e hi (sub (cA c d l) l.length 0 hi)= .sl fl e (l.take hi).length (cA c d (l.take hi)):=by
 have:=uE (c:=c) (d:=d) (fl:=fl) (e:=e) (lo:=0) h;simpa using this
theorem F8 {fl:Bool} {e lo:Nat}:SV.sl fl e (l.length - lo) (sub (cA c d l) l.length lo (l.length - lo))= .sl fl e (l.drop lo).length (cA c d (l.drop lo)):=by
 have e1:(l.drop lo).length=l.length - lo:=by simp
 rw [e1]
 congr 1
 funext k
 simp only [sub,cA]
 split
 ·rename_i hk
  congr 1
  simp only [getD,List.getElem?_drop]
 ·rename_i hk;rw [pE (le_refl _),pE (by rw [e1];omega)]
end
theorem pG {α:Type} [Inhabited α] {c:α→List SV} {l:List α} {k:Nat} (h:k < l.length):(l.map c).getD k []=c (l.getD k default):=by
 simp [getD,h]
theorem EZ (k:IntKind) (l:List Int) (x:Int):l.map (aS k) ++ [[.int k x]]=(l ++ [x]).map (aS k):=by simp [aS]
theorem GU (k:IntKind) (l:List Int) (i:Nat) (x:Int):(l.map (aS k)).set i [.int k x]=(l.set i x).map (aS k):=by simp [aS]
theorem GZ (k:IntKind) (x:Int):(aS k x).length=1:=rfl
theorem Lq (k:IntKind) (x:Int) (d:SV):(aS k x).getD 0 d= .int k x:=rfl
theorem Lp (k:IntKind) (x y:Int):aJ (aS k x) 0 [.int k y]=aS k y:=rfl
theorem GY (k:IntKind) (x:Int):bt (aS k x)=true:=rfl
theorem Ga (x:List UInt8):(jz x).length=1:=rfl
theorem KO (x:List UInt8) (d:SV):(jz x).getD 0 d= .str x:=rfl
theorem F' (x:List UInt8):bt (jz x)=true:=rfl
theorem IQ (a b:Bool):(bif a then b else false)=(a && b):=by cases a<;>rfl
theorem LI (a b:Bool):(bif a then true else b)=(a || b):=by cases a<;>rfl
theorem O5 (b:Bool):(b == false)= !b:=by cases b<;>rfl
theorem O4 (b:Bool):(b == true)=b:=by cases b<;>rfl
theorem Ft {α:Type} (l:List α) (o j:Nat) (d:α):(l.drop o).getD j d=l.getD (o+j) d:=by simp [getD,List.getElem?_drop]
theorem Ew (cs:List SV) (o i:Nat) (v d:SV):(aJ cs o [v]).getD i d=if i=o∧o < cs.length then v else cs.getD i d:=by
 simp only [aJ,List.getD_eq_getElem?_getD,List.getElem?_set];by_cases h:o=i
 ·subst h;by_cases h2:o < cs.length
  ·simp [h2]
  ·simp [h2]
 ·rw [if_neg h,if_neg (by omega)]
theorem mN (ys cs:List SV) (o i:Nat):(aJ cs o ys)[i]?=if o≤i∧i < o+ys.length∧i < cs.length then ys[i - o]? else cs[i]?:=by
 induction ys generalizing cs o with
 |nil=>simp [aJ];intro h1 h2;omega
 |cons y r ih=>
  simp only [aJ,ih,List.length_set,List.length_cons,List.getElem?_set];by_cases h:o=i
  ·subst h;rw [if_neg (by omega)];by_cases h2:o < cs.length
   ·simp [h2]
   ·simp only [h2,if_true,if_false,and_false];rw [List.getElem?_eq_none (by omega)]
  ·rw [if_neg h];by_cases h3:o+1≤i∧i < o+1+r.length∧i < cs.length
   ·rw [if_pos h3,if_pos (by omega)];have:i - o=(i - (o+1))+1:=by omega
    rw [this,List.getElem?_cons_succ]
   ·rw [if_neg h3,if_neg (by omega)]
theorem bb {cs ys r:List SV} {o:Nat} (h:o+ys.length≤cs.length) (e:cs.take o ++ (ys ++ cs.drop (o+ys.length))=r):aJ cs o ys=r:=by
 rw [←e];apply List.ext_getElem?;intro i;rw [mN];by_cases h1:i < o
 ·rw [if_neg (by omega),List.getElem?_append_left (by simp;omega)];simp [h1]
 ·by_cases h2:i < o+ys.length
  ·rw [if_pos (by omega),List.getElem?_append_right (by simp;omega),List.getElem?_append_left (by simp;omega)]
   congr 1;simp;omega
  ·rw [if_neg (by omega),List.getElem?_append_right (by simp;omega),List.getElem?_append_right (by simp;omega)];simp only [List.length_take,List.getElem?_drop]
   congr 1;omega
theorem Gy (a b:SV):aJ [a] 0 [b]=[b]:=rfl
theorem Ev (cs:List SV) (o:Nat) (a b:SV):aJ (aJ cs o [a]) o [b]=aJ cs o [b]:=by simp [aJ]
theorem tp:∀{l:List SV},bt l=true↔∀(i:Nat) (s:SV),l[i]?=some s→s.fh=true
 |[]=>by simp [bt]
 |a :: l=>by
  simp only [bt,Bool.and_eq_true,tp (l:=l)]
  constructor
  ·rintro ⟨h1,h2⟩ i s h
   cases i with
   |zero=>simp at h;subst h;exact h1
   |succ i=>exact h2 i s (by simpa using h)
  ·intro h;exact ⟨h 0 a rfl,fun i s hs=>h (i+1) s (by simpa using hs)⟩
theorem Gx (cs ys:List SV) (o:Nat) (h:bt cs=true) (h2:bt ys=true):bt (aJ cs o ys)=true:=by
 rw [tp] at h h2 ⊢;intro i s hs;rw [mN] at hs
 split at hs
 ·exact h2 _ _ hs
 ·exact h _ _ hs
theorem eD.Ov {l l':List SV} (h:eD l l'):l.length=l'.length∧∀(i:Nat) (a b:SV),l[i]?=some a→l'[i]?=some b→bq a b:=by
 induction h with
 |nil=>exact ⟨rfl,by simp⟩
 |cons h _ ih=>
  refine ⟨by simp [ih.1],fun i a b ha hb=>?_⟩
  cases i with
  |zero=>simp at ha hb;subst ha hb;exact h
  |succ i=>exact ih.2 i a b (by simpa using ha) (by simpa using hb)
theorem eD.PG:∀{l l':List SV},l.length=l'.length→(∀(i:Nat) (a b:SV),l[i]?=some a→l'[i]?=some b→bq a b)→eD l l'
 |[],[],_,_=> .nil
 |[],_ :: _,h,_=>by simp at h
 |_ :: _,[],h,_=>by simp at h
 |a :: l,b :: l',h,hh=> .cons (hh 0 a b rfl rfl) (eD.PG (by simpa using h) fun i a b ha hb=>hh (i+1) a b (by simpa using ha) (by simpa using hb))
theorem eD.tW {cs ds vs ws r:List SV} (h:eD cs ds) (j:Nat) (hv:eD vs ws) (e:aJ ds j ws=r):eD (aJ cs j vs) r:=by
 subst e;obtain ⟨h1,h2⟩:=h.Ov;obtain ⟨h3,h4⟩:=hv.Ov;refine .PG (by simp [cd,h1]) fun i a b ha hb=>?_;rw [mN] at ha hb;by_cases hc:j≤i∧i < j+vs.length∧i < cs.length
 ·rw [if_pos hc] at ha;rw [if_pos (by omega)] at hb;exact h4 _ _ _ ha hb
 ·rw [if_neg hc] at ha;rw [if_neg (by omega)] at hb;exact h2 _ _ _ ha hb
theorem eD.put {cs ds r:List SV} {s s':SV} (h:eD cs ds) (j:Nat) (hs:bq s s') (e:aJ ds j [s']=r):eD (aJ cs j [s]) r:=h.tW j (.cons hs .nil) e
theorem cB {α:Type} {e e':Nat} {fl:Bool} {cells:α→List SV} {d:α} {f:Nat→List SV}:bq (.sl fl e' 0 f) (bG e cells d []):=by
 intro X w v h
 cases h with
 |gC hf=>exact .gC (by simp)
 |na g hn=>exact absurd hn (lt_irrefl 0)
theorem mS (sel:Nat→Bool) (B:List aI) (cs ys:List SV) (o:Nat):ew sel B (aJ cs o ys)=aJ (ew sel B cs) o (ew sel B ys):=by
 have hl:∀l:List SV,(ew sel B l).length=l.length:=by intro l;induction l with|nil=>rfl|cons a l ih=>simp [ew,ih]
 have hg:∀(l:List SV) (i:Nat),(ew sel B l)[i]?=(l[i]?).map (gl sel B):=by
  intro l
  induction l with
  |nil=>simp [ew]
  |cons a l ih=>intro i;cases i<;>simp [ew,ih]
 apply List.ext_getElem?;intro i;simp only [hg,mN,hl]
 split<;>rfl
theorem lj (sel:Nat→Bool) (B:List aI) (cs ys:List SV) (o:Nat) (h:bC sel B cs) (h2:bC sel B ys):bC sel B (aJ cs o ys):=by
 have hg:∀(l:List SV),bC sel B l↔∀(i:Nat) (s:SV),l[i]?=some s→cf sel B s:=by
  intro l
  induction l with
  |nil=>simp [bC]
  |cons a l ih=>
   simp only [bC,ih]
   constructor
   ·rintro ⟨h1,h2⟩ i s h
    cases i with
    |zero=>simp at h;subst h;exact h1
    |succ i=>exact h2 i s (by simpa using h)
   ·intro h;exact ⟨h 0 a rfl,fun i s hs=>h (i+1) s (by simpa using hs)⟩
 rw [hg] at h h2 ⊢;intro i s hs;rw [mN] at hs
 split at hs
 ·exact h2 _ _ hs
 ·exact h _ _ hs
theorem bq.bx {i j:Nat} {h:aN} {e k o:Nat}:bq (.bx i h e k o) (.bx j h e k o):=fun _ _ _ hd=>by cases hd;exact .bx ..
theorem bq.row {i j:Nat} {h:aN} {e lo n:Nat}:bq (.row i h e lo n) (.row j h e lo n):=fun _ _ _ hd=>hd.H8
theorem mR {o:aI} {i:Nat}:au [o] i=if i=0 then o else .gone:=by cases i<;>simp [au]
theorem EC.at {P:Program} {f:Nat} {args args':List SV} {B:List aI} {i:Nat} {h:aN} {E e:Nat} {xs:List (List SV)} {Q:SV→List aI→Prop} (hc:EC P f args [.row h E e xs] Q)
  (hi:au B i= .row h E e xs) (ha:eD args' args) (hq:∀r N,Q r N→∃o,N=[o]):EC P f args' B (fun r B'=>∃o,Q r [o]∧B'=B.set i o):=by
 refine ⟨hc.1,fun X w vs hs hd=>?_⟩;have hil:i < B.length:=fp hi;have hs1:Sat X w [.row h E e xs]:=by
  refine ⟨fun a b c h1 h2=>?_,fun a b h1=>?_,hs.xg,fun b hx ⟨a,h1⟩=>?_,fun a=>?_⟩
  ·rw [mR] at h1 h2
   split at h1<;>split at h2<;>simp_all [aI.blocks]
  ·rw [mR] at h1
   split at h1
   ·exact hs.lt i b (by rw [hi];exact h1)
   ·simp [aI.blocks] at h1
  ·rw [mR] at h1
   split at h1
   ·exact hs.apart b hx ⟨i,by rw [hi];exact h1⟩
   ·simp [aI.blocks] at h1
  ·rw [mR]
   split
   ·rw [←hi];exact hs.ok i
   ·trivial
 obtain ⟨l1,l2⟩:=ha.spec;refine (hc.2 X w vs hs1 ⟨by rw [hd.1,l1],fun j c hj=>?_⟩).mono ?_
 ·obtain ⟨d,hd1,hd2⟩:=l2 j c hj;exact hd2 _ _ _ (hd.2 j d hd1)
 rintro ex w' ⟨v,r,X',N,rfl,hQ,hsat,hden,hext⟩;obtain ⟨o,rfl⟩:=hq r N hQ;have own1:∀b,hU [aI.row h E e xs] b→b∈(au B i).blocks:=by
  rintro b ⟨a,h1⟩;rw [mR] at h1
  split at h1
  ·rw [hi];exact h1
  ·simp [aI.blocks] at h1
 have oldN:∀a b,a≠i→b∈(au B a).blocks→¬hU [aI.row h E e xs] b:=fun a b hne hb ho=>hne (hs.inj a i b hb (own1 b ho));have newo:∀b,b∈o.blocks→hU [aI.row h E e xs] b∨w.heap.size≤b:=fun b hb=>hext.own b ⟨0,by simpa [au] using hb⟩;refine ⟨v,r,X',B.set i o,rfl,⟨o,hQ,rfl⟩,⟨fun a b c h1 h2=>?_,fun a b h1=>?_,hsat.xg,fun b hx ⟨a,h1⟩=>?_,fun a=>?_⟩,hden,⟨hext.os,hext.tape,hext.output,hext.size,fun b hb hno=>hext.block b hb fun ho=>hno ⟨i,own1 b ho⟩,hext.AS,fun b hb=>(hext.pT b hb).imp_right fun h=>h.imp_left fun ho=>⟨i,own1 b ho⟩,fun b hb=>?_⟩⟩
 ·rw [eo hil] at h1 h2
  split at h1<;>split at h2
  ·omega
  ·rcases newo c h1 with h|h
   ·exact absurd h (oldN b c (by assumption) h2)
   ·have:=hs.lt b c h2;omega
  ·rcases newo c h2 with h|h
   ·exact absurd h (oldN a c (by assumption) h1)
   ·have:=hs.lt a c h1;omega
  ·exact hs.inj a b c h1 h2
 ·rw [eo hil] at h1
  split at h1
  ·exact hsat.lt 0 b (by simpa [au] using h1)
  ·exact lt_of_lt_of_le (hs.lt a b h1) hext.size
 ·rw [eo hil] at h1
  split at h1
  ·exact hsat.apart b hx ⟨0,by simpa [au] using h1⟩
  ·rcases hext.pT b hx with h|h|h
   ·exact hs.apart b h ⟨a,h1⟩
   ·exact oldN a b (by assumption) h1 h
   ·have:=hs.lt a b h1;omega
 ·rw [eo hil]
  split
  ·simpa [au] using hsat.ok 0
  ·rename_i hne;exact aI.ig (hs.ok a) hext.AS (fun b hb=>hext.block b (hs.og b hb) fun ho=>hs.apart b hb ⟨i,own1 b ho⟩) fun b hb=>hext.block b (hs.lt a b hb) (oldN a b hne hb)
 ·obtain ⟨a,h1⟩:=hb;rw [eo hil] at h1
  split at h1
  ·rcases newo b h1 with h|h
   ·exact .inl ⟨i,own1 b h⟩
   ·exact .inr h
  ·exact .inl ⟨a,h1⟩
theorem EC.Jr {P:Program} {f:Nat} {args args':List SV} {B:List aI} (i:Nat) {h:aN} {E e:Nat} {xs xs':List (List SV)} {R:SV} {Q:SV→List aI→Prop}
  (hc:EC P f args [.row h E e xs] fun r N=>r=R∧N=[.row h E e xs']) (hi:au B i= .row h E e xs) (ha:eD args' args) (hk:Q R (B.set i (.row h E e xs'))):EC P f args' B Q:=
 (EC.at hc hi ha fun _ _ hq=>⟨_,hq.2⟩).mono (by rintro r B' ⟨o,⟨rfl,ho⟩,rfl⟩;cases ho;exact hk)
theorem EC.F0 {P:Program} {f:Nat} {args args':List SV} {B:List aI} {R:SV} {Q:SV→List aI→Prop} (h:EC P f args' [] fun r B'=>B'=[]∧r=R) (ha:eD args args') (hk:Q R B):EC P f args B Q:=
 EC.args ha (EC.use h hk)
section
variable {P:Program} {n:Nat} {t:aV} {B:List aI} {Q:gX}
def bK (t:aV):List Nat→aV
 |[]=>[]
 |k :: r=>(k,dd t k) :: bK t r
theorem ze {t:aV}:∀{a b:aV},kA t a→kA t b→kA t (a ++ b)
 |[],_,_,h=>h
 |(_,_) :: _,_,ha,h=>⟨ha.1,ze ha.2 h⟩
theorem uU {t:aV}:∀(l:List Nat),kA t (bK t l)
 |[]=>trivial
 |_ :: r=>⟨rfl,uU r⟩
theorem eL {σ:Type} (live:List Nat) (V:σ→aV) (Inv:σ→Prop) (μ:σ→Nat) (s0:σ) {c:Code} (h0:Inv s0) (hw:kA t (V s0))
  (round:∀s,Inv s→EV P n c (V s ++ bK t live) B (gy (fun t' B'=>∃s',Inv s'∧μ s' < μ s∧kA t' (V s' ++ bK t live)∧B'.take B.length=B) Q)):EV P n (.loop c) t B Q:=by
 refine D5 (fun s=>V s ++ bK t live) (fun _=>B) Inv μ s0 h0 (ze hw (uU _)) (by simp) round
theorem cw (d E e:Nat) {f:Nat→List SV} {c:Code} (hd:dd t d= .sl true 0 0 f) (h:∀h,EV P n c ((d,.row B.length h e 0 0) :: t) (B ++ [.row h E e []]) Q):EV P n c t B Q:=by
 intro X0 w0 B0 X w a he hs;have h1:=hs.den.2 d;rw [hd] at h1;obtain ⟨ad,hv⟩:∃ad,a.tmps.getD d undef= .slice ad 0 0:=by
  generalize a.tmps.getD d undef=v at h1
  cases h1 with
  |gC hf=>rw [hf rfl];exact ⟨_,rfl⟩
  |na g hn=>exact absurd hn (lt_irrefl 0)
 have hp:Sat X w (B ++ [.row (.void ad) E e []]):=hs.sat.push (le_refl _) (fun _ _=>rfl) (fun c hc=>by simp [aI.blocks] at hc) rfl;have hx:Ext X w B X w (B ++ [.row (.void ad) E e []]):=Ext.push rfl rfl rfl (le_refl _) (fun _ _=>rfl) fun c hc=>by simp [aI.blocks] at hc
 refine h (.void ad) X0 w0 B0 X w a (he.trans hx) ⟨hs.defers,hp,hs.den.1,fun i=>?_⟩;simp only [dd]
 split
 ·rename_i hi;subst hi;rw [hv];exact .dh ..
 ·exact hs.den.2 i
theorem EC.QW {f:Nat} {args:List SV} {B0:List aI} {σ:Type} {C:σ→Prop} {R:σ→SV} {X:σ→List (List SV)} {hh:aN} {E e:Nat}
  (h:EC P f args B0 fun r B'=>dE (bc 1) B' r∧∃x,C x∧bq (fu (bc 1) B' r) (R x)∧B'.take 1=[.row hh E e (X x)]):EC P f args B0 fun r N=>∃x,C x∧r=R x∧N=[.row hh E e (X x)]:=by
 have:=EC.close 1 (Q:=fun r N=>∃x,C x∧bq r (R x)∧N=[.row hh E e (X x)]) h;refine EC.ret (this.mono ?_);rintro r N ⟨x,h1,h2,h3⟩;exact ⟨R x,h2,x,h1,rfl,h3⟩
theorem EC.Cr {f:Nat} {args args':List SV} (i:Nat) {h:aN} {E e:Nat} {xs:List (List SV)} {σ:Type} {C:σ→Prop} {R:σ→SV} {X:σ→List (List SV)} {Q:SV→List aI→Prop}
  (hc:EC P f args [.row h E e xs] fun r N=>∃x,C x∧r=R x∧N=[.row h E e (X x)]) (hi:au B i= .row h E e xs) (ha:eD args' args) (hk:∀x,C x→Q (R x) (B.set i (.row h E e (X x)))):EC P f args' B Q:=
 (EC.at hc hi ha fun _ _ ⟨_,hq⟩=>⟨_,hq.2.2⟩).mono (by rintro r B' ⟨o,⟨x,h1,rfl,ho⟩,rfl⟩;cases ho;exact hk x h1)
theorem EC.G_ {f:Nat} {args:List SV} {σ:Type} {C:σ→Prop} {R:σ→SV} (h:EC P f args [] fun r B'=>dE (bc 0) B' r∧∃x,C x∧bq (fu (bc 0) B' r) (R x)):EC P f args [] fun r N=>N=[]∧∃x,C x∧r=R x:=by
 have:=EC.close 0 (Q:=fun r N=>N=[]∧∃x,C x∧bq r (R x)) (h.mono fun r B' ⟨h1,h2⟩=>⟨h1,by simp,h2⟩);refine EC.ret (this.mono ?_);rintro r N ⟨rfl,x,h1,h2⟩;exact ⟨R x,h2,rfl,x,h1,rfl⟩
theorem EC.aM {f:Nat} {args:List SV} {σ:Type} {C:σ→Prop} {R:σ→SV} {Q:SV→List aI→Prop} (hc:EC P f args [] fun r N=>N=[]∧∃x,C x∧r=R x) (hk:∀x,C x→Q (R x) B):EC P f args B Q:=
 (EC.frame (Q:=fun r=>∃x,C x∧r=R x) hc B).mono (by rintro r B' ⟨rfl,x,h1,rfl⟩;exact hk x h1)
end
def jA (o:aI) (xs:List (List SV)):aI:=match o with
 | .row h E e _=> .row h E e xs
 | .gone=> .gone
def cP:List aI→Nat→List (List SV)→List aI
 |[],_,_=>[]
 |o :: B,0,xs=>jA o xs :: B
 |o :: B,i+1,xs=>o :: cP B i xs
def cW:List aI→Nat→aN→List (List SV)→List aI
 |[],_,_,_=>[]
 |o :: B,0,h,xs=>(match o with| .row _ E e _=> .row h E e xs| .gone=> .gone) :: B
 |o :: B,i+1,h,xs=>o :: cW B i h xs
theorem jx {P:Program} {n:Nat} {t:aV} {B:List aI} {Q:gX} {σ:Type} (live:List Nat) (V:σ→aV) (R:List aI→σ→List aI) (Inv:σ→Prop) (μ:σ→Nat) (s0:σ) {c:Code} (h0:Inv s0) (hw:kA t (V s0)) (hb:R B s0=B)
  (round:∀s,Inv s→EV P n c (V s ++ bK t live) (R B s) (gy (fun t' B'=>∃s',Inv s'∧μ s' < μ s∧kA t' (V s' ++ bK t live)∧B'.take (R B s').length=R B s') Q)):EV P n (.loop c) t B Q:=
 D5 (fun s=>V s ++ bK t live) (fun s=>R B s) Inv μ s0 h0 (ze hw (uU _)) (by rw [hb];simp) round
attribute [push_cast] Fa Bool.false_or Bool.or_false cP cW jA run holds de fD AR BH DQ ev dd eF h_ guardOf quiet j_ iz SV.cond SV.strip SV.Bn SV.ES SV.ofInt_u8 SV.ofInt_u64 SV.qH SV.cells SV.fh SV.len SV.isStr bt DL au j4.agg j4.size kZ fZ rA jd BI tG BJ ll zJ bH i5 pK i4 pJ cx pH dm hG qZ kg cF p9 vH DP eC ep kM pL ir Ha tH DR vn vo y5 kf BG AG tS sJ aI.blocks uD if_true if_false List.length_cons List.length_nil List.append_eq List.cons_append List.nil_append List.append_nil List.getElem?_cons_zero List.getElem?_cons_succ List.getElem?_nil List.set_cons_zero List.set_cons_succ List.drop_succ_cons List.drop_zero List.drop_nil Ft List.length_drop List.drop_drop List.take_succ_cons List.take_zero List.take_nil List.getD_cons_zero List.getD_cons_succ List.getD_nil Bool.false_eq_true Bool.true_eq_false Bool.and_true Bool.true_and Bool.or_true Bool.true_or Bool.not_true Bool.not_false true_and and_true Nat.add_zero Nat.zero_add List.replicate_succ List.replicate_zero List.range_zero map_nil Nat.lt_add_one HL IntKind.bits tV mn fo Fg fm kW qT kR pV bK List.getElem?_toArray List.size_toArray List.all_cons List.all_nil Iv and_self beq_self_eq_true cond_true cond_false mem_singleton forall_eq zg List.length_append Nat.mul_one List.length_map true_or or_true imp_self forall_const Bool.and_self not_true not_false_iff eq_self Nat.zero_le lt_irrefl le_refl ne_eq not_false_eq_true implies_true false_implies true_implies Int.toNat_zero Nat.sub_zero List.map_cons Int.toNat_natCast Int.toNat_one Int.cast_ofNat_Int IQ LI O5 O4 H2 Lv su F8 EZ GU GZ Lq Lp GY Ga KO F' Ew Ev Gy cd Bool.not_eq_true' decide_eq_true_eq Bool.not_not Bool.false_and Bool.and_false Bool.false_or Bool.or_false decide_true decide_false false_and and_false
end Go.Lift
