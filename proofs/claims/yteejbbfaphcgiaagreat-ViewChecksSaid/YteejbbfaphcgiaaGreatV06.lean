/- Part 6. -/
import Derived.Test.YteejbbfaphcgiaaGreatV03
import Derived.Test.YteejbbfaphcgiaaGreatV04
import Derived.Test.YteejbbfaphcgiaaGreatV05
namespace Go.Proofs.YteejbbfaphcgiaaGreat
open Go.Lift _root_.Go.Proofs.Tryz
set_option linter.unusedSimpArgs false
set_option linter.unusedVariables false
set_option maxHeartbeats 1000000
set_option maxRecDepth 10000
open List (getD range mem_or_eq_of_mem_set length length_cons map map_set cons_append take_succ_cons take_zero length_set all_eq_true mem_of_mem_take)
open Nat (le_refl zero_le lt_or_ge le_trans le_succ)
theorem jN {α:Type} {P:Program} {n':Nat} {t:aV} {B:List aI} {Q:gX} {c:Code} (d i:Nat) {h:aN} {E e n:Nat} {xs:List (List SV)} {cells:α→List SV} {df:α} {l:List α}
  (hd:dd t d= .row i h e 0 n) (hB:au B i= .row h E e xs) (hx:xs=l.map cells) (hn:n=l.length) (hk:EV P n' c ((d,.sl false e l.length (cA cells df l)) :: t) (B.set i .gone) Q):EV P n' c t B Q:=by
 have hil:i < B.length:=fp hB;subst hx hn;refine IZ d i hil ?_ ?_ hk
 ·rw [hd];simp [dE,fw,cf,hB]
 ·rw [hd];simp only [fu,iT,gl,beq_self_eq_true,hB];refine bq.sl (fun h=>h) (.inr rfl) fun k hk=>?_;simp [getD,hk,cA]
section
variable {P:Program}
def FR (B:List aI) (xs ys:List (List SV)):Prop:=xs.length=ys.length∧∀(k:Nat) (cs ds:List SV),xs[k]?=some cs→ys[k]?=some ds→cs.length≠2∧bC (bc 1) B cs∧eD (ew (bc 1) B cs) ds
theorem FR.one {B:List aI} {cs ds:List SV} (h2:cs.length≠2) (hk:bC (bc 1) B cs) (h:eD (ew (bc 1) B cs) ds):FR B [cs] [ds]:=by
 refine ⟨rfl,fun k a b ha hb=>?_⟩
 cases k with
 |zero=>simp at ha hb;subst ha hb;exact ⟨h2,hk,h⟩
 |succ k=>simp at ha
theorem aI.K6 {X:Nat→Prop} {w:World} {B:List aI} (hs:Sat X w B) {h:aN} {E e:Nat} {xs ys:List (List SV)} (hB:au B 0= .row h E e xs) (hf:FR B xs ys):aI.ok (dz X B (bc 1)) w (.row h E e ys):=by
 have hok:=hs.ok 0;rw [hB] at hok
 cases h with
 |void a=>
  simp only [aI.ok] at hok ⊢;subst hok;exact List.length_eq_zero_iff.1 hf.1.symm
 |mp b=>
  obtain ⟨arr,clock,h1,h2⟩:=hok
  cases xs with
  |nil=>rw [List.length_eq_zero_iff.1 hf.1.symm];exact ⟨arr,clock,h1,h2⟩
  |cons x xs=>
   exfalso
   cases ys with
   |nil=>simp [FR] at hf
   |cons y ys=>
    have:=(hf.2 0 x y rfl rfl).1
    cases hl:arr.toList with
    |nil=>rw [hl] at h2;exact h2
    |cons m ms=>
     rw [hl] at h2;obtain ⟨⟨k1,k2,a,v,_,_,_,_,rfl⟩,_⟩:=h2;simp at this
 | «at» b cap=>
  obtain ⟨vs,k1,k2,k3,k4,k5⟩:=hok;have hget:∀{k:Nat} {ds:List SV},ys[k]?=some ds→∃cs,xs[k]?=some cs∧bC (bc 1) B cs∧eD (ew (bc 1) B cs) ds:=fun {k ds} hy=>by
   have hk:k < ys.length:=(List.getElem?_eq_some_iff.1 hy).1;have hx:xs[k]?=some (xs[k]'(by rw [hf.1];exact hk)):=List.getElem?_eq_getElem (by rw [hf.1];exact hk);exact ⟨_,hx,(hf.2 k _ _ hx hy).2⟩
  refine ⟨vs,k1,k2,by rw [←hf.1];exact k3,fun k ds hy=>?_,fun k j ds c hy hc=>?_⟩
  ·obtain ⟨cs,h1,h2,h3⟩:=hget hy;rw [←k4 k cs h1,←(fv hs h2).1];exact h3.spec.1.symm
  ·obtain ⟨cs,h1,h2,h3⟩:=hget hy;obtain ⟨d,h4,h5⟩:=h3.spec.2 j c hc;have hjl:j < cs.length:=by
    have:=(List.getElem?_eq_some_iff.1 h4).1
    rwa [(fv hs h2).1] at this
   let ws:Array Value:=((range cs.length).map fun j=>vs.getD (k*e+j) undef).toArray
   have hws:∀j,j < cs.length→ws.getD j undef=vs.getD (k*e+j) undef:=fun j hj=>by
    simp [ws,Array.getD,hj]
   have h6:=(fv hs h2).2 ws (fun i a ha=>by
    have hi:i < cs.length:=(List.getElem?_eq_some_iff.1 ha).1;rw [hws i hi];exact k5 k i cs a h1 ha) j d h4
   rw [hws j hjl] at h6;exact h5 _ _ _ h6
theorem EC.LC {f:Nat} {args:List SV} {B0:List aI} {Q:SV→List aI→Prop}
  (h:EC P f args B0 fun r B'=>dE (bc 1) B' r∧∃h0 E e xs ys,au B' 0= .row h0 E e xs∧FR B' xs ys∧Q (fu (bc 1) B' r) [.row h0 E e ys]):EC P f args B0 Q:=by
 refine ⟨h.1,fun X w vs hs hd=>(h.2 X w vs hs hd).mono ?_⟩;rintro ex w' ⟨v,r,X',B',he,⟨hk,h0,E,e,xs,ys,hB,hf,hq⟩,h1,h2,h3⟩;have hB0:B'≠[]:=fun e=>by rw [e] at hB;simp [au] at hB
 have ht:B'.take 1=[.row h0 E e xs]:=by
  cases B' with
  |nil=>exact absurd rfl hB0
  |cons o B'=>simp [au] at hB;simp [hB]
 have hb:∀i,au [aI.row h0 E e xs] i=if bc 1 i then .gone else au B' i:=fun i=>by
  rw [←ht,eQ];by_cases hi:i < 1
  ·have:bc 1 i=false:=by simp [bc];omega
   simp [hi,this]
  ·have:bc 1 i=true:=by simp [bc];omega
   simp [hi,this]
 have hs1:=h1.dY hb;have hbl:∀i,(au [aI.row h0 E e ys] i).blocks=(au [aI.row h0 E e xs] i).blocks:=fun i=>by
  cases i with
  |zero=>cases h0<;>rfl
  |succ i=>rfl
 have hown:∀b,hU [aI.row h0 E e ys] b↔hU [aI.row h0 E e xs] b:=fun b=>⟨fun ⟨i,h'⟩=>⟨i,by rwa [hbl] at h'⟩,fun ⟨i,h'⟩=>⟨i,by rwa [hbl]⟩⟩;have hs2:Sat (dz X' B' (bc 1)) w' [aI.row h0 E e ys]:=⟨fun a b' c h2 h3=>hs1.inj a b' c (by rwa [hbl] at h2) (by rwa [hbl] at h3),fun a b' h2=>hs1.lt a b' (by rwa [hbl] at h2),hs1.xg,fun b' hx' ho=>hs1.apart b' hx' ((hown b').1 ho),fun a=>by
  cases a with
  |zero=>exact aI.K6 h1 hB hf
  |succ a=>trivial⟩
 have hx2:Ext X' w' B' (dz X' B' (bc 1)) w' [aI.row h0 E e ys]:=by
  have:=Ext.dY (X:=X') (w:=w') hb;exact ⟨rfl,rfl,rfl,le_refl _,fun _ _ _=>rfl,this.AS,this.pT,fun b hb=>this.own b ((hown b).1 hb)⟩
 exact ⟨v,_,_,_,he,hq,hs2,eR h1 h2 hk,h3.trans hx2⟩
end
section
def Lk (m:Nat) (B:List aI) (s r:SV):Prop:=dE (bc m) B s∧bq (fu (bc m) B s) r
def bE (m:Nat) (B:List aI) (s r:SV):Prop:=fw (bc m) B s∧bq (iT (bc m) B s) r
section
variable {P:Program} {E:Env} {n:Nat} {k:Kn} {t:aV} {B:List aI} {all rest:List Oper} {m:Nat}
theorem EC.cM {f:Nat} {args:List SV} {B0:List aI} {σ:Type} {C:σ→Prop} {R:σ→SV} {X:σ→List (List SV)} {hh:aN} {E e:Nat}
  (h:EC P f args B0 fun r B'=>∃x,C x∧Lk 1 B' r (R x)∧B'.take 1=[.row hh E e (X x)]):EC P f args B0 fun r N=>∃x,C x∧r=R x∧N=[.row hh E e (X x)]:=
 EC.QW (h.mono fun r B' ⟨x,h1,h2,h3⟩=>⟨h2.1,x,h1,h2.2,h3⟩)
theorem Lk.int {kk:IntKind} {p q:Int} (h:p=q):Lk m B (.int kk p) (.int kk q):=by subst h;exact ⟨trivial,bq.refl _⟩
theorem Lk.bool {p q:Bool} (h:p=q):Lk m B (.bool p) (.bool q):=by subst h;exact ⟨trivial,bq.refl _⟩
theorem Lk.t0:Lk m B (.bS []) (.bS []):=⟨trivial,bq.refl _⟩
theorem Lk.t2 {a b c d:SV} (h1:bE m B a c) (h2:bE m B b d):Lk m B (.bS [a,b]) (.bS [c,d]):=⟨⟨h1.1,h2.1,trivial⟩,bq.bS (.cons h1.2 (.cons h2.2 .nil))⟩
theorem Lk.t3 {a b c a' b' c':SV} (h1:bE m B a a') (h2:bE m B b b') (h3:bE m B c c'):Lk m B (.bS [a,b,c]) (.bS [a',b',c']):=⟨⟨h1.1,h2.1,h3.1,trivial⟩,bq.bS (.cons h1.2 (.cons h2.2 (.cons h3.2 .nil)))⟩
theorem Lk.t4 {a b c d a' b' c' d':SV} (h1:bE m B a a') (h2:bE m B b b') (h3:bE m B c c') (h4:bE m B d d'):Lk m B (.bS [a,b,c,d]) (.bS [a',b',c',d']):=⟨⟨h1.1,h2.1,h3.1,h4.1,trivial⟩,bq.bS (.cons h1.2 (.cons h2.2 (.cons h3.2 (.cons h4.2 .nil))))⟩
theorem bE.int {kk:IntKind} {p q:Int} (h:p=q):bE m B (.int kk p) (.int kk q):=by subst h;exact ⟨trivial,bq.refl _⟩
theorem bE.bool {p q:Bool} (h:p=q):bE m B (.bool p) (.bool q):=by subst h;exact ⟨trivial,bq.refl _⟩
theorem bE.str {p q:List UInt8} (h:p=q):bE m B (.str p) (.str q):=by subst h;exact ⟨trivial,bq.refl _⟩
theorem bE.agg {cs ds:List SV} (hk:bC (bc m) B cs) (h:eD (ew (bc m) B cs) ds):bE m B (.agg cs) (.agg ds):=⟨hk,bq.agg h⟩
theorem bE.Ce {x y:a8} (h:x=y):bE m B (.agg x.c) (.agg y.c):=by subst h;exact bE.agg (by rw [a8.fk];trivial) (by rw [a8.fz];exact eD.refl _)
theorem Lk.tf {x y:af} (h:x=y):Lk m B (.agg x.c) (.agg y.c):=by
 subst h;exact ⟨by show bC _ _ _;rw [af.fk];trivial,bq.agg (by rw [af.fz];exact eD.refl _)⟩
end
attribute [local irreducible] EC EV
def cc (s:aG) (id:Int):af×Bool:=match s.ah.find? (fun o=>o.ID == id) with
 |some o=>(o,true)
 |none=>(default,false)
def P9 (x:af×Bool):SV:= .bS [.agg x.1.c,.bool x.2]
attribute [push_cast] P9
theorem Ix {s:aG} {id:Int} (h:∀o∈s.ah,o.ID≠id):cc s id=(default,false):=by
 have:s.ah.find? (fun o=>o.ID == id)=none:=List.find?_eq_none.2 fun o ho=>by simpa using h o ho
 simp only [cc,this]
theorem G3 {s:aG} {id:Int} {i:Nat} (hi:i < s.ah.length) (h:∀k,k < i→(s.ah.getD k default).ID≠id) (he:(s.ah.getD i default).ID=id):cc s id=(s.ah.getD i default,true):=by
 have e:s.ah.getD i default=s.ah[i]:=by simp [getD,hi]
 have:s.ah.find? (fun o=>o.ID == id)=some (s.ah.getD i default):=by
  rw [List.find?_eq_some_iff_getElem];refine ⟨by simpa using he,i,hi,e.symm,fun j hj=>?_⟩;have:=h j hj;have hjl:j < s.ah.length:=by omega
  simp [getD,hjl] at this;simpa using this
 simp only [cc,this]
theorem vB {s:aG} {id:Int}:(cc s id).1=default∨(cc s id).1∈s.ah:=by
 unfold cc
 split
 ·rename_i h;exact .inr (List.mem_of_find?_eq_some h)
 ·exact .inl rfl
theorem cL (s:aG) (id:Int) (hs:s.ah.length≤1000000000):EC prog 70 [.agg s.c,.int .u64 id] [] fun r N=>N=[]∧r=P9 (cc s id):=by
 refine EC.cQ ?_;refine nK ab (ca 70) func70 ntmps70 results70 ?_;intro fr;refine eh ab [1,4,5,9,10] (fun i:Nat=>[(11,.int .i64 i)]) (fun B _=>B) (fun i=>i≤s.ah.length∧∀k,k < i→(s.ah.getD k default).ID≠id) (fun i=>s.ah.length - i) 0 ⟨zero_le _,fun k hk=>absurd hk (Nat.not_lt_zero k)⟩ ?_;rintro i ⟨hi,hx⟩;have hw:=wI i;simp only [hw,push_cast,simprocAttr];refine ⟨fun h=>?_,fun h=>?_⟩
 ·have hlt:i < s.ah.length:=by simpa using h
  intro fr2;refine ⟨⟨by omega,by omega⟩,fun e=>?_,fun e=>?_⟩
  ·rw [G3 hlt hx (by simpa using e)];(repeat' (first|refine zL ?_|apply Lt.t2))<;>(exact zA)
  ·refine a7 (i+1) ⟨by omega,fun k hk=>?_⟩;rcases lt_or_ge k i with h1|h1
   ·exact hx k h1
   ·have:k=i:=by omega
    subst this;simpa using e
 ·have e:i=s.ah.length:=by simp at h;omega
  subst e;rw [Ix fun o ho=>by
   obtain ⟨k,hk,rfl⟩:=List.mem_iff_getElem.1 ho;have:=hx k hk;simpa [getD,hk] using this]
  (repeat' (first|refine zL ?_|apply Lt.t2))<;>(exact zA)
def mr (l:List af) (o:af):List af:=
 if l.any (fun y=>y.ID == o.ID) then l.set (l.findIdx fun y=>y.ID == o.ID) o else l.takeWhile (fun y=>decide (y.ID < o.ID)) ++ o :: l.dropWhile (fun y=>decide (y.ID < o.ID))
def cK (s:aG) (o:af):aG×Int:=if (o.ID == 0)=true then (default,1) else ({ah:=mr s.ah o},0)
def KZ (x:aG×Int):SV:= .bS [.agg x.1.c,.int .i64 x.2]
attribute [push_cast] KZ
theorem vu {l:List af} {o y:af} (h:y∈mr l o):y∈l∨y=o:=by
 unfold mr at h
 split at h
 ·exact (mem_or_eq_of_mem_set h)
 ·rcases List.mem_append.1 h with h|h
  ·exact .inl (List.takeWhile_prefix _ |>.subset h)
  ·rcases List.mem_cons.1 h with h|h
   ·exact .inr h
   ·exact .inl (List.dropWhile_suffix _ |>.subset h)
theorem G0 (l:List af) (o:af):(mr l o).length≤l.length+1:=by
 unfold mr
 split
 ·simp
 ·have:=congrArg length (List.takeWhile_append_dropWhile (p:=fun y:af=>decide (y.ID < o.ID)) (l:=l));simp only [List.length_append,length_cons] at this ⊢;omega
theorem Bw {l:List af} {o:af} {i:Nat} (hi:i < l.length) (h:∀k,k < i→(l.getD k default).ID≠o.ID) (he:(l.getD i default).ID=o.ID):mr l o=l.set i o:=by
 have e:l.getD i default=l[i]:=by simp [getD,hi]
 have h1:l.any (fun y=>y.ID == o.ID)=true:=List.any_eq_true.2 ⟨l[i],List.getElem_mem hi,by rw [←e];simpa using he⟩;have h2:l.findIdx (fun y=>y.ID == o.ID)=i:=by
  rw [List.findIdx_eq hi];refine ⟨by rw [←e];simpa using he,fun j hj=>?_⟩;have:=h j hj;have hjl:j < l.length:=by omega
  simp [getD,hjl] at this;simpa using this
 rw [mr,if_pos h1,h2]
theorem G1 {l:List af} {o:af} {k:Nat} (hk:k≤l.length) (hn:∀j,j < l.length→(l.getD j default).ID≠o.ID) (h:∀j,j < k→(l.getD j default).ID < o.ID) (he:k < l.length→¬(l.getD k default).ID < o.ID):mr l o=l.take k ++ o :: l.drop k:=by
 have h1:¬l.any (fun y=>y.ID == o.ID)=true:=by
  rw [List.any_eq_true];rintro ⟨x,hx,h2⟩;obtain ⟨j,hj,rfl⟩:=List.mem_iff_getElem.1 hx;have:=hn j hj;simp [getD,hj] at this;simp at h2;exact this h2
 have h3:l.takeWhile (fun y=>decide (y.ID < o.ID))=l.take k:=by
  rw [←List.take_append_drop k l,List.takeWhile_append_of_pos]
  ·rw [List.take_append_drop]
   cases hd:l.drop k with
   |nil=>simp
   |cons a r=>
    have hkl:k < l.length:=by
     have:=congrArg length hd;simp at this;omega
    have ha:a=l[k]:=by
     have:=congrArg (fun l=>l.head?) hd;simp [List.head?_drop,hkl] at this;exact this.symm
    have:=he hkl;simp [getD,hkl] at this;rw [List.takeWhile_cons_of_neg (by rw [ha];simp;exact this)];simp
  ·intro x hx;obtain ⟨j,hj,rfl⟩:=List.mem_take_iff_getElem.1 hx;have:=h j (by omega);have hjl:j < l.length:=by omega
   simp [getD,hjl] at this;simpa using this
 have h4:l.dropWhile (fun y=>decide (y.ID < o.ID))=l.drop k:=by
  have h5:=List.takeWhile_append_dropWhile (p:=fun y:af=>decide (y.ID < o.ID)) (l:=l);rw [h3] at h5;have h6:l.take k ++ l.dropWhile (fun y=>decide (y.ID < o.ID))=l.take k ++ l.drop k:=by rw [h5,List.take_append_drop]
  exact List.append_cancel_left h6
 rw [mr,if_neg h1,h3,h4]
theorem a6.st {B:List aI} {i n E:Nat} {h:aN} {xs:List (List SV)} {l:List af} (hB:au B i= .row h E 36 xs) (hx:xs=l.map af.c) (hn:n=l.length):a6 B (.agg [.row i h 36 0 n]) (.agg (aG.mk l).c):=
 a6.agg ((eU.obj (cs:=(aG.mk []).c) (fun s B=>by rw [aG.fk]) (fun s B=>by rw [aG.fz])).put 0 (gY.row hB hx hn) (aG.p0 _ _))
theorem ee (s:aG) (o:af) (hs:s.ah.length≤1000000000):EC prog 116 [.agg s.c,.agg o.c] [] fun r N=>N=[]∧r=KZ (cK s o):=by
 refine EC.cQ ?_;refine nK ab (ca 116) func116 ntmps116 results116 ?_;intro fr;refine ⟨fun h=>?_,fun h=>?_⟩
 ·(repeat' (first|refine zL ?_|apply Lt.t2|apply a6.fS))<;>(first|exact zA|(simp [cK, *];done))
 rw [show cK s o=({ah:=mr s.ah o},0) by unfold cK;rw [if_neg (by rw [h];simp)]];intro fr2;refine ⟨by omega,?_⟩;refine eh ab [3,4,5,6,17] (fun i:Nat=>[(18,.int .i64 i)]) (fun B _=>B) (fun i=>i≤s.ah.length∧∀k,k < i→(s.ah.getD k default).ID≠o.ID) (fun i=>s.ah.length - i) 0 ⟨zero_le _,fun k hk=>absurd hk (Nat.not_lt_zero k)⟩ ?_;rintro i ⟨hi,hx⟩;have hw:=wI i;simp only [hw,push_cast,simprocAttr];refine ⟨fun h=>?_,fun h=>?_⟩
 ·have hlt:i < s.ah.length:=by omega
  (refine dD ab [] [false,false,false,false] [0,1,2,3,4,5,6,7] bZ fun R hR=>?_;(repeat intro rh);(try refine sB ⟨?_⟩);(repeat ((with_reducible apply And.intro);exact fE));(repeat intro rh);(repeat ((with_reducible apply And.intro);exact fE));(try apply_assumption -exfalso));refine sA ?_;refine ⟨fun g=>⟨⟨by omega,by omega⟩,by omega,?_⟩,fun g=>?_⟩
  ·have hq:(map af.c s.ah).set i (aJ ((map af.c s.ah).getD i []) 0 o.c)=(mr s.ah o).map af.c:=by
    rw [Bw hlt hx (by simpa using g),map_set,show aJ ((map af.c s.ah).getD i []) 0 o.c=o.c by rw [show (map af.c s.ah).getD i []=af.c s.ah[i] by simp [getD,hlt],Ia (af.len o)]]
   rw [hq];have hl:s.ah.length=(mr s.ah o).length:=by rw [Bw hlt hx (by simpa using g)];simp
   exact Lt.t2 (a6.st rfl rfl hl) a6.int
  ·simp only [hw,push_cast,simprocAttr];refine a7 (i+1) ⟨by omega,fun k hk=>?_⟩;rcases lt_or_ge k i with h1|h1
   ·exact hx k h1
   ·have:k=i:=by omega
    subst this;simpa using g
 ·have e:i=s.ah.length:=by simp at h;omega
  subst e;refine jN 6 3 (cells:=af.c) (df:=default) (l:=s.ah) rfl rfl rfl rfl ?_;simp only [List.set];refine eh ab [3,4,5,6] (fun k:Nat=>[(8,.int .i64 k)]) (fun B _=>B) (fun k=>k≤s.ah.length∧∀j,j < k→(s.ah.getD j default).ID < o.ID) (fun k=>s.ah.length - k) 0 ⟨zero_le _,fun k hk=>absurd hk (Nat.not_lt_zero k)⟩ ?_;rintro k ⟨hk,hy⟩;have hw:=wI k;simp only [hw,push_cast,simprocAttr];(refine dD ab [] [false,false,false,false] [0,1,2,3,4,5,6,7,8,9,10,11,12,13] bZ fun R hR=>?_;(repeat intro rh);(try refine sB ⟨?_⟩);(repeat ((with_reducible apply And.intro);exact fE));(repeat intro rh);(repeat ((with_reducible apply And.intro);exact fE));(try apply_assumption -exfalso));refine sA ?_;refine ⟨fun g=>?_,fun g=>?_⟩
  ·have g':k < s.ah.length∧(s.ah.getD k default).ID < o.ID:=by simpa using g
   simp only [hw,push_cast,simprocAttr];refine a7 (k+1) ⟨by omega,fun j hj=>?_⟩;rcases lt_or_ge j k with h1|h1
   ·exact hy j h1
   ·have:j=k:=by omega
    subst this;exact g'.2
  ·have he:k < s.ah.length→¬(s.ah.getD k default).ID < o.ID:=by simpa using g
   have htk:(s.ah.take k).length≤1000000000:=by simp;omega
   have hdk:(s.ah.drop k).length≤1000000000:=by simp;omega
   have hins:=G1 hk hx hy he;rw [hins];have hrow:List.take ((s.ah.take k).length+1) (map af.c (s.ah.take k) ++ [o.c]) ++ map (cA af.c default (s.ah.drop k)) (range (s.ah.length - k))=(s.ah.take k ++ o :: s.ah.drop k).map af.c:=by
    rw [List.take_of_length_le (by simp),show s.ah.length - k=(s.ah.drop k).length by simp,show map (cA af.c default (s.ah.drop k)) (range (s.ah.drop k).length)=(s.ah.drop k).map af.c from zm af.c default _];simp
   have hrl:(s.ah.take k).length+1+(range (s.ah.length - k)).length=(s.ah.take k ++ o :: s.ah.drop k).length:=by simp;omega
   have hsz:(s.ah.take k ++ o :: s.ah.drop k).length≤1000000001:=by simp;omega
   (refine dW ab 7 [false,false,true,false] [0,1,2,4,7,8,9] bZ fun R hR=>?_;(try refine sB ⟨?_⟩);(repeat ((with_reducible apply And.intro);exact fE)));refine bT ab 3 5 ?_ ?_
   ·(intro rh;(repeat ((with_reducible apply And.intro);exact fE));refine dR ab [5,6,10,11,12,13] ?_;(repeat ((with_reducible apply And.intro);exact fE)));simp only [hrow,hrl];intro h1 h2;refine ⟨by omega,fun h3=>⟨by omega,?_⟩⟩;refine hR _ _ ?_;refine sA ?_;exact Lt.t2 (a6.st rfl rfl (by simp)) a6.int
   ·(intro rh;(repeat ((with_reducible apply And.intro);exact fE));refine dR ab [3,6,10,11,12,13] ?_;(repeat ((with_reducible apply And.intro);exact fE)));simp only [hrow,hrl];intro h1;refine ⟨by omega,fun h2=>⟨by omega,fun h3=>⟨by omega,?_⟩⟩⟩;refine hR _ _ ?_;refine sA ?_;exact Lt.t2 (a6.st rfl rfl (by simp)) a6.int
def nh (id:Int):List af→List af
 |[]=>[]
 |o :: r=>if (o.ID == id)=true then r else o :: nh id r
def dT (s:aG) (id:Int):aG×Bool:=({ah:=nh id s.ah},s.ah.any fun o=>o.ID == id)
def NM (x:aG×Bool):SV:= .bS [.agg x.1.c,.bool x.2]
attribute [push_cast] NM
theorem u3 {id:Int} {y:af}:∀{l:List af},y∈nh id l→y∈l
 |[],h=>h
 |o :: r,h=>by
  rw [nh] at h
  split at h
  ·exact List.mem_cons_of_mem _ h
  ·rcases List.mem_cons.1 h with h|h
   ·rw [h];exact List.mem_cons_self
   ·exact List.mem_cons_of_mem _ (u3 h)
theorem u4 (id:Int):∀l:List af,(nh id l).length≤l.length
 |[]=>le_refl _
 |o :: r=>by
  rw [nh]
  split
  ·simp
  ·have:=u4 id r;simp;omega
theorem sj (id:Int) (x:af):∀l:List af,nh id (l ++ [x])=if l.any (fun o=>o.ID == id)=true then nh id l ++ [x] else if (x.ID == id)=true then l else l ++ [x]
 |[]=>by simp [nh]
 |o :: r=>by
  rw [cons_append,nh,nh,List.any_cons,sj id x r];by_cases h:(o.ID == id)=true
  ·simp [h]
  ·have h':(o.ID == id)=false:=by simpa using h
   simp only [h',Bool.false_or,if_neg h,Bool.false_eq_true,if_false];by_cases h1:(r.any fun o=>o.ID == id)=true
   ·simp [h1]
   ·by_cases h2:(x.ID == id)=true
    ·simp [h1,h2]
    ·simp [h1,h2]
theorem sk {id:Int}:∀{l:List af},¬(l.any fun o=>o.ID == id)=true→nh id l=l
 |[],_=>rfl
 |o :: r,h=>by
  rw [List.any_cons,Bool.or_eq_true,not_or] at h;rw [nh,if_neg h.1,sk h.2]
def tY:SV:= .sl true 0 0 fun _=>[]
def E4:Env:={E with zr:=fun T=>if T=26 then [tY] else E.zr T}
theorem qy:cI prog E4:=⟨ab.ty,fun T h=>by
 simp only [E4] at h ⊢
 split
 ·rename_i e;subst e;kernel_rfl
 ·rename_i e;simp only [e,if_false] at h;exact ab.zr T h,ab.lv⟩
theorem Pq (T:Nat):E4.ty T=E.ty T:=rfl
theorem Pr:E4.kp=E.kp:=rfl
theorem Pp:E4.zr 26=[tY]:=rfl
theorem L0:E4.zr 76=E.zr 76:=rfl
attribute [push_cast] Pq Pr Pp L0
theorem iL (s:aG) (id:Int) (hs:s.ah.length≤1000000000):EC prog 203 [.agg s.c,.int .u64 id] [] fun r N=>N=[]∧r=NM (dT s id):=by
 refine EC.cQ ?_;(refine nK qy (ca 203) func203 ntmps203 results203 ?_);intro fr;intro fr1;refine eY 2 0 0 76 36 (by simp) rfl rfl rfl ?_;intro hh;simp only [List.set_cons_succ,List.set_cons_zero,length_cons,List.length_nil,cons_append,List.nil_append,Nat.zero_add,Nat.reduceAdd];refine eh qy [1,4,5,6,11,12] (fun x:Nat×Bool×List af×aN=>[(13,.int .i64 x.1),(7,.bool x.2.1)]) (fun B x=>cW (cP B 2 [[.row 3 x.2.2.2 36 0 x.2.2.1.length]]) 3 x.2.2.2 (x.2.2.1.map af.c)) (fun x=>x.1≤s.ah.length∧x.2.1=((s.ah.take x.1).any fun o=>o.ID == id)∧x.2.2.1=nh id (s.ah.take x.1)) (fun x=>s.ah.length - x.1) (0,false,[],hh) ⟨zero_le _,rfl,rfl⟩ ?_;rintro ⟨i,f,m,hr⟩ ⟨hi,hf,hm⟩;replace hi:i≤s.ah.length:=hi;replace hf:f=((s.ah.take i).any fun o=>o.ID == id):=hf;replace hm:m=nh id (s.ah.take i):=hm;have hml:m.length≤i:=by rw [hm];exact le_trans (u4 _ _) (by simp;omega)
 have hw:=wI i;simp only [hw,push_cast,simprocAttr];have hsc:i < s.ah.length→s.ah.take (i+1)=s.ah.take i ++ [s.ah.getD i default]:=fun hlt=>by
  rw [List.take_succ_eq_append_getElem hlt];simp [getD,hlt]
 refine ⟨fun h fr2=>⟨⟨by omega,h⟩,fun g=>?_,fun g fr3=>⟨by omega,?_⟩⟩,fun h=>?_⟩
 ·refine a7 (i+1,true,m,hr) ⟨by show i+1≤_;omega,?_,?_⟩
  ·show true=((s.ah.take (i+1)).any fun o=>o.ID == id);simp at g;rw [hsc (by omega),List.any_append];simp [g.1]
  ·show m=nh id (s.ah.take (i+1));simp only [Bool.and_eq_true,Bool.not_eq_true'] at g;rw [hsc (by omega),sj,if_neg (by rw [←hf,g.2];simp),if_pos g.1,hm];exact sk (by rw [←hf,g.2];simp)
 ·rw [show map af.c m ++ [(s.ah.getD i default).c]=map af.c (m ++ [s.ah.getD i default]) by simp];rw [show m.length+1=(m ++ [s.ah.getD i default]).length by simp];refine a7 (i+1,f,m ++ [s.ah.getD i default],fr3 4) ⟨by show i+1≤_;omega,?_,?_⟩
  ·show f=((s.ah.take (i+1)).any fun o=>o.ID == id);rw [hsc (by omega),List.any_append,←hf]
   cases f with
   |true=>rfl
   |false=>simpa using g
  ·show m ++ _=nh id (s.ah.take (i+1));rw [hsc (by omega),sj,hm];by_cases h1:((s.ah.take i).any fun o=>o.ID == id)=true
   ·rw [if_pos h1]
   ·have h2:f=false:=by rw [hf];simpa using h1
    rw [h2] at g;rw [if_neg h1,if_neg (by simpa using g),sk h1]
 ·have e:i=s.ah.length:=by simp at h;omega
  rw [e,List.take_length] at hm hf;exact Lt.t2 (a6.st rfl (by rw [hm]) (by rw [hm])) (a6.JN hf)
def ja (I D:Int→Prop) (s:aG):Prop:=∀o∈s.ah,cG I D o
theorem ja.mono {I J D:Int→Prop} {s:aG} (h:ja I D s) (hj:∀x,I x→J x):ja J D s:=fun o ho=>(h o ho).mono hj
theorem ja.get {I D:Int→Prop} {s:aG} {id:Int} (h:ja I D s) (h0:I 0):cG I D (cc s id).1:=(vB (s:=s) (id:=id)).elim (fun e=>by rw [e];exact fT h0) (fun hm=>h _ hm)
theorem ja.put {I D:Int→Prop} {s:aG} {o:af} (h:ja I D s) (ho:cG I D o):ja I D (cK s o).1:=by
 unfold cK
 split
 ·intro o ho;cases ho
 ·intro y hy;rcases vu hy with hy|rfl
  ·exact h y hy
  ·exact ho
theorem ja.rem {I D:Int→Prop} {s:aG} {id:Int} (h:ja I D s):ja I D (dT s id).1:=fun o ho=>h o (u3 ho)
theorem iG (s:aG) (o:af):(cK s o).1.ah.length≤s.ah.length+1:=by
 unfold cK
 split
 ·exact zero_le _
 ·exact G0 _ _
theorem A_ (s:aG) (id:Int):(dT s id).1.ah.length≤s.ah.length:=u4 _ _
end
section
attribute [local irreducible] EC EV
def oF (o:af) (a:a_):Int:=
 if (a.aU !=3)=true then 0 else if (a.Number == 3)=true then 1+((cC o.ae.aQ).length:Int)
 else if (a.Number == 7)=true then (if (a.eT.x1 == 1)=true then 2 else 1)
 else if (a.Number == 13 || a.Number == 17 || a.Number == 18 || a.Number == 23)=true then 1
 else if (a.Number == 16)=true then (if (decide (1≤a.eT.x1) && decide (a.eT.x1≤16))=true then a.eT.x1 else 0) else 0
def yw (o:af):a_:=(oA o.ae.d9 o.ae.Program).2
def iC (o:af):Int:=if (!gW o || o.ae.State !=1)=true then 0 else oF o (yw o)
theorem mK (l:List ay):(cC l).length≤16:=by
 unfold cC
 split
 ·simp
 ·rename_i h;have:=i_ (l:=l) (by simpa using h);rw [List.length_map];exact le_trans (List.length_filter_le ..) this
theorem y1 (o:af):0≤iC o∧iC o≤17:=by
 have:=mK o.ae.aQ;unfold iC oF
 repeat' split
 all_goals first|omega|(rename_i h;simp at h;omega)
theorem oX (o:af) (ho:cS o) (hp:nO o):EC prog 129 [.agg o.c] [] fun r N=>N=[]∧r= .int .i64 (iC o):=by
 refine EC.cQ ?_;refine nK ab (ca 129) func129 ntmps129 results129 ?_;(repeat' (first|refine eK ab ?_|refine EC.use (cH o ho hp) ?_|refine EC.use (jY _ _) ?_|refine EC.use (dp _ ho.1.2.2.2.1) ?_|refine zL ?_|(with_reducible intro _)|with_reducible apply And.intro))<;>(first|exact zA|(simp [iC,oF,yw, *];done)|(simp_all [iC,oF,yw];done)|skip)
 ·rw [bu (by have:=mK o.ae.aQ;omega)];simp only [iC,oF,yw, *,Bool.false_eq_true,if_false,if_true]
 ·simp only [iC,oF,yw, *,Bool.false_eq_true,if_false,if_true,Bool.or_self];rename_i h;exact (if_neg (fun e=>absurd (e.symm.trans h) (by decide))).symm
end
theorem mY {Q:a8→Prop} (hQ:∀n,Q n→m_ n) (l:List a8) (n:a8) (hl:l.length≤1000000) (hs:∀n∈l,Q n) (hn:Q n):EC prog 175 [bG 3 a8.c default l,.agg n.c] [] fun r N=>N=[]∧∃x:List a8,(x.length≤2*l.length+1∧∀n∈x,Q n)∧r=bG 3 a8.c default x:=by
 refine EC.G_ (nA ab (ca 175) func175 ntmps175 results175 ?_)
 repeat first|refine ai ?_|refine aw ab fun fr=>⟨?_⟩
 refine cw 5 198 3 rfl ?_;intro hh;simp only [length_cons,List.length_nil,cons_append,List.nil_append,Nat.zero_add];refine jx [0,3,8,9] (fun s:Nat×List a8×aN=>[(10,.int .i64 s.1),(5,.row 1 s.2.2 3 0 s.2.1.length)]) (fun B s=>cW B 1 s.2.2 (s.2.1.map a8.c)) (fun s=>s.1≤l.length∧s.2.1.length≤2*s.1∧∀n∈s.2.1,Q n) (fun s=>l.length - s.1) (0,[],hh) ⟨zero_le _,zero_le _,by simp⟩ ⟨rfl,rfl,trivial⟩ rfl ?_;rintro ⟨i,m,hr⟩ ⟨i1,i2,i3⟩;dsimp only at i1 i2 i3;refine sK ?_;have hm:m.length≤2000000:=by omega
 repeat first|refine ai ?_|refine aw ab fun fr=>⟨?_⟩
 (apply az;exact rfl;all_goals intro h)
 ·have hlt:i < l.length:=by simp at h;omega
  clear h
  repeat first|refine ai ?_|refine aw ab fun fr=>⟨?_⟩
  rcases Nat.eq_zero_or_pos m.length with hz|hpos
  ·rw [List.length_eq_zero_iff] at hz;subst hz;(refine dD ab [] [false,false,false] [0,1,2,3,4,5,6,7,8,9,10,11,12,13,14,15,16,17,18,19,20,21] bZ fun R hR=>?_;(repeat intro rh);(try refine sB ⟨?_⟩);(repeat ((with_reducible apply And.intro);exact fE));(repeat intro rh);(repeat ((with_reducible apply And.intro);exact fE));(try apply_assumption -exfalso));(repeat (refine ai ?_));(apply az;exact rfl;all_goals intro h)
   ·(repeat (refine aw ab fun fr=>⟨?_⟩));(try refine aw ab fun fr=>⟨?_⟩);(refine EC.use (da n (hQ _ hn)) ?_;(try simp only [hg]);refine gA ab fun fr=>⟨?_⟩);generalize fr 1=h1;(repeat (refine aw ab fun fr=>⟨?_⟩));(try refine aw ab fun fr=>⟨?_⟩);(refine EC.use (da _ (hQ _ (hs _ (bk hlt)))) ?_;(try simp only [hg]);refine gA ab fun fr=>⟨?_⟩);generalize fr 1=h2;(repeat (refine aw ab fun fr=>⟨?_⟩));((try refine sT ?_);first|refine ra ((i+1,[n,l.getD i default],h2)) ?_ ?_|refine q' ((i+1,[n,l.getD i default],h2)) ?_ ?_)
    ·refine ⟨hlt,by simp at i2 ⊢;omega,fun q hq=>?_⟩;simp at hq;rcases hq with rfl|rfl
     ·exact hn
     ·exact hs _ (pF hlt)
    ·dsimp only;omega
   ·clear h
    repeat first|refine ai ?_|refine aw ab fun fr=>⟨?_⟩
    (try refine aw ab fun fr=>⟨?_⟩);(refine EC.use (da _ (hQ _ (hs _ (bk hlt)))) ?_;(try simp only [hg]);refine gA ab fun fr=>⟨?_⟩);generalize fr 1=h2;(repeat (refine aw ab fun fr=>⟨?_⟩));((try refine sT ?_);first|refine ra ((i+1,[l.getD i default],h2)) ?_ ?_|refine q' ((i+1,[l.getD i default],h2)) ?_ ?_)
    ·refine ⟨hlt,by simp at i2 ⊢;omega,fun q hq=>?_⟩;simp at hq;subst hq;exact hs _ (pF hlt)
    ·dsimp only;omega
  ·have hne:((m.length:Int) == 0)=false:=by simp only [beq_eq_false_iff_ne,ne_eq];omega
   have e1:IntKind.i64.wrap ((m.length:Int) - 1)=(m.length:Int) - 1:=bu (by omega);have e2:((m.length:Int) - 1).toNat < m.length:=by omega
   (refine dD ab [] [false,false,false] [0,1,2,3,4,5,6,7,8,9,10,11,12,13,14,15,16,17,18,19,20,21] bZ fun R hR=>?_;(repeat intro rh);(try refine sB ⟨?_⟩);(repeat ((with_reducible apply And.intro);exact fE));(repeat intro rh);(repeat ((with_reducible apply And.intro);exact fE));(try apply_assumption -exfalso));simp only [hne,pG e2];refine sA ?_;(try refine ⟨fun hb=>⟨hb,by omega,by omega⟩,fun hb=>⟨hb,e2⟩,?_⟩);((try refine sT ?_));(repeat (done));(apply az;exact rfl;all_goals intro h)
   ·(repeat (refine aw ab fun fr=>⟨?_⟩));(try refine aw ab fun fr=>⟨?_⟩);(refine EC.use (da n (hQ _ hn)) ?_;(try simp only [hg]);refine gA ab fun fr=>⟨?_⟩);generalize fr 1=h1;obtain ⟨m1,e3⟩:∃m1,m ++ [n]=m1:=⟨_,rfl⟩;have e4:m.length+1=m1.length:=by rw [←e3];simp
    have e5:map a8.c m ++ [n.c]=map a8.c m1:=by rw [←e3];simp
    simp only [e4,e5];have hm1:m1.length≤2000001:=by omega
    (repeat (refine aw ab fun fr=>⟨?_⟩));(try refine aw ab fun fr=>⟨?_⟩);(refine EC.use (da _ (hQ _ (hs _ (bk hlt)))) ?_;(try simp only [hg]);refine gA ab fun fr=>⟨?_⟩);generalize fr 1=h2;(repeat (refine aw ab fun fr=>⟨?_⟩));((try refine sT ?_);first|refine ra ((i+1,m1 ++ [l.getD i default],h2)) ?_ ?_|refine q' ((i+1,m1 ++ [l.getD i default],h2)) ?_ ?_)
    ·refine ⟨hlt,by simp at i2 ⊢;omega,fun q hq=>?_⟩;simp [←e3] at hq;rcases hq with hq|rfl|rfl
     ·exact i3 q hq
     ·exact hn
     ·exact hs _ (pF hlt)
    ·dsimp only;omega
   ·clear h
    repeat first|refine ai ?_|refine aw ab fun fr=>⟨?_⟩
    (try refine aw ab fun fr=>⟨?_⟩);(refine EC.use (da _ (hQ _ (hs _ (bk hlt)))) ?_;(try simp only [hg]);refine gA ab fun fr=>⟨?_⟩);generalize fr 1=h2;(repeat (refine aw ab fun fr=>⟨?_⟩));((try refine sT ?_);first|refine ra ((i+1,m ++ [l.getD i default],h2)) ?_ ?_|refine q' ((i+1,m ++ [l.getD i default],h2)) ?_ ?_)
    ·refine ⟨hlt,by simp at i2 ⊢;omega,fun q hq=>?_⟩;simp at hq;rcases hq with hq|rfl
     ·exact i3 q hq
     ·exact hs _ (pF hlt)
    ·dsimp only;omega
 ·repeat first|refine ai ?_|refine aw ab fun fr=>⟨?_⟩
  have hil:i=l.length:=by simp at h;omega
  clear h;(apply az;exact rfl;all_goals intro h)
  ·(repeat (refine aw ab fun fr=>⟨?_⟩));(try refine aw ab fun fr=>⟨?_⟩);(refine EC.use (da n (hQ _ hn)) ?_;(try simp only [hg]);refine gA ab fun fr=>⟨?_⟩);generalize fr 1=h1
   repeat first|refine ai ?_|refine aw ab fun fr=>⟨?_⟩
   (try refine sC ?_);refine ⟨(mT (cells:=a8.c) (d:=default) (l:=m ++ [n]) rfl (by simp) (by simp)).1,m ++ [n],⟨by simp;omega,fun q hq=>?_⟩,(mT (cells:=a8.c) (d:=default) (l:=m ++ [n]) rfl (by simp) (by simp)).2⟩;simp at hq;rcases hq with hq|rfl
   ·exact i3 q hq
   ·exact hn
  ·repeat first|refine ai ?_|refine aw ab fun fr=>⟨?_⟩
   (try refine sC ?_);exact ⟨(mT (cells:=a8.c) (d:=default) (l:=m) rfl rfl rfl).1,m,⟨by omega,i3⟩,(mT (cells:=a8.c) (d:=default) (l:=m) rfl rfl rfl).2⟩
section
attribute [local irreducible] EC EV
theorem a6.Ce {B:List aI} {x y:a8} (h:x=y):a6 B (.agg x.c) (.agg y.c):=by subst h;exact a6.agg (eU.obj (cs:=x.c) (fun s B=>by rw [a8.fk]) (fun s B=>by rw [a8.fz]))
theorem d_.Oe {m:Nat} {B:List aI} {o:a8} {r r':List SV} (hr:d_ m B r r'):d_ m B (.agg o.c :: r) (.agg o.c :: r'):=by
 refine .cons ?_ ?_ hr
 ·simp only [dE,fw];rw [a8.fk];trivial
 ·simp only [fu,iT];rw [a8.fz];exact bq.refl _
theorem iM (o:af) (ho:cS o):EC prog 172 [.agg o.c] [] fun r N=>N=[]∧∃b:Bool,(b=true→o.cN.length≤256∧o.aU=10)∧r= .bool b:=by
 by_cases hl:o.cN.length≤256∧o.aU=10
 ·exact (lL o ho.2.2.2.2.2.2.1 ho.2.2.2.2.2.2.2).mono fun r N ⟨h1,b,_,h2⟩=>⟨h1,b,fun _=>hl,h2⟩
 ·refine EC.bh ?_;refine nK ab (ca 172) func172 ntmps172 results172 ?_;intro fr;refine ⟨fun h=>⟨false,by simp,Lt.bool rfl⟩,fun h=>?_⟩;exfalso;simp at h;exact hl ⟨by omega,h.1.1⟩
theorem jo (o:af) (s:List UInt8) (ho:cS o):EC prog 174 [.agg o.c,.str s] [] fun r N=>N=[]∧∃x:a8×Bool,(x.2=true→x.1∈o.cN)∧r= .bS [.agg x.1.c,.bool x.2]:=by
 refine EC.bh ?_;refine nK ab (ca 174) func174 ntmps174 results174 ?_;intro fr;(refine EC.aM (iM o ho) ?_;rintro b -;refine eK ab ?_);refine ⟨fun h=>⟨(default,false),by simp,Lt.t2 (a6.Ce rfl) a6.bool⟩,fun h=>?_⟩;have hl:=ho.2.2.2.2.2.2.1;refine eh ab [1,4,5,13,14] (fun i:Nat=>[(15,.int .i64 i)]) (fun B _=>B) (fun i=>i≤o.cN.length) (fun i=>o.cN.length - i) 0 (zero_le _) ?_;rintro i hi;replace hi:i≤o.cN.length:=hi;have hw:=wI i;simp only [hw,push_cast,simprocAttr];refine ⟨fun h fr2=>⟨⟨by omega,h⟩,fun g=>?_,fun g=>a7 (i+1) (by show i+1≤_;omega)⟩,fun h=>⟨(default,false),by simp,Lt.t2 (a6.Ce rfl) a6.bool⟩⟩;have hlt:i < o.cN.length:=by omega
 have hm:o.cN.getD i default∈o.cN:=bk hlt;(refine EC.use (da _ (ho.2.2.2.2.2.2.2 _ hm)) ?_;refine eK ab ?_);exact ⟨(o.cN.getD i default,true),fun _=>hm,Lt.t2 (a6.Ce rfl) a6.bool⟩
def EP (I:Int→Prop) (n:a8):Prop:=m_ n∧1≤n.kN.length∧∀i∈n.kN,I i
theorem cG.names {I D:Int→Prop} {o:af} (h:cG I D o) {n:a8} (hn:n∈o.cN):EP I n:=⟨h.sm.2.2.2.2.2.2.2 n hn,h.nm n hn,h.kn.2.2.2 n hn⟩
theorem sD {I D:Int→Prop} {o:af} {l:List a8} (h:cG I D o) (hk:o.aU≠1) (hl:l.length≤1000000) (hn:∀n∈l,EP I n):cG I D {o with cN:=l}:=
 ⟨⟨h.sm.1,h.sm.2.1,h.sm.2.2.1,h.sm.2.2.2.1,h.sm.2.2.2.2.1,h.sm.2.2.2.2.2.1,hl,fun n hm=>(hn n hm).1⟩,h.pd,fun e=>absurd e hk,⟨h.kn.1,h.kn.2.1,h.kn.2.2.1,fun n hm=>(hn n hm).2.2⟩,fun n hm=>(hn n hm).2.1,fun e=>absurd e hk⟩
theorem yb {I D:Int→Prop} (o:af) (n:a8) (ho:cG I D o) (h0:I 0) (hn:EP I n):EC prog 115 [.agg o.c,.agg n.c] [] fun r N=>N=[]∧∃x:af×Int,(cG I D x.1∧x.1.aU≠1)∧r= .bS [.agg x.1.c,.int .i64 x.2]:=by
 refine EC.bh ?_;refine nK ab (ca 115) func115 ntmps115 results115 ?_;(repeat' (first|with_reducible (first|rintro rfl|intro _|apply And.intro)|refine eK ab ?_|(refine EC.aM (iM o ho.sm) ?_;rintro _ _)|(refine EC.aM (oZ n hn.1) ?_;rintro _ _)|(refine EC.aM (jo o n.Path ho.sm) ?_;rintro ⟨_,_⟩ _)|(refine EC.aM (mY (Q:=EP I) (fun n h=>h.1) o.cN n ho.sm.2.2.2.2.2.2.1 (fun n h=>ho.names h) hn) ?_;rintro _ _)|fail))<;>(first|(exact ⟨(_,_),⟨fT h0,by decide⟩,Lt.t2 (a6.tf rfl) (a6.jC rfl)⟩)|skip);rename_i hx1 _ _ _ _ _ _ _ x hx;exact ⟨({o with cN:=x},0),⟨sD ho (by have:=(hx1 rfl).2;omega) (by have:=(hx1 rfl).1;have:=hx.1;omega) hx.2,by show o.aU≠1;have:=(hx1 rfl).2;omega⟩,Lt.t2 (a6.tf rfl) (a6.jC rfl)⟩
theorem sY {I D:Int→Prop} (o:af) (a b:List UInt8) (ho:cG I D o) (h0:I 0) (ha:a.length≤1000000) (hb:b.length≤1000000):EC prog 322 [.agg o.c,.str a,.str b] [] fun r N=>N=[]∧∃x:af×Int,cG I D x.1∧r= .bS [.agg x.1.c,.int .i64 x.2]:=by
 refine EC.bh ?_;refine nK ab (ca 322) func322 ntmps322 results322 ?_;(repeat' (first|with_reducible (first|rintro rfl|intro _|apply And.intro)|refine eK ab ?_|(refine EC.aM (iM o ho.sm) ?_;rintro _ _)|(refine EC.aM (gQ b hb) ?_;rintro _ _)|(refine EC.aM (jo o a ho.sm) ?_;rintro ⟨_,_⟩ _)|(refine EC.aM (jo o b ho.sm) ?_;rintro ⟨_,_⟩ _)|fail))<;>(first|(exact ⟨(_,_),fT h0,Lt.t2 (a6.tf rfl) (a6.jC rfl)⟩)|skip);rename_i fr1 v hv g1 n d hn fr2 g2 p hp g3 x0 hx0 fr3;have hd:d=true:=by simpa using g2
 have hvt:v=true:=by simpa using g1
 have hnk:EP I n:=ho.names (hn hd);have hl:=ho.sm.2.2.2.2.2.2.1;refine cw 12 198 3 rfl ?_;intro hh;refine eh ab [1,2,3,6,7,8,41,42] (fun x:Nat×List a8×aN=>[(43,.int .i64 x.1),(12,.row 4 x.2.2 3 0 x.2.1.length)]) (fun B x=>cW B 4 x.2.2 (x.2.1.map a8.c)) (fun x=>x.1≤o.cN.length∧x.2.1.length≤x.1∧∀y∈x.2.1,y∈o.cN) (fun x=>o.cN.length - x.1) (0,[],hh) ⟨zero_le _,le_refl _,by simp⟩ ?_;rintro ⟨i,m,hr⟩ ⟨hi,hm,hmem⟩;replace hi:i≤o.cN.length:=hi;replace hm:m.length≤i:=hm;replace hmem:∀y∈m,y∈o.cN:=hmem;have hw:=wI i;simp only [hw,push_cast,simprocAttr];refine ⟨fun h fr4=>⟨⟨by omega,h⟩,fun g fr5=>⟨by omega,?_⟩,fun g=>a7 (i+1,m,hr) ⟨by show i+1≤_;omega,by show m.length≤i+1;omega,hmem⟩⟩,fun h=>?_⟩
 ·have hlt:i < o.cN.length:=by omega
  rw [show map a8.c m ++ [(o.cN.getD i default).c]=map a8.c (m ++ [o.cN.getD i default]) by simp,show m.length+1=(m ++ [o.cN.getD i default]).length by simp];refine a7 (i+1,m ++ [o.cN.getD i default],fr5 3) ⟨by show i+1≤_;omega,by show (m ++ [_]).length≤_;simp;omega,?_⟩;show ∀y∈m ++ [o.cN.getD i default],y∈o.cN;intro y hy;rcases List.mem_append.1 hy with hy|hy
  ·exact hmem y hy
  ·rw [List.mem_singleton.1 hy];exact bk hlt
 ·have hnk':EP I {Path:=b,aU:=n.aU,kN:=n.kN}:=⟨⟨hnk.1.1,hb⟩,hnk.2⟩;refine EC.mu 4 (d_.mi (i:=4) (cells:=a8.c) (d:=default) (l:=m) (le_refl _) rfl rfl rfl (d_.Oe .nil)) ?_;simp only [take_succ_cons,take_zero];(refine EC.aM (mY (Q:=EP I) (fun n h=>h.1) m {Path:=b,aU:=n.aU,kN:=n.kN} (by omega) (fun n h=>ho.names (hmem n h)) hnk') ?_;rintro x ⟨hx1,hx2⟩;refine eK ab ?_);have hv2:=hv hvt;refine ⟨({o with cN:=x},0),sD ho (by omega) (by omega) hx2,Lt.t2 (a6.tf rfl) (a6.jC rfl)⟩
end
section
def DX (B:List aI) (r R:SV) (o:aI):Prop:=Lk 1 B r R∧B.take 1=[o]
theorem DX.mk {B:List aI} {r R:SV} {o:aI} (h:Lk 1 B r R) (hb:B.take 1=[o]):DX B r R o:=⟨h,hb⟩
section
variable {P:Program} {E:Env} {n:Nat} {k:Kn} {t:aV} {B:List aI} {all rest:List Oper}
theorem EC.CX {f:Nat} {args:List SV} {B0:List aI} {R:SV} {hh:aN} {E e:Nat} {xs:List (List SV)}
  (h:EC P f args B0 fun r B'=>DX B' r R (.row hh E e xs)):EC P f args B0 fun r N=>r=R∧N=[.row hh E e xs]:=by
 have:=EC.cM (C:=fun _:Unit=>True) (R:=fun _=>R) (X:=fun _=>xs) (hh:=hh) (E:=E) (e:=e) (h.mono fun r B' h=>⟨(),trivial,h⟩);exact this.mono fun r N ⟨_,_,h1,h2⟩=>⟨h1,h2⟩
def Sg (B:List aI) (r R:SV) (hh:aN) (E e:Nat) (ys:List (List SV)):Prop:=Lk 1 B r R∧∃xs,au B 0= .row hh E e xs∧FR B xs ys
theorem EC.OB {f:Nat} {args:List SV} {B0:List aI} {R:SV} {hh:aN} {E e:Nat} {ys:List (List SV)} (h:EC P f args B0 fun r B'=>Sg B' r R hh E e ys):EC P f args B0 fun r N=>r=R∧N=[.row hh E e ys]:=by
 have h2:EC P f args B0 fun r N=>bq r R∧N=[.row hh E e ys]:=EC.LC (h.mono fun r B' ⟨h1,xs,h2,h3⟩=>⟨h1.1,hh,E,e,xs,ys,h2,h3,h1.2,rfl⟩);exact EC.ret (h2.mono fun r N ⟨h1,h2⟩=>⟨R,h1,rfl,h2⟩)
end
theorem FR.put {α:Type} {B:List aI} {i E e n o:Nat} {h:aN} {xs:List (List SV)} {cells:α→List SV} {d:α} {l:List α} {cs ds:List SV} (hm:1≤i) (hB:au B i= .row h E e xs) (hx:xs=l.map cells) (hn:n=l.length)
  (hfk:∀sel B,bC sel B cs) (hfz:∀sel B,ew sel B cs=cs) (h2:(aJ cs o [.row i h e 0 n]).length≠2) (he:aJ cs o [bG e cells d l]=ds):FR B [aJ cs o [.row i h e 0 n]] [ds]:=by
 subst hx hn;have hsel:bc 1 i=true:=by simpa [bc] using hm
 refine FR.one h2 (lj _ _ _ _ _ (hfk _ _) ⟨by simp only [cf,hsel,hB];exact ⟨trivial,trivial,by simp⟩,trivial⟩) ?_;rw [mS,hfz];refine eD.put (eD.refl _) o ?_ he;simp only [gl,hsel,hB];exact bq.sl (fun h=>h) (.inr rfl) fun k hk=>by simp [getD,hk,cA]
attribute [local irreducible] EC EV
abbrev b7 (h:aN) (m:aF):aI:= .row h 307 41 [m.c]
theorem dH (h:aN) (m:aF) (id:Int) (hl:m.s.ah.length≤1000000000):EC prog 254 [.bx 0 h 41 0 0,.int .u64 id] [b7 h m] fun r N=>r= .agg (cc m.s id).1.c∧N=[b7 h m]:=by
 refine EC.CX ?_;refine nK ab (ca 254) func254 ntmps254 results254 ?_;(repeat' (first|with_reducible intro _|refine eK ab ?_|refine EC.use (cL m.s id hl) ?_|fail))<;>((exact DX.mk (Lk.tf rfl) rfl))
def dX (m:aF) (o:af):aF:={m with s:=(cK m.s o).1}
theorem cJ (h:aN) (m:aF) (o:af) (hl:m.s.ah.length≤1000000000):EC prog 197 [.bx 0 h 41 0 0,.agg o.c] [b7 h m] fun r N=>r= .bS []∧N=[b7 h (dX m o)]:=by
 refine EC.CX ?_;refine nK ab (ca 197) func197 ntmps197 results197 ?_;(repeat' (first|with_reducible intro _|refine EC.use (ee m.s o hl) ?_|refine dM ab 9 [0,1,2,3,4,5,6,7,8,9,10,11,12,13] [0,1,2,3] bZ fun R hR=>?_|refine bT ab 4 5 ?_ ?_|refine dC ab 5 ?_|refine dC ab 4 ?_|refine dR ab [6,7,8,9,10,11,12] ?_|refine dR ab [7,8,9,10,11,12] ?_|(refine hR _ _ ?_;refine sA ?_)|fail))<;>((exact DX.mk Lk.t0 rfl))
def kT (m:aF) (o:af) (gone:Bool) (id:Int):aF:=if gone=true then {m with s:=(dT m.s id).1} else dX m o
theorem qM (h:aN) (m:aF) (o:af) (gone:Bool) (id:Int) (hl:m.s.ah.length≤1000000000):EC prog 255 [.bx 0 h 41 0 0,.agg o.c,.bool gone,.int .u64 id] [b7 h m] fun r N=>r= .bS []∧N=[b7 h (kT m o gone id)]:=by
 refine EC.CX ?_;refine nK ab (ca 255) func255 ntmps255 results255 ?_;(repeat' (first|with_reducible (first|rintro rfl|intro _|apply And.intro)|refine eK ab ?_|refine EC.use (iL m.s id hl) ?_|refine aX 0 (cJ h m o hl) rfl ?_|fail))<;>((exact DX.mk Lk.t0 rfl))
def cU (m:aF):aF:={m with out:={m.out with Used:=m.out.Used+1}}
theorem gm (h:aN) (m:aF) (hu:0≤m.out.Used∧m.out.Used < m.fresh.length) (hf:m.fresh.length≤1000000):EC prog 268 [.bx 0 h 41 0 0] [b7 h m] fun r N=>r= .int .u64 (m.fresh.getD m.out.Used.toNat default)∧N=[b7 h (cU m)]:=by
 refine EC.CX ?_;have hw:IntKind.i64.wrap (m.out.Used+1)=m.out.Used+1:=bu (by omega);refine nK ab (ca 268) func268 ntmps268 results268 ?_;(repeat' (first|with_reducible apply And.intro|refine dN ab [] [] [0,1,2,3,4,5,6,7,8,9,10,11] bZ fun R hR=>?_|(refine hR _ _ ?_;refine sA ?_)|fail))<;>(first|omega|(exact DX.mk (Lk.int rfl) (by rw [hw];rfl)))
def ko (m:aF) (s:aK):aF:=if (hH s == 0)=true then m else if ((g_ (cc m.s (hH s)).1 s).2.2 == 0)=true then kT m (g_ (cc m.s (hH s)).1 s).1 (g_ (cc m.s (hH s)).1 s).2.1 (hH s) else m
theorem vP (h:aN) (m:aF) (s:aK) (hl:m.s.ah.length≤1000000000):EC prog 256 [.bx 0 h 41 0 0,.agg s.c] [b7 h m] fun r N=>r= .bS []∧N=[b7 h (ko m s)]:=by
 refine EC.CX ?_;refine nK ab (ca 256) func256 ntmps256 results256 ?_;(repeat' (first|with_reducible (first|intro _|apply And.intro)|refine eK ab ?_|refine EC.use (gG s) ?_|refine aX 0 (dH h m _ hl) rfl ?_|refine EC.use (x_ _ s) ?_|refine aX 0 (qM h m _ _ _ hl) rfl ?_|refine dM ab 10 [0] [0,1,3] bZ fun R hR=>?_|refine bT ab 2 9 ?_ ?_|refine bT ab 4 9 ?_ ?_|refine dR ab [2,4,5,6,7,8,10,11,12] ?_|refine dR ab [4,5,6,7,8,10,11,12] ?_|refine dR ab [5,6,7,8,10,11,12] ?_|refine dR ab [5,6,7,8,9,10,11,12] ?_|(refine hR _ _ ?_;refine sA ?_)|fail))<;>((exact DX.mk Lk.t0 (by simp [ko, *])))
def jG (m:aF) (s:aK):aF:=if (hH s == 0)=true then m else if ((dL (cc m.s (hH s)).1 s 1).2 == 0)=true then dX m (dL (cc m.s (hH s)).1 s 1).1 else m
theorem vN (h:aN) (m:aF) (s:aK) (hl:m.s.ah.length≤1000000000):EC prog 310 [.bx 0 h 41 0 0,.agg s.c] [b7 h m] fun r N=>∃x:Int×aF,x.2=jG m s∧r= .int .i64 x.1∧N=[b7 h x.2]:=by
 refine EC.cM ?_;refine nK ab (ca 310) func310 ntmps310 results310 ?_;(repeat' (first|with_reducible (first|intro _|apply And.intro)|refine eK ab ?_|refine EC.use (gG s) ?_|refine aX 0 (dH h m _ hl) rfl ?_|refine EC.use (x9 _ s) ?_|refine aX 0 (cJ h m _ hl) rfl ?_|refine dM ab 8 [0] [0,1,3] bZ fun R hR=>?_|refine bT ab 2 8 ?_ ?_|refine bT ab 4 8 ?_ ?_|refine dR ab [2,4,5,6,7,9,10] ?_|refine dR ab [4,5,6,7,9,10] ?_|refine dR ab [5,6,7,9,10] ?_|refine dR ab [5,6,7,8,9,10] ?_|(refine hR _ _ ?_;refine sA ?_)|fail))<;>((exact ⟨(_,_),by simp [jG,dX, *];done,Lk.int rfl,rfl⟩))
def Nn (x:List UInt8×Int):SV:= .bS [.str x.1,.int .i64 x.2]
attribute [push_cast] Nn
def j6 (m:aF) (n:Int):List UInt8×Int:=if (decide (n < 0) || decide ((m.o.ae.Program.Strings.length:Int)≤n))=true then ([],2) else (m.o.ae.Program.Strings.getD n.toNat default,0)
theorem nE (h:aN) (m:aF) (n:Int) (hl:m.o.ae.Program.Strings.length≤1000000):EC prog 313 [.bx 0 h 41 0 0,.int .i64 n] [b7 h m] fun r N=>r=Nn (j6 m n)∧N=[b7 h m]:=by
 refine EC.CX ?_;have hw:IntKind.i64.wrap (m.o.ae.Program.Strings.length:Int)=m.o.ae.Program.Strings.length:=bu (by omega);refine nK ab (ca 313) func313 ntmps313 results313 ?_;(repeat' (with_reducible (first|intro _|apply And.intro)))
 ·rename_i g;exact DX.mk (Lk.t2 (bE.str (by rw [j6,if_pos g])) (bE.int (by rw [j6,if_pos g]))) rfl
 ·rename_i g;simp at g;omega
 ·rename_i g;simp at g;omega
 ·rename_i g;have g':¬(decide (n < 0) || decide ((m.o.ae.Program.Strings.length:Int)≤n))=true:=by rw [g];simp
  exact DX.mk (Lk.t2 (bE.str (by rw [j6,if_neg g'])) (bE.int (by rw [j6,if_neg g']))) rfl
theorem BR {I D:Int→Prop} (h:aN) (m:aF) (path:List UInt8) (hs:ja I D m.s) (h0:I 0) (hl:m.s.ah.length≤1000000000):EC prog 314 [.bx 0 h 41 0 0,.str path] [b7 h m] fun r N=>∃x:(a8×Bool)×aF,((x.1.2=true→EP I x.1.1)∧x.2=m)∧r= .bS [.agg x.1.1.c,.bool x.1.2]∧N=[b7 h x.2]:=by
 refine EC.cM ?_;refine nK ab (ca 314) func314 ntmps314 results314 ?_;(repeat' (first|with_reducible intro _|refine eK ab ?_|refine aX 0 (dH h m _ hl) rfl ?_|(refine EC.aM (jo _ path (hs.get h0).sm) ?_;rintro ⟨_,_⟩ _)|fail));rename_i fr n b hb;exact ⟨((n,b),m),⟨fun e=>(hs.get h0).names (hb e),rfl⟩,Lk.t2 (bE.Ce rfl) (bE.bool rfl),rfl⟩
theorem nF {I D:Int→Prop} (h:aN) (m:aF) (path:List UInt8) (kind:Int) (ids:List Int) (hs:ja I D m.s) (h0:I 0) (hl:m.s.ah.length≤1000000000) (hp:path.length≤1000000) (hi:1≤ids.length∧ids.length≤1000000) (hk:∀i∈ids,I i):EC prog 315 [.bx 0 h 41 0 0,.str path,.int .i64 kind,bG 1 (aS .u64) default ids] [b7 h m] fun r N=>∃x:Int×aF,(x.2=m∨∃o,cG I D o∧o.aU≠1∧x.2=dX m o)∧r= .int .i64 x.1∧N=[b7 h x.2]:=by
 refine EC.cM ?_;refine nK ab (ca 315) func315 ntmps315 results315 ?_;(repeat' (first|with_reducible (first|intro _|apply And.intro)|refine eK ab ?_|refine aX 0 (dH h m _ hl) rfl ?_|(refine EC.aM (yb _ _ (hs.get h0) h0 ⟨⟨hi.2,hp⟩,hi.1,hk⟩) ?_;rintro ⟨_,_⟩ _)|refine aX 0 (cJ h m _ hl) rfl ?_|fail))
 ·rename_i o e ho fr g;exact ⟨(e,dX m o),.inr ⟨o,ho.1,ho.2,rfl⟩,Lk.int rfl,rfl⟩
 ·exact ⟨(_,m),.inl rfl,Lk.int rfl,rfl⟩
theorem C3 (h:aN) (m:aF) (s:aK) (hl:m.o.ae.aH.length≤1000000):EC prog 269 [.bx 0 h 41 0 0,.agg s.c] [b7 h m] fun r N=>∃x:Int×aF,x.2={m with o:={m.o with ae:={m.o.ae with aH:=(jD m.o.ae.aH s).1}}}∧r= .int .i64 x.1∧N=[b7 h x.2]:=by
 refine EC.cM ?_;refine nK ab (ca 269) func269 ntmps269 results269 ?_;(repeat' (first|with_reducible intro _|refine EC.use (Ak _ s hl) ?_|refine dN ab [] [] [0,1,2,3,4,5,6,7,8,9,10,11,12,13,14] bZ fun R hR=>?_|refine dR ab [8,9,10,11,12,13,14] ?_|(refine hR _ _ ?_;refine sA ?_)|fail))<;>((exact ⟨(_,_),rfl,Lk.int rfl,rfl⟩))
theorem rF (h:aN) (m:aF) (y:af) (e:Int) (hl:m.s.ah.length≤1000000000):EC prog 326 [.bx 0 h 41 0 0,.agg y.c,.int .i64 e] [b7 h m] fun r N=>r= .bS [.int .i64 0,.int .i64 e]∧N=[b7 h (if e=0 then dX m y else m)]:=by
 refine EC.CX ?_;refine nK ab (ca 326) func326 ntmps326 results326 ?_;(repeat' (first|with_reducible (first|intro _|apply And.intro)|refine eK ab ?_|refine aX 0 (cJ h m y hl) rfl ?_|fail))<;>((exact DX.mk (Lk.t2 (bE.int rfl) (bE.int rfl)) (by simp_all;done)))
theorem C4 (h:aN) (m:aF) (n:Int) (hl:m.o.ae.aH.length≤1000000):EC prog 266 [.bx 0 h 41 0 0,.int .i64 n] [b7 h m] fun r N=>∃x:Bool×aF,x.2=m∧r= .bool x.1∧N=[b7 h x.2]:=by
 refine EC.cM ?_;refine nK ab (ca 266) func266 ntmps266 results266 ?_;(repeat' (done));refine eh ab [0,1,4,18,19] (fun x:Nat×Int=>[(20,.int .i64 x.1),(6,.int .i64 x.2)]) (fun B _=>B) (fun x=>x.1≤m.o.ae.aH.length) (fun x=>m.o.ae.aH.length - x.1) (0,_) (zero_le _) ?_;rintro ⟨i,f⟩ hi;replace hi:i≤m.o.ae.aH.length:=hi;have hw:=wI i;simp only [hw,push_cast,simprocAttr];refine ⟨fun h fr=>⟨⟨by omega,h⟩,fun g=>a7 (i+1,_) (by show i+1≤_;omega),fun g=>a7 (i+1,f) (by show i+1≤_;omega)⟩,fun h=>⟨(_,m),rfl,Lk.bool rfl,rfl⟩⟩
theorem Fq (h:aN) (m:aF) (n:Int) (s:aK) (hl:m.o.ae.aH.length≤1000000) (hn:0≤n∧n < m.o.ae.aH.length):EC prog 331 [.bx 0 h 41 0 0,.int .i64 n,.agg s.c] [b7 h m] fun r N=>r= .bS []∧N=[b7 h {m with o:={m.o with ae:={m.o.ae with aH:=m.o.ae.aH.set n.toNat s}}}]:=by
 refine EC.OB ?_;refine nK ab (ca 331) func331 ntmps331 results331 ?_;have hnl:n.toNat < m.o.ae.aH.length:=by omega
 (repeat' (with_reducible (first|intro _|apply And.intro)))<;>(first|omega|skip);have hq:(map aK.c m.o.ae.aH).set n.toNat (aJ ((map aK.c m.o.ae.aH).getD n.toNat []) 0 s.c)=(m.o.ae.aH.set n.toNat s).map aK.c:=by
  rw [map_set,show (map aK.c m.o.ae.aH).getD n.toNat []=aK.c m.o.ae.aH[n.toNat] by simp [getD,hnl],aK.q]
 exact ⟨Lk.t0,_,rfl,FR.put (i:=2) (by decide) rfl hq (by simp) (fun sel B=>by rw [aF.fk];trivial) (fun sel B=>aF.fz sel B m) (by show 41≠2;decide) rfl⟩
end
theorem ez {I D:Int→Prop} {o p:af} (h:cG I D o) (hk:p.aU≠1) (hid:I p.ID) (hp:p.ae=o.ae) (hw:p.fF.length≤1000000) (hd:p.Data.length≤1000000) (hb:p.bI.length≤1000000) (h0:p.bj.x0.length≤1000000) (h1:p.bj.x1.length≤1000000) (hn:p.cN=o.cN):cG I D p:=
 ⟨⟨by rw [hp];exact h.sm.1,hw,hd,hb,h0,h1,by rw [hn];exact h.sm.2.2.2.2.2.2⟩,by unfold nO;rw [hp];exact h.pd,fun e=>absurd e hk,⟨hid,by rw [hp];exact h.kn.2.1,by rw [hp];exact h.kn.2.2.1,by rw [hn];exact h.kn.2.2.2⟩,by rw [hn];exact h.nm,fun e=>absurd e hk⟩
theorem kV {I D:Int→Prop} {p:af} (h0:I 0) (hk:p.aU≠1) (hid:I p.ID) (hp:p.ae=default) (hw:p.fF.length≤1000000) (hd:p.Data=[]) (hb:p.bI=[]) (hq:p.bj=default) (hn:p.cN=[]):cG I D p:=
 ez (fT h0) hk hid hp hw (by rw [hd];exact zero_le _) (by rw [hb];exact zero_le _) (by rw [hq];exact zero_le _) (by rw [hq];exact zero_le _) hn
section
variable {I D:Int→Prop} {o:af}
theorem EL {s:aK} {n:Int} (h:cG I D o) (hk:o.aU≠1):cG I D (mL o s n):=by
 unfold mL
 repeat' split
 all_goals exact ez h hk h.kn.1 rfl h.sm.2.1 h.sm.2.2.1 h.sm.2.2.2.1 h.sm.2.2.2.2.1 h.sm.2.2.2.2.2.1 rfl
theorem ve {s:aK} {b:Int} (h:cG I D o) (h2:(dL o s b).2=0):cG I D (dL o s b).1:=by
 unfold dL at h2 ⊢
 split
 ·rename_i g;rw [if_pos g] at h2;simp at g h2;exact absurd h2 g
 rename_i g;rw [if_neg g] at h2;have hk:o.aU≠1:=by
  have g':fV o s=0:=by simpa using g
  unfold fV at g'
  split at g'
  ·simp at g'
  ·split at g'
   ·simp at g'
   ·rename_i g2;simp at g2;rw [g2.2];unfold qB
    repeat' split
    all_goals decide
 split
 ·rename_i g2;rw [if_pos g2] at h2;simp at h2
 rename_i g2;rw [if_neg g2] at h2
 split
 ·rename_i g3;rw [if_pos g3] at h2;simp at h2
 exact EL h hk
theorem GJ {s:aK} (h:cG I D o) (h2:(g_ o s).2.2=0):cG I D (g_ o s).1:=by
 unfold g_ at h2 ⊢
 split
 ·rename_i g;rw [if_pos g] at h2;simp at g h2;exact absurd h2 g
 ·rename_i g;exact ve h (by simpa using g)
theorem Bl {w v:Int} (h:cG I D o) (h2:(gV o w v).2=0):cG I D (gV o w v).1:=by
 unfold gV at h2 ⊢
 split
 ·rename_i g;rw [if_pos g] at h2;simp at g h2;exact absurd h2 g
 ·rename_i g;have hk:o.aU≠1:=by
   simp only [ic] at g
   split at g
   ·simp at g
   ·rename_i g2;simp [iQ] at g2;omega
  exact ez h hk h.kn.1 rfl (by show (o.fF.set _ _).length≤_;rw [length_set];exact h.sm.2.1) h.sm.2.2.1 h.sm.2.2.2.1 h.sm.2.2.2.2.1 h.sm.2.2.2.2.2.1 rfl
theorem zy {id:Int} (h:cG I D o) (hi:I id) (h2:(fY o id).2=0):cG I D (fY o id).1:=by
 unfold fY at h2 ⊢
 split
 ·rename_i g;rw [if_pos g] at h2;simp at h2
 ·rename_i g;have hk:o.aU≠1:=by simp [iQ] at g;omega
  exact ez h hk hi rfl h.sm.2.1 h.sm.2.2.1 h.sm.2.2.2.1 h.sm.2.2.2.2.1 h.sm.2.2.2.2.2.1 rfl
theorem HN (D:List Int) (k:Nat) (c:Int):(ME D k c).length≤D.length+(k+1):=by
 unfold ME;simp<;>omega
theorem w5 {k c:Int} (h:cG I D o) (h2:(fg o k c).2=0):cG I D (fg o k c).1:=by
 unfold fg at h2 ⊢
 split
 ·rename_i g;rw [if_pos g] at h2;simp at h2
 rename_i g;rw [if_neg g] at h2
 split
 ·rename_i g2;rw [if_pos g2] at h2;simp at h2
 rename_i g2;rw [if_neg g2] at h2
 split
 ·rename_i g3;rw [if_pos g3] at h2;simp at h2
 rename_i g3;have hk:o.aU≠1:=by simp [oI] at g;omega
 have hl:o.Data.length≤4096:=vI (by simpa using g);simp at g2 g3;refine ez h hk h.kn.1 rfl h.sm.2.1 ?_ h.sm.2.2.2.1 h.sm.2.2.2.2.1 h.sm.2.2.2.2.2.1 rfl;have:=HN o.Data k.toNat c;show (ME o.Data k.toNat c).length≤_;omega
theorem zw (h:cG I D o) (h2:(fW o).2.2=0):cG I D (fW o).2.1:=by
 unfold fW at h2 ⊢
 split
 ·rename_i g;rw [if_pos g] at h2;simp at h2
 rename_i g;rw [if_neg g] at h2;have hk:o.aU≠1:=by simp [nn] at g;omega
 split
 ·rename_i g2;rw [if_pos g2] at h2;simp at h2
 split
 ·exact h
 ·exact ez h hk h.kn.1 rfl h.sm.2.1 (by show (o.Data.drop 1).length≤_;have:=h.sm.2.2.1;simp;omega) h.sm.2.2.2.1 h.sm.2.2.2.2.1 h.sm.2.2.2.2.2.1 rfl
theorem w4 {c:Int} (h:cG I D o) (h2:(ff o c).2=0):cG I D (ff o c).1:=by
 unfold ff at h2 ⊢
 split
 ·rename_i g;rw [if_pos g] at h2;simp at h2
 rename_i g;rw [if_neg g] at h2;have hk:o.aU≠1:=by simp [nn] at g;omega
 have hl:o.Data.length≤64:=qD (by simpa using g)
 split
 ·rename_i g2;rw [if_pos g2] at h2;simp at h2
 rename_i g2;rw [if_neg g2] at h2
 split
 ·rename_i g3;rw [if_pos g3] at h2;simp at h2
 exact ez h hk h.kn.1 rfl h.sm.2.1 (by show (o.Data ++ [c]).length≤_;simp;omega) h.sm.2.2.2.1 h.sm.2.2.2.2.1 h.sm.2.2.2.2.2.1 rfl
theorem Bk {k:Int} {d:List Int} (h:cG I D o) (hk:o.aU≠1) (hd:d.length≤1000000):cG I D (Ba o k d):=by
 unfold Ba
 split
 ·exact ez h hk h.kn.1 rfl h.sm.2.1 h.sm.2.2.1 h.sm.2.2.2.1 hd h.sm.2.2.2.2.2.1 rfl
 ·exact ez h hk h.kn.1 rfl h.sm.2.1 h.sm.2.2.1 h.sm.2.2.2.1 h.sm.2.2.2.2.1 hd rfl
theorem H' {k:Int} (h:cG I D o):(DB o k).length≤1000000:=by
 unfold DB
 split
 ·exact h.sm.2.2.2.2.1
 ·exact h.sm.2.2.2.2.2.1
theorem zB {k:Int} (h:cG I D o) (h2:(eX o k).2.2=0):cG I D (eX o k).2.1:=by
 unfold eX at h2 ⊢
 split
 ·rename_i g;rw [if_pos g] at h2;simp at h2
 rename_i g;rw [if_neg g] at h2;have hk:o.aU≠1:=by simp [gv] at g;omega
 split
 ·rename_i g2;rw [if_pos g2] at h2;simp at h2
 split
 ·exact h
 ·exact Bk h hk (by have:=H' (k:=1 - k) h;simp;omega)
theorem w6 {k c:Int} (h:cG I D o) (h2:(dx o k c).2=0):cG I D (dx o k c).1:=by
 unfold dx at h2 ⊢
 split
 ·rename_i g;rw [if_pos g] at h2;simp at h2
 rename_i g;rw [if_neg g] at h2;have hk:o.aU≠1:=by simp [gv] at g;omega
 have hl:(DB o k).length≤64:=by
  have:=lS (o:=o) (by simp at g ⊢;exact g.1);unfold DB;split
  ·exact this.1
  ·exact this.2
 split
 ·rename_i g2;rw [if_pos g2] at h2;simp at h2
 rename_i g2;rw [if_neg g2] at h2
 split
 ·rename_i g3;rw [if_pos g3] at h2;simp at h2
 exact Bk h hk (by simp;omega)
theorem zv {k:Int} (h:cG I D o) (h2:(eV o k).2=0):cG I D (eV o k).1:=by
 unfold eV at h2 ⊢
 split
 ·rename_i g;rw [if_pos g] at h2;simp at h2
 rename_i g;rw [if_neg g] at h2;have hk:o.aU≠1:=by simp [nj,nk] at g;omega
 have hl:o.bI.length≤8:=ni (by simp at g ⊢;exact g.1.1)
 split
 ·rename_i g2;rw [if_pos g2] at h2;simp at h2
 rename_i g2;rw [if_neg g2] at h2
 split
 ·rename_i g3;rw [if_pos g3] at h2;simp at h2
 exact ez h hk h.kn.1 rfl h.sm.2.1 h.sm.2.2.1 (by show (o.bI ++ [k]).length≤_;simp;omega) h.sm.2.2.2.2.1 h.sm.2.2.2.2.2.1 rfl
theorem zu (h:cG I D o) (h2:(fj o).2.2=0):cG I D (fj o).2.1:=by
 unfold fj at h2 ⊢
 split
 ·rename_i g;rw [if_pos g] at h2;simp at h2
 rename_i g;rw [if_neg g] at h2;have hk:o.aU≠1:=by simp [nj,nk] at g;omega
 have hl:o.bI.length≤8:=ni (by simpa using g)
 split
 ·rename_i g2;rw [if_pos g2] at h2;simp at h2
 exact ez h hk h.kn.1 rfl h.sm.2.1 h.sm.2.2.1 (by show (o.bI.drop 1).length≤_;simp;omega) h.sm.2.2.2.2.1 h.sm.2.2.2.2.2.1 rfl
theorem Bj (h:cG I D o) (h2:(iJ o).2=0):cG I D (iJ o).1:=by
 unfold iJ at h2 ⊢
 split
 ·rename_i g;rw [if_pos g] at h2;simp at h2
 rename_i g;rw [if_neg g] at h2;have hk:o.aU≠1:=by simp [q4] at g;omega
 split
 ·rename_i g2;rw [if_pos g2] at h2;simp at h2
 exact ez h hk h.kn.1 rfl h.sm.2.1 h.sm.2.2.1 h.sm.2.2.2.1 h.sm.2.2.2.2.1 h.sm.2.2.2.2.2.1 rfl
theorem EM (h:cG I D o) (h2:(nM o).2=0):cG I D (nM o).1:=by
 unfold nM at h2 ⊢
 split
 ·rename_i g;rw [if_pos g] at h2;simp at h2
 rename_i g;rw [if_neg g] at h2;have hk:o.aU≠1:=by simp [q4] at g;omega
 split
 ·rename_i g2;rw [if_pos g2] at h2;simp at h2
 exact ez h hk h.kn.1 rfl h.sm.2.1 h.sm.2.2.1 h.sm.2.2.2.1 h.sm.2.2.2.2.1 h.sm.2.2.2.2.2.1 rfl
theorem CP {id n:Int} (h0:I 0) (hi:I id):cG I D (gj id n).1:=by
 unfold gj
 repeat' split
 ·exact fT h0
 ·exact fT h0
 ·exact kV h0 (by show (8:Int)≠1;decide) hi rfl (zero_le _) rfl rfl rfl rfl
theorem EN {v:Int} (h:cG I D o) (h2:(o8 o v).2.2=0):cG I D (o8 o v).2.1:=by
 unfold o8 at h2 ⊢
 split
 ·rename_i g;have hk:o.aU≠1:=by simp [wL] at g;omega
  exact ez h hk h.kn.1 rfl h.sm.2.1 h.sm.2.2.1 h.sm.2.2.2.1 h.sm.2.2.2.2.1 h.sm.2.2.2.2.2.1 rfl
 ·rename_i g;rw [if_neg g] at h2;simp at h2
theorem Ii {st:Int} (h:cG I D o) (h0:I 0) (h2:(BM o st).2.2=0):cG I D (BM o st).1:=by
 unfold BM at h2 ⊢
 split
 ·exact fT h0
 rename_i g;rw [if_neg g] at h2
 split
 ·exact fT h0
 rename_i g2;rw [if_neg g2] at h2
 split
 ·exact fT h0
 rename_i g3;have hv:=(uJ o).1 (by simpa using g);have hf:=(rz o).1 hv.1.2.2.2;refine ⟨yH,mP,fun _=>?_,⟨h.kn.1,fun c hc=>(nomatch hc),fun c hc=>(nomatch hc),fun c hc=>(nomatch hc)⟩,fun c hc=>(nomatch hc),fun _=>⟨(h.ds hv.1.1).1,fun c hc=>(nomatch hc)⟩⟩;refine (uJ _).2 ⟨⟨rfl,hv.1.2.1,?_,(rz _).2 ⟨rfl,hf.2.1,zero_le _⟩⟩,.inl ⟨rfl,by simpa using g3,rfl⟩⟩;rw [Jx {(default:af) with ID:=o.ID,aU:=1} _];rfl
theorem GH (h:cG I D o) (h0:I 0):cG I D (vd o).1:=by
 unfold vd
 split
 ·exact fT h0
 split
 ·exact fT h0
 split
 ·exact fT h0
 rename_i g g2 g3;have hl:=rV.of (o:=o) (by simpa using g) (by simpa using g3);have hl2:rV {o with ae:={o.ae with dg:=0}}:=⟨hl.k,hl.id,hl.Jy _,hl.HH,fun e=>hl.id e.symm,hl.cl,hl.st,hl.AE,hl.sp,hl.tb,hl.sg,hl.al,hl.ss⟩;exact ⟨h.sm,h.pd,fun _=>hl2.pr,h.kn,h.nm,h.ds⟩
end
def jm (I:Int→Prop) (m:aF) (x:Int):Prop:=I x∨x∈m.fresh.take m.out.Used.toNat
structure db (I D:Int→Prop) (L:Nat) (m:aF):Prop where
 i0:I 0
 st:ja (jm I m) D m.s
 ln:m.s.ah.length≤L
 ob:pB (jm I m) D m.o
 us:0≤m.out.Used∧m.out.Used≤m.fresh.length
 fl:m.fresh.length≤64
 nz:∀x∈m.fresh,x≠0
 nf:∀x∈m.fresh,¬I x
 nd:m.fresh.Nodup
 dk:∀x,D x→jm I m x
section
variable {I D:Int→Prop} {L:Nat} {m:aF}
theorem db.j0 (h:db I D L m):jm I m 0:= .inl h.i0
theorem db.le (h:db I D L m) {L':Nat} (hl:L≤L'):db I D L' m:=⟨h.i0,h.st,le_trans h.ln hl,h.ob,h.us,h.fl,h.nz,h.nf,h.nd,h.dk⟩
theorem db.get (h:db I D L m) (id:Int):cG (jm I m) D (cc m.s id).1:=h.st.get h.j0
theorem db.put (h:db I D L m) {o:af} (ho:cG (jm I m) D o):db I D (L+1) (dX m o):=
 ⟨h.i0,h.st.put ho,le_trans (iG _ _) (Nat.succ_le_succ h.ln),h.ob,h.us,h.fl,h.nz,h.nf,h.nd,h.dk⟩
theorem db.rem (h:db I D L m) (id:Int):db I D L {m with s:=(dT m.s id).1}:=⟨h.i0,h.st.rem,le_trans (A_ _ _) h.ln,h.ob,h.us,h.fl,h.nz,h.nf,h.nd,h.dk⟩
theorem db.zo (h:db I D L m) {o:af} {g:Bool} {id:Int} (ho:cG (jm I m) D o):db I D (L+1) (kT m o g id):=by
 unfold kT
 split
 ·exact (h.rem id).le (le_succ _)
 ·exact h.put ho
theorem db.drop (h:db I D L m) (s:aK):db I D (L+1) (ko m s):=by
 unfold ko
 split
 ·exact h.le (le_succ _)
 split
 ·rename_i g;exact h.zo (GJ (h.get _) (by simpa using g))
 ·exact h.le (le_succ _)
theorem db.hold (h:db I D L m) (s:aK):db I D (L+1) (jG m s):=by
 unfold jG
 split
 ·exact h.le (le_succ _)
 split
 ·rename_i g;exact h.put (ve (h.get _) (by simpa using g))
 ·exact h.le (le_succ _)
theorem wK (m:aF) (s:aK):(ko m s).o=m.o∧(ko m s).fresh=m.fresh∧(ko m s).out=m.out:=by
 unfold ko kT dX
 repeat' split
 all_goals exact ⟨rfl,rfl,rfl⟩
theorem vv (m:aF) (s:aK):(jG m s).o=m.o∧(jG m s).fresh=m.fresh∧(jG m s).out=m.out:=by
 unfold jG dX
 repeat' split
 all_goals exact ⟨rfl,rfl,rfl⟩
theorem u9 (m:aF) (o:af) (g:Bool) (id:Int):(kT m o g id).o=m.o∧(kT m o g id).fresh=m.fresh∧(kT m o g id).out=m.out:=by
 unfold kT dX
 repeat' split
 all_goals exact ⟨rfl,rfl,rfl⟩
theorem db.take (h:db I D L m) (hu:m.out.Used < m.fresh.length):db I D L (cU m):=by
 have hj:∀x,jm I m x→jm I (cU m) x:=fun x hx=>hx.elim .inl fun hx=> .inr (by
  show x∈m.fresh.take (m.out.Used+1).toNat;have:=h.us;rw [show (m.out.Used+1).toNat=m.out.Used.toNat+1 by omega];exact (List.take_prefix_take_left (by omega)).subset hx)
 exact ⟨h.i0,h.st.mono hj,h.ln,h.ob.mono hj,(show 0≤m.out.Used+1∧m.out.Used+1≤(m.fresh.length:Int) by have:=h.us;omega),h.fl,h.nz,h.nf,h.nd,fun x hx=>hj x (h.dk x hx)⟩
theorem db.taken (h:db I D L m) (hu:m.out.Used < m.fresh.length):jm I (cU m) (m.fresh.getD m.out.Used.toNat default):=by
 have:=h.us;have hl:m.out.Used.toNat < m.fresh.length:=by omega
 refine .inr ?_;show _∈m.fresh.take (m.out.Used+1).toNat;rw [show (m.out.Used+1).toNat=m.out.Used.toNat+1 by omega,List.mem_take_iff_getElem];exact ⟨m.out.Used.toNat,by omega,by simp [getD,hl]⟩
theorem db.Cw (h:db I D L m) (hu:m.out.Used < m.fresh.length):m.fresh.getD m.out.Used.toNat default≠0:=by
 have:=h.us;exact h.nz _ (bk (by omega))
theorem db.HC (h:db I D L m) {o:af} (ho:pB (jm I m) D o):db I D L {m with o:=o}:=⟨h.i0,h.st,h.ln,ho,h.us,h.fl,h.nz,h.nf,h.nd,h.dk⟩
theorem F6 {t:List aK} {s:aK}:i7 (jD t s).1=true:=by
 unfold jD
 split
 ·rfl
 split
 ·rfl
 rename_i g g2;simp only [Bool.or_eq_true,Bool.not_eq_true',beq_iff_eq,not_or,Bool.not_eq_false] at g;obtain ⟨⟨g1,g3⟩,g4⟩:=g;have hl:=lx g1;simp only [i7,Bool.and_eq_true,decide_eq_true_eq] at g1 ⊢;obtain ⟨⟨h1,h2⟩,h3⟩:=g1;unfold putAt
 split
 ·rename_i hf;refine ⟨⟨?_,by rw [length_set];exact h2⟩,?_⟩
  ·rw [all_eq_true] at h1 ⊢;intro x hx;rcases mem_or_eq_of_mem_set hx with hx|rfl
   ·exact h1 x hx
   ·exact g3
  ·rw [length_set];have hlen:t.length - 1 < t.length:=by omega
   simp only [Bool.or_eq_true,beq_iff_eq,bne_iff_ne,ne_eq] at h3 ⊢;right;by_cases e:fz t=t.length - 1
   ·simpa [getD,List.getElem?_set,e,hlen] using g4
   ·have h5:=h3.resolve_left (by omega);simpa [getD,List.getElem?_set,e,hlen] using h5
 ·rename_i hf;have hfz:fz t≤t.length:=List.findIdx_le_length;refine ⟨⟨?_,by simp;omega⟩,?_⟩
  ·rw [List.all_append,h1];simp [g3]
  ·simp [getD,g4]
theorem F5 {t:List aK} {s:aK} {n:Nat} (ht:i7 t=true) (hs:j8 s=true) (hk:s.aU≠0):i7 (t.set n s)=true:=by
 simp only [i7,Bool.and_eq_true,decide_eq_true_eq] at ht ⊢;obtain ⟨⟨h1,h2⟩,h3⟩:=ht;refine ⟨⟨?_,by rw [length_set];exact h2⟩,?_⟩
 ·rw [all_eq_true] at h1 ⊢;intro x hx;rcases mem_or_eq_of_mem_set hx with hx|rfl
  ·exact h1 x hx
  ·exact hs
 ·rw [length_set];simp only [Bool.or_eq_true,beq_iff_eq,bne_iff_ne,ne_eq] at h3 ⊢;rcases h3 with h3|h3
  ·exact .inl h3
  ·right;by_cases hl:t.length - 1 < t.length
   ·by_cases e:n=t.length - 1
    ·simpa [getD,List.getElem?_set,e,hl] using hk
    ·simpa [getD,List.getElem?_set,e,hl] using h3
   ·have:t=[]:=by cases t<;>simp at hl ⊢
    subst this;exact h3
theorem F_ {t:List aK} (h1:t.all j8=true) (h2:(t.length:Int)≤16):i7 (strip t)=true:=by
 have hle:=yC t t.length;simp only [i7,Bool.and_eq_true,decide_eq_true_eq];refine ⟨⟨?_,by unfold strip;simp;omega⟩,?_⟩
 ·rw [all_eq_true] at h1 ⊢;intro x hx;exact h1 x (mem_of_mem_take hx)
 ·have key:∀n,n≤t.length→fH t n=0∨¬(t.getD (fH t n - 1) default).aU=0:=by
   intro n
   induction n with
   |zero=>intro _;exact .inl rfl
   |succ n ih=>
    intro hn;rw [fH]
    split
    ·exact ih (by omega)
    ·rename_i g;right;simpa using g
  have hl:(strip t).length=fH t t.length:=by unfold strip;simp;omega
  rw [hl];simp only [Bool.or_eq_true,beq_iff_eq,bne_iff_ne,ne_eq];rcases key t.length (le_refl _) with h|h
  ·left;omega
  ·by_cases h0:fH t t.length=0
   ·left;omega
   ·right;have:(strip t).getD (fH t t.length - 1) default=t.getD (fH t t.length - 1) default:=by
     unfold strip;simp [getD,List.getElem?_take,show fH t t.length - 1 < fH t t.length by omega]
    rw [this];exact h
theorem Cv {t:List aK} {i:Int}:i7 (gh t i).1=true:=by
 unfold gh
 split
 ·rfl
 split
 ·rfl
 rename_i g _;have ht:i7 t=true:=by simpa using g
 have h1:=lx ht;refine F_ ?_ (by rw [length_set];have:=h1.1;omega);rw [all_eq_true];intro x hx;rcases mem_or_eq_of_mem_set hx with hx|rfl
 ·exact List.all_eq_true.1 h1.2 x hx
 ·rfl
theorem db.table (h:db I D L m) {t:List aK} (ht:i7 t=true) (hd:∀s∈t,s.aU=1→D s.bn):db I D L {m with o:={m.o with ae:={m.o.ae with aH:=t}}}:=h.HC (EJ h.ob ht hd)
theorem Eg {t:List aK} {s x:aK} (h:x∈(jD t s).1):x∈t∨x=s:=by
 unfold jD at h
 split at h
 ·cases h
 split at h
 ·cases h
 unfold putAt at h
 split at h
 ·exact mem_or_eq_of_mem_set h
 ·simpa using h
theorem A0 {t:List aK} {i:Int} {x:aK} (h:x∈(gh t i).1):x∈t∨x=default:=by
 unfold gh at h
 split at h
 ·cases h
 split at h
 ·cases h
 exact mem_or_eq_of_mem_set (mem_of_mem_take h)
theorem db.DU (h:db I D L m) {s:aK} (hs:s∈m.o.ae.aH) (hk:s.aU=1):D s.bn:=(h.ob.ds h.ob.lv.k).2 s hs hk
theorem db.slot (h:db I D L m) {s:aK} (hs:s.aU=1→D s.bn):db I D L {m with o:={m.o with ae:={m.o.ae with aH:=(jD m.o.ae.aH s).1}}}:=
 h.table F6 fun x hx hk=>(Eg hx).elim (fun hm=>h.DU hm hk) (fun e=>by subst e;exact hs hk)
theorem db.clear (h:db I D L m) {i:Int}:db I D L {m with o:={m.o with ae:={m.o.ae with aH:=(gh m.o.ae.aH i).1}}}:=
 h.table Cv fun x hx hk=>(A0 hx).elim (fun hm=>h.DU hm hk) (fun e=>by subst e;exact absurd hk (by decide))
theorem db.set (h:db I D L m) {n:Nat} {s:aK} (hs:j8 s=true) (h0:s.aU≠0) (h1:s.aU≠1):db I D L {m with o:={m.o with ae:={m.o.ae with aH:=m.o.ae.aH.set n s}}}:=
 h.table (F5 h.ob.lv.tb hs h0) fun x hx hk=>(mem_or_eq_of_mem_set hx).elim (fun hm=>h.DU hm hk) (fun e=>by subst e;exact absurd hk h1)
theorem db.RX (h:db I D L m) {d:Int} (hd:D d) (hf:(cc m.s d).2=true):(cc m.s d).1.aU≠1:=fun e=>by
 have hid:(cc m.s d).1.ID=d:=by
  unfold cc at hf ⊢
  split
  ·rename_i hx;simpa using List.find?_some hx
  ·rename_i hx;rw [hx] at hf;simp at hf
 exact ((h.get d).ds e).1 (by rw [hid];exact hd)
theorem db.QN (h:db I D L m) {d:Int} (hd:D d):(cc m.s d).1.aU≠1:=by
 by_cases hf:(cc m.s d).2=true
 ·exact h.RX hd hf
 ·unfold cc at hf ⊢
  split
  ·rename_i hx;rw [hx] at hf;simp at hf
  ·decide
theorem db.off (h:db I D L m) {d n:Int} (hd:D d):cG (jm I m) D {(cc m.s d).1 with Offset:=n}:=
 ez (h.get d) (h.QN hd) (h.get d).kn.1 rfl (h.get d).sm.2.1 (h.get d).sm.2.2.1 (h.get d).sm.2.2.2.1 (h.get d).sm.2.2.2.2.1 (h.get d).sm.2.2.2.2.2.1 rfl
end
attribute [push_cast] Et PZ A' Me H_ Md K1 KX KY DA yM H9 KW HA NL NK Es Mf Rp H3 A5
section
variable {I D:Int→Prop} {L:Nat} {m:aF}
theorem db.sl (h:db I D L m) (hL:L≤990000000):m.s.ah.length≤1000000000:=by have:=h.ln;omega
def cY (I D:Int→Prop) (L:Nat) (m m':aF):Prop:=db I D L m'∧m'.fresh=m.fresh∧m'.out=m.out
theorem cY.refl (h:db I D L m) {L':Nat} (hl:L≤L'):cY I D L' m m:=⟨h.le hl,rfl,rfl⟩
theorem cY.put (h:db I D L m) {o:af} (ho:cG (jm I m) D o):cY I D (L+1) m (dX m o):=⟨h.put ho,rfl,rfl⟩
theorem lf (h:db I D L m) {n:Int}:(j6 m n).1.length≤1000000:=by
 unfold j6
 split
 ·exact zero_le _
 ·rename_i g;simp at g;have hs:∀s∈m.o.ae.Program.Strings,s.length≤128:=by
   have hc:=h.ob.lv.AE;unfold m5 at hc
   split at hc
   ·simp at hc
   ·rename_i g2;simp at g2;intro s hs;have:=g2.2 s hs;omega
  have:=hs _ (bk (l:=m.o.ae.Program.Strings) (i:=n.toNat) (by omega));show (m.o.ae.Program.Strings.getD n.toNat default).length≤_;omega
theorem lq {a b:Int} (h:(a !=b)=false):a=b:=by simpa using h
theorem Bb (h:db I D L m) (hL:L≤900000) {o:af}:(dX m o).s.ah.length≤1000000000:=by
 have:=iG m.s o;have:=h.ln;unfold dX;show (cK m.s o).1.ah.length≤_;omega
theorem cY.HC (h:db I D L m) {o:af} (ho:pB (jm I m) D o) {L':Nat} (hl:L≤L'):cY I D L' m {m with o:=o}:=⟨(h.HC ho).le hl,rfl,rfl⟩
theorem cY.tW {m m':aF} {L':Nat} (h:cY I D L m m') (hl:L+1≤L') {o:af} (ho:cG (jm I m) D o):cY I D L' m (dX m' o):=by
 obtain ⟨h1,h2,h3⟩:=id h;have e:jm I m'=jm I m:=by funext x;unfold jm;rw [h2,h3]
 exact ⟨(h1.put (by rw [e];exact ho)).le hl,h2,h3⟩
theorem cY.ln {m m':aF} (h:cY I D L m m'):m'.s.ah.length≤L:=h.1.ln
attribute [local irreducible] EC EV jc fg fW ff eX dx eV fj iJ nM gj o8 dL g_ cg cc cK dT gV ic fY dX cY
theorem C7 (h:aN) (m:aF) (a:a_) (hm:db I D L m) (hL:L≤900000):EC prog 263 [.bx 0 h 41 0 0,.agg a.c] [b7 h m] fun r N=>∃x:Int×aF,cY I D (L+1) m x.2∧r= .int .i64 x.1∧N=[b7 h x.2]:=by
 refine EC.cM ?_;refine nK ab (ca 263) func263 ntmps263 results263 ?_;(repeat' (first|with_reducible (first|intro _|apply And.intro)|refine eK ab ?_|refine EC.use (oY _ _) ?_|refine EC.use (ec _ _ hm.ob.sm.1.1) ?_|refine aX 0 (dH h m _ (hm.sl (le_trans hL (by decide)))) rfl ?_|refine aX 0 (cJ h m _ (hm.sl (le_trans hL (by decide)))) rfl ?_|refine dM ab 9 [0,1,2,3,4,5,6,7,8,9,10,11,12,13] [0,1,2,3,5,6] bZ fun R hR=>?_|refine mV ab 4 7 12 ?_ ?_ ?_|refine bT ab 7 12 ?_ ?_|refine bT ab 4 12 ?_ ?_|refine bT ab 4 7 ?_ ?_|refine bT ab 8 12 ?_ ?_|refine dC ab 7 ?_|refine dC ab 4 ?_|refine dR ab [9,10,11,12,13,14] ?_|refine dR ab [8,9,10,11,13,14] ?_|refine dR ab [9,10,11,13,14] ?_|(refine hR _ _ ?_;refine sA ?_)|fail))<;>(first|(refine ⟨(_,_),?_,Lk.int rfl,rfl⟩;first|exact cY.refl hm (le_succ _)|exact cY.HC hm (yQ hm.ob (eq_of_beq ‹_›)) (le_succ _)|exact cY.put hm (yR (hm.get _) (lq ‹_›)))|assumption|(simp_all;done))
theorem zN (h:aN) (m:aF) (a:a_) (hm:db I D L m) (hL:L≤900000):EC prog 273 [.bx 0 h 41 0 0,.agg a.c] [b7 h m] fun r N=>∃x:Int×aF,cY I D (L+1) m x.2∧r= .int .i64 x.1∧N=[b7 h x.2]:=by
 refine EC.cM ?_;refine nK ab (ca 273) func273 ntmps273 results273 ?_;(repeat' (first|with_reducible (first|intro _|apply And.intro)|refine eK ab ?_|refine aX 0 (nE h m _ hm.ob.sm.1.2.2.1) rfl ?_|refine aX 0 (dH h m _ (hm.sl (le_trans hL (by decide)))) rfl ?_|refine aX 0 (cJ h m _ (hm.sl (le_trans hL (by decide)))) rfl ?_|(refine EC.aM (sY _ _ _ (hm.get 1) hm.j0 (lf hm) (lf hm)) ?_;rintro ⟨_,_⟩ _)|fail))<;>((refine ⟨(_,_),?_,Lk.int rfl,rfl⟩;first|exact cY.refl hm (le_succ _)|exact cY.put hm ‹cG _ _ _›))
theorem C5 (h:aN) (m:aF) (s:aK) (hm:db I D L m) (hL:L≤900000) (hd:s.aU=1→D s.bn):EC prog 324 [.bx 0 h 41 0 0,.agg s.c] [b7 h m] fun r N=>∃x:(Int×Int)×aF,cY I D (L+1) m x.2∧r= .bS [.int .i64 x.1.1,.int .i64 x.1.2]∧N=[b7 h x.2]:=by
 refine EC.cM ?_;refine nK ab (ca 324) func324 ntmps324 results324 ?_;(repeat' (first|with_reducible (first|intro _|apply And.intro)|refine eK ab ?_|refine aX 0 (dH h m _ (hm.sl (le_trans hL (by decide)))) rfl ?_|refine aX 0 (cJ h m _ (hm.sl (le_trans hL (by decide)))) rfl ?_|refine EC.use (yf _ _ (hm.get _).sm) ?_|refine EC.use (xY _ (hm.get _).sm) ?_|refine EC.use (xW _ _ (hm.get _).sm) ?_|refine dN ab [] [0] [0,1,2,4,5,3,6,7,8,9,10,11,12,13] bZ fun R hR=>?_|refine dR ab [6,7,8,9,10,11,12,13] ?_|refine dR ab [7,8,9,10,11,12,13] ?_|(refine hR _ _ ?_;refine sA ?_)|fail))<;>((refine ⟨((_,_),_),?_,Lk.t2 (bE.int rfl) (bE.int rfl),rfl⟩;first|exact cY.refl hm (by omega)|exact cY.put hm (zB (hm.get _) (eq_of_beq ‹_›))|exact cY.put hm (zw (hm.get _) (eq_of_beq ‹_›))|exact cY.put hm (hm.off (hd (eq_of_beq ‹(s.aU == 1)=true›)))))
theorem BO (h:aN) (m:aF) (s:aK) (c:Int) (hm:db I D L m) (hL:L≤800000) (hd:s.aU=1→D s.bn):EC prog 325 [.bx 0 h 41 0 0,.agg s.c,.int .u8 c] [b7 h m] fun r N=>∃x:(Int×Int)×aF,cY I D (L+2) m x.2∧r= .bS [.int .i64 x.1.1,.int .i64 x.1.2]∧N=[b7 h x.2]:=by
 refine EC.cM ?_;refine nK ab (ca 325) func325 ntmps325 results325 ?_;(repeat' (first|with_reducible (first|intro _|apply And.intro)|refine eK ab ?_|refine aX 0 (dH h m _ (hm.sl (by omega))) rfl ?_|refine aX 0 (cJ h m _ (hm.sl (by omega))) rfl ?_|refine aX 0 (cJ h (dX m _) _ (Bb hm (by omega))) rfl ?_|refine EC.use (wv _ _ _ (hm.get _).sm) ?_|refine EC.use (wm _ _ (hm.get _).sm) ?_|refine EC.use (wg _ _ _ (hm.get _).sm) ?_|fail))<;>(first|(exfalso;simp_all;done)|(refine ⟨((_,_),_),?_,Lk.t2 (bE.int rfl) (bE.int rfl),rfl⟩;first|exact cY.refl hm (by omega)|exact (cY.refl hm (le_refl _)).tW (by omega) (w6 (hm.get _) (lq ‹_›))|exact (cY.refl hm (le_refl _)).tW (by omega) (w4 (hm.get _) (lq ‹_›))|exact (cY.put hm (hm.off (hd (eq_of_beq ‹(s.aU == 1)=true›)))).tW (le_refl _) (w5 (hm.get _) (lq ‹_›))))
end
section
variable {I D:Int→Prop} {L:Nat} {m:aF}
structure qL (I D:Int→Prop) (L:Nat) (m m':aF):Prop where
 st:ja (jm I m) D m'.s
 ln:m'.s.ah.length≤L
 fr:m'.fresh=m.fresh
 us:m'.out.Used=m.out.Used
 wt:m'.out.dF=m.out.dF
theorem cY.trans {m1 m2:aF} {L1 L2:Nat} (h1:cY I D L1 m m1) (h2:cY I D L2 m1 m2):cY I D L2 m m2:=⟨h2.1,h2.2.1.trans h1.2.1,h2.2.2.trans h1.2.2⟩
theorem cY.le {m1:aF} {L1 L2:Nat} (h1:cY I D L1 m m1) (hl:L1≤L2):cY I D L2 m m1:=⟨h1.1.le hl,h1.2⟩
theorem cY.zo (hm:db I D L m) {o:af} {g:Bool} {id:Int} (ho:cG (jm I m) D o):cY I D (L+1) m (kT m o g id):=⟨hm.zo ho,(u9 ..).2⟩
theorem cY.drop (hm:db I D L m) (s:aK):cY I D (L+1) m (ko m s):=⟨hm.drop s,(wK ..).2⟩
theorem cY.hold (hm:db I D L m) (s:aK):cY I D (L+1) m (jG m s):=⟨hm.hold s,(vv ..).2⟩
theorem cY.rem (hm:db I D L m) (id:Int):cY I D L m {m with s:=(dT m.s id).1}:=⟨hm.rem id,rfl,rfl⟩
theorem cY.ok {m1:aF} (h:cY I D L m m1):db I D L m1:=h.1
theorem cY.JE {m1:aF} (h:cY I D L m m1):jm I m1=jm I m:=by funext x;unfold jm;rw [h.2.1,h.2.2]
theorem cY.Rd {m1:aF} (h:cY I D L m m1) (c:cb):cY I D (L+1) m (dX {m1 with o:={m1.o with ae:={m1.o.ae with d9:=c}}} {m1.o with ae:={m1.o.ae with d9:=c}}):=by
 have h2:cY I D L m1 {m1 with o:={m1.o with ae:={m1.o.ae with d9:=c}}}:=cY.HC h.1 (zt c h.1.ob) (le_refl _);exact (h.trans h2).tW (le_refl _) (by rw [←h.JE];exact (zt c h.1.ob).tocG)
theorem zx {o:af} {w v:Int} (h:cG I D o) (h0:I 0):cG I D (gV o w v).1:=by
 by_cases e:(gV o w v).2=0
 ·exact Bl h e
 ·unfold gV at e ⊢
  split
  ·exact fT h0
  ·rename_i g;rw [if_neg g] at e;exact absurd rfl e
theorem qL.fin {m1:aF} {L':Nat} {e:Bool} (h:cY I D L m m1) (hl:L≤L'):qL I D L' m {m1 with out:={m1.out with zc:=e}}:=⟨by rw [←h.JE];exact h.1.st,le_trans h.1.ln hl,h.2.1,by show m1.out.Used=_;rw [h.2.2],by show m1.out.dF=_;rw [h.2.2]⟩
theorem qL.of {m1:aF} {L':Nat} (h:cY I D L m m1) (hl:L≤L'):qL I D L' m m1:=⟨by rw [←h.JE];exact h.1.st,le_trans h.1.ln hl,h.2.1,by rw [h.2.2],by rw [h.2.2]⟩
def ij (s:aG):Prop:=(s.ah.map (·.ID)).Nodup
theorem A8 (id:Int):∀l:List af,(nh id l).Sublist l
 |[]=>List.Sublist.refl _
 |o :: r=>by
  rw [nh]
  split
  ·exact List.sublist_cons_self _ _
  ·exact (A8 id r).cons_cons _
theorem ij.rem {s:aG} {id:Int} (h:ij s):ij (dT s id).1:=List.Nodup.sublist ((A8 id s.ah).map _) h
theorem ij.put {s:aG} {o:af} (h:ij s):ij (cK s o).1:=by
 unfold cK
 split
 ·exact List.nodup_nil
 show ((mr s.ah o).map (·.ID)).Nodup;unfold mr
 split
 ·rename_i g;rw [map_set];have hi:s.ah.findIdx (fun y=>y.ID == o.ID) < s.ah.length:=List.findIdx_lt_length.2 (by simpa using g);have e:(s.ah[s.ah.findIdx (fun y=>y.ID == o.ID)]'hi).ID=o.ID:=by
   have:=List.findIdx_getElem (w:=hi) (p:=fun y:af=>y.ID == o.ID);simpa using this
  generalize s.ah.findIdx (fun y=>y.ID == o.ID)=k at hi e ⊢;rw [show o.ID=(s.ah.map (·.ID))[k]'(by simpa using hi) by rw [List.getElem_map,e],List.set_getElem_self];exact h
 ·rename_i g;have hp:(s.ah.takeWhile (fun y=>decide (y.ID < o.ID)) ++ o :: s.ah.dropWhile (fun y=>decide (y.ID < o.ID))).Perm (o :: s.ah):=by
   refine List.perm_middle.trans ?_;rw [List.takeWhile_append_dropWhile]
  rw [(hp.map _).nodup_iff,List.map_cons,List.nodup_cons];refine ⟨fun hx=>g ?_,h⟩;obtain ⟨y,hy,hye⟩:=List.mem_map.1 hx;exact List.any_eq_true.2 ⟨y,hy,by simpa using hye⟩
theorem ij.zo {m:aF} {o:af} {g:Bool} {id:Int} (h:ij m.s):ij (kT m o g id).s:=by
 unfold kT
 split
 ·exact h.rem
 ·exact h.put
theorem ij.drop {m:aF} {s:aK} (h:ij m.s):ij (ko m s).s:=by
 unfold ko
 split
 ·exact h
 split
 ·exact h.zo
 ·exact h
attribute [local irreducible] EC EV jc fg fW ff eX dx eV fj iJ nM gj o8 dL g_ cg cc cK dT gV ic fY dX kT ko jG cY vd BM cC
theorem vO (h:aN) (m:aF) (st:Int) (hm:db I D L m) (hL:L≤900000000):EC prog 196 [.bx 0 h 41 0 0,.int .i64 st] [b7 h m] fun r N=>∃x:Unit×aF,(qL I D (L+60) m x.2∧(ij m.s→ij x.2.s))∧r= .bS []∧N=[b7 h x.2]:=by
 refine EC.cM ?_;refine nK ab (ca 196) func196 ntmps196 results196 ?_;intro fr;have hcl:=hm.ob.lv.cl;have htl:=(lx hm.ob.lv.tb).1;have hpl:=hm.ob.sm.1.2.2.2.1;refine eh ab [0,1,4,23,24] (fun x:Nat×aF=>[(25,.int .i64 x.1)]) (fun B x=>cP B 0 [x.2.c]) (fun x=>x.1≤m.o.ae.aZ.length∧cY I D (L+x.1) m x.2∧x.2.o=m.o∧(ij m.s→ij x.2.s)) (fun x=>m.o.ae.aZ.length - x.1) (0,m) ⟨zero_le _,cY.refl hm (le_refl _),rfl,id⟩ ?_;rintro ⟨i,m1⟩ ⟨hi,hk,ho,hnd⟩;replace hi:i≤m.o.ae.aZ.length:=hi;replace hk:cY I D (L+i) m m1:=hk;replace ho:m1.o=m.o:=ho;replace hnd:ij m.s→ij m1.s:=hnd;have hm1:=hk.ok;have hl1:m1.s.ah.length≤1000000000:=hm1.sl (by omega);have hw:=wI i;simp only [hw,push_cast,simprocAttr];refine ⟨fun hc=>⟨⟨by omega,hc⟩,?_⟩,fun hc=>?_⟩
 ·(repeat' (first|with_reducible (first|intro _|apply And.intro)|refine eK ab ?_|refine aX 0 (dH h m1 _ hl1) rfl ?_|refine EC.use (uu _ (hm1.get _).sm (hm1.get _).pd) ?_|refine aX 0 (qM h m1 _ _ _ hl1) rfl ?_|fail))
  all_goals simp only [hw]
  ·refine a7 (i+1,kT m1 _ _ _) ⟨by show i+1≤_;omega,hk.trans (cY.zo hm1 (GH (hm1.get _) hm1.j0)),(u9 ..).1.trans ho,fun h=>(hnd h).zo⟩
  ·exact a7 (i+1,m1) ⟨by show i+1≤_;omega,hk.le (by show L+i≤L+(i+1);omega),ho,hnd⟩
 have hi2:i≤32:=by omega
 clear hc hw;refine eh ab [0,1,4,46,47] (fun x:Nat×aF=>[(48,.int .i64 x.1)]) (fun B x=>cP B 0 [x.2.c]) (fun x=>x.1≤m.o.ae.aH.length∧cY I D (L+32+x.1) m x.2∧x.2.o=m.o∧(ij m.s→ij x.2.s)) (fun x=>m.o.ae.aH.length - x.1) (0,m1) ⟨zero_le _,hk.le (by show L+i≤L+32+0;omega),ho,hnd⟩ ?_;clear hk ho hnd hm1 hl1 hi hi2;rintro ⟨i,m1⟩ ⟨hi,hk,ho,hnd⟩;replace hi:i≤m.o.ae.aH.length:=hi;replace hk:cY I D (L+32+i) m m1:=hk;replace ho:m1.o=m.o:=ho;replace hnd:ij m.s→ij m1.s:=hnd;have hm1:=hk.ok;have hl1:m1.s.ah.length≤1000000000:=hm1.sl (by omega);have hw:=wI i;simp only [hw,push_cast,simprocAttr];refine ⟨fun hc fr2=>⟨⟨by omega,hc⟩,?_⟩,fun hc=>?_⟩
 ·refine EC.uV ab 0 (vP h m1 _ hl1) rfl (by (repeat (first|exact eD.nil|refine eD.cons (bq.refl _) ?_))) ?_;simp only [hw,push_cast,simprocAttr];exact a7 (i+1,ko m1 _) ⟨by show i+1≤_;omega,hk.trans (cY.drop hm1 _),(wK ..).1.trans ho,fun h=>(hnd h).drop⟩
 (refine EC.use (dp _ hpl) ?_;refine eK ab ?_);have hi2:i≤16:=by omega
 have hpr:=mK m.o.ae.aQ;clear hc hw;refine eh ab [0,1,4,58,59] (fun x:Nat×aF=>[(60,.int .i64 x.1)]) (fun B x=>cP B 0 [x.2.c]) (fun x=>x.1≤(cC m.o.ae.aQ).length∧cY I D (L+48) m x.2∧x.2.o=m.o∧(ij m.s→ij x.2.s)) (fun x=>(cC m.o.ae.aQ).length - x.1) (0,m1) ⟨zero_le _,hk.le (by omega),ho,hnd⟩ ?_;clear hk ho hnd hm1 hl1 hi hi2;rintro ⟨i,m1⟩ ⟨hi,hk,ho,hnd⟩;replace hi:i≤(cC m.o.ae.aQ).length:=hi;replace hk:cY I D (L+48) m m1:=hk;replace ho:m1.o=m.o:=ho;replace hnd:ij m.s→ij m1.s:=hnd;have hm1:=hk.ok;have hl1:m1.s.ah.length≤1000000000:=hm1.sl (by omega);have hw:=wI i;simp only [hw,push_cast,simprocAttr];refine ⟨fun hc=>⟨⟨by omega,hc⟩,?_⟩,fun hc=>?_⟩
 ·(refine EC.use (iL m1.s _ hl1) ?_;refine jy (m:=0) ab ?_;simp only [hw,push_cast,simprocAttr]);(try intro fr3);(try simp only [hw]);exact a7 (i+1,{m1 with s:=(dT m1.s _).1}) ⟨by show i+1≤_;omega,hk.trans (cY.rem hm1 _),ho,fun h=>(hnd h).rem⟩
 ·(repeat' (first|with_reducible (first|intro _|apply And.intro)|refine eK ab ?_|refine EC.use (Af _ _ hm1.ob.sm hm1.ob.pd) ?_|refine aX 0 (qM h m1 _ _ _ hl1) rfl ?_|refine dM ab 3 [0,1,2,3,4,5,6,7,8,9,10,11,12,13] [0,2,3,4,5,6] bZ fun R hR=>?_|refine bT ab 1 7 ?_ ?_|refine dC ab 7 ?_|refine dC ab 1 ?_|refine dR ab [8] ?_|refine dR ab [] ?_|(refine hR _ _ ?_;refine sA ?_)|fail))
  all_goals first|(refine ⟨((),_),?_,Lk.t0,rfl⟩;exact ⟨qL.fin (hk.trans (cY.zo hm1 (Ii hm1.ob.tocG hm1.j0 (eq_of_beq ‹_›)))) (by omega),fun h=>(hnd h).zo⟩)|(refine ⟨((),_),?_,Lk.t0,rfl⟩;exact ⟨qL.fin hk (by omega),hnd⟩)
theorem pM (h:aN) (m:aF) (st:Int) (hm:db I D L m) (hL:L≤900000000):EC prog 196 [.bx 0 h 41 0 0,.int .i64 st] [b7 h m] fun r N=>∃x:Unit×aF,qL I D (L+60) m x.2∧r= .bS []∧N=[b7 h x.2]:=
 (vO h m st hm hL).mono fun r N ⟨x,h1,h2,h3⟩=>⟨x,h1.1,h2,h3⟩
theorem rG (h:aN) (m:aF) (c:cb) (a:a_) (hm:db I D L m) (hL:L≤700000) (ha:-9223372036854775808≤a.iN∧a.iN≤9223372036854775807):EC prog 198 [.bx 0 h 41 0 0,.agg c.c,.agg a.c] [b7 h m] fun r N=>∃x:Unit×aF,qL I D (L+60) m x.2∧r= .bS []∧N=[b7 h x.2]:=by
 refine EC.cM ?_;refine nK ab (ca 198) func198 ntmps198 results198 ?_;(repeat' (first|with_reducible (first|intro _|apply And.intro)|refine eK ab ?_|refine EC.use (qp _ _ hm.ob.sm.1.2.2.2.1 ha) ?_|refine aX 0 (dH h m _ (hm.sl (by omega))) rfl ?_|refine EC.use (rL _ _ (hm.get _).sm) ?_|(refine aE 0 (pM h m _ hm (by omega)) rfl ?_;rintro ⟨_,_⟩ _)|refine EC.use (gI _ _ _) ?_|refine EC.use (fJ _) ?_|refine EC.use (An _ _ _ (hm.get _).sm) ?_|refine aX 0 (cJ h _ _ (by exact hm.sl (by omega))) rfl ?_|refine aX 0 (cJ h _ _ (by exact Bb hm (by omega))) rfl ?_|refine dN ab [] [] [0,1,2,3,4,5,6,7,8,9,10,11,12,13,14,15] bZ fun R hR=>?_|refine dR ab [9,10,11,12,13,14,15] ?_|(refine hR _ _ ?_;refine sA ?_)|fail))<;>(first|(exact ⟨((),_),‹qL _ _ _ _ _›,Lk.t0,rfl⟩)|(refine ⟨((),_),?_,Lk.t0,rfl⟩;first|exact qL.of ((cY.refl hm (le_refl _)).Rd _) (by omega)|exact qL.of ((cY.put hm (zx (hm.get _) hm.j0)).Rd _) (by omega)))
end
section
variable {I D:Int→Prop} {L:Nat} {m:aF}
def kY (D D':Int→Prop) (l:List Int):Prop:=(∀y,D y→D' y)∧∀y,D' y→D y∨y∈l
theorem kY.refl {D:Int→Prop} {l:List Int}:kY D D l:=⟨fun _ h=>h,fun _ h=> .inl h⟩
theorem kY.mono {D D':Int→Prop} {l l':List Int} (h:kY D D' l) (hl:∀y∈l,y∈l'):kY D D' l':=⟨h.1,fun y hy=>(h.2 y hy).imp_right (hl y)⟩
def dj (I D:Int→Prop) (L:Nat) (m m':aF):Prop:=∃D':Int→Prop,db I D' L m'∧kY D D' m.fresh∧m'.fresh=m.fresh∧m'.out.dF=m.out.dF
theorem dj.of {m1:aF} {L':Nat} (h:cY I D L m m1) (hl:L≤L'):dj I D L' m m1:=⟨D,h.1.le hl,kY.refl,h.2.1,by rw [h.2.2]⟩
theorem GG {o c:af} (h:pB I D o) (h2:(nN o c).2.2=0):pB I D (nN o c).1:=by
 unfold nN at h2 ⊢
 split
 ·rename_i g;rw [if_pos g] at h2;simp at h2
 rename_i g;rw [if_neg g] at h2
 split
 ·rename_i g2;rw [if_pos g2] at h2;simp at h2
 rename_i g2;rw [if_neg g2] at h2
 split
 ·rename_i g3;rw [if_pos g3] at h2;simp at h2
 exact q8 h (zI h.lv.HH) (le_trans (List.length_filter_le ..) h.lv.cl) fun c hc=>h.kn.2.1 c (List.mem_filter.1 hc).1
theorem cY.P4 {c:af} {id:Int} (hm:db I D L m) (h2:(nN m.o c).2.2=0):cY I D L m {m with s:=(dT m.s id).1,o:=(nN m.o c).1}:=
 ⟨(hm.rem id).HC (GG hm.ob h2),rfl,rfl⟩
theorem so {x:ay}:∀{l:List ay} {r:List Int},x∈gU l r→x∈l∨x.ID∈r∨x.ID=0
 |[],_,h=>nomatch h
 |p :: t,r,h=>by
  rw [gU] at h;rcases List.mem_cons.1 h with h|h
  ·unfold Bq at h
   split at h
   ·exact .inl (by rw [h];exact List.mem_cons_self)
   ·subst h
    cases r with
    |nil=>exact .inr (.inr rfl)
    |cons a r=>exact .inr (.inl List.mem_cons_self)
  ·rcases so h with h|h|h
   ·exact .inl (List.mem_cons_of_mem _ h)
   ·refine .inr (.inl ?_)
    split at h
    ·exact h
    ·exact List.mem_of_mem_drop h
   ·exact .inr (.inr h)
def allM (m:aF):aF:={m with out:={m.out with Used:=(m.fresh.length:Int)}}
theorem oE {m:aF} {x:Int}:jm I (allM m) x↔I x∨x∈m.fresh:=by
 unfold jm allM;simp
theorem db.all (h:db I D L m):db I D L (allM m):=by
 have hj:∀x,jm I m x→jm I (allM m) x:=fun x hx=>oE.2 (hx.imp_right fun h=>mem_of_mem_take h);exact ⟨h.i0,h.st.mono hj,h.ln,h.ob.mono hj,⟨Int.natCast_nonneg _,Int.le_refl _⟩,h.fl,h.nz,h.nf,h.nd,fun x hx=>hj x (h.dk x hx)⟩
theorem Iz (hm:db I D L m) (hu:m.out.Used=0) (hf:1≤m.fresh.length) {P C:af} (hfk:oG m.o (m.fresh.getD 0 default) (m.fresh.drop 1)=(P,C,0)):
  pB (jm I (allM m)) D P∧pB (jm I (allM m)) D C:=by
 have hj:∀x,jm I m x→jm I (allM m) x:=fun x hx=>oE.2 (hx.imp_right fun h=>mem_of_mem_take h);have ho:=hm.ob.mono hj;have hid:m.fresh.getD 0 default∈m.fresh:=bk (by omega);have hjI:∀x,jm I m x→I x:=fun x hx=>hx.elim id fun h=>by rw [hu] at h;simp at h
 have htl:∀x∈m.fresh.drop 1,x∈m.fresh:=fun x hx=>List.mem_of_mem_drop hx;generalize m.fresh.getD 0 default=id0 at hfk hid;generalize m.fresh.drop 1=tl at hfk htl;have hall:∀x∈m.fresh,jm I (allM m) x:=fun x hx=>oE.2 (.inr hx);unfold oG at hfk
 split at hfk
 ·simp at hfk
 split at hfk
 ·simp at hfk
 split at hfk
 ·simp at hfk
 split at hfk
 ·simp at hfk
 split at hfk
 ·simp at hfk
 split at hfk
 ·simp at hfk
 rename_i g1 g2 g3 g4 g5 g6;simp only [Prod.mk.injEq,and_true] at hfk;obtain ⟨rfl,rfl⟩:=hfk;simp at g2 g3 g4 g5 g6;have hsp:(dw m.o.ae.aQ tl).2=0:=g6.1;have hpg:(dw m.o.ae.aQ tl).1=gU m.o.ae.aQ tl:=by
  unfold dw at hsp ⊢
  split
  ·rename_i g;rw [if_pos g] at hsp;simp at hsp
  rename_i g;rw [if_neg g] at hsp
  split
  ·rename_i g7;rw [if_pos g7] at hsp;simp at hsp
  rename_i g7;rw [if_neg g7] at hsp
  split
  ·rename_i g8;rw [if_pos g8] at hsp;simp at hsp
  rfl
 refine ⟨q8 ho (Fk hm.ob.lv.HH g4.1.1 g4.1.2 g4.2) (by simp;omega) fun c hc=>?_,?_⟩
 ·rcases List.mem_append.1 hc with hc|hc
  ·exact ho.kn.2.1 c hc
  ·rw [List.mem_singleton.1 hc];exact oE.2 (.inr hid)
 ·have hv:gW (FA m.o id0 (dw m.o.ae.aQ tl).1)=true:=g6.2;have hl:rV (FA m.o id0 (dw m.o.ae.aQ tl).1):=rV.of hv (by show m.o.ae.State≠3;rw [g2];decide);refine ⟨⟨⟨⟨zero_le _,hm.ob.sm.1.2.1,hm.ob.sm.1.2.2.1,?_,hm.ob.sm.1.2.2.2.2⟩,zero_le _,zero_le _,zero_le _,zero_le _,zero_le _,zero_le _,fun n hn=>(nomatch hn)⟩,mP,fun _=>hv,⟨oE.2 (.inr hid),fun c hc=>(nomatch hc),fun p hp=>?_,fun n hn=>(nomatch hn)⟩,fun n hn=>(nomatch hn),fun _=>⟨fun hd=>?_,fun s hs hk=>hm.DU hs hk⟩⟩,hl⟩
  ·exact u0 hm.ob.sm.1.2.2.2.1
  ·have hp':p∈gU m.o.ae.aQ tl:=by rw [←hpg];exact hp
   rcases so hp' with h|h|h
   ·exact ho.kn.2.2.1 p h
   ·exact hall _ (htl _ h)
   ·rw [h];exact .inl hm.i0
  ·exact hm.nf _ hid (hjI _ (hm.dk _ hd))
theorem cY.same {m1:aF} (h:cY I D L m m1):m1.fresh=m.fresh∧m1.out=m.out:=h.2
theorem dj.fork {m1 m2:aF} {L' L2:Nat} {P C:af} (hk:cY I D L' (allM m1) m2) (hfr:m1.fresh=m.fresh) (hwt:m1.out.dF=m.out.dF) (hP:pB (jm I (allM m1)) D P) (hC:pB (jm I (allM m1)) D C) (c:cb) (hl:L'+1≤L2):
  dj I D L2 m {dX m2 {C with ae:={C.ae with d9:=c}} with o:=P}:=by
 have h1:db I D (L'+1) (dX m2 {C with ae:={C.ae with d9:=c}}):=hk.1.put (by rw [hk.JE];exact (zt c hC).tocG);refine ⟨D,(h1.HC (by show pB (jm I m2) D P;rw [hk.JE];exact hP)).le hl,kY.refl,?_,?_⟩
 ·show m2.fresh=_;rw [hk.2.1];exact hfr
 ·show m2.out.dF=_;rw [hk.2.2];exact hwt
attribute [local irreducible] EC EV jc fg fW ff eX dx eV fj iJ nM gj o8 dL g_ cg cc cK dT gV ic fY dX kT ko jG cY vd BM cC nN oG dj
theorem C2 (h:aN) (m:aF) (hm:db I D L m) (hL:L≤800000):EC prog 262 [.bx 0 h 41 0 0] [b7 h m] fun r N=>∃x:(Int×Int×Int)×aF,dj I D (L+60) m x.2∧r= .bS [.int .i64 x.1.1,.int .i64 x.1.2.1,.int .i64 x.1.2.2]∧N=[b7 h x.2]:=by
 refine EC.cM ?_;refine nK ab (ca 262) func262 ntmps262 results262 ?_;(repeat' (with_reducible (first|intro _|apply And.intro)))<;>(first|(refine ⟨((_,_,_),_),?_,Lk.t3 (bE.int rfl) (bE.int rfl) (bE.int rfl),rfl⟩;exact dj.of (cY.refl hm (le_refl _)) (by omega))|skip);have hcl:=hm.ob.lv.cl;have hl:=hm.sl (by omega);refine eh ab [0,2,3,4,23,24] (fun i:Nat=>[(25,.int .i64 i)]) (fun B _=>B) (fun i=>i≤m.o.ae.aZ.length) (fun i=>m.o.ae.aZ.length - i) 0 (zero_le _) ?_;rintro i hi;replace hi:i≤m.o.ae.aZ.length:=hi;have hw:=wI i;simp only [hw,push_cast,simprocAttr];refine ⟨fun hc=>⟨⟨by omega,hc⟩,?_⟩,fun hc=>⟨((_,_,_),_),dj.of (cY.refl hm (le_refl _)) (by omega),Lk.t3 (bE.int rfl) (bE.int rfl) (bE.int rfl),rfl⟩⟩;(repeat' (first|with_reducible (first|intro _|apply And.intro)|refine eK ab ?_|refine aX 0 (dH h m _ hl) rfl ?_|refine EC.use (xR _ _ hm.ob.sm hm.ob.pd (hm.get _).sm (hm.get _).pd) ?_|refine EC.use (iL _ _ hl) ?_|refine dM ab 11 [0,1,2,3,4,5,6,7,8,9,10,11,12,13] [0,1,2,4,5] bZ fun R hR=>?_|refine mV ab 3 6 12 ?_ ?_ ?_|refine bT ab 6 12 ?_ ?_|refine bT ab 3 12 ?_ ?_|refine bT ab 3 6 ?_ ?_|refine bT ab 7 12 ?_ ?_|refine dR ab [6,7,8,9,10,11,13,14,15] ?_|refine dR ab [7,8,9,10,11,13,14,15] ?_|refine dR ab [8,9,10,11,13,14,15] ?_|refine dC ab 3 ?_|refine dR ab [8,9,10,11,12,13,14,15] ?_|(refine hR _ _ ?_;refine sA ?_)|fail))<;>(first|(simp only [hw];exact a7 (i+1) (by show i+1≤_;omega))|skip)
 all_goals (refine ⟨((_,_,(0:Int)),_),?_,Lk.t3 (bE.int rfl) (bE.int rfl) (bE.int rfl),rfl⟩;exact dj.of (cY.P4 hm (eq_of_beq ‹_›)) (by omega))
end
section
variable {I D:Int→Prop} {L:Nat} {m:aF}
attribute [local irreducible] EC EV jc fg fW ff eX dx eV fj iJ nM gj o8 dL g_ cg cc cK dT gV ic fY dX kT ko jG cY vd BM cC nN oG dj
theorem C8 (h:aN) (m:aF) (hm:db I D L m) (hL:L≤800000) (hu:m.out.Used=0) (hf:m.fresh.length=1+(cC m.o.ae.aQ).length):EC prog 261 [.bx 0 h 41 0 0] [b7 h m] fun r N=>∃x:(Int×Int)×aF,dj I D (L+60) m x.2∧r= .bS [.int .i64 x.1.1,.int .i64 x.1.2]∧N=[b7 h x.2]:=by
 refine EC.cM ?_;refine nW ab (ca 261) func261 ntmps261 results261 ?_;have hfl:=hm.fl;have hpr:=mK m.o.ae.aQ;have hF:EC prog 309 [.agg m.o.c,.int .u64 (m.fresh.getD 0 default),.sl false 1 (m.fresh.length - 1) (cA (aS .u64) default (m.fresh.drop 1))] [] fun r N=>N=[]∧r=P5 (oG m.o (m.fresh.getD 0 default) (m.fresh.drop 1)):=by
  have:=xS m.o (m.fresh.getD 0 default) (m.fresh.drop 1) hm.ob.sm hm.ob.pd (by simp;omega)
  rwa [show bG 1 (aS .u64) default (m.fresh.drop 1)= .sl false 1 (m.fresh.length - 1) (cA (aS .u64) default (m.fresh.drop 1)) by rw [←List.length_drop];rfl] at this
 generalize hfk:oG m.o (m.fresh.getD 0 default) (m.fresh.drop 1)=F at hF;obtain ⟨P,C,e⟩:=F;intro fr;(refine EC.use (dp _ hm.ob.sm.1.2.2.2.1) ?_;refine eK ab ?_);refine dB (σ:=Bool×aN×aN) [0,2,3,4,5] (fun s=>[(6,.bx (bif s.1 then 2 else 3) s.2.1 36 0 0),(7,.bx (bif s.1 then 3 else 2) s.2.2 36 0 0),(8,.int .i64 e)]) (fun B s=>B ++ [bif s.1 then .row s.2.1 76 36 [P.c] else .row s.2.2 76 36 [C.c],bif s.1 then .row s.2.2 76 36 [C.c] else .row s.2.1 76 36 [P.c]]) (fun _=>True) ?_ ?_;rotate_left 1
 ·(repeat' (first|with_reducible (first|intro _|apply And.intro)|refine EC.use (hF) ?_|refine dM ab 10 [] [0,1,2,3,4,5,6,7,8,9,10,11,12,13,14] bZ fun R hR=>?_|refine mV ab 15 20 21 ?_ ?_ ?_|refine dP ab 5 [16,17,18,19] ?_|refine bT ab 20 21 ?_ ?_|refine bT ab 15 21 ?_ ?_|refine bT ab 15 20 ?_ ?_|refine dR ab [21,22,23,24] ?_|refine dR ab [20,22,23,24] ?_|refine dR ab [16,17,18,19,21,22,23,24] ?_|refine dR ab [15,16,17,18,19,22,23,24] ?_|refine dR ab [16,17,18,19,22,23,24] ?_|refine dR ab [16,17,18,19,20,22,23,24] ?_|(refine hR _ _ ?_;refine sA ?_)|fail))<;>(first|omega|(exact gg (true,_,_) trivial)|(exact gg (false,_,_) trivial))
 rintro ⟨b,h1,h2⟩ -;simp only [bK,dd,push_cast,simprocAttr];(repeat' (first|with_reducible (first|intro _|apply And.intro)|refine wA ab ?_|fail))<;>(first|(refine ⟨((0,_),_),?_,Lk.t2 (bE.int rfl) (bE.int rfl),rfl⟩;exact dj.of (cY.refl hm (le_refl _)) (by omega))|skip);rename_i he;have he0:e=0:=by simpa using he
 subst he0;obtain ⟨hP,hC⟩:=Iz hm hu (by omega) hfk;have htl:=(lx hm.ob.lv.tb).1;refine aT ab [0,2,3,4,5,6,7,8,47,48] (fun x:Nat×aF=>[(49,.int .i64 x.1)]) (fun B x=>cP B 0 [x.2.c]) (fun x=>x.1≤m.o.ae.aH.length∧cY I D (L+x.1) m x.2) (fun x=>m.o.ae.aH.length - x.1) (0,m) ⟨zero_le _,cY.refl hm (le_refl _)⟩ ?_;rintro ⟨i,m1⟩ ⟨hi,hk⟩;replace hi:i≤m.o.ae.aH.length:=hi;replace hk:cY I D (L+i) m m1:=hk;have hm1:=hk.ok;have hl1:m1.s.ah.length≤1000000000:=hm1.sl (by omega);have hw:=wI i;simp only [hw,push_cast,simprocAttr];refine ⟨fun hc fr2=>⟨⟨by omega,hc⟩,?_⟩,fun hc=>?_⟩
 ·refine EC.r_ ab 0 (vN h m1 _ hl1) rfl (by (repeat (first|exact eD.nil|refine eD.cons (bq.refl _) ?_))) ?_;rintro ⟨x,m2⟩ hx;simp only at hx;subst hx;simp only [hw,push_cast,simprocAttr];exact a7 (i+1,jG m1 _) ⟨by show i+1≤_;omega,hk.trans (cY.hold hm1 _)⟩
 ·have hi2:i≤16:=by omega
  have hA:cY I D (L+16) (allM m1) (allM m1):=cY.refl (hm1.all.le (by omega)) (le_refl _);have hfr:m1.fresh=m.fresh:=hk.same.1;have hwt:m1.out.dF=m.out.dF:=by rw [hk.same.2]
  have hje:jm I (allM m1)=jm I (allM m):=by funext x;exact propext (by rw [oE,oE,hfr])
  rw [←hje] at hP hC;refine aT ab [0,2,3,6,7,66,67] (fun x:Nat×aF=>[(68,.int .i64 x.1)]) (fun B x=>cP B 0 [x.2.c]) (fun x=>x.1≤(cC m.o.ae.aQ).length∧cY I D (L+16+x.1) (allM m1) x.2) (fun x=>(cC m.o.ae.aQ).length - x.1) (0,allM m1) ⟨zero_le _,hA⟩ ?_;clear hw hc;rintro ⟨j,m2⟩ ⟨hj,hk2⟩;replace hj:j≤(cC m.o.ae.aQ).length:=hj;replace hk2:cY I D (L+16+j) (allM m1) m2:=hk2;have hm2:=hk2.ok;have hl2:m2.s.ah.length≤1000000000:=hm2.sl (by omega);have hw:=wI j;have hw2:IntKind.i64.wrap (1+(j:Int))=((1+j:Nat):Int):=by rw [bu (by omega)];omega
  have hf2:m2.fresh.length=1+(cC m.o.ae.aQ).length:=by rw [hk2.same.1];show m1.fresh.length=_;rw [hfr];exact hf
  simp only [hw,push_cast,simprocAttr];have hid:j < (cC m.o.ae.aQ).length→jm I m2 (m2.fresh.getD (1+j) default):=fun hc=>by
   rw [hk2.JE,oE];refine .inr ?_;rw [show m2.fresh=m1.fresh from hk2.same.1];exact bk (by rw [hfr,hf];omega)
  refine ⟨fun hc=>⟨⟨by omega,hc⟩,?_⟩,fun hc=>?_⟩
  ·replace hid:=hid (by omega);refine dB (σ:=aN) [0,2,3,6,7,66,67,68] (fun s=>[(13,.bx 4 s 36 0 0),(14,.int .i64 (fY (cc m2.s ((cC m.o.ae.aQ).getD j default)).1 (m2.fresh.getD (1+j) default)).2)]) (fun B s=>B ++ [.row s 76 36 [(fY (cc m2.s ((cC m.o.ae.aQ).getD j default)).1 (m2.fresh.getD (1+j) default)).1.c]]) (fun _=>True) ?_ ?_;rotate_left 1
   ·(repeat' (first|with_reducible (first|intro _|apply And.intro)|refine aX 0 (dH h m2 _ hl2) rfl ?_|refine EC.use (yh _ _ (hm2.get _).sm) ?_|refine dM ab 11 [0,1,2,3,4,5,6,7,8,9,10,11,12,13] [0,1,3,4,5,7,8] bZ fun R hR=>?_|refine mV ab 2 6 15 ?_ ?_ ?_|refine bT ab 6 15 ?_ ?_|refine dP ab 8 [9,10] ?_|refine bT ab 2 15 ?_ ?_|refine bT ab 2 6 ?_ ?_|refine dP ab 7 [9,10] ?_|refine bT ab 11 15 ?_ ?_|refine dC ab 6 ?_|refine dR ab [2,11,12,13,14,16,17] ?_|refine dR ab [11,12,13,14,16,17] ?_|refine dR ab [12,13,14,16,17] ?_|refine dR ab [12,13,14,15,16,17] ?_|refine dR ab [9,10,11,12,13,14,16,17] ?_|(refine hR _ _ ?_;refine sA ?_)|fail))<;>(first|omega|(simp only [hw2,Int.toNat_natCast];exact gg _ trivial))
   rintro h3 -;simp only [bK,dd,push_cast,simprocAttr];(repeat' (first|with_reducible (first|intro _|apply And.intro)|refine eK ab ?_|refine aX 0 (cJ h m2 _ hl2) rfl ?_|refine wA ab ?_|fail))
   ·simp only [hw];refine a7 (j+1,dX m2 _) ⟨by show j+1≤_;omega,hk2.tW (by show L+16+j+1≤L+16+(j+1);omega) ?_⟩;rw [←hk2.JE];exact zy (hm2.get _) hid (eq_of_beq ‹_›)
   ·simp only [hw];exact a7 (j+1,m2) ⟨by show j+1≤_;omega,hk2.le (by show L+16+j≤L+16+(j+1);omega)⟩
  ·cases b
   all_goals
    simp only [cond_true,cond_false,push_cast,simprocAttr];(repeat' (first|refine eK ab ?_|refine EC.use (me _ _) ?_|refine aX 0 (cJ h m2 _ hl2) rfl ?_|fail))<;>((exact ⟨((_,(0:Int)),_),dj.fork hk2 hfr hwt hP hC _ (by omega),Lk.t2 (bE.int rfl) (bE.int rfl),rfl⟩))
end
section
variable {I D:Int→Prop} {L:Nat} {m:aF}
def kP (m:aF) (s:aK):aF:={m with o:={m.o with ae:={m.o.ae with aH:=(jD m.o.ae.aH s).1}}}
def Rn (id t:Int):af:={(default:af) with ID:=id,aU:=4,Refs:=1,Target:=t}
theorem cY.slot (hm:db I D L m) {s:aK} (hs:s.aU=1→D s.bn):cY I D L m (kP m s):=⟨hm.slot hs,rfl,rfl⟩
def Co (m:aF):Prop:=(∀o∈m.s.ah,o.aU=1→o.ID ∉ m.fresh)∧m.o.ID ∉ m.fresh
theorem Co.of (hm:db I D L m) (hu:m.out.Used=0):Co m:=by
 have hj:∀x,jm I m x→x ∉ m.fresh:=fun x hx hf=>hm.nf x hf (hx.elim id fun h=>by rw [hu] at h;simp at h);exact ⟨fun o ho _=>hj _ (hm.st o ho).kn.1,hj _ hm.ob.kn.1⟩
theorem Co.put (h:Co m) {o:af} (hk:o.aU≠1):Co (dX m o):=by
 refine ⟨fun y hy hy1=>?_,h.2⟩;have hy':y∈(cK m.s o).1.ah:=hy;unfold cK at hy'
 split at hy'
 ·cases hy'
 ·rcases vu hy' with hy'|rfl
  ·exact h.1 y hy' hy1
  ·exact absurd hy1 hk
theorem ly (m:aF):(cU m).fresh=m.fresh:=rfl
theorem uZ (m:aF):(cU m).out.Used=m.out.Used+1:=rfl
theorem gB (m:aF):(cU m).out.dF=m.out.dF:=rfl
theorem DC (m:aF) (o:af):(dX (cU m) o).fresh=m.fresh:=rfl
theorem mM (m:aF) (o:af):(dX m o).out=m.out:=rfl
theorem dj.mk' {m1:aF} (h:db I D L m1) (hf:m1.fresh=m.fresh) (hw:m1.out.dF=m.out.dF) {L2:Nat} (hl:L≤L2):dj I D L2 m m1:=⟨D,h.le hl,kY.refl,hf,hw⟩
theorem Od (n:a8) (p:List UInt8) (k:Int) (l:List Int) (q:SV):aJ n.c 0 (aJ (a8.mk p k l).c 2 [q])=[.str p,.int .i64 k,q]:=by cases n;rfl
attribute [push_cast] Od
theorem qC (m:aF) (o:af):(dX m o).o=m.o:=rfl
theorem zh (m:aF):(cU m).o=m.o:=rfl
theorem CL (m:aF) (o:af):(dX m o).fresh=m.fresh:=rfl
theorem db.IC (h:db I D L m) {id:Int} (hi:jm I m id):db I D (L+1) (dX m {(default:af) with ID:=id,aU:=3}):=h.put (kV h.j0 (by show (3:Int)≠1;decide) hi rfl (zero_le _) rfl rfl rfl rfl)
theorem Co.IC (h:Co m) {id:Int}:Co (dX m {(default:af) with ID:=id,aU:=3}):=h.put (by show (3:Int)≠1;decide)
theorem Co.take (h:Co m):Co (cU m):=h
theorem db.Rf (hm:db I D L m) {id:Int} (hid:jm I m id) (hf:id∈m.fresh) (np:Co m):db I (fun x=>D x∨x=id) L m:=by
 have hn:∀o:af,(o.aU=1→o.ID ∉ m.fresh)→cG (jm I m) D o→cG (jm I m) (fun x=>D x∨x=id) o:=fun o h1 h2=>h2.JC (fun x hx=> .inl hx) fun hk=>by
  rintro (h3|h3)
  ·exact (h2.ds hk).1 h3
  ·exact h1 hk (h3▸hf)
 exact ⟨hm.i0,fun o ho=>hn o (np.1 o ho) (hm.st o ho),hm.ln,⟨hn _ (fun _=>np.2) hm.ob.tocG,hm.ob.lv⟩,hm.us,hm.fl,hm.nz,hm.nf,hm.nd,fun x hx=>hx.elim (hm.dk x) fun e=>e▸hid⟩
theorem dj.opened {m1:aF} {L' L2:Nat} (h:db I D L' m1) (np:Co m1) (hu:m1.out.Used < m1.fresh.length) (hfr:m1.fresh=m.fresh) (hw:m1.out.dF=m.out.dF) (t:Int) (hl:L'+1≤L2):
  dj I D L2 m (kP (dX (cU m1) (Rn (m1.fresh.getD m1.out.Used.toNat default) t)) {(default:aK) with aU:=1,bn:=m1.fresh.getD m1.out.Used.toNat default,Target:=t}):=by
 have ht:=h.take hu;have hid:=h.taken hu;have hus:=h.us;have hf:m1.fresh.getD m1.out.Used.toNat default∈m1.fresh:=bk (by omega);have h1:=ht.Rf hid hf np.take;have h2:=h1.put (o:=Rn (m1.fresh.getD m1.out.Used.toNat default) t) (kV h1.j0 (by show (4:Int)≠1;decide) hid rfl (zero_le _) rfl rfl rfl rfl);have h3:=h2.slot (s:={(default:aK) with aU:=1,bn:=m1.fresh.getD m1.out.Used.toNat default,Target:=t}) (fun _=> .inr rfl);exact ⟨_,h3.le hl,⟨fun y hy=> .inl hy,fun y hy=>Or.imp_right (fun e=>by rw [e,←hfr];exact hf) hy⟩,hfr,hw⟩
def IC (id:Int):af:={(default:af) with ID:=id,aU:=3}
attribute [local irreducible] EC EV cc cK dT dX dj cY cU j6
theorem ki (h:aN) (m:aF) (n:Int) (hl:m.o.ae.aH.length≤1000000):EC prog 266 [.bx 0 h 41 0 0,.int .i64 n] [b7 h m] fun r N=>∃x:Bool×aF,m=x.2∧r= .bool x.1∧N=[b7 h x.2]:=
 (C4 h m n hl).mono fun r N ⟨x,h1,h2,h3⟩=>⟨x,h1.symm,h2,h3⟩
theorem rH (h:aN) (m:aF) (path:List UInt8) (hs:ja I D m.s) (h0:I 0) (hl:m.s.ah.length≤1000000000):EC prog 314 [.bx 0 h 41 0 0,.str path] [b7 h m] fun r N=>∃x:(a8×Bool)×aF,((x.1.2=true→EP I x.1.1)∧m=x.2)∧r= .bS [.agg x.1.1.c,.bool x.1.2]∧N=[b7 h x.2]:=
 (BR h m path hs h0 hl).mono fun r N ⟨x,h1,h2,h3⟩=>⟨x,⟨h1.1,h1.2.symm⟩,h2,h3⟩
theorem fb (h:aN) (m:aF) (s:aK) (hl:m.o.ae.aH.length≤1000000):EC prog 269 [.bx 0 h 41 0 0,.agg s.c] [b7 h m] fun r N=>∃x:Int×aF,kP m s=x.2∧r= .int .i64 x.1∧N=[b7 h x.2]:=
 (C3 h m s hl).mono fun r N ⟨x,h1,h2,h3⟩=>⟨x,h1.symm,h2,h3⟩
attribute [local irreducible] kP
theorem Cu (h:db I D L m) {n:Int}:(j6 m n).1.length≤1000000:=lf h
theorem C6 (h:aN) (m:aF) (a:a_) (hm:db I D L m) (hL:L≤700000) (hu:m.out.Used=0) (hf:(if a.eT.x1=1 then 2 else 1)≤m.fresh.length):EC prog 265 [.bx 0 h 41 0 0,.agg a.c] [b7 h m] fun r N=>∃x:(Int×Int)×aF,dj I D (L+60) m x.2∧r= .bS [.int .i64 x.1.1,.int .i64 x.1.2]∧N=[b7 h x.2]:=by
 refine EC.cM ?_;refine nW ab (ca 265) func265 ntmps265 results265 ?_;have hl:=hm.sl (by omega);have hfl:=hm.fl;have hu1:m.out.Used < m.fresh.length:=by split at hf<;>omega
 have htk:=hm.take hu1;have hid:=hm.taken hu1;have hnz:=hm.Cw hu1;have np:=Co.of hm hu;(repeat' (first|with_reducible (first|rintro rfl|intro _|apply And.intro)|refine eK ab ?_|refine aX 0 (nE h m _ hm.ob.sm.1.2.2.1) rfl ?_|(refine aE 0 (ki h m _ hm.ob.sm.1.2.2.2.2) rfl ?_;rintro ⟨_,_⟩ rfl)|(refine aE 0 (rH h m _ hm.st hm.j0 hl) rfl ?_;rintro ⟨⟨_,_⟩,_⟩ ⟨_,rfl⟩)|refine aX 0 (gm h m ⟨by omega,hu1⟩ (by omega)) rfl ?_|(refine aE 0 (fb h m _ hm.ob.sm.1.2.2.2.2) rfl ?_;rintro ⟨_,_⟩ rfl)|fail))<;>(first|(refine ⟨((0,_),_),?_,Lk.t2 (bE.int rfl) (bE.int rfl),rfl⟩;first|exact dj.of (cY.refl hm (le_refl _)) (by omega))|(refine ⟨((_,(0:Int)),_),?_,Lk.t2 (bE.int rfl) (bE.int rfl),rfl⟩;exact dj.of (cY.slot hm (fun e=>by simp at e)) (by omega))|(have h5:=‹((_,_),_).fst.snd=true→EP (jm I m) ((_,_),_).fst.fst› (by simp_all;done);have h6:=h5.2.1;simp only at h6;omega)|skip)
 ·rename_i fr1 g1 r g2 n fr2 hn g3 fr3;have hu2:m.out.Used+1 < m.fresh.length:=by
   have g4:a.eT.x1=1:=by simpa using g3
   rw [if_pos g4] at hf;omega
  refine EC.mu 3 (d_.cons (by simp [dE,fw,cf,bc]) (by simp [fu,iT,gl,bc];exact bq.refl _) (d_.cons trivial (bq.refl _) (d_.cons trivial (bq.refl _) (d_.mi (i:=3) (cells:=aS .u64) (d:=default) (l:=[m.fresh.getD m.out.Used.toNat default]) (le_refl _) rfl rfl rfl .nil)))) ?_;simp only [take_succ_cons,take_zero];refine EC.r_ ab 0 (nF (I:=jm I (cU m)) h (cU m) _ 3 [m.fresh.getD m.out.Used.toNat default] htk.st htk.j0 (htk.sl (by omega)) (Cu hm) (by simp) (by simpa using hid)) rfl (by (repeat (first|exact eD.nil|refine eD.cons (bq.refl _) ?_))) ?_;rintro ⟨e2,m1⟩ hx;simp only at hx;obtain ⟨hm1,np1,fr4,us1⟩:db I D (L+1) m1∧Co m1∧m1.fresh=m.fresh∧m1.out=(cU m).out:=by
   rcases hx with h|⟨o,ho,hk,h⟩
   ·subst h;exact ⟨htk.le (by omega),np.take,ly m,rfl⟩
   ·subst h;exact ⟨htk.put ho,np.take.put hk,DC _ _,mM _ _⟩
  have hl1:=hm1.sl (by omega);refine sA ?_;(repeat' (first|with_reducible (first|intro _|apply And.intro)|refine eK ab ?_|refine EC.use (Am _) ?_|refine aX 0 (cJ h m1 _ hl1) rfl ?_|fail))<;>(first|(refine ⟨((0,_),_),?_,Lk.t2 (bE.int rfl) (bE.int rfl),rfl⟩;exact dj.mk' hm1 fr4 (by rw [us1];exact gB m) (by omega))|skip);generalize hq:dX m1 _=m2;obtain ⟨hm2,np2,hfr2,hus2,hwt2⟩:db I D (L+2) m2∧Co m2∧m2.fresh=m.fresh∧m2.out.Used=m.out.Used+1∧m2.out.dF=m.out.dF:=by
   subst hq;have hid1:jm I m1 (m.fresh.getD m.out.Used.toNat default):=by
    have e:jm I m1=jm I (cU m):=by funext x;unfold jm;rw [fr4,us1,ly]
    rw [e];exact hid
   exact ⟨hm1.IC hid1,np1.IC,(CL _ _).trans fr4,by rw [mM,us1,uZ],by rw [mM,us1,gB]⟩
  have hfl2:m2.fresh.length=m.fresh.length:=by rw [hfr2]
  (repeat' (first|with_reducible intro _|refine aX 0 (gm h m2 ⟨by omega,by omega⟩ (by omega)) rfl ?_|refine EC.use (n5 _ _) ?_|refine dM ab 4 [0] [0,2,3,4,5] bZ fun R hR=>?_|refine bT ab 1 7 ?_ ?_|refine bT ab 6 7 ?_ ?_|refine dR ab [1,6,8] ?_|refine dR ab [6,8] ?_|refine dR ab [8] ?_|refine dR ab [7,8] ?_|(refine hR _ _ ?_;refine sA ?_)|refine wA ab ?_|fail))<;>(skip)
  all_goals
   refine EC.uV ab 0 (cJ h (cU m2) _ ((hm2.take (by omega)).sl (by omega))) rfl (by (repeat (first|exact eD.nil|refine eD.cons (bq.refl _) ?_))) ?_;refine sA ?_;generalize hq3:dX (cU m2) _=m3;have ho3:m3.o.ae.aH.length≤1000000:=by rw [←hq3,qC,zh];exact hm2.ob.sm.1.2.2.2.2
   (repeat' (first|(refine aE 0 (fb h m3 _ ho3) rfl ?_;rintro ⟨_,_⟩ rfl)|refine dN ab [] [0] [0,1,2,3,4,5,6,7,8,9,10] bZ fun R hR=>?_|refine dR ab [9,10] ?_|(refine hR _ _ ?_;refine sA ?_)|refine wA ab ?_|fail))<;>(skip);subst hq3;exact ⟨((_,(0:Int)),_),dj.opened hm2 np2 (by omega) hfr2 hwt2 _ (by omega),Lk.t2 (bE.int rfl) (bE.int rfl),rfl⟩
 ·rename_i fr1 g1 r g2 n b hn fr2 g3 g4;have hb:b=true:=by simpa using g3
  have hnl:1≤n.kN.length:=(hn hb).2.1;(repeat' (first|with_reducible (first|intro _|apply And.intro)|refine aX 0 (gm h m ⟨by omega,by omega⟩ (by omega)) rfl ?_|refine EC.use (n5 _ _) ?_|refine dM ab 4 [0] [0,2,3,4,5] bZ fun R hR=>?_|refine bT ab 1 7 ?_ ?_|refine bT ab 6 7 ?_ ?_|refine dR ab [1,6,8] ?_|refine dR ab [6,8] ?_|refine dR ab [8] ?_|refine dR ab [7,8] ?_|(refine hR _ _ ?_;refine sA ?_)|refine wA ab ?_|fail))<;>(first|omega|skip)
  all_goals
   refine EC.uV ab 0 (cJ h (cU m) _ ((hm.take (by omega)).sl (by omega))) rfl (by (repeat (first|exact eD.nil|refine eD.cons (bq.refl _) ?_))) ?_;refine sA ?_;generalize hq3:dX (cU m) _=m3;have ho3:m3.o.ae.aH.length≤1000000:=by rw [←hq3,qC,zh];exact hm.ob.sm.1.2.2.2.2
   (repeat' (first|with_reducible apply And.intro|(refine aE 0 (fb h m3 _ ho3) rfl ?_;rintro ⟨_,_⟩ rfl)|refine dN ab [] [0] [0,1,2,3,4,5,6,7,8,9,10] bZ fun R hR=>?_|refine dR ab [9,10] ?_|(refine hR _ _ ?_;refine sA ?_)|refine wA ab ?_|fail))<;>(first|omega|skip);subst hq3;exact ⟨((_,(0:Int)),_),dj.opened hm np (by omega) rfl rfl _ (by omega),Lk.t2 (bE.int rfl) (bE.int rfl),rfl⟩
end
section
variable {I D:Int→Prop} {L:Nat} {m:aF}
theorem db.sG (h:db I D L m) {o:af} (hk:o.aU≠1) (hid:jm I m o.ID) (hp:o.ae=default) (hw:o.fF=[]) (hd:o.Data=[]) (hb:o.bI=[]) (hq:o.bj=default) (hn:o.cN=[]):db I D (L+1) (dX m o):=
 h.put (kV h.j0 hk hid hp (by rw [hw];exact zero_le _) hd hb hq hn)
theorem dj.slot {m1:aF} (h:db I D L m1) (hf:m1.fresh=m.fresh) (hw:m1.out.dF=m.out.dF) {s:aK} (hs:s.aU≠1) {L2:Nat} (hl:L≤L2):dj I D L2 m (kP m1 s):=⟨D,(h.slot (fun e=>absurd e hs)).le hl,kY.refl,hf,hw⟩
theorem JB (htk:db I D L (cU m)) {m1:aF} (hx:m1=cU m∨∃o,cG (jm I (cU m)) D o∧o.aU≠1∧m1=dX (cU m) o):db I D (L+1) m1∧m1.fresh=m.fresh∧m1.out=(cU m).out∧jm I m1=jm I (cU m):=by
 rcases hx with rfl|⟨o,ho,hk,rfl⟩
 ·exact ⟨htk.le (le_succ _),rfl,rfl,rfl⟩
 ·exact ⟨htk.put ho,rfl,rfl,rfl⟩
theorem d_.rp {n:Nat} {B:List aI} {h:aN} {e k o:Nat} {r r':List SV} (hn:0 < n) (hr:d_ n B r r'):d_ n B (.bx 0 h e k o :: r) (.bx 0 h e k o :: r'):=by
 have:bc n 0=false:=by simp [bc];omega
 exact .cons (by simp [dE,fw,cf,this]) (by simp only [fu,iT,gl,this];exact bq.refl _) hr
attribute [local irreducible] EC EV cc cK dT dX dj cY cU j6 kP gj
set_option maxHeartbeats 3000000 in
theorem tJ (h:aN) (m:aF) (a:a_) (hm:db I D L m) (hL:L≤700000) (hu:m.out.Used=0) (hf:1≤m.fresh.length):EC prog 271 [.bx 0 h 41 0 0,.agg a.c] [b7 h m] fun r N=>∃x:(Int×Int)×aF,dj I D (L+60) m x.2∧r= .bS [.int .i64 x.1.1,.int .i64 x.1.2]∧N=[b7 h x.2]:=by
 refine EC.cM ?_;refine nW ab (ca 271) func271 ntmps271 results271 ?_;have hl:=hm.sl (by omega);have hfl:=hm.fl;have hu1:m.out.Used < m.fresh.length:=by omega
 have htk:=hm.take hu1;have hid:=hm.taken hu1;have hnz:=hm.Cw hu1;(repeat' (first|with_reducible (first|rintro rfl|intro _|apply And.intro)|refine eK ab ?_|refine aX 0 (nE h m _ hm.ob.sm.1.2.2.1) rfl ?_|(refine aE 0 (ki h m _ hm.ob.sm.1.2.2.2.2) rfl ?_;rintro ⟨_,_⟩ rfl)|(refine aE 0 (rH h m _ hm.st hm.j0 hl) rfl ?_;rintro ⟨⟨_,_⟩,_⟩ ⟨_,rfl⟩)|refine aX 0 (gm h m ⟨by omega,hu1⟩ (by omega)) rfl ?_|refine EC.use (sV _) ?_|(refine aE 0 (fb h m _ hm.ob.sm.1.2.2.2.2) rfl ?_;rintro ⟨_,_⟩ rfl)|fail))
 ·exact ⟨((0,_),_),dj.of (cY.refl hm (le_refl _)) (by omega),Lk.t2 (bE.int rfl) (bE.int rfl),rfl⟩
 ·exact ⟨((0,_),_),dj.of (cY.refl hm (le_refl _)) (by omega),Lk.t2 (bE.int rfl) (bE.int rfl),rfl⟩
 ·rename_i fr1 g1 r g2 g3 fr2 fr3;refine EC.mu 3 (d_.rp (by decide) (d_.cons trivial (bq.refl _) (d_.cons trivial (bq.refl _) (d_.mi (i:=3) (cells:=aS .u64) (d:=default) (l:=[m.fresh.getD m.out.Used.toNat default]) (le_refl _) rfl rfl rfl .nil)))) ?_;simp only [take_succ_cons,take_zero];refine EC.r_ ab 0 (nF (I:=jm I (cU m)) h (cU m) _ _ [m.fresh.getD m.out.Used.toNat default] htk.st htk.j0 (htk.sl (by omega)) (lf hm) (by simp) (by simpa using hid)) rfl (by (repeat (first|exact eD.nil|refine eD.cons (bq.refl _) ?_))) ?_;rintro ⟨e2,m1⟩ hx;obtain ⟨hm1,fr4,us1,je⟩:=JB htk hx;have hl1:=hm1.sl (by omega);have hid1:jm I m1 (m.fresh.getD m.out.Used.toNat default):=by rw [je];exact hid
  have ht1:∀o:af,(dX m1 o).o.ae.aH.length≤1000000:=fun o=>by rw [qC];exact hm1.ob.sm.1.2.2.2.2
  refine sA ?_;(repeat' (first|with_reducible (first|intro _|apply And.intro)|refine eK ab ?_|refine aX 0 (cJ h m1 _ hl1) rfl ?_|(refine aE 0 (fb h _ _ (ht1 _)) rfl ?_;rintro ⟨_,_⟩ rfl)|fail))
  ·exact ⟨((0,_),_),dj.mk' hm1 fr4 (by rw [us1];exact gB m) (by omega),Lk.t2 (bE.int rfl) (bE.int rfl),rfl⟩
  ·exact ⟨((_,(0:Int)),_),dj.slot (hm1.sG (by show (6:Int)≠1;decide) hid1 rfl rfl rfl rfl rfl rfl) ((CL _ _).trans fr4) (by rw [mM,us1];exact gB m) (by show (5:Int)≠1;decide) (by omega),Lk.t2 (bE.int rfl) (bE.int rfl),rfl⟩
 ·exact ⟨((0,_),_),dj.of (cY.refl hm (le_refl _)) (by omega),Lk.t2 (bE.int rfl) (bE.int rfl),rfl⟩
 ·have h5:=‹((_,_),_).fst.snd=true→EP (jm I m) ((_,_),_).fst.fst› rfl;have h6:=h5.2.1;simp only at h6;omega
 ·exact ⟨((_,(0:Int)),_),dj.of (cY.slot hm (fun e=>by simp at e)) (by omega),Lk.t2 (bE.int rfl) (bE.int rfl),rfl⟩
 ·rename_i fr1 g1 r g2 g3 n fr2 hn;have hso:cG (jm I (cU m)) D (gj (m.fresh.getD m.out.Used.toNat default) a.eT.x1).1:=CP htk.j0 hid;(repeat' (first|with_reducible (first|intro _|apply And.intro)|refine aX 0 (gm h m ⟨by omega,hu1⟩ (by omega)) rfl ?_|refine EC.use (Ah _ _) ?_|refine dM ab 8 [0] [0,2,3,4] bZ fun R hR=>?_|refine bT ab 1 9 ?_ ?_|refine bT ab 5 9 ?_ ?_|refine dR ab [1,5,6,7,8,10,11] ?_|refine dR ab [5,6,7,8,10,11] ?_|refine dR ab [6,7,8,10,11] ?_|refine dR ab [6,7,8,9,10,11] ?_|(refine hR _ _ ?_;refine sA ?_)|refine wA ab ?_|fail))
  all_goals try exact ⟨((0,_),_),dj.mk' htk (ly m) (gB m) (by omega),Lk.t2 (bE.int rfl) (bE.int rfl),rfl⟩
  all_goals
   generalize gj (m.fresh.getD m.out.Used.toNat default) a.eT.x1=q at hso;refine EC.mu 4 (d_.rp (by decide) (d_.cons trivial (bq.refl _) (d_.cons trivial (bq.refl _) (d_.mi (i:=4) (cells:=aS .u64) (d:=default) (l:=[q.1.ID]) (le_refl _) rfl rfl rfl .nil)))) ?_;simp only [take_succ_cons,take_zero];refine EC.r_ ab 0 (nF (I:=jm I (cU m)) h (cU m) _ _ [q.1.ID] htk.st htk.j0 (htk.sl (by omega)) (lf hm) (by simp) (by simpa using hso.kn.1)) rfl (by (repeat (first|exact eD.nil|refine eD.cons (bq.refl _) ?_))) ?_;rintro ⟨e2,m1⟩ hx;obtain ⟨hm1,fr4,us1,je⟩:=JB htk hx;have hl1:=hm1.sl (by omega);rw [←je] at hso;have ht1:∀o:af,(dX m1 o).o.ae.aH.length≤1000000:=fun o=>by rw [qC];exact hm1.ob.sm.1.2.2.2.2
   refine sA ?_;(repeat' (first|with_reducible (first|intro _|apply And.intro)|refine eK ab ?_|refine aX 0 (cJ h m1 _ hl1) rfl ?_|(refine aE 0 (fb h _ _ (ht1 _)) rfl ?_;rintro ⟨_,_⟩ rfl)|fail))
   ·exact ⟨((0,_),_),dj.mk' hm1 fr4 (by rw [us1];exact gB m) (by omega),Lk.t2 (bE.int rfl) (bE.int rfl),rfl⟩
   ·exact ⟨((_,(0:Int)),_),dj.slot (hm1.put hso) ((CL _ _).trans fr4) (by rw [mM,us1];exact gB m) (by show (7:Int)≠1;decide) (by omega),Lk.t2 (bE.int rfl) (bE.int rfl),rfl⟩
end
section
variable {I D:Int→Prop} {L:Nat} {m:aF}
def Ml (m:Nat) (B:List aI) (xs ys:List (List SV)):Prop:=xs.length=ys.length∧∀(k:Nat) (cs ds:List SV),xs[k]?=some cs→ys[k]?=some ds→cs.length≠2∧bC (bc m) B cs∧eD (ew (bc m) B cs) ds
theorem Ml.one {m:Nat} {B:List aI} {cs ds:List SV} (h2:cs.length≠2) (hk:bC (bc m) B cs) (h:eD (ew (bc m) B cs) ds):Ml m B [cs] [ds]:=by
 refine ⟨rfl,fun k a b ha hb=>?_⟩
 cases k with
 |zero=>simp at ha hb;subst ha hb;exact ⟨h2,hk,h⟩
 |succ k=>simp at ha
theorem aI.Ig {m j:Nat} {X:Nat→Prop} {w:World} {B:List aI} (hs:Sat X w B) {h:aN} {E e:Nat} {xs ys:List (List SV)} (hB:au B j= .row h E e xs) (hf:Ml m B xs ys):aI.ok (dz X B (bc m)) w (.row h E e ys):=by
 have hok:=hs.ok j;rw [hB] at hok
 cases h with
 |void a=>
  simp only [aI.ok] at hok ⊢;subst hok;exact List.length_eq_zero_iff.1 hf.1.symm
 |mp b=>
  obtain ⟨arr,clock,h1,h2⟩:=hok
  cases xs with
  |nil=>rw [List.length_eq_zero_iff.1 hf.1.symm];exact ⟨arr,clock,h1,h2⟩
  |cons x xs=>
   exfalso
   cases ys with
   |nil=>simp [Ml] at hf
   |cons y ys=>
    have:=(hf.2 0 x y rfl rfl).1
    cases hl:arr.toList with
    |nil=>rw [hl] at h2;exact h2
    |cons m ms=>
     rw [hl] at h2;obtain ⟨⟨k1,k2,a,v,_,_,_,_,rfl⟩,_⟩:=h2;simp at this
 | «at» b cap=>
  obtain ⟨vs,k1,k2,k3,k4,k5⟩:=hok;have hget:∀{k:Nat} {ds:List SV},ys[k]?=some ds→∃cs,xs[k]?=some cs∧bC (bc m) B cs∧eD (ew (bc m) B cs) ds:=fun {k ds} hy=>by
   have hk:k < ys.length:=(List.getElem?_eq_some_iff.1 hy).1;have hx:xs[k]?=some (xs[k]'(by rw [hf.1];exact hk)):=List.getElem?_eq_getElem (by rw [hf.1];exact hk);exact ⟨_,hx,(hf.2 k _ _ hx hy).2⟩
  refine ⟨vs,k1,k2,by rw [←hf.1];exact k3,fun k ds hy=>?_,fun k j ds c hy hc=>?_⟩
  ·obtain ⟨cs,h1,h2,h3⟩:=hget hy;rw [←k4 k cs h1,←(fv hs h2).1];exact h3.spec.1.symm
  ·obtain ⟨cs,h1,h2,h3⟩:=hget hy;obtain ⟨d,h4,h5⟩:=h3.spec.2 j c hc;have hjl:j < cs.length:=by
    have:=(List.getElem?_eq_some_iff.1 h4).1
    rwa [(fv hs h2).1] at this
   let ws:Array Value:=((range cs.length).map fun j=>vs.getD (k*e+j) undef).toArray
   have hws:∀j,j < cs.length→ws.getD j undef=vs.getD (k*e+j) undef:=fun j hj=>by
    simp [ws,Array.getD,hj]
   have h6:=(fv hs h2).2 ws (fun i a ha=>by
    have hi:i < cs.length:=(List.getElem?_eq_some_iff.1 ha).1;rw [hws i hi];exact k5 k i cs a h1 ha) j d h4
   rw [hws j hjl] at h6;exact h5 _ _ _ h6
theorem I1 {P:Program} {n:Nat} {c:Code} {t:aV} {B:List aI} {Q:gX} (m j:Nat) {h0:aN} {E e:Nat} {xs ys:List (List SV)} (hj:j < m) (hB:au B j= .row h0 E e xs) (hf:Ml m B xs ys) (t':aV) (ht:Ed m B t t')
  (h:EV P n c t' ((B.take m).set j (.row h0 E e ys)) Q):EV P n c t B Q:=by
 have hjl:j < B.length:=fp hB;have hjl2:j < (B.take m).length:=by rw [List.length_take];omega
 have hb:∀i,au (B.take m) i=if bc m i then .gone else au B i:=fun i=>by
  rw [eQ];by_cases hi:i < m
  ·have:bc m i=false:=by simp [bc];omega
   simp [hi,this]
  ·have:bc m i=true:=by simp [bc];omega
   simp [hi,this]
 have hBt:au (B.take m) j= .row h0 E e xs:=by rw [eQ,if_pos hj,hB]
 intro X0 w0 B0 X w a he hs;have hs1:=hs.sat.dY hb;have hbl:∀i,(au ((B.take m).set j (.row h0 E e ys)) i).blocks=(au (B.take m) i).blocks:=fun i=>by
  rw [eo hjl2]
  split
  ·rename_i e';subst e';rw [hBt];cases h0<;>rfl
  ·rfl
 have hown:∀b,hU ((B.take m).set j (.row h0 E e ys)) b↔hU (B.take m) b:=fun b=>⟨fun ⟨i,h'⟩=>⟨i,by rwa [hbl] at h'⟩,fun ⟨i,h'⟩=>⟨i,by rwa [hbl]⟩⟩;have hs2:Sat (dz X B (bc m)) w ((B.take m).set j (.row h0 E e ys)):=⟨fun a b' c h2 h3=>hs1.inj a b' c (by rwa [hbl] at h2) (by rwa [hbl] at h3),fun a b' h2=>hs1.lt a b' (by rwa [hbl] at h2),hs1.xg,fun b' hx' ho=>hs1.apart b' hx' ((hown b').1 ho),fun a=>by
  rw [eo hjl2]
  split
  ·exact aI.Ig hs.sat hB hf
  ·exact hs1.ok a⟩
 have hx2:Ext X w B (dz X B (bc m)) w ((B.take m).set j (.row h0 E e ys)):=by
  have:=Ext.dY (X:=X) (w:=w) hb;exact ⟨rfl,rfl,rfl,le_refl _,fun _ _ _=>rfl,this.AS,this.pT,fun b hb=>this.own b ((hown b).1 hb)⟩
 refine h X0 w0 B0 _ w a (he.trans hx2) ⟨hs.defers,hs2,hs.den.1,fun i=>?_⟩;rcases qU ht i with h1|⟨h1,h2⟩
 ·rw [h1];exact .any _
 ·exact h2 _ _ _ (eR hs.sat (hs.den.2 i) h1)
theorem Hk {l:List ay} {ids:List Int} (h:((jE l ids).2.2 !=0)=false):(jE l ids).1=l ++ ids.map shr∧kC (l ++ ids.map shr)=true:=by
 unfold jE at h ⊢
 split at h
 ·simp at h
 rename_i g1;rw [if_neg g1]
 split at h
 ·simp at h
 rename_i g2;rw [if_neg g2]
 split at h
 ·simp at h
 rename_i g3;rw [if_neg g3]
 split at h
 ·simp at h
 rename_i g4;rw [if_neg g4];exact ⟨rfl,by simpa using g4⟩
theorem db.ed (h:db I D L m) {l:List ay} (ht:kC l=true) (hk:∀p∈l,jm I m p.ID):db I D L {m with o:={m.o with ae:={m.o.ae with aQ:=l}}}:=h.HC (EK h.ob ht hk)
def rZ:List SV:=[.str [],.int .i64 0,.sl true 0 0 fun _=>[]]
def EW (x:a8×Bool):List SV:=if x.2 then x.1.c else rZ
theorem JH {B:List aI}:a6 B (.agg rZ) (.agg (EW (default,false))):=a6.agg (cs:=rZ) (ds:=rZ) ⟨⟨trivial,trivial,trivial,trivial⟩,eD.refl _⟩
namespace NilName
def E2:Env:={E with zr:=fun T=>if T=198 then rZ else E.zr T}
theorem Cl:cI prog E2:=⟨ab.ty,fun T h=>by
 simp only [E2] at h ⊢
 split
 ·rename_i e;subst e;kernel_rfl
 ·rename_i e;simp only [e,if_false] at h;exact ab.zr T h,ab.lv⟩
theorem Pw (T:Nat):E2.ty T=E.ty T:=rfl
theorem Pv:E2.zr 198=rZ:=rfl
theorem FO:rZ.length=3:=rfl
theorem FN:bt rZ=true:=rfl
theorem Kc (x:a8):aJ rZ 0 x.c=x.c:=by cases x;rfl
attribute [push_cast] Pw Pv Kc FO FN
theorem wu (o:af) (s:List UInt8) (ho:cS o):EC prog 174 [.agg o.c,.str s] [] fun r N=>N=[]∧∃x:a8×Bool,((x.2=true→x.1∈o.cN)∧(x.2=false→x.1=default))∧r= .bS [.agg (EW x),.bool x.2]:=by
 refine EC.bh ?_;(refine nK Cl (ca 174) func174 ntmps174 results174 ?_);intro fr;(refine EC.aM (iM o ho) ?_;rintro b -;refine eK Cl ?_);refine ⟨fun h=>⟨(default,false),⟨by simp,fun _=>rfl⟩,Lt.t2 JH a6.bool⟩,fun h=>?_⟩;have hl:=ho.2.2.2.2.2.2.1;refine eh Cl [1,4,5,13,14] (fun i:Nat=>[(15,.int .i64 i)]) (fun B _=>B) (fun i=>i≤o.cN.length) (fun i=>o.cN.length - i) 0 (zero_le _) ?_;rintro i hi;replace hi:i≤o.cN.length:=hi;have hw:=wI i;simp only [hw,push_cast,simprocAttr];refine ⟨fun h fr2=>⟨⟨by omega,h⟩,fun g=>?_,fun g=>a7 (i+1) (by show i+1≤_;omega)⟩,fun h=>⟨(default,false),⟨by simp,fun _=>rfl⟩,Lt.t2 JH a6.bool⟩⟩;have hlt:i < o.cN.length:=by omega
 have hm:o.cN.getD i default∈o.cN:=bk hlt;(refine EC.use (da _ (ho.2.2.2.2.2.2.2 _ hm)) ?_;refine eK Cl ?_);exact ⟨(o.cN.getD i default,true),⟨fun _=>hm,fun e=>by simp at e⟩,Lt.t2 (a6.Ce rfl) a6.bool⟩
end NilName
theorem Im (x:a8×Bool):bt (EW x)=true:=by
 rcases x with ⟨⟨p,k,l⟩,b⟩
 cases b<;>rfl
theorem Io (x:a8×Bool):(EW x).length=3:=by
 rcases x with ⟨⟨p,k,l⟩,b⟩
 cases b<;>rfl
theorem Oc (x:a8×Bool):aJ (default:a8).c 0 (EW x)=EW x:=by
 rcases x with ⟨⟨p,k,l⟩,b⟩
 cases b<;>rfl
theorem Ob (x:a8×Bool):(EW x).take 3=EW x:=by
 rcases x with ⟨⟨p,k,l⟩,b⟩
 cases b<;>rfl
attribute [push_cast] Im Io Oc Ob
theorem OA {m:Nat} {B:List aI} {n:a8} {b:Bool} (h:b=false→n=default):bE m B (.agg (EW (n,b))) (.agg (EW (n,b))):=by
 cases b with
 |true=>exact bE.Ce rfl
 |false=>exact bE.agg (cs:=rZ) (ds:=rZ) ⟨trivial,trivial,trivial,trivial⟩ (eD.refl _)
theorem zO (h:aN) (m:aF) (path:List UInt8) (hs:ja I D m.s) (h0:I 0) (hl:m.s.ah.length≤1000000000):EC prog 314 [.bx 0 h 41 0 0,.str path] [b7 h m] fun r N=>∃x:(a8×Bool)×aF,(((x.1.2=true→EP I x.1.1)∧(x.1.2=false→x.1.1=default))∧m=x.2)∧r= .bS [.agg (EW x.1),.bool x.1.2]∧N=[b7 h x.2]:=by
 refine EC.cM ?_;refine nK ab (ca 314) func314 ntmps314 results314 ?_;(repeat' (first|with_reducible intro _|refine eK ab ?_|refine aX 0 (dH h m _ hl) rfl ?_|(refine EC.aM (NilName.wu _ path (hs.get h0).sm) ?_;rintro ⟨_,_⟩ _)|fail));rename_i fr n b hb;exact ⟨((n,b),m),⟨⟨fun e=>(hs.get h0).names (hb.1 e),hb.2⟩,rfl⟩,Lk.t2 (OA hb.2) (bE.bool rfl),rfl⟩
theorem Rq (p:List UInt8) (k:Int) (q r:SV):aJ [.str p,.int .i64 k,q] 2 [r]=[.str p,.int .i64 k,r]:=rfl
theorem Iu {m:aF} (hu:0≤m.out.Used) {x:Int} (hx:jm I m x):jm I (cU m) x:=hx.elim .inl fun hx=> .inr (by
 show x∈m.fresh.take (m.out.Used+1).toNat;rw [show (m.out.Used+1).toNat=m.out.Used.toNat+1 by omega];exact List.take_subset_take_left _ (le_succ _) hx)
end
end Go.Proofs.YteejbbfaphcgiaaGreat
