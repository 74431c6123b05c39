/- Part 0. -/
import Derived.RangeFuncBox
import Derived.RangeFuncLeaves
import Derived.OwnWalkIn
import Derived.TacticsInMore
import Derived.LoopNIn
import Derived.LoopIn
import Derived.Shelf.Abstract
import Derived.Test.YteejbbfaphcgiaaGreatV11
namespace Go.Proofs.YteejbbfaphcgiaaGreat
open Go.Lift _root_.Go.Proofs.Tryz
set_option linter.unusedSimpArgs false
set_option linter.unusedVariables false
set_option maxHeartbeats 20000000
set_option maxRecDepth 100000
open List (getD foldl_append map ext_getElem length_set length_map getElem_set take_length length_append filter_cons length_cons append_nil size_toArray length_nil push_toArray append_toArray nil_append cons_append)
open Nat (zero_le le_refl lt_or_ge le_trans)
theorem c9.fz (sel:Nat→Bool) (B:List aI) (x:c9):ew sel B x.c=x.c:=rfl
theorem cm.fz (sel:Nat→Bool) (B:List aI) (x:cm):ew sel B x.c=x.c:=rfl
theorem TQ:RD prog 42 ((aS .u64)) (fun x=>(Lit.int .u64 x).wf=true):=RD.int underlying42
theorem TP:IU prog 42 (fun n=> .int .u64 n) (fun x=>(Lit.int .u64 x).wf=true):=IU.cell (by kernel_rfl) TQ
section
attribute [local irreducible] EC EV
theorem TG (x:Int):-9223372036854775808≤IntKind.i64.wrap x∧IntKind.i64.wrap x≤9223372036854775807:=by
 have e:IntKind.i64.wrap x=if x%18446744073709551616≥9223372036854775808 then x%18446744073709551616 - 18446744073709551616 else x%18446744073709551616:=by
  unfold IntKind.wrap;simp [IntKind.signed,IntKind.bits]
 rw [e]
 split<;>omega
theorem SJ (x:Int):IntKind.i64.wrap (IntKind.i64.wrap x)=IntKind.i64.wrap x:=bu (TG x)
def Sq (a b:cm):cm:=⟨IntKind.i64.wrap (a.Steps+b.Steps),IntKind.i64.wrap (a.dF+b.dF),IntKind.i64.wrap (a.DZ+b.DZ),IntKind.i64.wrap (a.rU+b.rU),IntKind.i64.wrap (a.D3+b.D3),IntKind.i64.wrap (a.uO+b.uO)⟩
def Sr (x:aB):cm:=
 if (x.aU == 1)=true then ⟨1,0,0,0,0,0⟩ else if (x.aU == 2)=true then ⟨0,1,0,0,0,0⟩ else if (x.aU == 7)=true then ⟨0,0,1,0,0,0⟩
 else if (x.aU == 5)=true then ⟨0,0,0,0,(x.kN.length:Int),0⟩ else if (x.aU == 6)=true then ⟨0,0,0,0,0,1⟩ else ⟨0,0,0,0,0,0⟩
def TO (x:Int):Prop:=IntKind.i64.wrap x=x
structure TB (r:cm):Prop where
 s:TO r.Steps
 w:TO r.dF
 m:TO r.DZ
 n:TO r.rU
 k:TO r.D3
 f:TO r.uO
theorem TB.add (a b:cm):TB (Sq a b):=⟨SJ _,SJ _,SJ _,SJ _,SJ _,SJ _⟩
theorem TB.d:TB ⟨0,0,0,0,0,0⟩:=⟨bu (by decide),bu (by decide),bu (by decide),bu (by decide),bu (by decide),bu (by decide)⟩
def S1 (l:List aB) (i:Nat):cm:=(l.take i).foldl (fun a x=>Sq a (Sr x)) ⟨0,0,0,0,0,0⟩
theorem SZ {l:List aB} {i:Nat} (h:i < l.length):S1 l (i+1)=Sq (S1 l i) (Sr (l.getD i default)):=by
 have e:l.getD i default=l[i]:=by simp [getD,h]
 unfold S1;rw [e,List.take_succ_eq_append_getElem h,foldl_append];rfl
def Tc (ls:List cr) (r:cm) (i:Nat):cm:={r with rU:=(ls.take i).foldl (fun a x=>IntKind.i64.wrap (a+(x.bA.length:Int))) r.rU}
theorem Tk {ls:List cr} {r:cm} {i:Nat} (h:i < ls.length):Tc ls r (i+1)={Tc ls r i with rU:=IntKind.i64.wrap ((Tc ls r i).rU+((ls.getD i default).bA.length:Int))}:=by
 have e:ls.getD i default=ls[i]:=by simp [getD,h]
 unfold Tc;rw [e,List.take_succ_eq_append_getElem h,foldl_append];rfl
def Ss (l:List aB) (ls:List cr):cm:=Tc ls (S1 l l.length) ls.length
theorem Lt.rep {B:List aI} {x y:cm} (h:x=y):Lt B (.agg x.c) (.agg y.c):=by subst h;exact Lt.agg (eU.obj (fun s B=>by rw [cm.fk]) (fun s B=>by rw [cm.fz]))
theorem SA (a b:cm):EC prog 18 [.agg a.c,.agg b.c] [] fun r N=>N=[]∧r= .agg (Sq a b).c:=by
 refine EC.cQ ?_;refine nW ab (ca 18) func18 ntmps18 results18 ?_;(repeat' (with_reducible intro _))<;>((exact Lt.rep rfl))
theorem SU (x:aB):EC prog 47 [.agg x.c] [] fun r N=>N=[]∧r= .agg (Sr x).c:=by
 refine EC.cQ ?_;refine nW ab (ca 47) func47 ntmps47 results47 ?_;(repeat' (with_reducible (first|intro _|apply And.intro)))<;>((refine Lt.rep ?_;unfold Sr;(simp only [*,if_true,if_false,Bool.false_eq_true]);rfl))
theorem Sw (h:c9) (hl:h.iV.length≤1099511627776) (hn:h.ld.bQ.bU.length≤1099511627776):EC prog 12 [.agg h.c] [] fun r N=>N=[]∧r= .agg (Ss h.iV h.ld.bQ.bU).c:=by
 refine EC.cQ ?_;refine nW ab (ca 12) func12 ntmps12 results12 ?_;(repeat' (with_reducible intro _));refine aT ab [1,2,3,9,10] (fun i:Nat=>[(11,.int .i64 i)]) (fun B i=>cP B 2 [(S1 h.iV i).c]) (fun i=>i≤h.iV.length) (fun i=>h.iV.length - i) 0 (zero_le _) ?_;intro i hi;have hw:=wI i;have hs:=SZ (l:=h.iV) (i:=i);simp only [hw,push_cast,simprocAttr];(repeat' (first|with_reducible (first|intro _|apply And.intro)|refine EC.use (SU _) ?_|refine EC.use (SA _ _) ?_|refine dN ab [4] [] [0,1,2,3,4] bZ fun R hR=>?_|refine dR ab [3,4] ?_|refine dR ab [4] ?_|(refine hR _ _ ?_;refine sA ?_)|fail))<;>(first|omega|((try simp only [hw]);rw [←hs (by omega)];exact a7 (i+1) (by show i+1≤_;omega))|skip);obtain rfl:i=h.iV.length:=by have hz:=‹decide ((i:Int) < _)=false›;simp at hz;omega
 refine aT ab [2,3,23,24] (fun i:Nat=>[(25,.int .i64 i)]) (fun B i=>cP B 2 [(Tc h.ld.bQ.bU (S1 h.iV h.iV.length) i).c]) (fun i=>i≤h.ld.bQ.bU.length) (fun i=>h.ld.bQ.bU.length - i) 0 (zero_le _) ?_;intro j hj;have hw2:IntKind.i64.wrap ((j:Int)+1)=((j+1:Nat):Int):=by rw [bu (by omega)];omega
 have hm:=Tk (ls:=h.ld.bQ.bU) (r:=S1 h.iV h.iV.length) (i:=j);simp only [hw2,push_cast,simprocAttr];(repeat' (with_reducible (first|intro _|apply And.intro)))<;>(first|omega|((try simp only [hw2]);rw [←hm (by omega)];exact a7 (j+1) (by show j+1≤_;omega))|(refine Lt.rep ?_;(obtain rfl:j=h.ld.bQ.bU.length:=(by have hz:=‹decide ((j:Int) < _)=false›;simp at hz;omega));rfl))
theorem Ts {x:aB} (h:(x.aU == 1)=true):Sr x=⟨1,0,0,0,0,0⟩:=by unfold Sr;rw [if_pos h]
end
section
attribute [local irreducible] EC EV
def SL (p:Int) (x:aB):Bool:=x.aU == 1 && x.ae == p
def Su (l:List aB) (p:Int):Nat→Nat×Nat×Nat
 |0=>(0,0,0)
 |i+1=>if SL p (l.getD i default)=true then ((Su l p i).1+1,max (Su l p i).2.1 (i - (Su l p i).2.2),i+1) else Su l p i
theorem S7 {l:List aB} {p:Int} {i:Nat} (h:SL p (l.getD i default)=true):Su l p (i+1)=((Su l p i).1+1,max (Su l p i).2.1 (i - (Su l p i).2.2),i+1):=by rw [Su,if_pos h]
theorem SY {l:List aB} {p:Int} {i:Nat} (h:SL p (l.getD i default)=false):Su l p (i+1)=Su l p i:=by rw [Su,if_neg (by rw [h];decide)]
theorem Tr (l:List aB) (p:Int) (i:Nat):(Su l p i).2.2≤i∧(Su l p i).2.1+(Su l p i).1≤(Su l p i).2.2∧((Su l p i).1=0→(Su l p i).2.1=0)∧(Su l p i).2.2≤(Su l p i).1*((Su l p i).2.1+1):=by
 induction i with
 |zero=>simp [Su]
 |succ i ih=>
  cases h:SL p (l.getD i default) with
  |false=>rw [SY h];exact ⟨Nat.le_succ_of_le ih.1,ih.2⟩
  |true=>
   rw [S7 h];obtain ⟨h1,h2,h3,h4⟩:=ih;generalize (Su l p i).1=n at *;generalize (Su l p i).2.1=m at *;generalize (Su l p i).2.2=e at *;refine ⟨le_refl _,?_,fun h=>absurd h (Nat.succ_ne_zero _),?_⟩
   ·show max m (i - e)+(n+1)≤i+1;omega
   ·show i+1≤(n+1)*(max m (i - e)+1);have h5:n*(m+1)≤n*(max m (i - e)+1):=Nat.mul_le_mul_left n (by omega);rw [Nat.add_mul];omega
theorem SQ (l:List aB) (p:Int) (hl:l.length≤1099511627776):EC prog 21 [bG 47 aB.c default l,.int .u64 p] [] fun r N=>N=[]∧r= .int .i64 ((Su l p l.length).2.2:Nat):=by
 refine EC.cQ ?_;refine nW ab (ca 21) func21 ntmps21 results21 ?_;(repeat' (done));refine aT ab [1,8,9] (fun s:Nat×Nat=>[(10,.int .i64 s.1),(5,.int .i64 s.2)]) (fun B _=>B) (fun s=>s.1≤l.length∧s.2=(Su l p s.1).2.2) (fun s=>l.length - s.1) (0,0) ⟨zero_le _,rfl⟩ ?_;rintro ⟨i,n⟩ ⟨hi,hn⟩;replace hi:i≤l.length:=hi;replace hn:n=(Su l p i).2.2:=hn;have hw:=wI i;have hst:=S7 (l:=l) (p:=p) (i:=i);have hsf:=SY (l:=l) (p:=p) (i:=i);simp only [hw,push_cast,simprocAttr];(repeat' (with_reducible (first|intro _|apply And.intro)))<;>(first|(have h1:=hst (by unfold SL;first|assumption|(simp_all;done));(try simp only [hw]);exact a7 (i+1,i+1) ⟨by show i+1≤_;omega,by show i+1=(Su l p (i+1)).2.2;rw [h1]⟩)|(have h1:=hsf (by unfold SL;first|assumption|(simp_all;done));(try simp only [hw]);exact a7 (i+1,n) ⟨by show i+1≤_;omega,by show n=(Su l p (i+1)).2.2;rw [h1,hn]⟩)|(refine Lt.int ?_;(obtain rfl:i=l.length:=(by have hz:=‹decide ((i:Int) < _)=false›;simp at hz;omega));rw [hn];done)|omega)
end
section
def Fz (B:List aI) (s s':SV):Prop:=∀X w v,Sat X w B→Den X w s v→Den (dz X B (bc 0)) w s' v
theorem Fz.of {B:List aI} {s s':SV} (hk:dE (bc 0) B s) (h:bq (fu (bc 0) B s) s'):Fz B s s':=fun X w v hs hd=>h _ _ _ (eR hs hd hk)
inductive LO (B:List aI):List SV→List SV→Prop where
 |nil:LO B [] []
 |cons {s s':SV} {l l':List SV} (h:Fz B s s') (hr:LO B l l'):LO B (s :: l) (s' :: l')
theorem LO.spec {B:List aI} {l l':List SV} (h:LO B l l'):l.length=l'.length∧∀(i:Nat) (c:SV),l'[i]?=some c→∃d,l[i]?=some d∧Fz B d c:=by
 induction h with
 |nil=>exact ⟨rfl,by simp⟩
 |cons h hr ih=>
  refine ⟨by simp [ih.1],fun i c hc=>?_⟩
  cases i with
  |zero=>simp at hc;subst hc;exact ⟨_,rfl,h⟩
  |succ i=>simpa using ih.2 i c (by simpa using hc)
theorem Fz.fn {B:List aI} {f:FuncId} {l l':List SV} (h:LO B l l'):Fz B (.fn f l) (.fn f l'):=fun X w v hs hd=>by
 cases hd with
 |fn hz hc=>
  refine .fn (by rw [hz,h.spec.1]) fun i c hi=>?_;obtain ⟨d,h1,h2⟩:=h.spec.2 i c hi;exact h2 X w _ hs (hc i d h1)
theorem Fz.int {B:List aI} {k:IntKind} {n:Int}:Fz B (.int k n) (.int k n):=Fz.of trivial (bq.refl _)
theorem Fz.bG {α:Type} {B:List aI} {e:Nat} {cells:α→List SV} {d:α} {l:List α}:Fz B (Go.Lift.bG e cells d l) (Go.Lift.bG e cells d l):=Fz.of trivial (bq.refl _)
theorem Fz.box {B:List aI} {i E e:Nat} {h:aN} {c:List SV} (hB:au B i= .row h E e [c]):Fz B (.bx i h e 0 0) (.xp c):=by
 refine Fz.of ?_ ?_
 ·simp [dE,fw,cf,bc,hB]
 ·simp only [fu,iT,gl,bc,zero_le,decide_true,hB];exact bq.refl _
attribute [local irreducible] EC EV gW cc cK dT
end
section
attribute [local irreducible] EC EV
theorem A7 (l:List a8) (i:Nat):(map a8.c l).set i (l.getD i default).c=map a8.c l:=by
 refine ext_getElem (by simp) fun j h1 h2=>?_;simp only [length_set,length_map] at h1 h2;rw [getElem_set]
 split
 ·rename_i e;subst e;simp [getD,h2]
 ·rfl
theorem u2 (l:List af) (i:Nat):(map af.c l).set i (l.getD i default).c=map af.c l:=by
 refine ext_getElem (by simp) fun j h1 h2=>?_;simp only [length_set,length_map] at h1 h2;rw [getElem_set]
 split
 ·rename_i e;subst e;simp [getD,h2]
 ·rfl
theorem ou (l:List ax) (i:Nat):(map ax.c l).set i (l.getD i default).c=map ax.c l:=by
 refine ext_getElem (by simp) fun j h1 h2=>?_;simp only [length_set,length_map] at h1 h2;rw [getElem_set]
 split
 ·rename_i e;subst e;simp [getD,h2]
 ·rfl
end
section
attribute [local irreducible] EC EV gW cc cK dT dQ
def FF (l:List Int) (h:l.length≤9223372036854775807):WK:=⟨⟨l,0⟩,h,Int.le_refl 0,by show (0:Int)≤l.length;omega⟩
theorem iy (l:List Int) (hl:l.length≤9223372036854775807):EC prog 11 [bG 1 (aS .i64) default l] [] fun r N=>∃s:aN,True∧r= .bx 0 s 2 0 0∧N=[f' s (FF l hl).1]:=(B7 l).mono fun r N ⟨h,h1,h2⟩=>⟨h,trivial,h1,h2⟩
theorem JP.nil {m:Nat} {B:List aI}:JP m B [] []:=⟨rfl,fun k cs ds h=>by simp at h⟩
theorem JP.cons {m:Nat} {B:List aI} {cs ds:List SV} {xs ys:List (List SV)} (h2:∀k1 k2 a v,cs≠[.int k1 a,.int k2 v]) (hf:gw m B cs ds) (h:JP m B xs ys):JP m B (cs :: xs) (ds :: ys):=by
 refine ⟨by simp [h.1],fun k a b ha hb=>?_⟩
 cases k with
 |zero=>simp at ha hb;subst ha hb;exact ⟨h2,hf⟩
 |succ k=>simp at ha hb;exact h.2 k a b ha hb
theorem gw.pr {m:Nat} {B:List aI} {x:dK}:gw m B x.c x.c:=gw.obj (fun s B=>by rw [dK.fk]) (fun s B=>by rw [dK.fz])
end
section
attribute [local irreducible] EC EV gW cc cK dT dQ
def S3:Prop:=∀(l:List aB) (p:Int),l.length≤1099511627776→EC prog 14 [bG 47 aB.c default l,.int .u64 p] [] fun r N=>N=[]∧r= .int .i64 ((Su l p l.length).1:Nat)
def TA:Prop:=∀(l:List aB) (p:Int),l.length≤1099511627776→EC prog 16 [bG 47 aB.c default l,.int .u64 p] [] fun r N=>N=[]∧r= .int .i64 ((Su l p l.length).2.1:Nat)
theorem Sy (hS:S3) (hL:TA) (hsane:EC prog 9 [] [] fun r N=>N=[]∧r= .bool true) (l:List Int) (q:Int) (hl:l.length≤9223372036854775807):EC prog 5 [bG 1 (aS .i64) default l,.int .u64 q] [] fun r N=>N=[]∧r= .bool true:=by
 refine EC.cQ ?_;refine nW ab (ca 5) func5 ntmps5 results5 ?_;(repeat' (first|with_reducible intro _|refine eK ab ?_|refine EC.use (hsane) ?_|((refine EC.qz (σ:=aN) (C:=fun _=>True) (R:=fun s i=> .bx i s 2 0 0) (N:=fun s=>[f' s (FF l hl).1]) (iy l hl) (fun _ _=>bq.bx) ?_;rintro hd1 -))|((refine aE 0 (yl hd1 (FF l hl) 20 true (by decide)) rfl ?_;rintro ⟨⟨c0,c,ev,did⟩,d1⟩ ⟨-,-,hdid⟩;replace hdid:did.length≤400000:=hdid))|fail))<;>(skip);refine aT ab [8,28,29] (fun s:Nat×List Int×Nat×aN=>[(30,.int .i64 s.1),(9,.row 3 s.2.2.2 1 0 s.2.2.1)]) (fun B s=>cW B 3 s.2.2.2 (s.2.1.map (aS .u64))) (fun s=>s.1≤did.length∧s.2.2.1=s.2.1.length∧s.2.1.length≤s.1+1) (fun s=>did.length - s.1) (0,[q],1,_) ⟨zero_le _,rfl,le_refl _⟩ ?_;rintro ⟨i,m,km,hr⟩ ⟨hi,hk,hm⟩;replace hi:i≤did.length:=hi;obtain rfl:km=m.length:=hk;replace hm:m.length≤i+1:=hm;have hw:=wI i;simp only [hw,push_cast,simprocAttr];(repeat' (with_reducible (first|intro _|apply And.intro)))<;>(first|((try simp only [hw]);refine a7 (i+1,m ++ [_],m.length+1,_) ⟨by show i+1≤_;omega,by simp,by simp;omega⟩)|omega|skip);refine jN 40 3 (cells:=aS .u64) (df:=default) (l:=m) rfl rfl rfl rfl ?_;simp only [List.set_cons_zero,List.set_cons_succ];refine bV ab [8,40,41] 42 m.length (fun _=>True) trivial (by omega) ?_;intro k _ hk hw2;obtain ⟨a1,a2,a3,a4⟩:=Tr did (m.getD k default) did.length;have hS':=hS did (m.getD k default) (by omega);have hL':=hL did (m.getD k default) (by omega);have hC':=SQ did (m.getD k default) (by omega);generalize Su did (m.getD k default) did.length=T at hS' hL' hC' a1 a2 a3 a4;obtain ⟨n,w,e⟩:=T;simp only at hS' hL' hC' a1 a2 a3 a4;simp only [hw2,push_cast,simprocAttr];rcases Nat.eq_zero_or_pos n with rfl|hn
 ·obtain rfl:w=0:=a3 rfl;(repeat' (first|with_reducible (first|intro _|apply And.intro)|refine eK ab ?_|refine EC.use (hS') ?_|refine EC.use (hL') ?_|fail))<;>(first|(exact Lt.bool rfl)|omega|((try simp only [hw2]);exact cO trivial))
 ·have f1:decide ((w:Int) < 0)=false:=decide_eq_false (by omega);have f2:decide (0 < (n:Int))=true:=decide_eq_true (by omega);have f3:((n:Int) == 0)=false:=beq_eq_false_iff_ne.2 (by omega);have TU:decide (IntKind.i64.wrap ((did.length:Int) - (n:Int)) < (w:Int))=false:=by rw [bu (by omega)];exact decide_eq_false (by omega)
  have hnw:n*(w+1)≤400000*400001:=Nat.mul_le_mul (by omega) (by omega);have TV:decide (IntKind.i64.wrap ((n:Int)*IntKind.i64.wrap ((w:Int)+1)) < (e:Int))=false:=by
   have h1:IntKind.i64.wrap ((w:Int)+1)=((w+1:Nat):Int):=by rw [bu (by omega)];omega
   have h2:(n:Int)*((w+1:Nat):Int)=((n*(w+1):Nat):Int):=(Int.natCast_mul _ _).symm;rw [h1,h2,bu (by omega)];exact decide_eq_false (by omega)
  (repeat' (first|with_reducible (first|intro _|apply And.intro)|refine eK ab ?_|refine EC.use (hS') ?_|refine EC.use (hL') ?_|refine EC.use (hC') ?_|fail))<;>(first|(exact Lt.bool rfl)|omega|((try simp only [hw2]);exact cO trivial)|(rw [f1,f2];rfl)|(exfalso;have hz:=‹_=true›;simp only [f1,f2,f3,TU,TV,Bool.false_or,Bool.or_false,Bool.false_and,Bool.and_false,Bool.true_and,Bool.false_eq_true] at hz;done)|(exfalso;clear a4 hnw a1 a2 a3;simp_all;done))
def s7:aB:={(default:aB) with aU:=1,ae:=7}
def TW:List aB:=[default,default,s7,default,default,s7,default]
theorem SW (hS:S3) (hL:TA):EC prog 9 [] [] fun r N=>N=[]∧r= .bool true:=by
 have c1:=hL TW 7 (by decide);rw [show ((Su TW 7 TW.length).2.1:Nat)=2 from rfl] at c1;have c2:=hS TW 7 (by decide);rw [show ((Su TW 7 TW.length).1:Nat)=2 from rfl] at c2;have c3:=Sw ⟨TW,default⟩ (by decide) (by decide);rw [show Ss (c9.mk TW default).iV (c9.mk TW default).ld.bQ.bU=⟨2,0,0,0,0,0⟩ from rfl] at c3;refine EC.cQ ?_;refine nW ab (ca 9) func9 ntmps9 results9 ?_;(repeat' (first|with_reducible intro _|refine eK ab ?_|((refine EC.t6 c1 (d_.mi (cells:=aB.c) (d:=default) (l:=TW) (zero_le _) rfl rfl rfl (.cons trivial (bq.refl _) .nil)) (by rintro _ rfl;rfl) ?_;rintro _ rfl))|((refine EC.t6 c2 (d_.mi (cells:=aB.c) (d:=default) (l:=TW) (zero_le _) rfl rfl rfl (.cons trivial (bq.refl _) .nil)) (by rintro _ rfl;rfl) ?_;rintro _ rfl))|((refine EC.t6 c3 (d_.two (And.elim bE.agg (gw.put (r:=(c9.mk TW default).c) (gw.obj (cs:=(default:c9).c) (fun s B=>by rw [c9.fk]) (fun s B=>by rw [c9.fz])) 0 (jv.row (cells:=aB.c) (d:=default) (l:=TW) (zero_le _) rfl rfl rfl) rfl)) .nil) (by rintro _ rfl;rfl) ?_;rintro _ rfl))|fail))<;>((exact Lt.bool rfl))
end
theorem SE (x:Int):IntKind.i64.wrap x=if x%18446744073709551616≥9223372036854775808 then x%18446744073709551616 - 18446744073709551616 else x%18446744073709551616:=by
 unfold IntKind.wrap;simp [IntKind.signed,IntKind.bits]
theorem Tm (a b c:Int):IntKind.i64.wrap (IntKind.i64.wrap (a+b)+c)=IntKind.i64.wrap (a+IntKind.i64.wrap (b+c)):=by
 rw [SE,SE (a+b),SE (a+IntKind.i64.wrap (b+c)),SE (b+c)]
 split<;>split<;>split<;>split<;>omega
theorem SD (a b c:cm):Sq (Sq a b) c=Sq a (Sq b c):=by
 unfold Sq;simp only [Tm]
theorem SC {a:cm} (h:TB a):Sq a ⟨0,0,0,0,0,0⟩=a:=by
 unfold Sq;simp only [Int.add_zero];rw [h.s,h.w,h.m,h.n,h.k,h.f]
theorem TS (l:List aB):∀(r:cm),TB r→l.foldl (fun a x=>Sq a (Sr x)) r=Sq r (l.foldl (fun a x=>Sq a (Sr x)) ⟨0,0,0,0,0,0⟩):=by
 induction l with
 |nil=>intro r h;exact (SC h).symm
 |cons x l ih=>
  intro r h;simp only [List.foldl_cons];rw [ih _ (TB.add _ _),ih _ (TB.add ⟨0,0,0,0,0,0⟩ (Sr x)),←SD,←SD,SC h]
theorem SG (l:List aB):Ss l []=l.foldl (fun a x=>Sq a (Sr x)) ⟨0,0,0,0,0,0⟩:=by
 unfold Ss Tc S1;rw [take_length];rfl
theorem Tj (l:List aB) (k:Nat):Ss l []=Sq (Ss (l.take k) []) (Ss (l.drop k) []):=by
 rw [SG,SG,SG]
 conv=>lhs;rw [←List.take_append_drop k l]
 rw [foldl_append];refine TS _ _ ?_;rcases List.eq_nil_or_concat (l.take k) with h|⟨m,x,h⟩
 ·rw [h];exact TB.d
 ·rw [h,List.concat_eq_append,foldl_append];exact TB.add _ _
theorem TC (l:List aB) (p:Int) (i:Nat):(Su l p i).1=((l.take i).filter (SL p)).length:=by
 induction i with
 |zero=>rfl
 |succ i ih=>
  rcases lt_or_ge i l.length with h|h
  ·have e:l.getD i default=l[i]:=by simp [getD,h]
   rw [List.take_succ_eq_append_getElem h,List.filter_append,length_append,←ih]
   cases hs:SL p l[i] with
   |true=>rw [S7 (by rw [e];exact hs)];simp [filter_cons,hs]
   |false=>rw [SY (by rw [e];exact hs)];simp [filter_cons,hs]
  ·have e:l.getD i default=default:=by simp [getD,Nat.not_lt.2 h]
   rw [SY (by rw [e];rfl),ih,List.take_of_length_le h,List.take_of_length_le (by omega)]
def SB (l:List aB) (m:List Int):Nat:=(m.map fun p=>(l.filter (SL p)).length).sum
theorem S5 (m:List Int):SB [] m=0:=by
 induction m with
 |nil=>rfl
 |cons p m ih=>unfold SB at ih ⊢;simp only [List.map_cons,List.sum_cons];rw [ih];rfl
theorem SX (x:aB) (l:List aB) (m:List Int):SB (x :: l) m=(m.filter fun p=>SL p x).length+SB l m:=by
 induction m with
 |nil=>rfl
 |cons p m ih=>
  unfold SB at ih ⊢;simp only [List.map_cons,List.sum_cons];rw [ih]
  cases h:SL p x<;>simp [filter_cons,h]<;>omega
theorem S9 {m:List Int} {q:Int} (hm:m.Nodup) (hq:q∈m):(m.filter fun p=>q == p).length=1:=by
 induction m with
 |nil=>cases hq
 |cons p m ih=>
  have h1:=List.nodup_cons.1 hm;by_cases h:q=p
  ·subst h;have h0:m.filter (fun p=>q == p)=[]:=List.filter_eq_nil_iff.2 fun y hy=>by
    intro e;rw [beq_iff_eq] at e;subst e;exact h1.1 hy
   simp [filter_cons,h0]
  ·have h2:q∈m:=by rcases List.mem_cons.1 hq with e|e;exact absurd e h;exact e
   have h3:(q == p)=false:=beq_eq_false_iff_ne.2 h;simp only [filter_cons,h3,Bool.false_eq_true,if_false];exact ih h1.2 h2
theorem Tq (l:List aB) (m:List Int) (hm:m.Nodup) (h:∀x∈l,x.ae∈m):SB l m=(l.filter fun x=>x.aU == 1).length:=by
 induction l with
 |nil=>exact S5 m
 |cons x l ih=>
  rw [SX,ih fun y hy=>h y (List.mem_cons_of_mem _ hy)]
  cases hk:(x.aU == 1) with
  |true=>
   have e:(fun p=>SL p x)=fun p=>x.ae == p:=funext fun p=>by unfold SL;rw [hk];rfl
   rw [e,S9 hm (h x (by simp))];simp [filter_cons,hk];omega
  |false=>
   have e:(fun p=>SL p x)=fun _=>false:=funext fun p=>by unfold SL;rw [hk];rfl
   rw [e];simp [filter_cons,hk]
section
attribute [local push_cast] eO dG eu gS List.length_range bM
attribute [local irreducible] EC EV gW cc cK dT dQ
theorem Tu (a:cm) (x:aB):(Sq a (Sr x)).Steps=IntKind.i64.wrap (a.Steps+if (x.aU == 1)=true then 1 else 0):=by
 cases h1:(x.aU == 1) with
 |true=>rw [Ts h1];rfl
 |false=>
  have h0:(Sr x).Steps=0:=by
   unfold Sr;rw [if_neg (by rw [h1];decide)]
   split
   ·rfl
   ·split
    ·rfl
    ·split
     ·rfl
     ·split<;>rfl
  show IntKind.i64.wrap (a.Steps+(Sr x).Steps)=_;rw [h0];rfl
theorem Tt (l:List aB) (hl:l.length≤1099511627776):∀i,i≤l.length→(S1 l i).Steps=(((l.take i).filter fun x=>x.aU == 1).length:Int)
 |0,_=>rfl
 |i+1,h=>by
  have h0:=Tt l hl i (by omega);have hi:i < l.length:=h;have e:l.getD i default=l[i]:=by simp [getD,hi]
  have hle:((l.take i).filter fun x=>x.aU == 1).length≤i:=le_trans (List.length_filter_le _ _) (by simp;omega);rw [SZ (by omega),Tu,h0,e,List.take_succ_eq_append_getElem (by omega),List.filter_append,length_append]
  cases hk:(l[i].aU == 1) with
  |true=>
   rw [if_pos rfl,bu (by omega)];simp [filter_cons,hk]
  |false=>
   rw [if_neg (by decide),bu (by omega)];simp [filter_cons,hk]
theorem TE (l:List aB) (hl:l.length≤1099511627776):(Ss l []).Steps=((l.filter fun x=>x.aU == 1).length:Int):=by
 have h:=Tt l hl l.length (le_refl _);rw [take_length] at h;exact h
theorem Tw {m:List Int} {q:Int} (hm:m.Nodup):(m.filter fun p=>q == p).length≤1:=by
 by_cases h:q∈m
 ·rw [S9 hm h];exact le_refl _
 ·have h0:m.filter (fun p=>q == p)=[]:=List.filter_eq_nil_iff.2 fun y hy=>by
   intro e;rw [beq_iff_eq] at e;subst e;exact h hy
  rw [h0];exact zero_le _
theorem Tf (l:List aB) (m:List Int) (hm:m.Nodup):SB l m≤l.length:=by
 induction l with
 |nil=>rw [S5];exact zero_le _
 |cons x l ih=>
  rw [SX];have h1:(m.filter fun p=>SL p x).length≤1:=by
   cases hk:(x.aU == 1) with
   |true=>
    have e:(fun p=>SL p x)=fun p=>x.ae == p:=funext fun p=>by unfold SL;rw [hk];rfl
    rw [e];exact Tw hm
   |false=>
    have e:(fun p=>SL p x)=fun _=>false:=funext fun p=>by unfold SL;rw [hk];rfl
    rw [e,List.filter_eq_nil_iff.2 (by simp)];exact zero_le _
  simp only [length_cons];omega
theorem Th (l:List aB) (m:List Int) (p:Int):SB l (m ++ [p])=SB l m+(Su l p l.length).1:=by
 rw [TC,take_length];unfold SB;simp
theorem Td {m:List Int} {p:Int} (hm:m.Nodup) (h:(m.any fun y=>y == p)=false):(m ++ [p]).Nodup:=by
 rw [List.nodup_append];refine ⟨hm,by simp,fun a ha b hb=>?_⟩;rw [List.mem_singleton.1 hb];rintro rfl;rw [List.any_eq_false] at h;exact h a ha (by simp)
theorem Ty (m:List Int) (p:Int) (j:Nat) (h:j < m.length):((m.take (j+1)).any fun y=>y == p)=(((m.take j).any fun y=>y == p) || (m.getD j default == p)):=by
 have e:m.getD j default=m[j]:=by simp [getD,h]
 rw [e,List.take_succ_eq_append_getElem h,List.any_append];simp
theorem Sz (hS:S3) (hsane:EC prog 9 [] [] fun r N=>N=[]∧r= .bool true) (l:List Int) (cut:Int) (hl:l.length≤9223372036854775807):EC prog 4 [bG 1 (aS .i64) default l,.int .i64 cut] [] fun r N=>N=[]∧r= .bool true:=by
 refine EC.cQ ?_;refine EC.iU ab (ca 4) func4 rfl (by simp [ntmps4]) ?_;simp only [ntmps4,results4,fL]
 iterate 2
  (refine bR ab ?_
   generalize hK:i6 prog _ _ _=K0;refine sA ?_;(repeat' (first|(with_reducible intro hh;first|subst hh|(revert hh;intro _))|with_reducible apply And.intro|refine eK ab ?_|refine EC.use (hsane) ?_|exact trivial|contradiction))<;>(first|(refine gx ab ?_;subst hK;rw [iO,gz];refine sA ?_;exact Lt.bool rfl)|(subst hK;simp only [gz,push_cast,simprocAttr];exact Lt.bool rfl)|skip)
   all_goals try (subst hK;rw [dc]))
 iterate 1
  (refine bR ab ?_
   generalize hK:i6 prog _ _ _=K0;refine sA ?_;(repeat' (first|(with_reducible intro hh;first|subst hh|(revert hh;intro _))|with_reducible apply And.intro|refine eK ab ?_|((refine EC.qz (σ:=aN) (C:=fun _=>True) (R:=fun s i=> .bx i s 2 0 0) (N:=fun s=>[f' s (FF l hl).1]) (iy l hl) (fun _ _=>bq.bx) ?_;rintro hd1 -))|((refine aE 0 (yl hd1 (FF l hl) 20 true (by decide)) rfl ?_;rintro ⟨⟨c0,c,ev,did⟩,d1⟩ ⟨-,-,hdid⟩;replace hdid:did.length≤400000:=hdid))|exact trivial|contradiction))
   all_goals try (subst hK;rw [dc]))
 have cOf:∀m:List aB,m.length≤1099511627776→EC prog 12 [.agg (aJ (default:c9).c 0 [.sl false 47 m.length (cA aB.c default m)])] [] fun r N=>N=[]∧r= .agg (Ss m []).c:=fun m hm=>Sw {(default:c9) with iV:=m} hm (zero_le _);have c5:EC prog 12 [.agg ({(default:c9) with iV:=did}:c9).c] [] fun r N=>N=[]∧r= .agg (Ss did []).c:=Sw {(default:c9) with iV:=did} (by show did.length≤_;omega) (zero_le _);have hw0:IntKind.i64.wrap ((did.length:Int)+1)=(((did.length+1:Nat)):Int):=by rw [bu (by omega)];omega
 have hmr:=Ir (v:=cut) (n:=((did.length+1:Nat):Int)) (by omega) (by omega);have hmc:=tN cut ((did.length+1:Nat):Int) (by omega) (by omega);generalize GQ cut ((did.length+1:Nat):Int)=kk at hmr hmc;obtain ⟨k,rfl⟩:=Int.eq_ofNat_of_zero_le hmr.1;have hk:k≤did.length:=by omega
 iterate 1
  (refine bR ab ?_
   generalize hK:i6 prog _ _ _=K0;refine sA ?_;(repeat' (first|(with_reducible intro hh;first|subst hh|(revert hh;intro _))|with_reducible apply And.intro|refine eK ab ?_|(((try simp only [hw0]);refine EC.use hmc ?_))|exact trivial|contradiction))<;>(first|omega|skip)
   all_goals try (subst hK;rw [dc]))
 iterate 1
  (refine bR ab ?_
   generalize hK:i6 prog _ _ _=K0;refine sA ?_;(repeat' (first|(with_reducible intro hh;first|subst hh|(revert hh;intro _))|with_reducible apply And.intro|refine eK ab ?_|refine EC.use (c5) ?_|exact trivial|contradiction))<;>(first|omega|skip)
   all_goals try (subst hK;rw [dc]))
 have hkey:Sq (Ss (eE default did 0 k) []) (Ss (eE default did k (did.length - k)) [])=Ss did []:=by
  rw [Eh default hk,pw,←Tj did k]
 have c6:EC prog 12 [.agg (aJ (default:c9).c 0 [.sl false 47 k (cA aB.c default (eE default did 0 k))])] [] fun r N=>N=[]∧r= .agg (Ss (eE default did 0 k) []).c:=by
  have h:=cOf (eE default did 0 k) (by rw [bM];omega);rw [bM] at h;exact h
 have c7:EC prog 12 [.agg (aJ (default:c9).c 0 [.sl false 47 (did.length - k) (cA aB.c default (eE default did k (did.length - k)))])] [] fun r N=>N=[]∧r= .agg (Ss (eE default did k (did.length - k)) []).c:=by
  have h:=cOf (eE default did k (did.length - k)) (by rw [bM];omega);rw [bM] at h;exact h
 have TX:=SA (Ss (eE default did 0 k) []) (Ss (eE default did k (did.length - k)) []);rw [hkey] at TX
 iterate 1
  (refine bR ab ?_
   generalize hK:i6 prog _ _ _=K0;refine sA ?_
   (repeat' (first|(with_reducible intro hh;first|subst hh|(revert hh;intro _))|with_reducible apply And.intro|refine eK ab ?_|refine EC.use (c6) ?_|refine EC.use (c7) ?_|refine EC.use (TX) ?_|refine dN ab [] [] [0,1,2,3,4,6,7,8,9,5,10,11,12] bZ fun R hR=>?_|refine dR ab [10,11,12] ?_|refine dR ab [11,12] ?_|refine dR ab [12] ?_|(refine hR _ _ ?_;refine sA ?_)|exact trivial|contradiction))<;>(first|omega|skip))
 refine bN ab ?_;refine sA ?_;(repeat' (first|(with_reducible intro hh;first|subst hh|(revert hh;intro _))|with_reducible apply And.intro|refine eK ab ?_|exact trivial|contradiction));subst hK;rw [dc]
 iterate 2
  (refine bR ab ?_
   generalize hK:i6 prog _ _ _=K0;refine sA ?_;(repeat' (first|(with_reducible intro hh;first|subst hh|(revert hh;intro _))|with_reducible apply And.intro|refine eK ab ?_|exact trivial|contradiction))<;>(first|omega|skip)
   all_goals try (subst hK;rw [dc]))
 refine cw 12 42 1 rfl ?_;intro hh2
 iterate 1
  (refine bR ab ?_
   generalize hK:i6 prog _ _ _=K0;refine sA ?_;(repeat' (first|(with_reducible intro hh;first|subst hh|(revert hh;intro _))|with_reducible apply And.intro|refine eK ab ?_|exact trivial|contradiction))<;>(first|omega|skip)
   all_goals try (subst hK;rw [dc]))
 refine aT ab [8,10,49,50] (fun s:Nat×List Int×Nat×aN=>[(51,.int .i64 s.1),(12,.row 4 s.2.2.2 1 0 s.2.2.1),(11,.int .i64 (SB did s.2.1:Nat))]) (fun B s=>cW B 4 s.2.2.2 (s.2.1.map (aS .u64))) (fun s=>s.1≤did.length∧s.2.2.1=s.2.1.length∧s.2.1.length≤s.1∧s.2.1.Nodup∧∀i,i < s.1→(did.getD i default).ae∈s.2.1) (fun s=>did.length - s.1) (0,[],0,hh2) ⟨zero_le _,rfl,le_refl _,List.nodup_nil,fun i h=>absurd h (Nat.not_lt_zero _)⟩ ?_;rintro ⟨i,m,km,hr⟩ ⟨hi,hk2,hm,hnd,hin⟩;replace hi:i≤did.length:=hi;obtain rfl:km=m.length:=hk2;replace hm:m.length≤i:=hm;replace hnd:m.Nodup:=hnd;replace hin:∀k,k < i→(did.getD k default).ae∈m:=hin;have hw:=wI i;have hsl:=Tf did m hnd;simp only [hw,push_cast,simprocAttr];(repeat' (first|(with_reducible intro hh;first|subst hh|(revert hh;intro _))|with_reducible apply And.intro|refine eK ab ?_|exact trivial|contradiction))<;>(first|omega|skip);rotate_left 1
 ·subst hK;rw [dc];obtain rfl:i=did.length:=by have hz:=‹decide ((i:Int) < _)=false›;simp at hz;omega
  have hall:∀x∈did,x.ae∈m:=fun x hx=>by
   obtain ⟨k,hk,rfl⟩:=List.mem_iff_getElem.1 hx;have:=hin k hk;simpa [getD,hk] using this
  have hsum:((SB did m:Nat):Int)=(Ss did []).Steps:=by rw [Tq did m hnd hall,TE did (by omega)]
  refine bN ab ?_;simp only [hsum,push_cast,simprocAttr];(repeat' (first|(with_reducible intro hh;first|subst hh|(revert hh;intro _))|with_reducible apply And.intro|refine eK ab ?_|exact trivial|contradiction))<;>(first|(exact Lt.bool rfl)|(exact Lt.bool (by simp))|skip)
 have hil:i < did.length:=by
  rcases lt_or_ge i did.length with h|h
  ·exact h
  ·exfalso;have h0:decide ((i:Int) < (did.length:Int))=false:=decide_eq_false (by omega);simp_all
 refine aT ab [8,10,11,12,14,49,50,51,55,56] (fun j:Nat=>[(57,.int .i64 j),(15,.bool ((m.take j).any fun y=>y == (did.getD i default).ae))]) (fun B _=>B) (fun j=>j≤m.length) (fun j=>m.length - j) 0 (zero_le _) ?_;intro j hj;have hw2:IntKind.i64.wrap ((j:Int)+1)=((j+1:Nat):Int):=by rw [bu (by omega)];omega
 have hat:=Ty m (did.getD i default).ae j;rcases lt_or_ge j m.length with hlt|hge
 ·have hat2:=hat hlt;have hgl:(map (aS .u64) m).getD j []=[.int .u64 (m.getD j default)]:=by simp [getD,hlt,aS]
  have hdc:decide ((j:Int) < (m.length:Int))=true:=decide_eq_true (by omega);simp only [hw2,hdc,push_cast,simprocAttr]
  cases hb:(m.take j).any fun y=>y == (did.getD i default).ae
  all_goals
   rw [hb] at hat2;simp only [hgl,hw2,hdc,push_cast,simprocAttr];(repeat' (first|(with_reducible intro hh;first|subst hh|(revert hh;intro _))|with_reducible apply And.intro|refine eK ab ?_|exact trivial|contradiction))<;>(first|omega|skip)
   all_goals ((try simp only [hgl,hw2]);exact a7 (j+1) (by show j+1≤_;omega) (by omega) ⟨rfl,(by show SV.bool _=SV.bool _;rw [hat2];rfl),(by repeat' first|exact trivial|exact rfl|apply And.intro)⟩)
 ·obtain rfl:j=m.length:=by omega
  have hdc:decide ((m.length:Int) < (m.length:Int))=false:=decide_eq_false (by omega);simp only [take_length];have hst:=hS did (did.getD i default).ae (by omega);have hsn:=Th did m (did.getD i default).ae;simp only [hdc,push_cast,simprocAttr]
  cases hb:m.any fun y=>y == (did.getD i default).ae
  ·have hnd2:=Td hnd hb;have hsl2:=Tf did _ hnd2;have hw11:IntKind.i64.wrap (((SB did m:Nat):Int)+(((Su did (did.getD i default).ae did.length).1:Nat):Int))=((SB did (m ++ [(did.getD i default).ae]):Nat):Int):=by rw [bu (by omega),hsn];omega
   simp only [hdc,push_cast,simprocAttr];(repeat' (first|(with_reducible intro hh;first|subst hh|(revert hh;intro _))|with_reducible apply And.intro|refine eK ab ?_|refine EC.use (hst) ?_|exact trivial|contradiction))<;>(first|omega|skip)
   all_goals ((try simp only [hw,hw11]);exact a7 (i+1,m ++ [(did.getD i default).ae],m.length+1,_) ⟨hil,by simp,by show (m ++ [_]).length≤i+1;simp;omega,hnd2,fun q hq=>by
    show (did.getD q default).ae∈m ++ [(did.getD i default).ae];rcases lt_or_ge q i with h|h
    ·exact List.mem_append.2 (.inl (hin q h))
    ·obtain rfl:q=i:=Nat.le_antisymm (Nat.lt_succ_iff.1 hq) h
     simp⟩)
  ·simp only [hdc,push_cast,simprocAttr];(repeat' (first|(with_reducible intro hh;first|subst hh|(revert hh;intro _))|with_reducible apply And.intro|refine eK ab ?_|refine EC.use (hst) ?_|exact trivial|contradiction))<;>(first|omega|skip)
   all_goals ((try simp only [hw]);exact a7 (i+1,m,m.length,hr) ⟨hil,rfl,by show m.length≤i+1;omega,hnd,fun q hq=>by
    show (did.getD q default).ae∈m;rcases lt_or_ge q i with h|h
    ·exact hin q h
    ·obtain rfl:q=i:=Nat.le_antisymm (Nat.lt_succ_iff.1 hq) h;obtain ⟨y,hy,he⟩:=List.any_eq_true.1 hb;rw [beq_iff_eq] at he
     exact he▸hy⟩)
end
section
open Go.Lift Go.RowKit
attribute [local irreducible] EC
def SI (l:List aB) (p:Int) (i:Nat):List Nat:=(List.range i).filter fun k=>SL p (l.getD k default)
theorem SH (l:List aB) (p:Int) (i:Nat):SI l p (i+1)=SI l p i ++ (if SL p (l.getD i default)=true then [i] else []):=by
 unfold SI;rw [List.range_succ,List.filter_append]
 cases h:SL p (l.getD i default)<;>simp only [filter_cons,h,List.filter_nil,if_true,if_false,Bool.false_eq_true]
theorem Tv (l:List aB) (p:Int) (i:Nat):(SI l p i).length≤i:=le_trans (List.length_filter_le _ _) (by simp)
theorem TF (l:List aB) (p:Int) (i:Nat):(SI l p i).length=(Su l p i).1:=by
 induction i with
 |zero=>rfl
 |succ i ih=>
  rw [SH]
  cases h:SL p (l.getD i default) with
  |true=>rw [S7 h,if_pos rfl,length_append,ih];rfl
  |false=>rw [SY h,if_neg (by decide),append_nil,ih]
structure S4 (Z:Nat→Prop) (A B:World):Prop where
 size:A.heap.size≤B.heap.size
 TL:∀b,Z b→B.heap[b]?=A.heap[b]?
theorem S4.refl (Z:Nat→Prop) (A:World):S4 Z A A:=⟨le_refl _,fun _ _=>rfl⟩
theorem S4.trans {Z:Nat→Prop} {A B C:World} (h:S4 Z A B) (k:S4 Z B C):S4 Z A C:=⟨le_trans h.size k.size,fun b hb=>(k.TL b hb).trans (h.TL b hb)⟩
structure SO (X:Nat→Prop) (l:List aB) (p:Int) (v:Value) (b1 b2:Nat) (W:World):Prop where
 xg:XG X W
 dv:Den X W (bG 47 aB.c default l) v
 up:0≤p
 h1:W.heap[b1]?=some (.cells #[v] 23 (0,0))
 h2:W.heap[b2]?=some (.cells #[.int .u64 p] 42 (0,0))
theorem SO.kept {X:Nat→Prop} {l:List aB} {p:Int} {v:Value} {b1 b2:Nat} {W W':World} (h:SO X l p v b1 b2 W) (k:S4 (fun b=>X b∨b=b1∨b=b2) W W'):SO X l p v b1 b2 W':=
 ⟨h.xg.mono (fun _ hx=>hx) (fun b hb=>k.TL b (.inl hb)) fun b hb=>Nat.lt_of_lt_of_le (h.xg.1 b hb) k.size,h.dv.mono (fun _ hx=>hx) fun b hb=>k.TL b (.inl hb),h.up,(k.TL b1 (.inr (.inl rfl))).trans h.h1,(k.TL b2 (.inr (.inr rfl))).trans h.h2⟩
theorem SO.sat {X:Nat→Prop} {l:List aB} {p:Int} {v:Value} {b1 b2:Nat} {W:World} (h:SO X l p v b1 b2 W):Sat (fun b=>X b∨b=b1∨b=b2) W []:=
 ⟨fun i j b hb=>by simp [au,aI.blocks] at hb,fun i b hb=>by simp [au,aI.blocks] at hb,h.xg.mono (fun _ hx=> .inl hx) (fun _ _=>rfl) (fun b hb=>by
  rcases hb with hb|rfl|rfl
  ·exact h.xg.1 b hb
  ·exact (Array.getElem?_eq_some_iff.1 h.h1).1
  ·exact (Array.getElem?_eq_some_iff.1 h.h2).1),fun b hb ⟨i,hi⟩=>by simp [au,aI.blocks] at hi,fun i=>trivial⟩
theorem EV.run {P:Program} {n m:Nat} {c:Code} {t:aV} {B:List Go.Lift.aI} {Q:gX} {X:Nat→Prop} {w:World} {a:Act} (h:EV P n c t B Q) (hs:St X w B t n a):c.wpIn Fence.wide m P (Go.Lift.Good n Q X w B) a w:=wpIn_wide.2 (h X w B X w a (Ext.refl X w B) hs)
theorem St.kept {Z:Nat→Prop} {w w':World} {t:aV} {n:Nat} {a:Act} (h:St Z w [] t n a) (k:S4 Z w w'):St Z w' [] t n a:=
 ⟨h.defers,⟨fun i j b hb=>by simp [au,aI.blocks] at hb,fun i b hb=>by simp [au,aI.blocks] at hb,h.sat.xg.mono (fun _ hx=>hx) (fun b hb=>k.TL b hb) (fun b hb=>Nat.lt_of_lt_of_le (h.sat.og b hb) k.size),fun b hb ⟨i,hi⟩=>by simp [au,aI.blocks] at hi,fun i=>trivial⟩,h.den.1,fun i=>(h.den.2 i).mono (fun _ hx=>hx) fun b hb=>k.TL b hb⟩
def tW:List Oper→List Value→Array Value→Array Value
 |o :: l,v :: vs,t=>tW l vs (match o.dst with|some d=>t.setIfInBounds d v|none=>t)
 |_,_,t=>t
theorem Ta {P:Program} {o:Oper} {a:Act} {next next':Act→World→Prop} {Q Q':Exit→Act→World→Prop} {r:Result Next}
  (hn:∀v d w',next (({a with defers:=d}:Act).put o.dst v) w'→next' (({a with defers:=d}:Act).put o.dst v) w') (hQ:∀e a w,e≠.normal→Q e a w→Q' e a w) (h:o.upon P a next Q r):o.upon P a next' Q' r:=by
 cases r with
 |ok x w'=>
  cases x with
  |value v=>exact hn v a.defers w' h
  |skip=>exact hn undef a.defers w' h
  |defer d=>exact hn undef _ w' h
  |enter f args=>
   refine Calls.mono (show Calls P f args w' _ from h) ?_;intro e w'' hq
   cases e with
   |returned v=>exact hn v a.defers _ hq
   |panicked c=>exact hQ _ _ _ nofun hq
   |outgrown=>obtain ⟨a1,w1,h1⟩:=hq;exact ⟨a1,w1,hQ _ _ _ nofun h1⟩
  |row row args=>exact Rows.mono (show Rows P row args w' _ from h) fun v w'' hq=>hn v a.defers _ hq
  |_=>exact h.elim
 |halt c w'=>
  cases c with
  |panic v=>exact hQ _ _ _ nofun h
  |_=>exact h.elim
theorem Sv {P:Program} {ops:Array Oper} {Q:Exit→Act→World→Prop} (T:Act→Prop):∀(l:List Oper) (a:Act) (w:World),(∀vs d,vs.length=l.length→T ⟨tW l vs a.tmps,d⟩)→wpList P ops Q l a w→wpList P ops (fun e a' w'=>Q e a' w'∧(e= .normal→T a')) l a w
 |[],a,w,hT,h=>⟨h,fun _=>hT [] a.defers rfl⟩
 |o :: l,a,w,hT,h=>by
  have hd:∀v d,∀vs d',vs.length=l.length→T ⟨tW l vs (({a with defers:=d}:Act).put o.dst v).tmps,d'⟩:=fun v d vs d' hl=>by
   have:=hT (v :: vs) d' (by simp [hl]);simp only [tW] at this
   cases ho:o.dst with
   |none=>simpa [Act.put,ho] using this
   |some k=>simpa [Act.put,ho] using this
  simp only [wpList] at h ⊢
  split at h
  ·rw [if_pos ‹_›];rcases h with h|⟨h1,a1,w1,h2⟩
   ·exact .inl (Ta (fun v d w' hh=>Sv T l _ w' (hd v d) hh) (fun e a w he hq=>⟨hq,fun h=>absurd h he⟩) h)
   ·exact .inr ⟨h1,a1,w1,h2,nofun⟩
  ·rw [if_neg ‹_›];exact Sv T l _ w (hd undef a.defers) h
theorem S2 {P:Program} {E:Env} {n id m:Nat} {ops:Array Oper} {t:aV} {B:List Go.Lift.aI} {k:Kn} {X:Nat→Prop} {w:World} {a:Act} (hE:cI P E) (hs:St X w B t n a) (h:wl P E n (.region id ops false) k t B):
  (Code.region id ops false).wpIn Fence.wide m P (fun e a' w'=>Go.Lift.Good n k.f X w B e a' w'∧(e= .normal→∃vs,vs.length=ops.toList.length∧a'.tmps=tW ops.toList vs a.tmps)) a w:=by
 refine wpIn_wide.2 (wp_region_list (Sv (fun a'=>∃vs,vs.length=ops.toList.length∧a'.tmps=tW ops.toList vs a.tmps) _ a w (fun vs d hv=>⟨vs,hv,rfl⟩) ?_));have:=pv hE (K:=k.f .normal) ops.toList 0 t B (fun fr=>by rw [←pD];exact h fr) k.f (fun _ _ h=>h) X w B X w a (Ext.refl X w B) hs;simpa using this
theorem TN {F:Fence} {n:Nat} {P:Program} {ops:Array Oper} {b:Bool} {Q:Exit→Act→World→Prop} {a:Act} {w:World} (h:False):(Code.region 2 ops b).wpIn F n P Q a w:=h.elim
theorem S4.TM {Z X':Nat→Prop} {w w':World} {B':List Go.Lift.aI} (h:Ext Z w [] X' w' B') (hz:∀b,Z b→b < w.heap.size):S4 Z w w':=⟨h.size,fun b hb=>h.block b (hz b hb) fun ⟨i,hi⟩=>by simp [au,aI.blocks] at hi⟩
theorem Tn {Z X':Nat→Prop} {w w':World} {B':List Go.Lift.aI} (h:Ext Z w [] X' w' B'):w.grownBy w' none:=⟨h.os,h.tape,h.output,h.size,fun k hk _=>h.block k hk fun ⟨i,hi⟩=>by simp [au,aI.blocks] at hi⟩
theorem TJ {Z:Nat→Prop} {w:World} {tm:Array Value} {s6 TY:SV} (h6:Den Z w s6 (tm.getD 6 undef)) (h8:Den Z w TY (tm.getD 8 undef)) (hz:tm.size=29):wU Z w [(6,s6),(8,TY)] 29 tm:=
 ⟨hz,fun i=>by
  unfold dd
  split
  ·rename_i e;subst e;exact h6
  ·unfold dd
   split
   ·rename_i e;subst e;exact h8
   ·exact .any _⟩
theorem Tx {X:Nat→Prop} {w:World} {i e k o:Nat} {h:aN} {v:Value} (hd:Den X w (.bx i h e k o) v):∃b cap,h= .at b cap∧v= .pointer (some ⟨b,k*e+o,none⟩):=by
 cases hd
 exact ⟨_,_,rfl,rfl⟩
theorem SP {X:Nat→Prop} {w:World} {k:IntKind} {n:Int} {v:Value} (hd:Den X w (.int k n) v):v= .int k n:=by
 cases hd
 rfl
theorem TR {α:Type} {l:List α} (h:l.length=6):∃a b c d e f,l=[a,b,c,d,e,f]:=by
 match l,h with
 |[a,b,c,d,e,f],_=>exact ⟨a,b,c,d,e,f,rfl⟩
def TZ (x:aB) (i:Nat):Kn:=⟨fun e t B=>e= .normal∧∃hh,dd t 4= .int .i64 (i:Int)∧dd t 5= .bx 0 hh 47 0 0∧B=[.row hh 80 47 [x.c]]⟩
set_option maxRecDepth 100000 in
theorem Ti {X:Nat→Prop} {l:List aB} {p:Int} {v:Value} {b1 b2:Nat} (n y:Nat) (J T0:List Nat→World→Prop)
  (T1:∀pre x W1,J pre W1→pre.length < l.length→YieldAt Fence.wide (n - 1) prog y #[.int .i64 ((x:Nat):Int)] W1 fun e W'=>(e= .returned (.bool true)∧J (pre ++ [x]) W'∧S4 (fun b=>X b∨b=b1∨b=b2) W1 W')∨(e= .returned (.bool false)∧T0 (pre ++ [x]) W'))
  (W:World) (hJ:AbidesFrom W.heap.size J) (T3:SO X l p v b1 b2 W) (hl:l.length≤1099511627776) (h0:J [] W):
  CallsIn Fence.wide n prog 98 #[.func (.yield y) #[] #[],.pointer (some ⟨b1,0,none⟩),.pointer (some ⟨b2,0,none⟩)] W fun e W'=>(∃v,e= .returned v)∧((∃xs,xs=SI l p l.length∧J xs W')∨(∃pre,True∧T0 pre W')):=by
 refine callsIn_of_wp func98 rfl trivial ?_ rfl;simp only [ntmps98,size_toArray,length_cons,length_nil,Nat.reduceAdd,Nat.reduceSub,Array.replicate_succ,Array.replicate_zero,push_toArray,append_toArray,nil_append,cons_append];have hc1:W.cell? ⟨b1,0,none⟩=some v:=by simp [World.cell?,T3.h1]
 obtain ⟨ad,cap,rfl,hcap⟩:∃(ad:Option Addr) (cap:Nat),v= .slice ad l.length cap∧l.length≤cap:=by
  have:=T3.dv;unfold bG at this;generalize l.length=k at this
  cases this with
  |gC hf=>exact ⟨_,_,rfl,zero_le _⟩
  |na g hn hc hf hX hl hw h=>exact ⟨_,_,rfl,hc⟩
 gi_wp2
 gi_loopw [8] (fun T4 wr=>∃i:Nat,i≤l.length∧T4= .int .i64 (i:Int)∧SO X l p (.slice ad l.length cap) b1 b2 wr∧J (SI l p i) wr∧W.heap.size≤wr.heap.size) (fun T4 _=>l.length - (intOf T4).toNat)
 case atStart=>exact ⟨0,zero_le _,rfl,T3,h0,le_refl _⟩
 case round=>
  obtain ⟨i,hi,rfl,hHr,hJr,hsz⟩:=hrel;rcases lt_or_ge i l.length with hlt|hge
  ·have T5:∀b,(X b∨b=b1∨b=b2)→b < wr.heap.size:=hHr.sat.og;have hdz:Den (fun b=>X b∨b=b1∨b=b2) wr (bG 47 aB.c default l) (.slice ad l.length cap):=hHr.dv.mono (fun _ h=> .inl h) fun _ _=>rfl
   repeat ((fail_if_success with_reducible refine TN ?_);(gi_step))
   refine wpIn_mono (S2 (n:=29) (t:=[(6,bG 47 aB.c default l),(8,.int .i64 (i:Int))]) (k:=TZ (l.getD i default) i) (B:=[]) (X:=fun b=>X b∨b=b1∨b=b2) ab ?gs ?T6) ?T7
   case gs=>exact ⟨rfl,hHr.sat,TJ hdz (.int _ _ .i64) rfl⟩
   case T6=>
    refine sA ?_;(repeat' (with_reducible (first|intro _|apply And.intro)))<;>(first|(exact ⟨rfl,_,rfl,rfl,rfl⟩)|omega)
   case T7=>
    rintro e a' w2 ⟨⟨X',t',B',⟨rfl,hh,h4,h5,rfl⟩,hs2,he2⟩,hv⟩;obtain ⟨vs,hvl,htm⟩:=hv rfl;obtain ⟨v0,v1,v2,T8,v4,T9,rfl⟩:=TR hvl;obtain ⟨tm,df⟩:=a';obtain rfl:df=[]:=hs2.defers;replace htm:tm=_:=htm;subst htm;have d4:=hs2.den.2 4;rw [h4] at d4;have e4:=SP d4;have d5:=hs2.den.2 5;rw [h5] at d5;obtain ⟨b5,cp,rfl,e5⟩:=Tx d5;replace e4:v4= .int .i64 (i:Int):=e4;replace e5:T8= .pointer (some ⟨b5,0*47+0,none⟩):=e5;subst e4 e5;obtain ⟨vs5,hb5,hsz5,hcp5,-,hden5⟩:aI.ok X' w2 (.row (.at b5 cp) 80 47 [(l.getD i default).c]):=hs2.sat.ok 0;have q0:=SP (hden5 0 0 _ (.int .i64 (l.getD i default).aU) rfl rfl);have q1:=SP (hden5 0 1 _ (.int .u64 (l.getD i default).ae) rfl rfl);have hH2:SO X l p (.slice ad l.length cap) b1 b2 w2:=hHr.kept (S4.TM he2 T5);have hJ2:J (SI l p i) w2:=hJ _ _ _ none hJr (Tn he2) (fun r h=>by cases h);have hlen5:47≤vs5.size:=by rw [hsz5];simp at hcp5;omega
    have c0:w2.cell? ⟨b5,0,none⟩=some (.int .i64 (l.getD i default).aU):=by
     rw [←q0];simp [World.cell?,hb5,Array.getD,show 0 < vs5.size by omega]
    have c1:w2.cell? ⟨b5,1,none⟩=some (.int .u64 (l.getD i default).ae):=by
     rw [←q1];simp [World.cell?,hb5,Array.getD,show 1 < vs5.size by omega]
    have c2:w2.cell? ⟨b2,0,none⟩=some (.int .u64 p):=by simp [World.cell?,hH2.h2]
    have hlt2:(SI l p i).length < l.length:=Nat.lt_of_le_of_lt (Tv l p i) hlt;have hsz2:W.heap.size≤w2.heap.size:=le_trans hsz he2.size;have hix:=SH l p i;unfold SL at hix;generalize (l.getD i default).aU=kd at *;generalize (l.getD i default).ae=pr at *;simp only [tW,Array.toList];clear hden5 hs2 he2 d4 d5 h4 h5 q0 q1 hHr hdz;simp only [List.setIfInBounds_toArray,List.set_cons_succ,List.set_cons_zero,Nat.zero_mul,Nat.add_zero,Exit.then];by_cases hkd:kd=1
    ·subst hkd;by_cases hpr:pr=p
     ·subst hpr;obtain ⟨fn,tmps,assign,body,hy,hR⟩:=T1 (SI l pr i) i w2 hJ2 hlt2
      gi_wp2
      refine ⟨fun h=>(nomatch h),hR.mono ?_⟩;rw [if_pos (by simp)] at hix;rintro e W3 (⟨rfl,hJ3,hk3⟩|⟨rfl,hJx3⟩)
      ·have hH3:=hH2.kept hk3;have hsz3:=le_trans hsz2 hk3.size
       gi_wp2
       exact ⟨⟨i+1,by omega,rfl,hH3,by rw [hix];exact hJ3,hsz3⟩,by simp only [intOf];omega⟩
      ·gi_wp2
       refine bodyPost_ret (results_none rfl _ _ _) rfl ?_;exact ⟨⟨_,rfl⟩,.inr ⟨_,trivial,hJx3⟩⟩
     ·rw [if_neg (by simp [hpr]),append_nil] at hix;have hpb:(pr == p)=false:=beq_eq_false_iff_ne.2 hpr
      gi_wp2
      (repeat (refine ⟨fun _ h=>(nomatch h),?_⟩;gi_wp2));exact ⟨⟨i+1,by omega,rfl,hH2,by rw [hix];exact hJ2,hsz2⟩,by simp only [intOf];omega⟩
    ·rw [if_neg (by simp [hkd]),append_nil] at hix
     gi_wp2
     (repeat (refine ⟨fun _ h=>(nomatch h),?_⟩;gi_wp2));exact ⟨⟨i+1,by omega,rfl,hH2,by rw [hix];exact hJ2,hsz2⟩,by simp only [intOf];omega⟩
  ·obtain rfl:i=l.length:=by omega
   gi_wp2
   go_end0
   exact ⟨⟨_,rfl⟩,.inl ⟨_,rfl,hJr⟩⟩
end
section
open Go.Lift Go.RowKit
attribute [local irreducible] EC
attribute [local go_sem] Oper.semAt_some
theorem TT {vs:Array Value} (h:vs.size=2):∃a b,vs=#[a,b]:=by
 obtain ⟨l⟩:=vs
 match l,h with
 |[a,b],_=>exact ⟨a,b,rfl⟩
theorem TI {X:Nat→Prop} {w:World} {l:List aB} {v:Value} (h:Den X w (bG 47 aB.c default l) v):∃(ad:Option Addr) (cap:Nat),v= .slice ad l.length cap:=by
 unfold bG at h;generalize l.length=k at h
 cases h with
 |gC hf=>exact ⟨_,_,rfl⟩
 |na g hn hc hf hX hl hw h=>exact ⟨_,_,rfl⟩
theorem S6 (n:Nat) (ad:Option Addr) (ln cap:Nat) (p:Int) (w:World):CallsIn Fence.wide n prog 48 #[.slice ad ln cap,.int .u64 p] w fun e w'=>e= .returned (.func (.func 98) #[] #[.pointer (some ⟨w.heap.size,0,none⟩),.pointer (some ⟨w.heap.size+1,0,none⟩)])∧w'=(w.alloc (.cells #[.slice ad ln cap] 23)).alloc (.cells #[.int .u64 p] 42):=by
 refine callsIn_of_wp func48 rfl trivial ?_ rfl;simp only [ntmps48,size_toArray,length_cons,length_nil,Nat.reduceAdd,Nat.reduceSub,Array.replicate_succ,Array.replicate_zero,push_toArray,append_toArray,nil_append,cons_append]
 gi_wp2
 go_ret
 exact ⟨rfl,rfl⟩
theorem SK (n:Nat) {X:Nat→Prop} {l:List aB} {p:Int} {v:Value} {b1 b2:Nat} {w:World} (hl:l.length≤1099511627776) (T3:SO X l p v b1 b2 w):
  SeqStopsK Fence.wide n prog 98 #[.pointer (some ⟨b1,0,none⟩),.pointer (some ⟨b2,0,none⟩)] (fun x:Nat=>#[Value.int .i64 ((x:Nat):Int)]) (S4 fun b=>X b∨b=b1∨b=b2) (fun ys=>ys=SI l p l.length) (fun _=>True) l.length w:=fun y J T0 W hW hJ _ T1 h0=>
 Ti n y J T0 T1 W hJ (T3.kept ⟨hW.size,fun b hb=>hW.block b (T3.sat.og b hb)⟩) hl h0
theorem S4.put {Z:Nat→Prop} {w:World} (hz:∀b,Z b→b < w.heap.size) (W:World) (l:Nat) (o o':Obj) (hl:w.heap.size≤l) (h:W.heap[l]?=some o) (_:o.isCells=false) (_:o.isWalk=false):S4 Z W (W.putObj l o'):=
 ⟨by simp,fun b hb=>World.putObj_heap_other (by have:=hz b hb;omega)⟩
theorem S8 {X:Nat→Prop} {l:List aB} {p:Int} {v u:Value} {T:Nat} {w:World} (hx:XG X w) (hv:Den X w (bG 47 aB.c default l) v) (hp:0≤p):
  SO X l p v (w.heap.size+1) (w.heap.size+1+1) (((w.alloc (.cells #[u] T)).alloc (.cells #[v] 23)).alloc (.cells #[.int .u64 p] 42)):=by
 have hk:∀b,X b→(((w.alloc (.cells #[u] T)).alloc (.cells #[v] 23)).alloc (.cells #[.int .u64 p] 42)).heap[b]?=w.heap[b]?:=fun b hb=>
  ((((Below.refl w.heap.size w).alloc (le_refl _) (.cells #[u] T)).alloc (by simp) (.cells #[v] 23)).alloc (by simp;omega) (.cells #[.int .u64 p] 42)).block b (hx.1 b hb)
 have b1:=(Boxed.new (w.alloc (.cells #[u] T)) 23 v).alloc (.cells #[.int .u64 p] 42);have b2:=Boxed.new ((w.alloc (.cells #[u] T)).alloc (.cells #[v] 23)) 42 (.int .u64 p);simp only [World.size_alloc] at b1 b2;exact ⟨hx.mono (fun _ h=>h) hk (fun b hb=>by have:=hx.1 b hb;simp;omega),hv.mono (fun _ h=>h) hk,hp,b1,b2⟩
theorem Tz {X:Nat→Prop} {l:List aB} {p:Int} {ad:Option Addr} {cap:Nat} (w:World) (hx:XG X w) (hv:Den X w (bG 47 aB.c default l) (.slice ad l.length cap)) (hp:0≤p) (hl:l.length≤1099511627776):
  CallsIn Fence.wide 3 prog 14 #[.slice ad l.length cap,.int .u64 p] w fun e W'=>e= .returned (.int .i64 ((Su l p l.length).1:Nat))∧Below w.heap.size w W':=by
 refine callsIn_of_wp_marks func14 rfl trivial ?_ rfl;simp only [ntmps14,size_toArray,length_cons,length_nil,Nat.reduceAdd,Nat.reduceSub,Array.replicate_succ,Array.replicate_zero,push_toArray,append_toArray,nil_append,cons_append]
 gi_wp2_with (refine ⟨trivial,CallsIn.mono (S6 _ _ _ _ _ _) ?_⟩;rintro e w' ⟨rfl,rfl⟩)
 have hb1:SO X l p (.slice ad l.length cap) (w.heap.size+1) (w.heap.size+1+1) (((w.alloc (.cells #[.int .i64 0] 3)).alloc (.cells #[.slice ad l.length cap] 23)).alloc (.cells #[.int .u64 p] 42)):=S8 hx hv hp;have T_:Boxed (((w.alloc (.cells #[.int .i64 0] 3)).alloc (.cells #[.slice ad l.length cap] 23)).alloc (.cells #[.int .u64 p] 42)) w.heap.size 3 (.int .i64 0):=((Boxed.new w 3 (.int .i64 0)).alloc _).alloc _;have hB0:Below w.heap.size w (((w.alloc (.cells #[.int .i64 0] 3)).alloc (.cells #[.slice ad l.length cap] 23)).alloc (.cells #[.int .u64 p] 42)):=(((Below.refl _ w).alloc (le_refl _) _).alloc (by simp) _).alloc (by simp;omega) _;refine wpIn_rangeFunc_ownG rfl (by decide) (gf:=98) (lb:=#[.pointer (some ⟨w.heap.size+1,0,none⟩),.pointer (some ⟨w.heap.size+1+1,0,none⟩)]) rfl trivial (enters_of func98 (by kernel_rfl) rfl)
  (SK 2 hl hb1) (fun h k=>h.trans k) (S4.put hb1.sat.og) (Below.refl _ _) (fun _=>rfl)
  (fun pre W=>Boxed W w.heap.size 3 (.int .i64 (pre.length:Int))∧Below w.heap.size w W) (fun _ _ _=>False)
  ?own (fun _ _ _ _ _ hs _ _=>hs) ⟨T_,hB0⟩
  (fun x=>{tmps:=#[.slice ad l.length cap,.int .u64 p,undef,undef,.int .i64 0,.pointer (some ⟨w.heap.size,0,none⟩),.slice ad l.length cap,.int .u64 p,.func (.func 98) #[] #[.pointer (some ⟨w.heap.size+1,0,none⟩),.pointer (some ⟨w.heap.size+1+1,0,none⟩)],.int .i64 (x:Int),undef,undef,undef],defers:=[]}) ?assign ?body ?done ?stop
 case assign=>
  intro l x W K hK
  gi_wp2
  simpa using hK
 case stop=>
  rintro D c pre W _ _ h _;exact h.elim
 case own=>
  exact OwnFrom.and (fun s A B row hs hg hr=>hs.kept hg fun e=>by have:=(hr _ e.symm).1;simp at this;omega) (ownFrom_below (le_refl _) (by simp;omega))
 case body=>
  rintro l pre x W ⟨hb,hB⟩ hlt;have hcell:=hb.cell;have hfr:=hb.frozen
  gi_wp2
  refine ⟨(KeepsOthers.setCell _ _ _).from _,⟨(KeepsOthers.setCell W ⟨w.heap.size,0,none⟩ (.int .i64 ((pre.length:Int)+1))).size,fun b hz=>Below.heap_setCell _ _ _ b (fun e=>?_)⟩,?_,hB.setCell (p:=⟨w.heap.size,0,none⟩) (le_refl _) _⟩
  ·rcases hz with hz|rfl|rfl
   ·have:=hx.1 b hz;simp only at e;omega
   ·simp at e
   ·simp only at e;omega
  ·rw [length_append];exact hb.set _
 case done=>
  rintro D xs W hD rfl ⟨hb,hB⟩ hK;have hcell:=hb.cell
  gi_wp2
  refine ⟨by simp,.inl ⟨_,_,rfl,run_takeDeferred hK,?_⟩⟩;refine ⟨_,results_tmp rfl _ _ _,?_,hB.trans (belowK_b (w:=w) (le_refl _) W D _ _ (by simp at hD;omega) hK rfl rfl)⟩;rw [TF];rfl
theorem TD {X:Nat→Prop} {w:World} (h:XG X w):Sat X w []:=
 ⟨fun i j b hb=>by simp [au,aI.blocks] at hb,fun i b hb=>by simp [au,aI.blocks] at hb,h,fun b hb ⟨i,hi⟩=>by simp [au,aI.blocks] at hi,fun i=>trivial⟩
theorem S_ {f:Nat} {l:List aB} {p r:Int} (hc:fK prog f=true)
  (h:∀(X:Nat→Prop) (ad:Option Addr) (cap:Nat) (w:World),XG X w→Den X w (bG 47 aB.c default l) (.slice ad l.length cap)→0≤p→CallsIn Fence.wide 3 prog f #[.slice ad l.length cap,.int .u64 p] w fun e W'=>e= .returned (.int .i64 r)∧Below w.heap.size w W'):
  EC prog f [bG 47 aB.c default l,.int .u64 p] [] fun r' N=>N=[]∧r'= .int .i64 r:=by
 unfold EC;refine ⟨hc,fun X w vs hs hd=>?_⟩;obtain ⟨v,q,rfl⟩:=TT hd.1;have hv:Den X w (bG 47 aB.c default l) v:=hd.2 0 _ rfl;have hq:Den X w (.int .u64 p) q:=hd.2 1 _ rfl;have hp:0≤p:=by
  cases hq with
  |int _ _ h=>exact h rfl
 obtain rfl:=SP hq;obtain ⟨ad,cap,rfl⟩:=TI hv;refine callsIn_wide.1 ((h X ad cap w hs.xg hv hp).mono ?_);rintro e W' ⟨rfl,hB⟩;have hk:∀b,X b→W'.heap[b]?=w.heap[b]?:=fun b hb=>hB.block b (hs.og b hb);exact ⟨_,.int .i64 _,X,[],rfl,⟨rfl,rfl⟩,TD (hs.xg.mono (fun _ h=>h) hk (fun b hb=>Nat.lt_of_lt_of_le (hs.og b hb) hB.size)),.int _ _ .i64,⟨hB.os,hB.tape,hB.output,hB.size,fun b hb _=>hB.block b hb,fun _ h=>h,fun _ h=> .inl h,fun b ⟨i,hi⟩=>by simp [au,aI.blocks] at hi⟩⟩
theorem SM (l:List aB) (p:Int) (hl:l.length≤1099511627776):EC prog 14 [bG 47 aB.c default l,.int .u64 p] [] fun r N=>N=[]∧r= .int .i64 ((Su l p l.length).1:Nat):=
 S_ (ca 14) fun X ad cap w hx hv hp=>Tz w hx hv hp hl
def TH (a:Int×Int) (k:Nat):Int×Int:=(if a.1 < wrap64 (wrap64 ((k:Int) - a.2) - 1) then wrap64 (wrap64 ((k:Int) - a.2) - 1) else a.1,(k:Int))
def SS (xs:List Nat):Int×Int:=List.foldl TH (0,-1) xs
theorem S0 (xs:List Nat) (k:Nat):SS (xs ++ [k])=TH (SS xs) k:=by
 unfold SS;rw [foldl_append];rfl
theorem Tp {x:Int} (h:-9223372036854775808≤x∧x≤9223372036854775807):wrap64 x=x:=by unfold wrap64;omega
theorem Tg (l:List aB) (p:Int) (hl:l.length≤1099511627776):∀i,i≤l.length→SS (SI l p i)=(((Su l p i).2.1:Int),((Su l p i).2.2:Int) - 1)
 |0,_=>by
  unfold SI;rfl
 |i+1,h=>by
  have ih:=Tg l p hl i (by omega);rw [SH]
  cases hs:SL p (l.getD i default) with
  |true=>
   have hle:=(Tr l p i).1;rw [S7 hs,if_pos rfl,S0,ih];unfold TH;have h1:wrap64 ((i:Int) - (((Su l p i).2.2:Int) - 1))=(i:Int) - (((Su l p i).2.2:Int) - 1):=Tp (by omega);have h2:wrap64 ((i:Int) - (((Su l p i).2.2:Int) - 1) - 1)=(i:Int) - (((Su l p i).2.2:Int) - 1) - 1:=Tp (by omega);simp only [h1,h2,Prod.mk.injEq]
   constructor
   ·split<;>omega
   ·omega
  |false=>rw [SY hs,if_neg (by decide),append_nil,ih]
theorem Tl {X:Nat→Prop} {w W:World} {pre:List Nat} {x:Nat} {m e v u:Int} {a:Act} (hx:XG X w) (hb:Boxed W w.heap.size 3 (.int .i64 m)) (hc:Boxed W (w.heap.size+1) 3 (.int .i64 e)) (hB:Below w.heap.size w W) (hg:SS (pre ++ [x])=(v,u)):
  ownPostG (w.heap.size+1+1+1+1) (S4 fun b=>X b∨b=w.heap.size+1+1∨b=w.heap.size+1+1+1)
   (fun pre W=>(Boxed W w.heap.size 3 (.int .i64 (SS pre).1)∧Boxed W (w.heap.size+1) 3 (.int .i64 (SS pre).2))∧Below w.heap.size w W) (fun x x_1 x_2=>False) (pre ++ [x]) W .normal a
   ((W.setCell ⟨w.heap.size,0,none⟩ (.int .i64 v)).setCell ⟨w.heap.size+1,0,none⟩ (.int .i64 u)):=by
 have hk:∀b,b≠w.heap.size→b≠w.heap.size+1→((W.setCell ⟨w.heap.size,0,none⟩ (.int .i64 v)).setCell ⟨w.heap.size+1,0,none⟩ (.int .i64 u)).heap[b]?=W.heap[b]?:=fun b h1 h2=>
  (Below.heap_setCell _ _ _ b h2).trans (Below.heap_setCell _ _ _ b h1)
 refine ⟨((KeepsOthers.setCell _ _ _).trans (KeepsOthers.setCell _ _ _)).from _,⟨((KeepsOthers.setCell W ⟨w.heap.size,0,none⟩ (.int .i64 v)).trans (KeepsOthers.setCell _ ⟨w.heap.size+1,0,none⟩ (.int .i64 u))).size,fun b hz=>?_⟩,⟨?_,?_⟩,(hB.setCell (p:=⟨w.heap.size,0,none⟩) (le_refl _) _).setCell (p:=⟨w.heap.size+1,0,none⟩) (Nat.le_succ _) _⟩
 ·rcases hz with hz|rfl|rfl
  ·have:=hx.1 b hz;exact hk b (by omega) (by omega)
  ·exact hk _ (by omega) (by omega)
  ·exact hk _ (by omega) (by omega)
 ·rw [hg];exact (Below.heap_setCell _ _ _ _ (by simp)).trans (hb.set _)
 ·rw [hg];have h2:Boxed (W.setCell ⟨w.heap.size,0,none⟩ (.int .i64 v)) (w.heap.size+1) 3 (.int .i64 e):=(Below.heap_setCell _ _ _ _ (by simp)).trans hc;exact h2.set _
theorem Te {X:Nat→Prop} {l:List aB} {p:Int} {ad:Option Addr} {cap:Nat} (w:World) (hx:XG X w) (hv:Den X w (bG 47 aB.c default l) (.slice ad l.length cap)) (hp:0≤p) (hl:l.length≤1099511627776):
  CallsIn Fence.wide 3 prog 16 #[.slice ad l.length cap,.int .u64 p] w fun e W'=>e= .returned (.int .i64 ((Su l p l.length).2.1:Nat))∧Below w.heap.size w W':=by
 refine callsIn_of_wp_marks func16 rfl trivial ?_ rfl;simp only [ntmps16,size_toArray,length_cons,length_nil,Nat.reduceAdd,Nat.reduceSub,Array.replicate_succ,Array.replicate_zero,push_toArray,append_toArray,nil_append,cons_append]
 gi_wp2_with (refine ⟨trivial,CallsIn.mono (S6 _ _ _ _ _ _) ?_⟩;rintro e w' ⟨rfl,rfl⟩)
 have hb1:SO X l p (.slice ad l.length cap) (w.heap.size+1+1) (w.heap.size+1+1+1) ((((w.alloc (.cells #[.int .i64 0] 3)).alloc (.cells #[.int .i64 (-1)] 3)).alloc (.cells #[.slice ad l.length cap] 23)).alloc (.cells #[.int .u64 p] 42)):=by
  have hk:∀b,X b→(w.alloc (.cells #[.int .i64 0] 3)).heap[b]?=w.heap[b]?:=fun b hb=>((Below.refl w.heap.size w).alloc (le_refl _) (.cells #[.int .i64 0] 3)).block b (hx.1 b hb);have h:=S8 (u:= .int .i64 (-1)) (T:=3) (hx.mono (fun _ h=>h) hk (fun b hb=>by have:=hx.1 b hb;simp;omega)) (hv.mono (fun _ h=>h) hk) hp;simp only [World.size_alloc] at h;exact h
 have T_:Boxed ((((w.alloc (.cells #[.int .i64 0] 3)).alloc (.cells #[.int .i64 (-1)] 3)).alloc (.cells #[.slice ad l.length cap] 23)).alloc (.cells #[.int .u64 p] 42)) w.heap.size 3 (.int .i64 0):=(((Boxed.new w 3 (.int .i64 0)).alloc _).alloc _).alloc _;have Ua:Boxed ((((w.alloc (.cells #[.int .i64 0] 3)).alloc (.cells #[.int .i64 (-1)] 3)).alloc (.cells #[.slice ad l.length cap] 23)).alloc (.cells #[.int .u64 p] 42)) (w.heap.size+1) 3 (.int .i64 (-1)):=by
  have h:=((Boxed.new (w.alloc (.cells #[.int .i64 0] 3)) 3 (.int .i64 (-1))).alloc (.cells #[.slice ad l.length cap] 23)).alloc (.cells #[.int .u64 p] 42);simp only [World.size_alloc] at h;exact h
 have hB0:Below w.heap.size w ((((w.alloc (.cells #[.int .i64 0] 3)).alloc (.cells #[.int .i64 (-1)] 3)).alloc (.cells #[.slice ad l.length cap] 23)).alloc (.cells #[.int .u64 p] 42)):=((((Below.refl _ w).alloc (le_refl _) _).alloc (by simp) _).alloc (by simp;omega) _).alloc (by simp;omega) _;refine wpIn_rangeFunc_ownG rfl (by decide) (gf:=98) (lb:=#[.pointer (some ⟨w.heap.size+1+1,0,none⟩),.pointer (some ⟨w.heap.size+1+1+1,0,none⟩)]) rfl trivial (enters_of func98 (by kernel_rfl) rfl)
  (SK 2 hl hb1) (fun h k=>h.trans k) (S4.put hb1.sat.og) (Below.refl _ _) (fun _=>rfl)
  (fun pre W=>(Boxed W w.heap.size 3 (.int .i64 (SS pre).1)∧Boxed W (w.heap.size+1) 3 (.int .i64 (SS pre).2))∧Below w.heap.size w W) (fun _ _ _=>False)
  ?own (fun _ _ _ _ _ hs _ _=>hs) ⟨⟨T_,Ua⟩,hB0⟩
  (fun x=>{tmps:=#[.slice ad l.length cap,.int .u64 p,undef,undef,.int .i64 0,.pointer (some ⟨w.heap.size,0,none⟩),.pointer (some ⟨w.heap.size+1,0,none⟩),.int .i64 (x:Int),.slice ad l.length cap,.int .u64 p,.func (.func 98) #[] #[.pointer (some ⟨w.heap.size+1+1,0,none⟩),.pointer (some ⟨w.heap.size+1+1+1,0,none⟩)],.int .i64 (x:Int),undef,undef,undef,undef,undef,undef,undef,undef],defers:=[]}) ?assign ?body ?done ?stop
 case assign=>
  intro l x W K hK
  gi_wp2
  simpa using hK
 case stop=>
  rintro D c pre W _ _ h _;exact h.elim
 case own=>
  exact OwnFrom.and (OwnFrom.and (fun s A B row hs hg hr=>hs.kept hg fun e=>by have:=(hr _ e.symm).1;simp at this;omega) (fun s A B row hs hg hr=>hs.kept hg fun e=>by have:=(hr _ e.symm).1;simp at this;omega)) (ownFrom_below (le_refl _) (by simp;omega))
 case body=>
  rintro y pre x W ⟨⟨hb,hc⟩,hB⟩ hlt;have hcell:=hb.cell;have hfr:=hb.frozen;have hcell2:=hc.cell;have hfr2:=hc.frozen;have hgs:=S0 pre x;generalize SS pre=g at *;obtain ⟨m,e⟩:=g;simp only [TH] at hb hc hcell hcell2 hgs
  gi_wp2
  all_goals exact Tl hx hb hc hB (hgs.trans (by simp only [Prod.mk.injEq,and_true];split<;>omega))
 case done=>
  rintro D xs W hD rfl ⟨⟨hb,hc⟩,hB⟩ hK;have hcell:=hb.cell
  gi_wp2
  refine ⟨by simp,.inl ⟨_,_,rfl,run_takeDeferred hK,?_⟩⟩;refine ⟨_,results_tmp rfl _ _ _,?_,hB.trans (belowK_b (w:=w) (le_refl _) W D _ _ (by simp at hD;omega) hK rfl rfl)⟩;rw [Tg l p hl l.length (le_refl _)];rfl
theorem SF (l:List aB) (p:Int) (hl:l.length≤1099511627776):EC prog 16 [bG 47 aB.c default l,.int .u64 p] [] fun r N=>N=[]∧r= .int .i64 ((Su l p l.length).2.1:Nat):=
 S_ (ca 16) fun X ad cap w hx hv hp=>Te w hx hv hp hl
end
theorem Tb:S3:=fun l p h=>SM l p h
theorem TK:TA:=fun l p h=>SF l p h
theorem Sx:EC prog 9 [] [] fun r N=>N=[]∧r= .bool true:=SW Tb TK
theorem SN (l:List Int) (q:Int) (hl:l.length≤9223372036854775807):EC prog 5 [bG 1 (aS .i64) default l,.int .u64 q] [] fun r N=>N=[]∧r= .bool true:=Sy Tb TK Sx l q hl
theorem SR (l:List Int) (cut:Int) (hl:l.length≤9223372036854775807):EC prog 4 [bG 1 (aS .i64) default l,.int .i64 cut] [] fun r N=>N=[]∧r= .bool true:=Sz Tb Sx l cut hl
end Go.Proofs.YteejbbfaphcgiaaGreat
