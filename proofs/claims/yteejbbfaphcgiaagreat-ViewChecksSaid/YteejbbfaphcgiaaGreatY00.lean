/- Part 0. -/
import Derived.Test.YteejbbfaphcgiaaGreatRows
import Derived.Test.YteejbbfaphcgiaaGreatV11
namespace Go.Proofs.YteejbbfaphcgiaaGreat
open Go.Lift _root_.Go.Proofs.Tryz
set_option linter.unusedSimpArgs false
set_option linter.unusedVariables false
set_option maxHeartbeats 20000000
set_option maxRecDepth 10000
open List (getD map ext_getElem length_set length_map getElem_set getD_cons_zero getD_cons_succ)
open Nat (zero_le eq_zero_or_pos lt_or_ge)
def Sq (l:List Int):List SV:=[.sl false 1 l.length (cA (aS .i64) default l)]
theorem Ss (l:List Int):(Sq l).length=1:=rfl
theorem Sr (l:List Int):bt (Sq l)=true:=rfl
theorem Sv (l:List Int) (d:SV):(Sq l).getD 0 d= .sl false 1 l.length (cA (aS .i64) default l):=rfl
theorem Sw (l:List Int):(Sq l).take 1=Sq l:=rfl
theorem Su (l v:List Int):aJ (Sq l) 0 [.sl false 1 v.length (cA (aS .i64) default v)]=Sq v:=rfl
theorem dK.gR (x:dK):bt x.c=true:=rfl
theorem SC:E.ty 88= .array 2 false 1:=rfl
theorem Sz:E.zr 88=dK.c default:=rfl
theorem SB:E.ty 89= .slice 88 2 48:=rfl
theorem Sy:E.zr 89=[jJ]:=rfl
theorem SA:E.ty 90= .slice 35 1 24:=rfl
theorem Sx:E.zr 90=[jJ]:=rfl
section
attribute [local irreducible] EC EV
theorem nR (n a b:Int):EC prog 103 [.int .i64 n,.int .i64 a,.int .i64 b] [] fun r N=>N=[]∧∃v:Bool,v=(decide (a≤n) && decide (n≤b))∧r= .bool v:=by
 refine EC.bh ?_;refine nW ab (ca 103) func103 ntmps103 results103 ?_;(repeat' (done))<;>((exact ⟨_,by grind,Lt.bool rfl⟩))
theorem w8 (n:Int):EC prog 102 [.int .i64 n] [] fun r N=>N=[]∧∃b:Bool,b=(decide (0≤n) && decide (n < 8))∧r= .bool b:=by
 have h7:decide (n≤7)=decide (n < 8):=by rw [decide_eq_decide];omega
 refine EC.bh ?_;refine nW ab (ca 102) func102 ntmps102 results102 ?_;(repeat' (first|refine eK ab ?_|((refine EC.aM (nR n 0 7) ?_;rintro v hv;rw [h7] at hv))|fail))<;>((exact ⟨_,hv,Lt.bool rfl⟩))
end
section
def Fz (B:List aI) (s s':SV):Prop:=∀X w v,Sat X w B→Den X w s v→Den (dz X B (bc 0)) w s' v
theorem Fz.of {B:List aI} {s s':SV} (hk:dE (bc 0) B s) (h:bq (fu (bc 0) B s) s'):Fz B s s':=fun X w v hs hd=>h _ _ _ (eR hs hd hk)
inductive LO (B:List aI):List SV→List SV→Prop where
 |nil:LO B [] []
 |cons {s s':SV} {l l':List SV} (h:Fz B s s') (hr:LO B l l'):LO B (s :: l) (s' :: l')
theorem LO.spec {B:List aI} {l l':List SV} (h:LO B l l'):l.length=l'.length∧∀(i:Nat) (c:SV),l'[i]?=some c→∃d,l[i]?=some d∧Fz B d c:=by
 induction h with
 |nil=>exact ⟨rfl,by simp⟩
 |cons h hr ih=>
  refine ⟨by simp [ih.1],fun i c hc=>?_⟩
  cases i with
  |zero=>simp at hc;subst hc;exact ⟨_,rfl,h⟩
  |succ i=>simpa using ih.2 i c (by simpa using hc)
theorem Fz.fn {B:List aI} {f:FuncId} {l l':List SV} (h:LO B l l'):Fz B (.fn f l) (.fn f l'):=fun X w v hs hd=>by
 cases hd with
 |fn hz hc=>
  refine .fn (by rw [hz,h.spec.1]) fun i c hi=>?_;obtain ⟨d,h1,h2⟩:=h.spec.2 i c hi;exact h2 X w _ hs (hc i d h1)
theorem Fz.int {B:List aI} {k:IntKind} {n:Int}:Fz B (.int k n) (.int k n):=Fz.of trivial (bq.refl _)
theorem Fz.bG {α:Type} {B:List aI} {e:Nat} {cells:α→List SV} {d:α} {l:List α}:Fz B (Go.Lift.bG e cells d l) (Go.Lift.bG e cells d l):=Fz.of trivial (bq.refl _)
theorem Fz.box {B:List aI} {i E e:Nat} {h:aN} {c:List SV} (hB:au B i= .row h E e [c]):Fz B (.bx i h e 0 0) (.xp c):=by
 refine Fz.of ?_ ?_
 ·simp [dE,fw,cf,bc,hB]
 ·simp only [fu,iT,gl,bc,zero_le,decide_true,hB];exact bq.refl _
theorem EC.GX {P:Program} {f:Nat} {args args':List SV} {B:List aI} {C:SV→Prop} {Q:SV→List aI→Prop} (h:EC P f args' [] fun r N=>N=[]∧C r) (ha:LO B args args') (hf:∀r,C r→JI r=true) (hk:∀r,C r→Q r B):EC P f args B Q:=by
 have hb:∀i,au ([]:List aI) i=if bc 0 i then .gone else au B i:=fun i=>by simp [bc,au]
 refine ⟨h.1,fun X w vs hs hd=>?_⟩;have hsp:=ha.spec;refine (h.2 (dz X B (bc 0)) w vs (hs.dY hb) ⟨by rw [hd.1,hsp.1],fun i c hc=>?_⟩).mono ?_
 ·obtain ⟨d,h1,h2⟩:=hsp.2 i c hc;exact h2 X w _ hs (hd.2 i d h1)
 ·rintro e w' ⟨v,r,X',B',he,⟨rfl,hq⟩,h1,h2,h3⟩;have hblk:∀b,b < w.heap.size→w'.heap[b]?=w.heap[b]?:=fun b hb=>h3.block b hb Bg
  refine ⟨v,r,X,B,he,hk r hq,⟨hs.inj,fun i b h=>Nat.lt_of_lt_of_le (hs.lt i b h) h3.size,hs.xg.mono (fun _ h=>h) (fun b hb=>hblk b (hs.og b hb)) fun b h=>Nat.lt_of_lt_of_le (hs.og b h) h3.size,hs.apart,fun i=>?_⟩,h2.JI (hf r hq),
   ⟨h3.os,h3.tape,h3.output,h3.size,fun b hb _=>hblk b hb,fun _ h=>h,fun _ h=> .inl h,fun _ h=> .inl h⟩⟩
  exact aI.ig (hs.ok i) (fun _ h=>h) (fun b hb=>hblk b (hs.og b hb)) fun b hb=>hblk b (hs.lt i b hb)
attribute [local irreducible] EC EV gW cc cK dT
theorem t9 (l:List Int) (hl:l.length≤1099511627776):EC prog 57 [bG 1 (aS .i64) default l] [] fun r N=>N=[]∧r= .bool (ib l):=by
 have hnd:∀n:Int,EC prog 102 [.int .i64 n] [] fun r N=>N=[]∧r= .bool (decide (0≤n) && decide (n < 8)):=fun n=>(w8 n).mono fun r N ⟨h1,b,hb,h2⟩=>⟨h1,hb▸h2⟩;have hwi:∀n:Int,EC prog 103 [.int .i64 n,.int .i64 1,.int .i64 8] [] fun r N=>N=[]∧r= .bool (decide (1≤n) && decide (n≤8)):=fun n=>(nR n 1 8).mono fun r N ⟨h1,b,hb,h2⟩=>⟨h1,hb▸h2⟩;refine EC.cQ ?_;refine nW ab (ca 57) func57 ntmps57 results57 ?_;(repeat' (done));refine bV ab [0,5,6] 7 l.length (fun i=>u_ l i=true) rfl (by omega) ?_;intro i hI hi hw;simp only [hw,push_cast,simprocAttr];have hi0:0 < (i:Int)→IntKind.i64.wrap ((i:Int) - 1)=((i - 1:Nat):Int):=fun h=>by rw [bu (by omega)];omega
 have hs:=pz (l:=l) (i:=i);(repeat' (first|with_reducible (first|intro _|apply And.intro)|refine eK ab ?_|refine EC.use (hnd _) ?_|refine EC.use (hwi _) ?_|fail))<;>(first|(have hz:=‹(_ && decide (0 < (i:Int)))=true›;simp only [Bool.and_eq_true,decide_eq_true_eq] at hz;first|exact hz.1|omega|(rw [hi0 hz.2];omega))|omega|(show (_:Bool)=true;first|(simp_all;done)|grind)|skip)
 ·have hz:=‹(_ || _)=true›;refine Lt.bool ?_;have h1:u_ l (i+1)=false:=by
   rw [hs,hI];rcases eq_zero_or_pos i with h|h
   ·subst h;simp only [Bool.or_eq_true,Bool.and_eq_true,Bool.not_eq_true',Bool.and_eq_false_iff,decide_eq_true_eq,decide_eq_false_iff_not] at hz;simp only [Bool.true_and,Bool.and_eq_false_iff,Bool.or_eq_false_iff,decide_eq_false_iff_not];omega
   ·rw [hi0 (by omega),Int.toNat_natCast] at hz;simp only [Bool.or_eq_true,Bool.and_eq_true,Bool.not_eq_true',Bool.and_eq_false_iff,decide_eq_true_eq,decide_eq_false_iff_not] at hz;simp only [Bool.true_and,Bool.and_eq_false_iff,Bool.or_eq_false_iff,decide_eq_false_iff_not];omega
  cases hb:ib l with
  |false=>rfl
  |true=>
   simp only [ib,Bool.and_eq_true] at hb;rw [uI hb.1 (i:=i+1) (by omega)] at h1
   cases h1
 ·have hz:=‹(_ || _)=false›;(try simp only [hw]);refine cO ?_;rw [hs,hI];rcases eq_zero_or_pos i with h|h
  ·subst h;simp only [Bool.or_eq_false_iff,Bool.not_eq_false',Bool.and_eq_true,Bool.and_eq_false_iff,decide_eq_true_eq,decide_eq_false_iff_not] at hz;simp only [Bool.true_and,Bool.and_eq_true,Bool.or_eq_true,decide_eq_true_eq];exact ⟨⟨by omega,by omega⟩,.inl trivial⟩
  ·rw [hi0 (by omega),Int.toNat_natCast] at hz;simp only [Bool.or_eq_false_iff,Bool.not_eq_false',Bool.and_eq_true,Bool.and_eq_false_iff,decide_eq_true_eq,decide_eq_false_iff_not] at hz;simp only [Bool.true_and,Bool.and_eq_true,Bool.or_eq_true,decide_eq_true_eq];omega
 ·have hz:=‹decide ((i:Int) < _)=false›;obtain rfl:i=l.length:=by simp at hz;omega
  refine Lt.bool ?_;have h8:ib l=true↔1≤l.length:=by unfold ib;rw [hI,Bool.true_and];exact decide_eq_true_iff
  cases hb:ib l with
  |true=>have:=ow hb;simp;omega
  |false=>
   have:¬1≤l.length:=fun h=>by rw [h8.2 h] at hb;cases hb
   simp;omega
theorem jg (l:List Int) (hl:l.length≤1099511627776):EC prog 29 [bG 1 (aS .i64) default l] [] fun r N=>N=[]∧r= .bool (ib l):=by
 refine EC.cQ ?_;refine nW ab (ca 29) func29 ntmps29 results29 ?_;(repeat' (first|refine eK ab ?_|refine EC.use (t9 l hl) ?_|fail))<;>((exact Lt.bool rfl))
theorem Au (l:List Int) (x:Int) (hl:l.length≤1099511627776):EC prog 100 [bG 1 (aS .i64) default l,.int .i64 x] [] fun r N=>N=[]∧r= .int .i64 (oc (fun y=>x == y) 0 l):=by
 refine EC.cQ ?_;refine nW ab (ca 100) func100 ntmps100 results100 ?_;(repeat' (done));refine bV ab [0,1,7] 8 l.length (fun i=>oc (fun y=>x == y) 0 l=oc (fun y=>x == y) i (l.drop i)) rfl (by omega) ?_;intro i hI hi hw;simp only [hw,push_cast,simprocAttr];have hs:i < l.length→oc (fun y=>x == y) i (l.drop i)=if (x == l.getD i default)=true then (i:Int) else oc (fun y=>x == y) (i+1) (l.drop (i+1)):=fun h=>yY h
 (repeat' (with_reducible (first|intro _|apply And.intro)))<;>(first|(refine Lt.int ?_;rw [hI,hs (by omega),if_pos ‹_›];done)|((try simp only [hw]);refine cO ?_;rw [hI,hs (by omega),if_neg (by rw [‹(x == _)=false›];simp)];done)|(refine Lt.int ?_;(obtain rfl:i=l.length:=(by have hz:=‹decide ((i:Int) < _)=false›;simp at hz;omega));rw [hI,List.drop_length];rfl;done)|omega)
theorem n8 (l:List Int) (x:Int) (hl:l.length≤1099511627776):EC prog 55 [bG 1 (aS .i64) default l,.int .i64 x] [] fun r N=>N=[]∧r= .bool (decide (x∈l)):=by
 refine EC.cQ ?_;refine nW ab (ca 55) func55 ntmps55 results55 ?_;have e:decide (0≤oc (fun y=>x == y) 0 l)=decide (x∈l):=by
  rw [DM (fun y=>x == y) l 0];rw [Bool.eq_iff_iff,List.any_eq_true,decide_eq_true_iff];exact ⟨fun ⟨y,h1,h2⟩=>by rw [show x=y by simpa using h2];exact h1,fun h=>⟨x,h,by simp⟩⟩
 (repeat' (first|refine eK ab ?_|refine EC.use (Au l x hl) ?_|fail))<;>((exact Lt.bool e))
theorem sZ {g:FuncId} {cap:List SV} {p:Int→Bool} (l:List Int) (hl:l.length≤1099511627776)
  (hg:∀q:Int,EC prog g (.int .i64 q :: cap) [] fun r N=>N=[]∧r= .bool (p q)):
  EC prog 101 [bG 1 (aS .i64) default l,.fn g cap] [] fun r N=>N=[]∧r= .int .i64 (oc p 0 l):=by
 refine EC.cQ ?_;refine nW ab (ca 101) func101 ntmps101 results101 ?_;(repeat' (done));refine bV ab [0,1,7] 8 l.length (fun i=>oc p 0 l=oc p i (l.drop i)) rfl (by omega) ?_;intro i hI hi hw;simp only [hw,push_cast,simprocAttr];have hs:i < l.length→oc p i (l.drop i)=if p (l.getD i default)=true then (i:Int) else oc p (i+1) (l.drop (i+1)):=fun h=>yY h
 (repeat' (first|with_reducible (first|intro _|apply And.intro)|refine eK ab ?_|refine EC.use (hg _) ?_|fail))<;>(first|(refine Lt.int ?_;rw [hI,hs (by omega),if_pos ‹_›];done)|((try simp only [hw]);refine cO ?_;rw [hI,hs (by omega),if_neg (by rw [‹p _=false›];simp)];done)|(refine Lt.int ?_;(obtain rfl:i=l.length:=(by have hz:=‹decide ((i:Int) < _)=false›;simp at hz;omega));rw [hI,List.drop_length];rfl;done)|omega)
theorem pX {g:FuncId} {cap:List SV} {p:Int→Bool} (l:List Int) (hl:l.length≤1099511627776)
  (hg:∀q:Int,EC prog g (.int .i64 q :: cap) [] fun r N=>N=[]∧r= .bool (p q)):
  EC prog 56 [bG 1 (aS .i64) default l,.fn g cap] [] fun r N=>N=[]∧r= .bool (l.any p):=by
 refine EC.cQ ?_;refine nW ab (ca 56) func56 ntmps56 results56 ?_;(repeat' (first|refine eK ab ?_|refine EC.use (sZ l hl hg) ?_|fail))<;>((exact Lt.bool (DM _ _ _)))
def lZ {α:Type} (p:α→Bool) (l:List α) (i:Nat):Nat:=((l.take i).filter p).length
theorem y8 {α:Type} [Inhabited α] {p:α→Bool} {l:List α} {i:Nat} (h:i < l.length):lZ p l (i+1)=lZ p l i+bif p (l.getD i default) then 1 else 0:=by
 have e:l.getD i default=l[i]:=by simp [getD,h]
 unfold lZ;rw [e,List.take_succ_eq_append_getElem h,List.filter_append,List.length_append]
 cases hd:p l[i]<;>simp [hd]
theorem AB {α:Type} {p:α→Bool} {l:List α} {i:Nat}:lZ p l i≤i:=by
 unfold lZ;exact Nat.le_trans (List.length_filter_le _ _) (by simp;omega)
theorem Ay {g:FuncId} {cap:List SV} {p:Int→Bool} (l:List Int) (hl:l.length≤1099511627776)
  (hg:∀q:Int,EC prog g (.int .i64 q :: cap) [] fun r N=>N=[]∧r= .bool (p q)):
  EC prog 59 [bG 1 (aS .i64) default l,.fn g cap] [] fun r N=>N=[]∧r= .int .i64 (lZ p l l.length:Nat):=by
 refine EC.cQ ?_;refine nW ab (ca 59) func59 ntmps59 results59 ?_;(repeat' (done));refine aT ab [1,8,9] (fun s:Nat×Nat=>[(10,.int .i64 s.1),(5,.int .i64 s.2)]) (fun B _=>B) (fun s=>s.1≤l.length∧s.2=lZ p l s.1) (fun s=>l.length - s.1) (0,0) ⟨zero_le _,rfl⟩ ?_;rintro ⟨i,n⟩ ⟨hi,hn⟩;replace hi:i≤l.length:=hi;replace hn:n=lZ p l i:=hn;have hnl:=AB (p:=p) (l:=l) (i:=i);have hw:=wI i;have hw2:IntKind.i64.wrap ((n:Int)+1)=((n+1:Nat):Int):=by rw [bu (by omega)];omega
 have hs:=y8 (p:=p) (l:=l) (i:=i);simp only [hw,hw2,push_cast,simprocAttr];(repeat' (first|with_reducible (first|intro _|apply And.intro)|refine eK ab ?_|refine EC.use (hg _) ?_|fail))<;>(first|omega|(have hs:=hs (by omega);rw [‹p _=true›] at hs;(try simp only [hw,hw2]);exact a7 (i+1,n+1) ⟨by show i+1≤_;omega,by show n+1=lZ p l (i+1);rw [hs,hn];rfl⟩)|(have hs:=hs (by omega);rw [‹p _=false›] at hs;(try simp only [hw,hw2]);exact a7 (i+1,n) ⟨by show i+1≤_;omega,by show n=lZ p l (i+1);rw [hs,hn];rfl⟩)|(refine Lt.int ?_;(obtain rfl:i=l.length:=(by have hz:=‹decide ((i:Int) < _)=false›;simp at hz;omega));rw [hn];done))
theorem yo {g:FuncId} {cap:List SV} {p:cr→Bool} (l:List cr) (hl:l.length≤1099511627776)
  (hg:∀q:cr,EC prog g (.agg q.c :: cap) [] fun r N=>N=[]∧r= .bool (p q)):
  EC prog 66 [bG 4 cr.c default l,.fn g cap] [] fun r N=>N=[]∧r= .int .i64 (lZ p l l.length:Nat):=by
 refine EC.cQ ?_;refine nW ab (ca 66) func66 ntmps66 results66 ?_;(repeat' (done));refine aT ab [1,8,9] (fun s:Nat×Nat=>[(10,.int .i64 s.1),(5,.int .i64 s.2)]) (fun B _=>B) (fun s=>s.1≤l.length∧s.2=lZ p l s.1) (fun s=>l.length - s.1) (0,0) ⟨zero_le _,rfl⟩ ?_;rintro ⟨i,n⟩ ⟨hi,hn⟩;replace hi:i≤l.length:=hi;replace hn:n=lZ p l i:=hn;have hnl:=AB (p:=p) (l:=l) (i:=i);have hw:=wI i;have hw2:IntKind.i64.wrap ((n:Int)+1)=((n+1:Nat):Int):=by rw [bu (by omega)];omega
 have hs:=y8 (p:=p) (l:=l) (i:=i);simp only [hw,hw2,push_cast,simprocAttr];(repeat' (first|with_reducible (first|intro _|apply And.intro)|refine eK ab ?_|refine EC.use (hg _) ?_|fail))<;>(first|omega|(have hs:=hs (by omega);rw [‹p _=true›] at hs;(try simp only [hw,hw2]);exact a7 (i+1,n+1) ⟨by show i+1≤_;omega,by show n+1=lZ p l (i+1);rw [hs,hn];rfl⟩)|(have hs:=hs (by omega);rw [‹p _=false›] at hs;(try simp only [hw,hw2]);exact a7 (i+1,n) ⟨by show i+1≤_;omega,by show n=lZ p l (i+1);rw [hs,hn];rfl⟩)|(refine Lt.int ?_;(obtain rfl:i=l.length:=(by have hz:=‹decide ((i:Int) < _)=false›;simp at hz;omega));rw [hn];done))
theorem As (b:List Int) (x:Int) (hb:b.length≤1099511627776):EC prog 60 [.int .i64 x,.xp [bG 1 (aS .i64) default b]] [] fun r N=>N=[]∧r= .bool (decide (x∈b)):=by
 refine EC.cQ ?_;refine nW ab (ca 60) func60 ntmps60 results60 ?_;(repeat' (first|refine eK ab ?_|refine EC.use (n8 b x hb) ?_|fail))<;>((exact Lt.bool rfl))
theorem f4 (a b:List Int) (ha:a.length≤1099511627776) (hb:b.length≤1099511627776):EC prog 31 [bG 1 (aS .i64) default a,bG 1 (aS .i64) default b] [] fun r N=>N=[]∧r= .bool (mo a b):=by
 have hnl:=AB (p:=fun x=>decide (x∈b)) (l:=a) (i:=a.length);have hw3:IntKind.i64.wrap (2*((lZ (fun x=>decide (x∈b)) a a.length:Nat):Int))=((2*lZ (fun x=>decide (x∈b)) a a.length:Nat):Int):=by rw [bu (by omega)];omega
 refine EC.cQ ?_;refine nW ab (ca 31) func31 ntmps31 results31 ?_;(repeat' (first|with_reducible intro _|refine eK ab ?_|((refine EC.GX (Ay a ha fun x=>As b x hb) (.cons Fz.bG (.cons (Fz.fn (.cons (Fz.box rfl) .nil)) .nil)) (by rintro _ rfl;rfl) ?_;rintro _ rfl))|fail))<;>((refine Lt.bool ?_;rw [hw3];unfold mo;show _=decide (a.length < 2*lZ (fun x=>decide (x∈b)) a a.length);congr 1;exact propext ⟨fun h=>by omega,fun h=>by omega⟩))
theorem Fs (up:List Int) (x:Int) (hb:up.length≤1099511627776):EC prog 54 [.int .i64 x,.xp [bG 1 (aS .i64) default up]] [] fun r N=>N=[]∧r= .bool (!decide (x∈up)):=by
 refine EC.cQ ?_;refine nW ab (ca 54) func54 ntmps54 results54 ?_;(repeat' (first|refine eK ab ?_|refine EC.use (n8 up x hb) ?_|fail))<;>((exact Lt.bool rfl))
def yt (l:cr) (a b:Int):Bool:=l.Cut && (l.nJ == a && l.To == b || l.nJ == b && l.To == a)
theorem C_ (a b:Int) (l:cr):EC prog 65 [.agg l.c,.xp [.int .i64 a],.xp [.int .i64 b]] [] fun r N=>N=[]∧r= .bool (yt l a b):=by
 refine EC.cQ ?_;refine nW ab (ca 65) func65 ntmps65 results65 ?_;(repeat' (with_reducible (first|intro _|apply And.intro)))<;>(first|(refine Lt.bool ?_;unfold yt;first|rfl|(simp_all;done)|grind)|omega|(show (_:Bool)=true;first|(simp_all;done)|grind))
theorem Ll (n:aR) (a b:Int):(a == b || decide (((lZ (fun l=>yt l a b) n.bU n.bU.length:Nat):Int)=0))=iS n a b:=by
 have h0:lZ (fun l=>yt l a b) n.bU n.bU.length=0↔∀l∈n.bU,yt l a b=false:=by
  unfold lZ;rw [List.take_length,List.length_eq_zero_iff,List.filter_eq_nil_iff];exact ⟨fun h l hl=>by simpa using h l hl,fun h l hl=>by simp [h l hl]⟩
 have h1:iS n a b=true↔∀l∈n.bU,qI l a b=false:=by
  unfold iS;rw [Bool.not_eq_true',List.any_eq_false];exact ⟨fun h l hl=>by simpa using h l hl,fun h l hl=>by simp [h l hl]⟩
 rw [Bool.eq_iff_iff,h1,Bool.or_eq_true,decide_eq_true_iff];have hi:((lZ (fun l=>yt l a b) n.bU n.bU.length:Nat):Int)=0↔∀l∈n.bU,yt l a b=false:=by rw [←h0];omega
 rw [hi]
 constructor
 ·rintro (h|h) l hl
  ·unfold qI;simp at h;simp [h]
  ·have:=h l hl;unfold yt at this;unfold qI;rcases Bool.eq_false_or_eq_true l.Cut with hc|hc<;>simp_all
 ·intro h;by_cases e:a=b
  ·exact .inl (by simp [e])
  ·refine .inr fun l hl=>?_;have:=h l hl;unfold qI at this;unfold yt;rcases Bool.eq_false_or_eq_true l.Cut with hc|hc<;>simp_all
theorem jh (n:aR) (a b:Int) (hn:n.bU.length≤1099511627776):EC prog 36 [.agg n.c,.int .i64 a,.int .i64 b] [] fun r N=>N=[]∧r= .bool (iS n a b):=by
 have he:=Ll n a b;refine EC.cQ ?_;refine nW ab (ca 36) func36 ntmps36 results36 ?_;(repeat' (first|with_reducible (first|intro _|apply And.intro)|refine eK ab ?_|((refine EC.GX (yo (p:=fun l=>yt l a b) n.bU hn fun l=>C_ a b l) (.cons Fz.bG (.cons (Fz.fn (.cons (Fz.box rfl) (.cons (Fz.box rfl) .nil))) .nil)) (by rintro _ rfl;rfl) ?_;rintro _ rfl))|fail))<;>(first|(refine Lt.bool ?_;rw [←he];first|rfl|(simp_all;done)|grind)|(show (_:Bool)=true;first|(simp_all;done)|grind)|(show False;first|(simp_all;done)|grind))
end
section
attribute [local irreducible] EC EV gW cc cK dT
theorem xK {Q:af→Prop} (n:aR) (a b:Int) (c:Bool) (hn:gT Q n):EC prog 24 [.agg n.c,.int .i64 a,.int .i64 b,.bool c] [] fun r N=>N=[]∧∃x:aR×Int,gT Q x.1∧r= .bS [.agg x.1.c,.int .i64 x.2]:=by
 refine EC.bh ?_;refine nW ab (ca 24) func24 ntmps24 results24 ?_;(repeat' (first|(with_reducible intro hh;first|subst hh|(revert hh;intro _))|with_reducible apply And.intro|refine eK ab ?_|((refine EC.aM (f5 n hn) ?_;rintro bv hv))|refine EC.use (jU _) ?_|fail))<;>(first|(exact ⟨(default,_),⟨zero_le _,fun l hl=>(nomatch hl)⟩,Lt.t2 (a6.nt rfl) a6.int⟩)|assumption|(simp_all;done)|skip);have hv':=hv (by simpa using ‹(!bv)=false›);refine dB (σ:=Bool×aN×aN×cr×cr) [3,4,8] (fun s=>[(10,.bx (bif s.1 then 2 else 3) s.2.1 4 0 0),(11,.bx (bif s.1 then 3 else 2) s.2.2.1 4 0 0)]) (fun B s=>B ++ [bif s.1 then .row s.2.1 114 4 [s.2.2.2.1.c] else .row s.2.2.1 114 4 [s.2.2.2.2.c],bif s.1 then .row s.2.2.1 114 4 [s.2.2.2.2.c] else .row s.2.1 114 4 [s.2.2.2.1.c]]) (fun s=>qG Q s.2.2.2.1∧qG Q s.2.2.2.2) ?_ ?_;rotate_left 1
 ·(repeat' (first|with_reducible intro _|((refine EC.aM (jV n _ _ hn) ?_;rintro l ⟨hl,-⟩))|refine dM ab 6 [] [0,1,2,4,5,6] bZ fun R hR=>?_|refine mV ab 3 8 9 ?_ ?_ ?_|refine mV ab 7 8 9 ?_ ?_ ?_|refine bT ab 3 9 ?_ ?_|refine bT ab 3 8 ?_ ?_|refine bT ab 8 9 ?_ ?_|refine bT ab 7 9 ?_ ?_|refine bT ab 7 8 ?_ ?_|refine dR ab [3,7,10,11] ?_|refine dR ab [7,10,11] ?_|refine dR ab [10,11] ?_|refine dR ab [9,10,11] ?_|refine dR ab [8,10,11] ?_|(refine hR _ _ ?_;refine sA ?_)|fail))<;>(first|(refine D1 (true,_,_,_,_) ?_;exact ⟨by assumption,by assumption⟩)|(refine D1 (false,_,_,_,_) ?_;exact ⟨by assumption,by assumption⟩))
 rintro ⟨q,g1,g2,l1,l2⟩ ⟨hl1,hl2⟩;simp only [bK,dd,push_cast,simprocAttr]
 cases q
 all_goals (repeat' (first|((refine EC.aM (gq (Q:=Q) n {l1 with Cut:=c} (by have:=hn.ln;omega)) ?_;rintro y ⟨h1,h2⟩))|((refine EC.aM (gq (Q:=Q) y {l2 with Cut:=c} (by have:=hv'.1;omega)) ?_;rintro z ⟨h3,h4⟩))|refine dN ab [5] [] [0,1,3,2,4,5,6] bZ fun R hR=>?_|refine dR ab [4,5,6] ?_|refine dR ab [5,6] ?_|(refine hR _ _ ?_;refine sA ?_)|refine wA ab ?_|fail))
 all_goals
  refine ⟨(z,0),⟨by have:=hv'.1;show z.bU.length≤_;omega,fun l hl=>?_⟩,Lt.t2 (a6.nt rfl) a6.int⟩;rcases h4 l hl with e|hl
  ·subst e;exact ⟨hl2.ln,hl2.q⟩
  ·rcases h2 l hl with e|hl
   ·subst e;exact ⟨hl1.ln,hl1.q⟩
   ·exact hn.l l hl
theorem yW (n:aR) (a:Int):iS n a a=true:=yU fun j hj=>by simp [qI]
theorem yV (n:aR) (a b:Int):iS n a b=iS n b a:=by
 unfold iS
 congr 2
 funext l
 unfold qI;rw [Bool.eq_iff_iff];simp only [Bool.and_eq_true,Bool.or_eq_true,bne_iff_ne,ne_eq,beq_iff_eq]
 constructor<;>(rintro ⟨⟨h1,h2⟩,h3⟩;exact ⟨⟨h1,fun e=>h2 e.symm⟩,h3.symm⟩)
theorem DW (l up:List Int):(l.any fun x=>!decide (x∈up))= !(l.all fun x=>decide (x∈up)):=by
 induction l with
 |nil=>rfl
 |cons a l ih=>rw [List.any_cons,List.all_cons,ih,Bool.not_and]
theorem jQ (v:aO) (up:List Int) (n:aR) (l:List Int) (hv:v.bL.length≤1000000) (hu:up.length≤1000000) (hn:n.bU.length≤1000000) (hl:l.length≤1000000):EC prog 27 [.agg v.c,bG 1 (aS .i64) default up,.agg n.c,bG 1 (aS .i64) default l] [] fun r N=>N=[]∧r= .int .i64 (ku v up n l):=by
 refine EC.cQ ?_;refine nW ab (ca 27) func27 ntmps27 results27 ?_;(repeat' (first|with_reducible (first|intro _|apply And.intro)|refine eK ab ?_|refine EC.use (jg l (by omega)) ?_|((refine EC.GX (pX l (by omega) fun x=>Fs up x (by omega)) (.cons Fz.bG (.cons (Fz.fn (.cons (Fz.box rfl) .nil)) .nil)) (by rintro _ rfl;rfl) ?_;rintro _ rfl))|refine EC.use (f4 v.bL l (by omega) (by omega)) ?_|fail))<;>(first|(refine Lt.int ?_;unfold ku;rw [‹ib l=false›];rfl)|skip)
 all_goals
  have hp:ib l=true:=by first|assumption|(cases h:ib l<;>simp_all)
 ·refine Lt.int ?_;have ha:(l.all fun x=>decide (x∈up))=false:=by have h:=‹l.any _=true›;rw [DW] at h;simpa using h
  unfold ku;rw [hp,ha];rfl
 all_goals
  have ha:(l.all fun x=>decide (x∈up))=true:=by have h:=‹l.any _=false›;rw [DW] at h;simpa using h
  have hup:∀j,j < l.length→l.getD j default∈up:=fun j hj=>of_decide_eq_true (pb.1 ha j hj)
 ·exact Lt.int (OV hp hup (by first|assumption|(cases h:mo v.bL l<;>simp_all))).symm
 have hm:mo v.bL l=true:=by first|assumption|(cases h:mo v.bL l<;>simp_all)
 refine bV ab [3,6,29,30] 31 l.length (fun i=>∀j,j < i→∀k,k < l.length→iS n (l.getD j default) (l.getD k default)=true) (fun j hj=>absurd hj (Nat.not_lt_zero j)) (by omega) ?_;intro j hJ hj hw2;simp only [hw2,push_cast,simprocAttr];(repeat' (with_reducible (first|intro _|apply And.intro)))<;>(first|(exact Lt.int (OW hp hup hm fun a ha b hb=>hJ a (by have hz:=‹decide ((j:Int) < _)=false›;simp at hz;omega) b (by omega)).symm)|omega|skip);refine bV ab [3,6,11,29,30,31,35,36] 37 l.length (fun i=>∀k,k < i→iS n (l.getD j default) (l.getD k default)=true) (fun k hk=>absurd hk (Nat.not_lt_zero k)) (by omega) ?_;intro k hK hk hw3;have hjl:j < l.length:=by omega
 have hbad:k < l.length→iS n (l.getD j default) (l.getD k default)=false→ku v up n l=13:=fun hkl hf=>by
  rcases Nat.lt_trichotomy j k with h|h|h
  ·exact Hh hp hup hm (i:=k) (k:=j) hkl h (by rw [yV];exact hf)
  ·subst h;rw [yW] at hf;cases hf
  ·exact Hh hp hup hm (i:=j) (k:=k) hjl h hf
 simp only [hw3,push_cast,simprocAttr];(repeat' (first|with_reducible (first|intro _|apply And.intro)|refine eK ab ?_|refine EC.use (jh n _ _ (by omega)) ?_|fail))<;>(first|(exact Lt.int (hbad (by omega) (by simpa using ‹_=false›)).symm)|omega|skip)
 ·(try simp only [hw3]);refine cO fun a ha=>?_;rcases lt_or_ge a k with h|h
  ·exact hK a h
  ·obtain rfl:a=k:=by omega
   simpa using ‹(!iS _ _ _)=false›
 ·(try simp only [hw2]);refine cO fun a ha b hb=>?_;rcases lt_or_ge a j with h|h
  ·exact hJ a h b hb
  ·obtain rfl:a=j:=by omega
   exact hK b (by have hz:=‹decide ((k:Int) < _)=false›;simp at hz;omega)
end
theorem qw (l:List Int) (hl:l.length≤1000000000):EC prog 64 [bG 1 (aS .i64) default l] [] fun r B=>B=[]∧r=bG 1 (aS .i64) default l:=by
 refine EC.fin (nA ab (ca 64) func64 ntmps64 results64 ?_)
 repeat first|refine ai ?_|refine aw ab fun fr=>⟨?_⟩
 (apply az;exact rfl;all_goals intro h)
 ·have e:=jI h;subst e
  repeat first|refine ai ?_|refine aw ab fun fr=>⟨?_⟩
  (try refine sC ?_);exact ⟨trivial,cB⟩
 ·repeat first|refine ai ?_|refine aw ab fun fr=>⟨?_⟩
  (try refine sC ?_);exact iq rfl rfl
theorem yp (l:List Int) (hl:l.length≤1000000000):EC prog 232 [bG 1 (aS .i64) default l] [] fun r B=>B=[]∧r=bG 1 (aS .i64) default l:=by
 refine EC.fin (nA ab (ca 232) func232 ntmps232 results232 ?_)
 repeat first|refine ai ?_|refine aw ab fun fr=>⟨?_⟩
 (apply az;exact rfl;all_goals intro h)
 ·have e:=jI h;subst e
  repeat first|refine ai ?_|refine aw ab fun fr=>⟨?_⟩
  (try refine sC ?_);exact ⟨trivial,cB⟩
 ·repeat first|refine ai ?_|refine aw ab fun fr=>⟨?_⟩
  (try refine sC ?_);exact iq rfl rfl
theorem uB (l:List b8) (hl:l.length≤1000000000):EC prog 107 [bG 2 b8.c default l] [] fun r B=>B=[]∧r=bG 2 b8.c default l:=by
 refine EC.fin (nA ab (ca 107) func107 ntmps107 results107 ?_)
 repeat first|refine ai ?_|refine aw ab fun fr=>⟨?_⟩
 (apply az;exact rfl;all_goals intro h)
 ·have e:=jI h;subst e
  repeat first|refine ai ?_|refine aw ab fun fr=>⟨?_⟩
  (try refine sC ?_);exact ⟨trivial,cB⟩
 ·repeat first|refine ai ?_|refine aw ab fun fr=>⟨?_⟩
  (try refine sC ?_);exact iq rfl rfl
theorem wJ (l:List cn) (hl:l.length≤1000000000):EC prog 108 [bG 2 cn.c default l] [] fun r B=>B=[]∧r=bG 2 cn.c default l:=by
 refine EC.fin (nA ab (ca 108) func108 ntmps108 results108 ?_)
 repeat first|refine ai ?_|refine aw ab fun fr=>⟨?_⟩
 (apply az;exact rfl;all_goals intro h)
 ·have e:=jI h;subst e
  repeat first|refine ai ?_|refine aw ab fun fr=>⟨?_⟩
  (try refine sC ?_);exact ⟨trivial,cB⟩
 ·repeat first|refine ai ?_|refine aw ab fun fr=>⟨?_⟩
  (try refine sC ?_);exact iq rfl rfl
theorem o7 (l:List ax) (hl:l.length≤1000000000):EC prog 171 [bG 38 ax.c default l] [] fun r B=>B=[]∧r=bG 38 ax.c default l:=by
 refine EC.fin (nA ab (ca 171) func171 ntmps171 results171 ?_)
 repeat first|refine ai ?_|refine aw ab fun fr=>⟨?_⟩
 (apply az;exact rfl;all_goals intro h)
 ·have e:=jI h;subst e
  repeat first|refine ai ?_|refine aw ab fun fr=>⟨?_⟩
  (try refine sC ?_);exact ⟨trivial,cB⟩
 ·repeat first|refine ai ?_|refine aw ab fun fr=>⟨?_⟩
  (try refine sC ?_);exact iq rfl rfl
theorem rP (l:List af) (hl:l.length≤1000000000):EC prog 227 [bG 36 af.c default l] [] fun r B=>B=[]∧r=bG 36 af.c default l:=by
 refine EC.fin (nA ab (ca 227) func227 ntmps227 results227 ?_)
 repeat first|refine ai ?_|refine aw ab fun fr=>⟨?_⟩
 (apply az;exact rfl;all_goals intro h)
 ·have e:=jI h;subst e
  repeat first|refine ai ?_|refine aw ab fun fr=>⟨?_⟩
  (try refine sC ?_);exact ⟨trivial,cB⟩
 ·repeat first|refine ai ?_|refine aw ab fun fr=>⟨?_⟩
  (try refine sC ?_);exact iq rfl rfl
theorem uC (l:List a8) (hl:l.length≤1000000000):EC prog 289 [bG 3 a8.c default l] [] fun r B=>B=[]∧r=bG 3 a8.c default l:=by
 refine EC.fin (nA ab (ca 289) func289 ntmps289 results289 ?_)
 repeat first|refine ai ?_|refine aw ab fun fr=>⟨?_⟩
 (apply az;exact rfl;all_goals intro h)
 ·have e:=jI h;subst e
  repeat first|refine ai ?_|refine aw ab fun fr=>⟨?_⟩
  (try refine sC ?_);exact ⟨trivial,cB⟩
 ·repeat first|refine ai ?_|refine aw ab fun fr=>⟨?_⟩
  (try refine sC ?_);exact iq rfl rfl
section
attribute [local irreducible] EC EV
theorem wE (p:aP) (h1:p.Code.length≤1000000) (h2:p.Strings.length≤1000000):EC prog 231 [.agg p.c] [] fun r N=>N=[]∧∃q:aP,q=p∧r= .agg q.c:=by
 refine EC.bh ?_;refine nW ab (ca 231) func231 ntmps231 results231 ?_;(repeat' (first|with_reducible intro _|refine EC.use (wH _ h1) ?_|refine EC.use (Az _ h2) ?_|refine dN ab [7,9] [] [0,1,3,4,2,6,5,7,8,9] bZ fun R hR=>?_|refine dR ab [6,5,7,8,9] ?_|refine dR ab [7,8,9] ?_|(refine hR _ _ ?_;refine sA ?_)|refine wA ab ?_|fail))<;>((exact ⟨p,rfl,Lt.agg (eU.obj (fun s B=>by rw [aP.fk]) (fun s B=>by rw [aP.fz]))⟩))
end
section
attribute [local irreducible] EC EV
theorem wG (l:List a8) (hl:l.length≤1000000000) (h1:0 < l.length):EC prog 289 [bG 3 a8.c default l] [] fun r N=>∃s:List a8×aN,s.1=l∧r= .row 0 s.2 3 0 s.1.length∧N=[.row s.2 198 3 (s.1.map a8.c)]:=by
 refine EC.zH (C:=fun m=>m=l) ?_;refine nW ab (ca 289) func289 ntmps289 results289 ?_;(repeat' (with_reducible (first|intro _|apply And.intro)))<;>(first|(exact ⟨l,rfl,_,_,_,_,rfl,rfl,rfl,rfl⟩)|omega|(simp_all;done))
theorem A7 (l:List a8) (i:Nat):(map a8.c l).set i (l.getD i default).c=map a8.c l:=by
 refine ext_getElem (by simp) fun j h1 h2=>?_;simp only [length_set,length_map] at h1 h2;rw [getElem_set]
 split
 ·rename_i e;subst e;simp [getD,h2]
 ·rfl
theorem G4 {l:List a8} {k:Nat} (h:k < l.length):(map a8.c l).getD k []=(l.getD k default).c:=by simp [getD,h]
theorem Av {f:FuncId} (l:List a8) (hl:l.length≤1000000000) (hf:∀x∈l,EC prog f [.agg x.c] [] fun r N=>N=[]∧r= .agg x.c):EC prog 234 [bG 3 a8.c default l,.fn f []] [] fun r N=>N=[]∧r=bG 3 a8.c default l:=by
 rcases eq_zero_or_pos l.length with h0|h0
 ·obtain rfl:l=[]:=List.length_eq_zero_iff.1 h0;refine EC.cQ ?_;refine nW ab (ca 234) func234 ntmps234 results234 ?_;(repeat' (first|refine eK ab ?_|refine EC.use (uC [] (zero_le _)) ?_|fail));refine bV ab [1,5,10,11] 12 0 (fun _=>True) trivial (by omega) ?_;intro i hI hi hw;obtain rfl:i=0:=by omega
  simp only [hw,push_cast,simprocAttr];(repeat' (done))<;>((exact ⟨trivial,bq.refl _⟩))
 ·refine EC.cQ ?_;refine nW ab (ca 234) func234 ntmps234 results234 ?_;(repeat' (first|refine eK ab ?_|((refine EC.qz (σ:=List a8×aN) (C:=fun s=>s.1=l) (R:=fun s i=> .row i s.2 3 0 s.1.length) (N:=fun s=>[.row s.2 198 3 (s.1.map a8.c)]) (wG l hl h0) (fun _ _=>bq.row) ?_;rintro ⟨m,hh⟩ hm;obtain rfl:m=l:=hm))|fail));refine bV ab [1,5,10,11] 12 m.length (fun _=>True) trivial (by omega) ?_;intro i hI hi hw;rcases lt_or_ge i m.length with hlt|hge
  ·have hgl:=G4 hlt;have hdd:decide ((i:Int) < (m.length:Int))=true:=by simp;omega
   have hfi:=hf _ (bk hlt);simp only [hw,hgl,hdd,A7,push_cast,simprocAttr];(repeat' (first|with_reducible (first|intro _|apply And.intro)|refine eK ab ?_|refine EC.use (hfi) ?_|fail))<;>(first|((try simp only [hw,hgl,A7,push_cast,simprocAttr]);exact cO trivial)|omega)
  ·have hdd:decide ((i:Int) < (m.length:Int))=false:=by simp;omega
   simp only [hw,hdd,push_cast,simprocAttr];(repeat' (done))<;>((exact Lt.row rfl rfl rfl))
theorem wF (n:a8) (hn:n.kN.length≤1000000):EC prog 235 [.agg n.c] [] fun r N=>N=[]∧r= .agg n.c:=by
 refine EC.cQ ?_;refine nW ab (ca 235) func235 ntmps235 results235 ?_;(repeat' (first|with_reducible intro _|refine eK ab ?_|refine EC.use (nI n.kN hn) ?_|fail))<;>((exact Lt.agg (eU.obj (fun s B=>by rw [a8.fk]) (fun s B=>by rw [a8.fz]))))
theorem uA (p:aP) (h1:p.Code.length≤1000000) (h2:p.Strings.length≤1000000):EC prog 231 [.agg p.c] [] fun r N=>N=[]∧r= .agg p.c:=
 (wE p h1 h2).mono fun r N ⟨h1,q,h2,h3⟩=>⟨h1,h2▸h3⟩
set_option maxHeartbeats 20000000 in
theorem jZ (o:af) (ho:cS o):EC prog 170 [.agg o.c] [] fun r N=>N=[]∧r= .agg o.c:=by
 obtain ⟨⟨p1,p2,p3,p4,p5⟩,s1,s2,s3,s4,s5,s6,s7⟩:=ho;refine EC.cQ ?_;refine EC.iU ab (ca 170) func170 rfl (by simp [ntmps170]) ?_;simp only [ntmps170,results170,fL]
 iterate 2
  (refine bR ab ?_
   generalize hK:i6 prog _ _ _=K0;refine sA ?_;(repeat' (with_reducible intro _))<;>(skip)
   all_goals try (subst hK;rw [dc]))
 refine dy (σ:=Unit) [1,2,3] (fun _=>[]) (fun B _=>[au B 0,au B 1]) (fun _=>True) ?_ ?_;rotate_left 1
 ·refine bN ab ?_;refine sA ?_;(repeat' (first|refine EC.use (nI _ p1) ?_|refine EC.use (s8 _ p4) ?_|refine EC.use (yq _ p5) ?_|refine dM ab 15 [0] [0,1,2,3,4,5,8,9,10,13,14,15] bZ fun R hR=>?_|refine mV ab 6 11 16 ?_ ?_ ?_|refine mV ab 7 11 16 ?_ ?_ ?_|refine bT ab 6 16 ?_ ?_|refine bT ab 6 11 ?_ ?_|refine bT ab 11 16 ?_ ?_|refine bT ab 7 16 ?_ ?_|refine bT ab 7 11 ?_ ?_|refine dC ab 6 ?_|refine bT ab 12 16 ?_ ?_|refine dC ab 11 ?_|refine dR ab [7,12,17,18,19,20,21,22,23,24,25,26] ?_|refine dR ab [12,17,18,19,20,21,22,23,24,25,26] ?_|refine dR ab [17,18,19,20,21,22,23,24,25,26] ?_|refine dR ab [18,19,20,21,22,23,24,25,26] ?_|refine dC ab 16 ?_|(refine hR _ _ ?_;refine sA ?_)|fail))<;>((exact du 2 () trivial ⟨So,So,trivial⟩))
 rintro - -;simp only [bK,dd,au,getD_cons_zero,getD_cons_succ,push_cast,simprocAttr]
 iterate 1
  (refine bR ab ?_
   generalize hK:i6 prog _ _ _=K0;refine sA ?_;(repeat' (first|refine eK ab ?_|refine EC.use (uA _ p2 p3) ?_|fail))<;>(skip)
   all_goals try (subst hK;rw [dc]))
 refine dy (σ:=Unit) [1,2,3] (fun _=>[]) (fun B _=>[au B 0,au B 1]) (fun _=>True) ?_ ?_;rotate_left 1
 ·refine bN ab ?_;refine sA ?_;(repeat' (first|refine EC.use (yp _ (by omega)) ?_|refine EC.use (o5 _ s2) ?_|refine EC.use (nI _ s3) ?_|refine dM ab 12 [0] [0,3,6] bZ fun R hR=>?_|refine mV ab 1 4 7 ?_ ?_ ?_|refine mV ab 2 4 7 ?_ ?_ ?_|refine bT ab 1 7 ?_ ?_|refine bT ab 1 4 ?_ ?_|refine bT ab 4 7 ?_ ?_|refine bT ab 2 7 ?_ ?_|refine bT ab 2 4 ?_ ?_|refine dC ab 1 ?_|refine bT ab 5 7 ?_ ?_|refine dC ab 4 ?_|refine dR ab [2,5,8,9,10,11,12,13,14] ?_|refine dR ab [5,8,9,10,11,12,13,14] ?_|refine dR ab [8,9,10,11,12,13,14] ?_|refine dR ab [9,10,11,12,13,14] ?_|refine dC ab 7 ?_|(refine hR _ _ ?_;refine sA ?_)|fail))<;>((exact du 2 () trivial ⟨So,So,trivial⟩))
 rintro - -;simp only [bK,dd,au,getD_cons_zero,getD_cons_succ,push_cast,simprocAttr];refine bR ab ?_;generalize hK:i6 prog _ _ _=K0;refine sA ?_;(repeat' (done));refine bV ab [1,2] 50 2 (fun _=>True) trivial (by omega) ?_;intro i hI hi hw;rcases (by omega:i=0∨i=1∨i=2) with rfl|rfl|rfl
 all_goals simp only [hw,push_cast,simprocAttr]
 ·(repeat' (first|refine eK ab ?_|refine EC.use (o5 _ s4) ?_|fail))<;>(((try simp only [hw]);exact cO trivial))
 ·(repeat' (first|refine eK ab ?_|refine EC.use (o5 _ s5) ?_|fail))<;>(((try simp only [hw]);exact cO trivial))
 ·(repeat' (done));subst hK;rw [dc];refine bN ab ?_;refine sA ?_;(repeat' (first|refine eK ab ?_|refine EC.use (Av o.cN (by omega) fun n hn=>wF n (s7 n hn).1) ?_|fail))<;>((exact Lt.agg (eU.obj (fun s B=>by rw [af.fk]) (fun s B=>by rw [af.fz]))))
theorem s9 (l:List af) (hl:l.length≤1000000000) (h1:0 < l.length):EC prog 227 [bG 36 af.c default l] [] fun r N=>∃s:List af×aN,s.1=l∧r= .row 0 s.2 36 0 s.1.length∧N=[.row s.2 76 36 (s.1.map af.c)]:=by
 refine EC.zH (C:=fun m=>m=l) ?_;refine nW ab (ca 227) func227 ntmps227 results227 ?_;(repeat' (with_reducible (first|intro _|apply And.intro)))<;>(first|(exact ⟨l,rfl,_,_,_,_,rfl,rfl,rfl,rfl⟩)|omega|(simp_all;done))
theorem u2 (l:List af) (i:Nat):(map af.c l).set i (l.getD i default).c=map af.c l:=by
 refine ext_getElem (by simp) fun j h1 h2=>?_;simp only [length_set,length_map] at h1 h2;rw [getElem_set]
 split
 ·rename_i e;subst e;simp [getD,h2]
 ·rfl
theorem CT {l:List af} {k:Nat} (h:k < l.length):(map af.c l).getD k []=(l.getD k default).c:=by simp [getD,h]
theorem lO {f:FuncId} (l:List af) (hl:l.length≤1000000000) (hf:∀x∈l,EC prog f [.agg x.c] [] fun r N=>N=[]∧r= .agg x.c):EC prog 169 [bG 36 af.c default l,.fn f []] [] fun r N=>N=[]∧r=bG 36 af.c default l:=by
 rcases eq_zero_or_pos l.length with h0|h0
 ·obtain rfl:l=[]:=List.length_eq_zero_iff.1 h0;refine EC.cQ ?_;refine nW ab (ca 169) func169 ntmps169 results169 ?_;(repeat' (first|refine eK ab ?_|refine EC.use (rP [] (zero_le _)) ?_|fail));refine bV ab [1,5,10,11] 12 0 (fun _=>True) trivial (by omega) ?_;intro i hI hi hw;obtain rfl:i=0:=by omega
  simp only [hw,push_cast,simprocAttr];(repeat' (done))<;>((exact ⟨trivial,bq.refl _⟩))
 ·refine EC.cQ ?_;refine nW ab (ca 169) func169 ntmps169 results169 ?_;(repeat' (first|refine eK ab ?_|((refine EC.qz (σ:=List af×aN) (C:=fun s=>s.1=l) (R:=fun s i=> .row i s.2 36 0 s.1.length) (N:=fun s=>[.row s.2 76 36 (s.1.map af.c)]) (s9 l hl h0) (fun _ _=>bq.row) ?_;rintro ⟨m,hh⟩ hm;obtain rfl:m=l:=hm))|fail));refine bV ab [1,5,10,11] 12 m.length (fun _=>True) trivial (by omega) ?_;intro i hI hi hw;rcases lt_or_ge i m.length with hlt|hge
  ·have hgl:=CT hlt;have hdd:decide ((i:Int) < (m.length:Int))=true:=by simp;omega
   have hfi:=hf _ (bk hlt);simp only [hw,hgl,hdd,u2,push_cast,simprocAttr];(repeat' (first|with_reducible (first|intro _|apply And.intro)|refine eK ab ?_|refine EC.use (hfi) ?_|fail))<;>(first|((try simp only [hw,hgl,u2,push_cast,simprocAttr]);exact cO trivial)|omega)
  ·have hdd:decide ((i:Int) < (m.length:Int))=false:=by simp;omega
   simp only [hw,hdd,push_cast,simprocAttr];(repeat' (done))<;>((exact Lt.row rfl rfl rfl))
theorem Ax (s:aG) (hl:s.ah.length≤1000000000) (hs:∀o∈s.ah,cS o):EC prog 106 [.agg s.c] [] fun r N=>N=[]∧r= .agg s.c:=by
 refine EC.cQ ?_;refine nW ab (ca 106) func106 ntmps106 results106 ?_;(repeat' (first|with_reducible intro _|refine eK ab ?_|refine EC.use (lO s.ah hl fun o ho=>jZ o (hs o ho)) ?_|fail))<;>((exact Lt.agg (eU.obj (fun s B=>by rw [aG.fk]) (fun s B=>by rw [aG.fz]))))
theorem rO {Q:af→Prop} (c:ax) (hc:i9 Q c) (hQ:∀o,Q o→mh o):EC prog 110 [.agg c.c] [] fun r N=>N=[]∧r= .agg c.c:=by
 have h1:=hc.pl;have h2:=hc.fl;refine EC.cQ ?_;refine nW ab (ca 110) func110 ntmps110 results110 ?_;(repeat' (first|with_reducible intro _|refine EC.use (jZ _ (hQ _ hc.p).s) ?_|refine EC.use (lO c.aQ (by omega) fun o ho=>jZ o (hQ _ (hc.pq o ho)).s) ?_|refine EC.use (lO c.dt (by omega) fun o ho=>jZ o (hQ _ (hc.fq o ho)).s) ?_|refine dN ab [10] [] [0,1,3,4,6,7,2,5,8,9,10] bZ fun R hR=>?_|refine dR ab [5,8,9,10] ?_|refine dR ab [8,9,10] ?_|refine dR ab [9,10] ?_|(refine hR _ _ ?_;refine sA ?_)|refine wA ab ?_|fail))<;>((exact Lt.agg (eU.obj (fun s B=>by rw [ax.fk]) (fun s B=>by rw [ax.fz]))))
theorem o6 (l:List ax) (hl:l.length≤1000000000) (h1:0 < l.length):EC prog 171 [bG 38 ax.c default l] [] fun r N=>∃s:List ax×aN,s.1=l∧r= .row 0 s.2 38 0 s.1.length∧N=[.row s.2 78 38 (s.1.map ax.c)]:=by
 refine EC.zH (C:=fun m=>m=l) ?_;refine nW ab (ca 171) func171 ntmps171 results171 ?_;(repeat' (with_reducible (first|intro _|apply And.intro)))<;>(first|(exact ⟨l,rfl,_,_,_,_,rfl,rfl,rfl,rfl⟩)|omega|(simp_all;done))
theorem ou (l:List ax) (i:Nat):(map ax.c l).set i (l.getD i default).c=map ax.c l:=by
 refine ext_getElem (by simp) fun j h1 h2=>?_;simp only [length_set,length_map] at h1 h2;rw [getElem_set]
 split
 ·rename_i e;subst e;simp [getD,h2]
 ·rfl
theorem vC {l:List ax} {k:Nat} (h:k < l.length):(map ax.c l).getD k []=(l.getD k default).c:=by simp [getD,h]
theorem qR {f:FuncId} (l:List ax) (hl:l.length≤1000000000) (hf:∀x∈l,EC prog f [.agg x.c] [] fun r N=>N=[]∧r= .agg x.c):EC prog 109 [bG 38 ax.c default l,.fn f []] [] fun r N=>N=[]∧r=bG 38 ax.c default l:=by
 rcases eq_zero_or_pos l.length with h0|h0
 ·obtain rfl:l=[]:=List.length_eq_zero_iff.1 h0;refine EC.cQ ?_;refine nW ab (ca 109) func109 ntmps109 results109 ?_;(repeat' (first|refine eK ab ?_|refine EC.use (o7 [] (zero_le _)) ?_|fail));refine bV ab [1,5,10,11] 12 0 (fun _=>True) trivial (by omega) ?_;intro i hI hi hw;obtain rfl:i=0:=by omega
  simp only [hw,push_cast,simprocAttr];(repeat' (done))<;>((exact ⟨trivial,bq.refl _⟩))
 ·refine EC.cQ ?_;refine nW ab (ca 109) func109 ntmps109 results109 ?_;(repeat' (first|refine eK ab ?_|((refine EC.qz (σ:=List ax×aN) (C:=fun s=>s.1=l) (R:=fun s i=> .row i s.2 38 0 s.1.length) (N:=fun s=>[.row s.2 78 38 (s.1.map ax.c)]) (o6 l hl h0) (fun _ _=>bq.row) ?_;rintro ⟨m,hh⟩ hm;obtain rfl:m=l:=hm))|fail));refine bV ab [1,5,10,11] 12 m.length (fun _=>True) trivial (by omega) ?_;intro i hI hi hw;rcases lt_or_ge i m.length with hlt|hge
  ·have hgl:=vC hlt;have hdd:decide ((i:Int) < (m.length:Int))=true:=by simp;omega
   have hfi:=hf _ (bk hlt);simp only [hw,hgl,hdd,ou,push_cast,simprocAttr];(repeat' (first|with_reducible (first|intro _|apply And.intro)|refine eK ab ?_|refine EC.use (hfi) ?_|fail))<;>(first|((try simp only [hw,hgl,ou,push_cast,simprocAttr]);exact cO trivial)|omega)
  ·have hdd:decide ((i:Int) < (m.length:Int))=false:=by simp;omega
   simp only [hw,hdd,push_cast,simprocAttr];(repeat' (done))<;>((exact Lt.row rfl rfl rfl))
theorem Aw {Q:af→Prop} {N P:Nat} (v:aO) (hv:Jz Q N P v) (hN:N≤900000000) (hP:P≤900000000) (hQ:∀o,Q o→mh o):EC prog 63 [.agg v.c] [] fun r N=>N=[]∧r= .agg v.c:=by
 have h1:=hv.nl;have h2:=hv.sl;have h3:=hv.pl;have h4:=hv.bl;have h5:=hv.cl;refine EC.cQ ?_;refine nW ab (ca 63) func63 ntmps63 results63 ?_;(repeat' (first|with_reducible intro _|refine eK ab ?_|refine EC.use (qw v.bL (by omega)) ?_|refine EC.use (Ax v.bz (by omega) (fun o ho=>(hQ _ (hv.sq o ho)).s)) ?_|refine EC.use (uB v.cz (by omega)) ?_|refine EC.use (wJ v.b_ (by omega)) ?_|refine EC.use (qR v.cX (by omega) fun c hc=>rO c (hv.cq c hc) hQ) ?_|refine dN ab [13,15,17,19] [] [0,1,3,4,6,7,9,10,2,12,5,8,11,13,14,15,16,17,18,19] bZ fun R hR=>?_|refine dR ab [12,5,8,11,13,14,15,16,17,18,19] ?_|refine dR ab [8,11,13,14,15,16,17,18,19] ?_|refine dR ab [11,13,14,15,16,17,18,19] ?_|refine dR ab [13,14,15,16,17,18,19] ?_|(refine hR _ _ ?_;refine sA ?_)|refine wA ab ?_|fail))<;>((exact Lt.agg (eU.obj (fun s B=>by rw [aO.fk]) (fun s B=>by rw [aO.fz]))))
theorem nD {Q:af→Prop} {N P:Nat} (v:aO) (l:List Int) (hl:l.length≤1000000) (hv:Jz Q N P v) (hN:N≤900000000) (hP:P≤900000000) (hQ:∀o,Q o→mh o):EC prog 34 [.agg v.c,bG 1 (aS .i64) default l] [] fun r N=>N=[]∧r= .agg (aO.c {v with ea:=IntKind.i64.wrap (v.ea+1),bL:=l}):=by
 refine EC.cQ ?_;refine nW ab (ca 34) func34 ntmps34 results34 ?_;(repeat' (first|with_reducible intro _|refine eK ab ?_|refine EC.use (Aw v hv hN hP hQ) ?_|refine EC.use (qw l (by omega)) ?_|fail))<;>((exact Lt.agg (eU.obj (fun s B=>by rw [aO.fk]) (fun s B=>by rw [aO.fz]))))
end
section
attribute [local irreducible] EC EV gW cc cK dT
theorem qe {Q:af→Prop} {N P:Nat} (a b:aO) (ha:Jz Q N P a) (hb:Jz Q N P b) (hN:N≤900000000) (hP:P≤900000000) (hQ:∀o,Q o→mh o):EC prog 33 [.agg a.c,.agg b.c] [] fun r N=>N=[]∧∃c:Bool,(a=b→c=true)∧r= .bool c:=by
 have hsame:∀{B:List aI} (v:Bool),(a=b→v=true)→∃c:Bool,(a=b→c=true)∧Lt B (.bool v) (.bool c):=fun v h=>⟨v,h,Lt.bool rfl⟩;have h1:=ha.nl;have h2:=hb.nl;have h3:=ha.sl;have h4:=hb.sl;have h5:=ha.pl;have h6:=hb.pl;have h7:=ha.bl;have h8:=hb.bl;have h9:=ha.cl;have h10:=hb.cl;refine EC.bh ?_;refine nW ab (ca 33) func33 ntmps33 results33 ?_;(repeat' (first|with_reducible (first|intro _|apply And.intro)|refine eK ab ?_|(refine EC.aM (lF a.bL b.bL (by omega) (by omega)) ?_;rintro _ _)|(refine EC.aM (qn a.bz b.bz (by omega) (by omega) (fun o ho=>hQ _ (ha.sq o ho)) (fun o ho=>hQ _ (hb.sq o ho))) ?_;rintro _ _)|fail))<;>(first|(refine hsame _ fun h=>?_;subst h;simp_all;done)|(show False;first|(simp_all;done)|grind)|skip);have hl:a.cz.length=b.cz.length∧a.b_.length=b.b_.length∧a.cX.length=b.cX.length:=by grind
 obtain ⟨hl1,hl2,hl3⟩:=hl;refine bV ab [2,3] 5 a.cz.length (fun i=>True) trivial (by omega) ?_;intro i hI hi hw;simp only [hw,push_cast,simprocAttr];(repeat' (first|with_reducible (first|intro _|apply And.intro)|refine dN ab [] [] [0,1,2,3,4,5,6,7,8,9,10] bZ fun R hR=>?_|(refine hR _ _ ?_;refine sA ?_)|refine wA ab ?_|fail))<;>(first|((try simp only [hw]);exact cO trivial)|(refine hsame _ fun h=>?_;subst h;simp_all;done)|omega|skip);clear hw hi hI;refine bV ab [2,3] 6 a.b_.length (fun i=>True) trivial (by omega) ?_;intro i hI hi hw;simp only [hw,push_cast,simprocAttr];(repeat' (first|with_reducible (first|intro _|apply And.intro)|refine dN ab [] [] [0,1,2,3,4,5,6,7,8,9,10] bZ fun R hR=>?_|(refine hR _ _ ?_;refine sA ?_)|refine wA ab ?_|fail))<;>(first|((try simp only [hw]);exact cO trivial)|(refine hsame _ fun h=>?_;subst h;simp_all;done)|omega|skip);clear hw hi hI;refine bV ab [2,3] 7 a.cX.length (fun i=>True) trivial (by omega) ?_;intro i hI hi hw;simp only [hw,push_cast,simprocAttr];have ham:i < a.cX.length→i9 Q (a.cX.getD i default):=fun h=>ha.cq _ (bk h);have hbm:i < b.cX.length→i9 Q (b.cX.getD i default):=fun h=>hb.cq _ (bk h);(repeat' (first|(with_reducible intro hh;first|subst hh|(revert hh;intro _))|with_reducible apply And.intro|(refine EC.aM (xF (a.cX.getD i default) (b.cX.getD i default) (ham (by omega)) (hbm (by omega)) hQ) ?_;rintro _ _)|refine dN ab [] [] [0,1,2,3,4,5,6,7,8,9,10,11] bZ fun R hR=>?_|refine dR ab [11] ?_|(refine hR _ _ ?_;refine sA ?_)|refine wA ab ?_|fail))<;>(first|((try simp only [hw]);exact cO trivial)|(refine hsame _ fun h=>?_;subst h;simp_all;done)|omega)
end
section
attribute [local irreducible] EC EV gW cc cK dT dQ
theorem mF:EC prog 22 [] [] fun r N=>N=[]∧r= .bool true:=by
 have c1:=jg [0,3] (by decide);have c2:=jg [] (by decide);have c3:=f4 [0,1,2] [1,2] (by decide) (by decide);have c4:=f4 [0,1,2] [2] (by decide) (by decide);have c5:=jh (default:aR) 0 1 (zero_le _);rw [show ib [0,3]=true by decide] at c1;rw [show ib []=false by decide] at c2;rw [show mo [0,1,2] [1,2]=true by decide] at c3;rw [show mo [0,1,2] [2]=false by decide] at c4;rw [show iS (default:aR) 0 1=true by decide] at c5;refine EC.cQ ?_;refine nW ab (ca 22) func22 ntmps22 results22 ?_;(repeat' (first|with_reducible intro _|refine eK ab ?_|((refine EC.t6 c1 (d_.mi (cells:=aS .i64) (d:=default) (l:=[0,3]) (zero_le _) rfl rfl rfl .nil) (by rintro _ rfl;rfl) ?_;rintro _ rfl))|((refine EC.args (.cons (cB (e:=1) (cells:=aS .i64) (d:=default)) .nil) ?_;refine EC.use c2 ?_))|((refine EC.t6 c3 (d_.mi (cells:=aS .i64) (d:=default) (l:=[0,1,2]) (zero_le _) rfl rfl rfl (d_.mi (cells:=aS .i64) (d:=default) (l:=[1,2]) (zero_le _) rfl rfl rfl .nil)) (by rintro _ rfl;rfl) ?_;rintro _ rfl))|((refine EC.t6 c4 (d_.mi (cells:=aS .i64) (d:=default) (l:=[0,1,2]) (zero_le _) rfl rfl rfl (d_.mi (cells:=aS .i64) (d:=default) (l:=[2]) (zero_le _) rfl rfl rfl .nil)) (by rintro _ rfl;rfl) ?_;rintro _ rfl))|refine EC.use (c5) ?_|fail))<;>((exact Lt.bool rfl))
structure MF (c:ao) (Q:af→Prop):Prop where
 v:Jz Q 600000000 400000 c.aY
 n:gT Q c.bQ
 q:∀o,Q o→mh o
 l:1≤c.aY.bL.length
theorem MF.of {c:ao} (h:∃n,n≤23∧AQ n c):∃Q,MF c Q:=by
 obtain ⟨n,hn,I,D,h⟩:=h;have h1:=JO hn;refine ⟨cG I D,⟨⟨h.nl.1,?_,h.sq,?_,?_,h.kl,h.kq⟩,h.nt,fun o ho=>ho.sp,h.nl.2⟩⟩
 ·have:=h.sl;omega
 ·have:=h.pl;omega
 ·have:=h.bl;omega
def FF (l:List Int) (h:l.length≤9223372036854775807):WK:=⟨⟨l,0⟩,h,Int.le_refl 0,by show (0:Int)≤l.length;omega⟩
theorem iy (l:List Int) (hl:l.length≤9223372036854775807):EC prog 11 [bG 1 (aS .i64) default l] [] fun r N=>∃s:aN,True∧r= .bx 0 s 2 0 0∧N=[f' s (FF l hl).1]:=(B7 l).mono fun r N ⟨h,h1,h2⟩=>⟨h,trivial,h1,h2⟩
theorem JP.nil {m:Nat} {B:List aI}:JP m B [] []:=⟨rfl,fun k cs ds h=>by simp at h⟩
theorem JP.cons {m:Nat} {B:List aI} {cs ds:List SV} {xs ys:List (List SV)} (h2:∀k1 k2 a v,cs≠[.int k1 a,.int k2 v]) (hf:gw m B cs ds) (h:JP m B xs ys):JP m B (cs :: xs) (ds :: ys):=by
 refine ⟨by simp [h.1],fun k a b ha hb=>?_⟩
 cases k with
 |zero=>simp at ha hb;subst ha hb;exact ⟨h2,hf⟩
 |succ k=>simp at ha hb;exact h.2 k a b ha hb
def R7:List SV→Bool
 | .int _ _ :: _=>true
 |_=>false
theorem vz {cs:List SV} (h:R7 cs=false):∀k1 k2 a v,cs≠[.int k1 a,.int k2 v]:=fun k1 k2 a v e=>by rw [e] at h;cases h
theorem gw.pr {m:Nat} {B:List aI} {x:dK}:gw m B x.c x.c:=gw.obj (fun s B=>by rw [dK.fk]) (fun s B=>by rw [dK.fz])
theorem IY {P:Program} {n:Nat} {c:Code} {t:aV} {B:List aI} {Q:gX} (m:Nat) (live:List Nat) (R:List aI) (h:EV P n c (bK t live) R Q) (hr:Hz m B 0 R)
  (ht:Ed m B t (bK t live):=by first|(simp [Ed,bK,dd,dE,fu,fw,iT,cf,gl,bc,bq.refl];done)|fail):EV P n c t B Q:=IX m _ R ht hr h
end
section
attribute [local irreducible] EC EV gW cc cK dT dQ
attribute [local push_cast] SC SB SA Sz Sy Sx dK.len dK.gR dK.t dK.g dK.q dK.p Ss Sr Sv Sw Su
theorem pW (l m up nodes:List Int) (a b:Int) (hl:l.length≤9223372036854775807) (hm:m.length≤9223372036854775807):EC prog 6 [bG 1 (aS .i64) default l,bG 1 (aS .i64) default m,bG 1 (aS .i64) default up,bG 1 (aS .i64) default nodes,.int .i64 a,.int .i64 b] [] fun r N=>N=[]∧r= .bool true:=by
 refine EC.cQ ?_;refine EC.iU ab (ca 6) func6 rfl (by simp [ntmps6]) ?_;simp only [ntmps6,results6,fL]
 iterate 3
  (refine bR ab ?_
   generalize hK:i6 prog _ _ _=K0;refine sA ?_;(repeat' (first|(with_reducible intro hh;first|subst hh|(revert hh;intro _))|with_reducible apply And.intro|refine eK ab ?_|refine EC.use (mF) ?_|exact trivial|contradiction))<;>(first|(refine gx ab ?_;subst hK;rw [iO,gz];refine sA ?_;exact Lt.bool rfl)|(subst hK;simp only [gz,push_cast,simprocAttr];exact Lt.bool rfl)|skip)
   all_goals try (subst hK;rw [dc]))
 iterate 2
  (refine bR ab ?_
   generalize hK:i6 prog _ _ _=K0;refine sA ?_;(repeat' (first|(with_reducible intro hh;first|subst hh|(revert hh;intro _))|with_reducible apply And.intro|refine eK ab ?_|((refine EC.qz (σ:=aN) (C:=fun _=>True) (R:=fun s i=> .bx i s 2 0 0) (N:=fun s=>[f' s (FF l hl).1]) (iy l hl) (fun _ _=>bq.bx) ?_;rintro hd1 -))|((refine aE 0 (kK hd1 (FF l hl) true) rfl ?_;rintro ⟨c,d1⟩ hc;obtain ⟨Q,hv⟩:=MF.of hc;simp only at hv;have hv1:=hv.v.nl;have hv2:=hv.n.ln))|((refine EC.qz (σ:=aN) (C:=fun _=>True) (R:=fun s i=> .bx i s 2 0 0) (N:=fun s=>[f' s (FF m hm).1]) (iy m hm) (fun _ _=>bq.bx) ?_;rintro hd2 -))|exact trivial|contradiction))
   all_goals try (subst hK;rw [dc]))
 refine dy (σ:=aR×WK×aN) [2,3,4,5,13,14] (fun s=>[(15,.bx 3 s.2.2 1 0 0)]) (fun B s=>cP B 2 [s.2.1.1.c] ++ [.row s.2.2 35 1 [s.1.c]]) (fun s=>gT Q s.1) ?_ ?_;rotate_left 1
 ·refine bN ab ?_;refine sA ?_;(repeat' (first|(with_reducible intro hh;first|subst hh|(revert hh;intro _))|with_reducible apply And.intro|refine eK ab ?_|((refine aE 2 (c8 hd2 (FF m hm) _ ?_) rfl ?_;(focus (constructor<;>decide));rintro ⟨n1,d2⟩ -))|((refine aE 2 (c8 hd2 d2 _ ?_) rfl ?_;(focus (constructor<;>decide));rintro ⟨n2,d3⟩ -))|((refine EC.aM (xK c.bQ n1 n2 true hv.n) ?_;rintro ⟨n,e1⟩ hn;replace hn:gT Q n:=hn))|refine dM ab 9 [2] [0,1,2,4] bZ fun R hR=>?_|refine bT ab 3 10 ?_ ?_|refine bT ab 5 10 ?_ ?_|refine dR ab [3,5,6,7,8,9,11,12] ?_|refine dR ab [5,6,7,8,9,11,12] ?_|refine dR ab [6,7,8,9,11,12] ?_|refine dR ab [7,8,9,11,12] ?_|refine bT ab 6 10 ?_ ?_|refine dR ab [7,8,9,10,11,12] ?_|(refine hR _ _ ?_;refine sA ?_)|exact trivial|contradiction))<;>(first|(exact du 4 (n,d3,_) hn ⟨So,So,So,So,trivial⟩)|skip)
 rintro ⟨n,d3,hn3⟩ hn;replace hn:gT Q n:=hn;have hn2:=hn.ln;simp only [bK,dd,au,cP,jA,List.take_succ_cons,List.take_zero,getD_cons_zero,getD_cons_succ,push_cast,simprocAttr];refine bN ab ?_;refine sA ?_;(repeat' (first|(with_reducible intro hh;first|subst hh|(revert hh;intro _))|with_reducible apply And.intro|refine eK ab ?_|((refine aE 2 (fP hd2 d3) rfl ?_;rintro ⟨x,d4⟩ hx;replace hx:x.length≤4:=hx))|((refine aE 2 (fP hd2 d4) rfl ?_;rintro ⟨y,d5⟩ hy;replace hy:y.length≤4:=hy))|exact trivial|contradiction));have hul:up.length≤12∧nodes.length≤12:=by have h:=‹(_ || _)=false›;simp at h;omega
 obtain ⟨hul1,hul2⟩:=hul;refine LP (yx.mv 69 6 0 rfl (by decide) (by simp) (by simp)) ?_;simp only [List.set_cons_zero,List.set_cons_succ,au,getD_cons_zero,getD_cons_succ];refine IY 4 [4,5,13,15,69,70,71] [.row _ _ 2 [(dK.mk up nodes).c,(dK.mk x y).c,(dK.mk x nodes).c,(dK.mk [0,1,2,3] y).c,(dK.mk [0,1,2] c.aY.bL).c],.row _ _ 8 [c.c],.gone,.row _ _ 1 [n.c]] ?_ ⟨⟨by decide,.inr (.inr ⟨_,_,_,_,_,rfl,rfl,.cons (vz rfl) gw.pr (.cons (vz rfl) gw.pr (.cons (vz rfl) gw.pr (.cons (vz rfl) ((gw.pr.put 0 (jv.row (cells:=aS .i64) (d:=default) (l:=[0,1,2,3]) (by decide) rfl rfl rfl) rfl).put 1 ⟨trivial,bq.refl _⟩ rfl) (.cons (vz rfl) ((gw.pr.put 0 (jv.row (cells:=aS .i64) (d:=default) (l:=[0,1,2]) (by decide) rfl rfl rfl) rfl).put 1 ⟨trivial,bq.refl _⟩ rfl) .nil))))⟩)⟩,⟨by decide,wY.id rfl⟩,⟨by decide,.inr (.inl rfl)⟩,⟨by decide,wY.id rfl⟩,trivial⟩;simp only [bK,dd,push_cast,simprocAttr];refine jN 69 0 (cells:=dK.c) (df:=default) (l:=[⟨up,nodes⟩,⟨x,y⟩,⟨x,nodes⟩,⟨[0,1,2,3],y⟩,⟨[0,1,2],c.aY.bL⟩]) rfl rfl rfl rfl ?_;simp only [List.set_cons_zero];have hps:∀i:Nat,(([⟨up,nodes⟩,⟨x,y⟩,⟨x,nodes⟩,⟨[0,1,2,3],y⟩,⟨[0,1,2],c.aY.bL⟩]:List dK).getD i default).x0.length≤1000∧(([⟨up,nodes⟩,⟨x,y⟩,⟨x,nodes⟩,⟨[0,1,2,3],y⟩,⟨[0,1,2],c.aY.bL⟩]:List dK).getD i default).x1.length≤1000
  |0=>⟨by show up.length≤_;omega,by show nodes.length≤_;omega⟩
  |1=>⟨by show x.length≤_;omega,by show y.length≤_;omega⟩
  |2=>⟨by show x.length≤_;omega,by show nodes.length≤_;omega⟩
  |3=>⟨by show 4≤_;omega,by show y.length≤_;omega⟩
  |4=>⟨by show 3≤_;omega,by show c.aY.bL.length≤_;omega⟩
  |i+5=>⟨zero_le _,zero_le _⟩
 have hpl:([⟨up,nodes⟩,⟨x,y⟩,⟨x,nodes⟩,⟨[0,1,2,3],y⟩,⟨[0,1,2],c.aY.bL⟩]:List dK).length=5:=rfl;generalize ([⟨up,nodes⟩,⟨x,y⟩,⟨x,nodes⟩,⟨[0,1,2,3],y⟩,⟨[0,1,2],c.aY.bL⟩]:List dK)=ps at hps hpl ⊢;refine bV ab [4,5,13,15,69,70] 71 5 (fun _=>True) trivial (by decide) ?_;intro i _ hi hw1;have hpi:=hps i;obtain ⟨hpi1,hpi2⟩:=hpi;simp only [hw1,push_cast,simprocAttr];(repeat' (first|(with_reducible intro hh;first|subst hh|(revert hh;intro _))|with_reducible apply And.intro|refine eK ab ?_|exact trivial|contradiction))<;>(first|omega|skip);rotate_left 1
 ·refine bN ab ?_;refine sA ?_;(repeat' (first|(with_reducible intro hh;first|subst hh|(revert hh;intro _))|with_reducible apply And.intro|refine eK ab ?_|refine EC.use (jh n _ _ (by omega)) ?_|refine EC.use (nV n _ _ (by omega)) ?_|refine EC.use (tN _ 4 (by decide) (by decide)) ?_|refine dN ab [] [] [0,1,2,4,5,6,3,7,8,9,10,11,13,16,17,19,12,14,15,18,20,21,22,23,24] bZ fun R hR=>?_|refine dR ab [7,8,9,10,11,13,16,17,19,12,14,15,18,20,21,22,23,24] ?_|refine dR ab [8,9,10,11,13,16,17,19,12,14,15,18,20,21,22,23,24] ?_|refine dR ab [14,15,18,20,21,22,23,24] ?_|refine dR ab [15,18,20,21,22,23,24] ?_|refine dR ab [18,20,21,22,23,24] ?_|refine dR ab [20,21,22,23,24] ?_|refine dR ab [21,22,23,24] ?_|refine dR ab [22,23,24] ?_|(refine hR _ _ ?_;refine sA ?_)|exact trivial|contradiction))<;>(first|(exact Lt.bool rfl)|skip)
  all_goals (refine gx ab ?_;refine sA ?_;exact Lt.bool rfl)
 generalize ps.getD i default=p at hpi1 hpi2 ⊢;refine jN 78 5 (cells:=aR.c) (df:=default) (l:=[c.bQ,n]) rfl rfl rfl rfl ?_;simp only [List.set_cons_zero,List.set_cons_succ];have hnw:∀k:Nat,(([c.bQ,n]:List aR).getD k default).bU.length≤40000
  |0=>hv2
  |1=>hn2
  |k+2=>zero_le _
 have hnl:([c.bQ,n]:List aR).length=2:=rfl;generalize ([c.bQ,n]:List aR)=nw at hnw hnl ⊢;refine bV ab [4,5,13,15,20,69,70,71,78,79] 80 2 (fun _=>True) trivial (by decide) ?_;intro k _ hk hw2;have hnk:=hnw k;simp only [hw2,push_cast,simprocAttr];have hps2:Jz Q 600000000 400000 ⟨IntKind.i64.wrap (c.aY.ea+1),p.x1,c.aY.bz,c.aY.cz,c.aY.b_,c.aY.cX⟩:=⟨hpi2,hv.v.sl,hv.v.sq,hv.v.pl,hv.v.bl,hv.v.cl,hv.v.cq⟩;clear hps;(repeat' (first|(with_reducible intro hh;first|subst hh|(revert hh;intro _))|with_reducible apply And.intro|refine eK ab ?_|exact trivial|contradiction))<;>(first|omega|skip)
 ·refine dB (σ:=Unit) [4,5,13,15,20,69,70,71,78,79,80] (fun _=>[(100,.bool false)]) (fun B _=>B) (fun _=>True) ?_ ?_
  ·rintro - -;simp only [bK,dd,List.cons_append,List.nil_append,push_cast,simprocAttr];refine bN ab ?_;refine sA ?_;(repeat' (first|(with_reducible intro hh;first|subst hh|(revert hh;intro _))|with_reducible apply And.intro|refine eK ab ?_|exact trivial|contradiction))<;>(first|((try simp only [hw2]);exact cO trivial)|skip)
  ·refine bN ab ?_;refine sA ?_;(repeat' (first|(with_reducible intro hh;first|subst hh|(revert hh;intro _))|with_reducible apply And.intro|refine eK ab ?_|refine EC.use (jQ c.aY p.x0 (nw.getD k default) p.x1 (by omega) (by omega) (by omega) (by omega)) ?_|refine EC.use (oL c.aY p.x0 (nw.getD k default) p.x1 (by omega) (by omega) (by omega) (by omega)) ?_|refine dN ab [] [] [0,1,2,3,4,5,6,8,9,10,11,12,13,14,7,15,16] bZ fun R hR=>?_|refine dR ab [15,16] ?_|refine dR ab [16] ?_|(refine hR _ _ ?_;refine sA ?_)|exact trivial|contradiction))<;>(first|(exact gg () trivial)|omega|skip)
 ·refine dB (σ:=Unit) [4,5,13,15,69,70,71] (fun _=>[(135,.bool false)]) (fun B _=>B) (fun _=>True) ?_ ?_
  ·rintro - -;simp only [bK,dd,List.cons_append,List.nil_append,push_cast,simprocAttr];refine bN ab ?_;refine sA ?_;(repeat' (first|(with_reducible intro hh;first|subst hh|(revert hh;intro _))|with_reducible apply And.intro|refine eK ab ?_|exact trivial|contradiction))<;>(first|((try simp only [hw1]);exact cO trivial)|skip)
  ·have c1:=jg p.x1 (by omega);have c2:=nU p.x1 (by omega);have c3:=f4 p.x0 p.x1 (by omega) (by omega);have c4:=l9 p.x0 p.x1 (by omega) (by omega);generalize ib p.x1=q1 at c1 c2;generalize mo p.x0 p.x1=q2 at c3 c4;refine bN ab ?_;refine sA ?_
   cases q1<;>cases q2
   all_goals
    (repeat' (first|(with_reducible intro hh;first|subst hh|(revert hh;intro _))|with_reducible apply And.intro|refine eK ab ?_|refine EC.use (c1) ?_|refine dN ab [] [] [0,1,3,4,2,5,6,7,8,9,10,11,13,14,15,16,12,17,18,19,20,21,22,23,24,26,27,28,29,25,30,31,32,33] bZ fun R hR=>?_|refine dR ab [5,6,7,8,9,10,11,13,14,15,16,12,17,18,19,20,21,22,23,24,26,27,28,29,25,30,31,32,33] ?_|refine dR ab [6,7,8,9,10,11,13,14,15,16,12,17,18,19,20,21,22,23,24,26,27,28,29,25,30,31,32,33] ?_|refine dR ab [17,18,19,20,21,22,23,24,26,27,28,29,25,30,31,32,33] ?_|refine dR ab [18,19,20,21,22,23,24,26,27,28,29,25,30,31,32,33] ?_|refine dR ab [30,31,32,33] ?_|refine dR ab [31,32,33] ?_|refine dR ab [32,33] ?_|(refine hR _ _ ?_;refine sA ?_)|exact trivial|contradiction))
   all_goals
    refine EC.use c2 ?_;refine dP ab 26 [6,7] ?_;refine dR ab [8,9,10,11,13,14,15,16,12,17,18,19,20,21,22,23,24,26,27,28,29,25,30,31,32,33] ?_;refine EC.use c3 ?_;refine dR ab [17,18,19,20,21,22,23,24,26,27,28,29,25,30,31,32,33] ?_;refine EC.use c4 ?_;refine dR ab [18,19,20,21,22,23,24,26,27,28,29,25,30,31,32,33] ?_;refine EC.use (nD c.aY p.x1 (by omega) hv.v (by omega) (by omega) hv.q) ?_;refine dR ab [30,31,32,33] ?_;refine EC.use (qb c.aY p.x1 (by omega)) ?_;refine dR ab [31,32,33] ?_;refine EC.aM (qe ⟨IntKind.i64.wrap (c.aY.ea+1),p.x1,c.aY.bz,c.aY.cz,c.aY.b_,c.aY.cX⟩ ⟨IntKind.i64.wrap (c.aY.ea+1),p.x1,c.aY.bz,c.aY.cz,c.aY.b_,c.aY.cX⟩ hps2 hps2 (by omega) (by omega) hv.q) ?_;rintro b hb;replace hb:=hb rfl;subst hb;refine dR ab [32,33] ?_;refine hR _ _ ?_;exact gg () trivial
end
end Go.Proofs.YteejbbfaphcgiaaGreat
