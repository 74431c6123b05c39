/- Part 10. -/
import Derived.Test.YteejbbfaphcgiaaGreatV09
namespace Go.Proofs.YteejbbfaphcgiaaGreat
open Go.Lift _root_.Go.Proofs.Tryz
set_option linter.unusedSimpArgs false
set_option linter.unusedVariables false
set_option maxHeartbeats 2000000
set_option maxRecDepth 10000
open List (take length_range length_cons length_nil cons_append nil_append getD length_set map_set all_eq_true filter_cons map getD_cons_zero getD_cons_succ replicate map_append)
open Nat (le_refl le_trans zero_le le_succ zero_add lt_or_ge le_add_right)
section
attribute [local irreducible] EC EV gW cc cK dT
theorem RH (l:aj) (k:Nat) (s:List SV):take 15 (aJ l.c k s)=aJ l.c k s:=List.take_of_length_le (by rw [cd];exact le_refl _)
theorem RI (x y:aj) (k:Nat) (s:List SV):aJ x.c 0 (aJ y.c k s)=aJ y.c k s:=by
 have h:(aJ y.c k s).length=15:=by rw [cd];rfl
 match hp:aJ y.c k s,h with
 |[a,b,c,d,e,f,g,h,i,j,k,l,m,n,o],_=>rfl
theorem RJ (s:aj) (x:SV) (t:eg):aJ (aJ s.c 9 [x]) 11 t.c=aJ (aj.c {s with Task:=t}) 9 [x]:=rfl
attribute [local push_cast] RJ eO dG eu gS length_range bM RH RI
theorem Lt.PX {B:List aI} {s:aj} {i n E:Nat} {h:aN} {xs:List (List SV)} {l:List Int} (hB:au B i= .row h E 1 xs) (hx:xs=l.map (aS .u64)) (hn:n=l.length):Lt B (.agg (aJ s.c 9 [.row i h 1 0 n])) (.agg (aj.c {s with cT:=l})):=
 Lt.agg ((eU.obj (cs:=s.c) (fun s B=>by rw [aj.fk]) (fun s B=>by rw [aj.fz])).put 9 (gY.row hB hx hn) rfl)
theorem gd.leave {Q:af→Prop} {n:Nat} {s y:aj} {l:List Int} {t:eg} (h:gd Q n s y) (h1:l.length≤y.cT.length) (h2:t=y.Task∨t=default):gd Q n s {y with cT:=l,Task:=t}:=by
 refine ⟨⟨h.ok.tl,h.ok.tq,h.ok.dr,le_trans h1 h.ok.hl,?_,?_⟩,h.al,h.vw,h.nd⟩
 ·rcases h2 with rfl|rfl
  ·exact h.ok.nl
  ·exact zero_le _
 ·rcases h2 with rfl|rfl
  ·exact h.ok.pn
  ·exact Int.le_refl _
theorem dU.snoc {Q:af→Prop} {n:Nat} {l:List aA} {m:aA} (h:dU Q n l) (hm:Q m.ba):dU Q (n+1) (l ++ [m]):=
 ⟨by simpa using h.ln,fun x hx=>(List.mem_append.1 hx).elim (h.q x) fun h=>by rw [List.mem_singleton.1 h];exact hm⟩
theorem oM (s:aj) (p:Int) (hl:s.cT.length≤1000000000):EC prog 207 [.agg s.c,.int .u64 p] [] fun r N=>N=[]∧∃b:Bool,True∧r= .bool b:=by
 refine EC.bh ?_;refine nW ab (ca 207) func207 ntmps207 results207 ?_;(repeat' (with_reducible intro _));refine bV ab [1,2] 5 s.cT.length (fun i=>True) trivial (by omega) ?_;intro i hI hi hw;simp only [hw,push_cast,simprocAttr];(repeat' (with_reducible (first|intro _|apply And.intro)))<;>(first|omega|((try simp only [hw]);exact cO trivial)|(exact ⟨_,Lt.bool rfl⟩))
theorem my (st:aj) (p:Int) (hl:st.cT.length≤900000000):EC prog 205 [.agg st.c,.int .u64 p] [] fun r N=>N=[]∧∃m:List Int,m.length≤st.cT.length+1∧r= .agg (aj.c {st with cT:=m}):=by
 refine EC.bh ?_;refine nW ab (ca 205) func205 ntmps205 results205 ?_;(repeat' (first|with_reducible (first|intro _|apply And.intro)|refine eK ab ?_|(refine EC.aM (oM st p (by omega)) ?_;rintro _ _)|fail))<;>(first|(exact ⟨st.cT,le_succ _,Lt.n_ rfl⟩)|(simp_all;done)|skip)
 all_goals
  refine cw 5 42 1 rfl ?_;intro hh;refine aT ab [1,2,4] (fun s:Nat×List (Int)×Nat×aN=>[(6,.int .i64 s.1),(5,.row 2 s.2.2.2 1 0 s.2.2.1)]) (fun B s=>cW B 2 s.2.2.2 (s.2.1.map (aS .u64))) (fun s=>s.1≤st.cT.length∧s.2.2.1=s.2.1.length∧(s.2.1.length=s.1)) (fun s=>st.cT.length - s.1) (0,[],0,hh) ⟨zero_le _,rfl,rfl⟩ ?_;rintro ⟨i,m,km,hr⟩ ⟨hi,hk,hI⟩;replace hi:i≤st.cT.length:=hi;obtain rfl:km=m.length:=hk;replace hI:m.length=i:=hI;have hw:=wI i;simp only [hw,push_cast,simprocAttr];have hwm:IntKind.i64.wrap (m.length:Int)=m.length:=bu (by omega);(repeat' (first|with_reducible (first|intro _|apply And.intro)|refine dJ ab 5 [11] [2] [0,1,4,5,6,7,8] bZ fun R hR=>?_|refine kh ab 2 ?_|refine kh ab 3 ?_|refine kh ab 9 ?_|refine dR ab [10,11] ?_|(refine hR _ _ ?_;refine sA ?_)|refine wA ab ?_|fail))<;>(first|(have hz:=‹(decide ((i:Int) < _) && _)=true›;simp only [Bool.and_eq_true,decide_eq_true_eq] at hz;(try simp only [hw]);refine a7 (i+1,m ++ [_],m.length+1,_) ⟨by show i+1≤_;omega,by simp,by simp;omega⟩)|omega|(simp_all;done)|skip);exact ⟨m ++ [p] ++ eE default st.cT m.length (st.cT.length - m.length),by simp [bM];omega,Lt.PX rfl (by simp [aS]) (by simp [bM];omega)⟩
theorem lE (st:aj) (p:Int) (hl:st.cT.length≤900000000):EC prog 136 [.agg st.c,.int .u64 p] [] fun r N=>N=[]∧∃x:List Int×eg,(x.1.length≤st.cT.length∧(x.2=st.Task∨x.2=default))∧r= .agg (aj.c {st with cT:=x.1,Task:=x.2}):=by
 refine EC.bh ?_;refine nW ab (ca 136) func136 ntmps136 results136 ?_;(repeat' (with_reducible intro _));refine cw 5 42 1 rfl ?_;intro hh;refine aT ab [1,2,4] (fun s:Nat×List (Int)×Nat×aN=>[(6,.int .i64 s.1),(5,.row 2 s.2.2.2 1 0 s.2.2.1)]) (fun B s=>cW B 2 s.2.2.2 (s.2.1.map (aS .u64))) (fun s=>s.1≤st.cT.length∧s.2.2.1=s.2.1.length∧(s.2.1.length≤s.1)) (fun s=>st.cT.length - s.1) (0,[],0,hh) ⟨zero_le _,rfl,le_refl _⟩ ?_;rintro ⟨i,m,km,hr⟩ ⟨hi,hk,hI⟩;replace hi:i≤st.cT.length:=hi;obtain rfl:km=m.length:=hk;replace hI:m.length≤i:=hI;have hw:=wI i;simp only [hw,push_cast,simprocAttr];(repeat' (with_reducible (first|intro _|apply And.intro)))<;>(first|((try simp only [hw]);refine a7 (i+1,m ++ [_],m.length+1,_) ⟨by show i+1≤_;omega,by simp,by simp;omega⟩)|((try simp only [hw]);refine a7 (i+1,m,m.length,hr) ⟨by show i+1≤_;omega,rfl,by show m.length≤i+1;omega⟩)|(exact ⟨(m,default),⟨by show m.length≤_;omega,.inr rfl⟩,Lt.PX (s:={st with Task:=default}) rfl rfl rfl⟩)|(exact ⟨(m,st.Task),⟨by show m.length≤_;omega,.inl rfl⟩,Lt.PX rfl rfl rfl⟩)|omega)
theorem mw (s:aj) (p to:Int):EC prog 206 [.agg s.c,.int .u64 p,.int .i64 to] [] fun r N=>N=[]∧∃m:aA,m.ba=default∧r= .agg m.c:=by
 refine EC.bh ?_;refine nW ab (ca 206) func206 ntmps206 results206 ?_;(repeat' (with_reducible intro _))<;>((exact ⟨_,rfl,Lt.agg (eU.obj (fun s B=>by rw [aA.fk]) (fun s B=>by rw [aA.fz]))⟩))
section
variable {Q:af→Prop} {N:Nat} (st:aj) (nodes:List Int) (hs:jB Q N st) (hN:N≤900000000) (hl:nodes.length≤1000000) (h0:Q default)
include hs hN hl h0
theorem qc (p to:Int):EC prog 144 [.agg st.c,.int .u64 p,.int .i64 to,bG 1 (aS .i64) default nodes] [] fun r N'=>N'=[]∧∃x:aj×List aA,(gd Q N st x.1∧dU Q (N+1) x.2)∧r=oa x:=by
 have hhl:=hs.hl;refine EC.bh ?_;refine nW ab (ca 144) func144 ntmps144 results144 ?_;(repeat' (first|with_reducible (first|intro _|apply And.intro)|refine eK ab ?_|(refine EC.aM (oM st p (by omega)) ?_;rintro _ _)|((refine EC.qz (σ:=(aj×List aA)×aN) (C:=fun x=>gd Q N st x.1.1∧dU Q N x.1.2) (R:=fun x i=> .bS [.agg x.1.1.c,.row i x.2 45 0 x.1.2.length]) (N:=fun x=>[.row x.2 179 45 (x.1.2.map aA.c)]) (l_ st nodes hs hN hl h0) (fun _ _=>bq.bS (.cons (bq.refl _) (.cons bq.row .nil))) ?_;rintro ⟨⟨y,ms⟩,hh⟩ ⟨hy,hm⟩;replace hy:gd Q N st y:=hy;replace hm:dU Q N ms:=hm;have hyl:=hy.ok.hl;have hml:=hm.ln))|((refine EC.aM (lE st p (by omega)) ?_;rintro ⟨hl2,tk⟩ ⟨hll,htk⟩;replace hll:hl2.length≤st.cT.length:=hll))|((refine EC.aM (lE y p (by omega)) ?_;rintro ⟨hl2,tk⟩ ⟨hll,htk⟩;replace hll:hl2.length≤y.cT.length:=hll))|fail))<;>(first|(exact ⟨(st,[]),⟨gd.refl hs,⟨zero_le _,fun m h=>(nomatch h)⟩⟩,Lt.t2 (a6.n_ rfl) a6.nil⟩)|omega|(show (_:Bool)=true;first|(simp_all;done)|grind)|skip)
 ·(repeat' (first|with_reducible (first|intro _|apply And.intro)|((refine EC.aM (mw _ p to) ?_;rintro mg hmg))|refine dM ab 7 [0,1,2,3,4,5,6,7,8,9,10,11,12,13] [1,3,4] bZ fun R hR=>?_|refine bT ab 0 2 ?_ ?_|refine dC ab 2 ?_|refine bT ab 0 5 ?_ ?_|refine dR ab [5,6,7,8,9] ?_|refine dR ab [6,7,8,9] ?_|refine bT ab 0 6 ?_ ?_|refine bT ab 0 7 ?_ ?_|refine dR ab [7,8,9] ?_|refine dC ab 0 ?_|refine dR ab [8,9] ?_|(refine hR _ _ ?_;refine sA ?_)|refine wA ab ?_|fail))<;>(first|(exact ⟨(_,ms ++ [mg]),⟨hy.leave hll htk,hm.snoc (hmg▸h0)⟩,Lt.t2 (a6.n_ rfl) (a6.row rfl (by simp) (by simp))⟩)|omega)
 ·refine cw 11 179 45 rfl ?_;intro hh0;simp only [List.set_cons_zero,length_cons,length_nil,cons_append,nil_append,zero_add];(repeat' (first|with_reducible intro _|((refine EC.aM (mw _ p to) ?_;rintro mg hmg))|refine dM ab 7 [0,1,2,3,4,5,6,7,8,9,10,11,12,13] [1,3,4] bZ fun R hR=>?_|refine bT ab 0 2 ?_ ?_|refine dC ab 2 ?_|refine bT ab 0 5 ?_ ?_|refine dR ab [5,6,7,8,9] ?_|refine dR ab [6,7,8,9] ?_|refine bT ab 0 6 ?_ ?_|refine bT ab 0 7 ?_ ?_|refine dR ab [7,8,9] ?_|refine dC ab 0 ?_|refine dR ab [8,9] ?_|(refine hR _ _ ?_;refine sA ?_)|refine wA ab ?_|fail))<;>((exact ⟨(_,[mg]),⟨(gd.refl hs).leave hll htk,((dU.nil (k:=0)).snoc (hmg▸h0)).mono (by omega)⟩,Lt.t2 (a6.n_ rfl) (a6.row rfl (by simp) (by simp))⟩))
theorem ud (p place:Int):EC prog 141 [.agg st.c,.int .u64 p,.int .i64 place] [] fun r N'=>N'=[]∧∃x:aj×List aA,(gd Q (N+1) st x.1∧dU Q 1 x.2)∧r=oa x:=by
 have _:=hl;have hhl:=hs.hl;refine EC.bh ?_;refine nW ab (ca 141) func141 ntmps141 results141 ?_;(repeat' (first|with_reducible (first|intro _|apply And.intro)|refine eK ab ?_|((refine EC.aM (my st p (by omega)) ?_;rintro hl2 hll))|((refine EC.aM (mw _ p place) ?_;rintro mg hmg))|refine dM ab 6 [0,1,2,3,4,5,6,7,8,9,10,11,12,13] [2,3] bZ fun R hR=>?_|refine bT ab 0 1 ?_ ?_|refine dC ab 1 ?_|refine bT ab 0 4 ?_ ?_|refine dC ab 4 ?_|refine bT ab 0 5 ?_ ?_|refine bT ab 5 6 ?_ ?_|refine dC ab 0 ?_|refine dR ab [6,7] ?_|refine dR ab [5,7] ?_|(refine hR _ _ ?_;refine sA ?_)|refine wA ab ?_|fail))<;>(first|(exact ⟨({st with cT:=hl2},[]),⟨((gd.refl hs).mono (le_succ _)).host (by omega),dU.nil⟩,Lt.t2 (a6.n_ rfl) a6.nil⟩)|(exact ⟨(st,[mg]),⟨(gd.refl hs).mono (le_succ _),dU.one (hmg▸h0)⟩,Lt.t2 (a6.n_ rfl) (a6.Ep rfl)⟩))
end
end
section
attribute [local irreducible] EC EV gW cc cK dT
attribute [local push_cast] eO dG
theorem a6.hp {B:List aI} {x y:aB} (h:x=y):a6 B (.agg x.c) (.agg y.c):=by subst h;exact a6.agg (eU.obj (cs:=x.c) (fun s B=>by rw [aB.fk]) (fun s B=>by rw [aB.fz]))
theorem Lt.hp {B:List aI} {x y:aB} (h:x=y):Lt B (.agg x.c) (.agg y.c):=by subst h;exact Lt.agg (eU.obj (cs:=x.c) (fun s B=>by rw [aB.fk]) (fun s B=>by rw [aB.fz]))
def RP (c:ao) (node x:Int):Prop:=∃k:Nat,k < c.aq.length∧x=k∧(c.aq.getD k default).aD.bW=node
theorem jR (c:ao) (node:Int) (hc:c.aq.length≤1000000):EC prog 139 [.agg c.c,.int .i64 node] [] fun r N=>N=[]∧∃x:Int,(x= -1∨RP c node x)∧r= .int .i64 x:=by
 refine EC.bh ?_;refine nW ab (ca 139) func139 ntmps139 results139 ?_;(repeat' (with_reducible intro _));refine bV ab [1,2] 5 c.aq.length (fun i=>True) trivial (by omega) ?_;intro i hI hi hw;simp only [hw,push_cast,simprocAttr];(repeat' (with_reducible (first|intro _|apply And.intro)))<;>(first|omega|((try simp only [hw]);exact cO trivial)|(exact ⟨_,.inr ⟨i,by omega,rfl,by simpa using ‹(_ == node)=true›⟩,Lt.int rfl⟩)|(exact ⟨-1,.inl rfl,Lt.int rfl⟩))
def LH (c:ao) (s:aj):Bool:=s.ea == c.aY.ea && decide (s.aD.bW∈c.aY.bL)
theorem iu (c:ao) (s:aj) (hn:c.aY.bL.length≤1000000):EC prog 97 [.agg c.c,.agg s.c] [] fun r N=>N=[]∧r= .bool (LH c s):=by
 refine EC.cQ ?_;refine nW ab (ca 97) func97 ntmps97 results97 ?_;(repeat' (first|with_reducible (first|intro _|apply And.intro)|refine eK ab ?_|refine EC.use (d7 c.aY.bL _ (by omega)) ?_|fail))<;>(first|(show False;(simp_all;done))|(refine Lt.bool ?_;(simp_all [LH];done)))
theorem cE (e:Int):EC prog 96 [.int .i64 e] [] fun r N=>N=[]∧∃x:aB,x.cX=default∧r= .agg x.c:=by
 refine EC.bh ?_;refine nW ab (ca 96) func96 ntmps96 results96 ?_;(repeat' (with_reducible intro _))<;>((exact ⟨_,rfl,Lt.agg (eU.obj (fun s B=>by rw [aB.fk]) (fun s B=>by rw [aB.fz]))⟩))
theorem gF (c:ao) (node:Int) (hc:c.aq.length≤1000000) (hn:c.aY.bL.length≤1000000):EC prog 123 [.agg c.c,.int .i64 node] [] fun r N=>N=[]∧∃x:Nat×aB×Bool,(x.2.2=true→x.1 < c.aq.length∧(c.aq.getD x.1 default).aD.bW=node∧LH c (c.aq.getD x.1 default)=true)∧r= .bS [.int .i64 (x.1:Int),.agg x.2.1.c,.bool x.2.2]:=by
 refine EC.bh ?_;refine nW ab (ca 123) func123 ntmps123 results123 ?_;(repeat' (first|with_reducible (first|intro _|apply And.intro)|refine eK ab ?_|((refine EC.aM (jR c node hc) ?_;rintro x (rfl|⟨k,hk,rfl,hnd⟩)))|refine EC.use (iu c _ hn) ?_|((refine EC.aM (cE _) ?_;rintro h hh))|refine dN ab [] [] [0,1,2,3,4,5,6,7] bZ fun R hR=>?_|refine dR ab [7] ?_|(refine hR _ _ ?_;refine sA ?_)|refine wA ab ?_|contradiction))<;>(first|(exact ⟨(0,h,false),fun h=>(nomatch h),Lt.t3 (a6.jC rfl) (a6.hp rfl) a6.bool⟩)|(exact ⟨(k,_,true),fun _=>⟨hk,hnd,by simpa using ‹(!LH c _)=false›⟩,Lt.t3 a6.int (a6.agg (eU.obj (fun s B=>by rw [aB.fk]) (fun s B=>by rw [aB.fz]))) a6.bool⟩)|(exact ⟨(0,_,false),fun h=>(nomatch h),Lt.t3 (a6.jC rfl) (a6.agg (eU.obj (fun s B=>by rw [aB.fk]) (fun s B=>by rw [aB.fz]))) a6.bool⟩)|omega)
end
section
attribute [local irreducible] EC EV gW cc cK dT
attribute [local push_cast] eO dG iX l5 j7 l6
theorem RB (c:ao) (x:SV) (n:aR):aJ (aJ c.c 6 [x]) 7 n.c=aJ (ao.c {c with bQ:=n}) 6 [x]:=rfl
theorem Rz (c:ao) (x:SV):take 1 (List.drop 7 (aJ c.c 6 [x]))=aR.c c.bQ:=rfl
theorem Rx (c:ao) (k:Nat) (s:List SV):take 8 (aJ c.c k s)=aJ c.c k s:=List.take_of_length_le (by rw [cd];exact le_refl _)
theorem Ry (x y:ao) (k:Nat) (s:List SV):aJ x.c 0 (aJ y.c k s)=aJ y.c k s:=by
 have h:(aJ y.c k s).length=8:=by rw [cd];rfl
 match hp:aJ y.c k s,h with
 |[a,b,c,d,e,f,g,h],_=>rfl
attribute [local push_cast] RB Rz Rx Ry GW
theorem xj {Q:af→Prop} (c:ao) (k:Nat) (s:aj) (l:List aA) (hk:k < c.aq.length) (hc:c.aq.length≤1000000) (hn:gT Q c.bQ) (hl:l.length≤10000000000) (hq:∀m∈l,Q m.ba):EC prog 125 [.agg c.c,.int .i64 k,.agg s.c,bG 45 aA.c default l] [] fun r N=>N=[]∧∃n:aR,gT Q n∧r= .agg (ao.c {c with aq:=c.aq.set k s,bQ:=n}):=by
 obtain ⟨k,rfl⟩:∃x:{i:Nat // i < c.aq.length},x.1=k:=⟨⟨k,hk⟩,rfl⟩;refine EC.bh ?_;refine nW ab (ca 125) func125 ntmps125 results125 ?_;(repeat' (with_reducible (first|intro _|apply And.intro)))<;>(first|omega|skip)
 all_goals
  rename_i fr0 fr1;refine aT ab [3,4,6,8] (fun s:Nat×aR=>[(9,.int .i64 s.1)]) (fun B x=>cP B 0 [aJ (ao.c {c with bQ:=x.2}) 6 [.row 3 (fr1 3) 15 0 c.aq.length]]) (fun s=>s.1≤l.length∧gT Q s.2) (fun s=>l.length - s.1) (0,c.bQ) ⟨zero_le _,hn⟩ ?_;rintro ⟨i,n⟩ ⟨hi,hnt⟩;replace hi:i≤l.length:=hi;replace hnt:gT Q n:=hnt;have hw:=wI i;have hmem:i < l.length→Q (l.getD i default).ba:=fun h=>hq _ (bk h);simp only [hw,push_cast,simprocAttr];(repeat' (first|with_reducible (first|intro _|apply And.intro)|refine eK ab ?_|((refine EC.aM (xJ (Q:=Q) n {l.getD i default with ea:=s.ea} hnt (hmem (by omega))) ?_;rintro ⟨n2,e⟩ hn2))|fail))<;>(first|omega|(have he:e=0:=(by simpa using ‹(e == 0)=true›);(try simp only [hw]);exact a7 (i+1,n2) ⟨by show i+1≤_;omega,hn2 he⟩)|((try simp only [hw]);exact a7 (i+1,n) ⟨by show i+1≤_;omega,hnt⟩)|(exact ⟨n,hnt,Lt.agg ((eU.obj (cs:=ao.c {c with bQ:=n}) (fun s B=>by rw [ao.fk]) (fun s B=>by rw [ao.fz])).put 6 (gY.row (l:=c.aq.set k.1 s) rfl rfl (by simp)) rfl)⟩))
theorem a6.cl {B:List aI} {x y:ao} (h:x=y):a6 B (.agg x.c) (.agg y.c):=by subst h;exact a6.agg (eU.obj (cs:=x.c) (fun s B=>by rw [ao.fk]) (fun s B=>by rw [ao.fz]))
theorem z7 {Q:af→Prop} (c:ao) (a b:Int) (yes:Bool) (hn:gT Q c.bQ):EC prog 90 [.agg c.c,.int .i64 a,.int .i64 b,.bool yes] [] fun r N=>N=[]∧∃x:aR×aB,(gT Q x.1∧x.2.cX=default)∧r= .bS [.agg (ao.c {c with bQ:=x.1}),.agg x.2.c]:=by
 refine EC.bh ?_;refine nW ab (ca 90) func90 ntmps90 results90 ?_;(repeat' (first|with_reducible (first|intro _|apply And.intro)|refine eK ab ?_|((refine EC.aM (Ac (Q:=Q) c.bQ a b yes hn) ?_;rintro ⟨n2,e⟩ hn2))|((refine EC.aM (cE _) ?_;rintro h hh))|refine dM ab 4 [0,1,2,3,4,5,6,7,8,9,10,11,12,13] [1] bZ fun R hR=>?_|refine bT ab 0 2 ?_ ?_|refine dR ab [2,3,4] ?_|refine dR ab [3,4] ?_|refine dC ab 0 ?_|(refine hR _ _ ?_;refine sA ?_)|refine wA ab ?_|fail))<;>(first|(exact ⟨(c.bQ,h),⟨hn,hh⟩,Lt.t2 (a6.cl rfl) (a6.hp rfl)⟩)|(have he:e=0:=(by simpa using ‹(e !=0)=false›);exact ⟨(n2,_),⟨hn2 he,rfl⟩,Lt.t2 (a6.cl rfl) (a6.agg (eU.obj (fun s B=>by rw [aB.fk]) (fun s B=>by rw [aB.fz])))⟩))
end
theorem cG.up {I D J D':Int→Prop} {o:af} (h:cG I D o) (hI:∀x,I x→J x) (hd:∀x,D x→D' x) (hn:∀x,D' x→D x∨¬I x):cG J D' o:=
 (h.JC hd fun hk hx=>(hn _ hx).elim (h.ds hk).1 fun h2=>h2 h.kn.1).mono hI
theorem jB.q {Q R:af→Prop} {n:Nat} {s:aj} (h:jB Q n s) (hq:∀o,Q o→R o):jB R n s:=
 ⟨h.tl,fun x hx=>hq _ (h.tq x hx),⟨h.dr.ln,fun e he=>⟨hq _ (h.dr.e e he).1,(h.dr.e e he).2⟩⟩,h.hl,h.nl,h.pn⟩
theorem gT.q {Q R:af→Prop} {n:aR} (h:gT Q n) (hq:∀o,Q o→R o):gT R n:=
 ⟨h.ln,fun l hl=>⟨(h.l l hl).ln,fun m hm=>hq _ ((h.l l hl).q m hm)⟩⟩
theorem i9.q {Q R:af→Prop} {c:ax} (h:i9 Q c) (hq:∀o,Q o→R o):i9 R c:=
 ⟨hq _ h.p,h.pl,h.fl,fun o ho=>hq _ (h.pq o ho),fun o ho=>hq _ (h.fq o ho)⟩
structure wW (I:Int→Prop) (bs:List cn) (l:List aL):Prop where
 ok:∀a∈l,ER a∧a.fR < Ef bs a.bW
 fr:∀a∈l,∀k,a.bP < k→k≤1099511627775→¬I (wV a.bW a.fR k)
 nd:(l.map fun a=>(a.bW,a.fR)).Nodup
 ft:∀n b k,Ef bs n≤b→(0≤b∧b≤65535)→(1≤k∧k≤1099511627775)→¬I (wV n b k)
theorem By {a:aL} {m:Nat} {u x:Int} (h:x∈(ik a m).take u.toNat):∃j:Nat,(j:Int) < u∧j < m∧x=wV a.bW a.fR (a.bP+(j:Int)+1):=by
 obtain ⟨j,hj,rfl⟩:=List.mem_take_iff_getElem.1 h;rw [kb] at hj;exact ⟨j,by omega,by omega,by simp [ik]⟩
theorem yZ {a:aL} {m:Nat} {x:Int} (h:x∈ik a m):∃j:Nat,j < m∧x=wV a.bW a.fR (a.bP+(j:Int)+1):=by
 obtain ⟨j,hj,rfl⟩:=List.mem_map.1 h;exact ⟨j,List.mem_range.1 hj,rfl⟩
theorem wW.new {I:Int→Prop} {bs:List cn} {l:List aL} {a:aL} (h:wW I bs l) (ha:a∈l) (m:Nat) (hm:m≤64) (hs:a.bP+(m:Int)≤1099511627775):iR I (ik a m):=by
 obtain ⟨⟨h1,h2,h3⟩,-⟩:=h.ok a ha;refine ⟨by rw [kb];exact hm,fun x hx=>?_,fun x hx=>?_,?_⟩
 ·obtain ⟨j,hj,rfl⟩:=yZ hx;unfold wV;omega
 ·obtain ⟨j,hj,rfl⟩:=yZ hx;exact h.fr a ha _ (by omega) (by omega)
 ·rw [List.nodup_iff_pairwise_ne,List.pairwise_iff_getElem];intro i j hi hj hij;simp only [ik,List.length_map,length_range] at hi hj;simp only [ik,List.getElem_map,List.getElem_range];unfold wV;omega
theorem Fc {l:List aL} {k:Nat} (h:k < l.length):l.getD k default∈l:=bk h
theorem wW.grow {I:Int→Prop} {bs:List cn} {l:List aL} {k:Nat} (h:wW I bs l) (hk:k < l.length) (m:Nat) {u:Int} (hu:0≤u) (hs:(l.getD k default).bP+u≤1099511627775):wW (jt I (ik (l.getD k default) m) u) bs (l.set k {l.getD k default with bP:=(l.getD k default).bP+u}):=by
 have ha:=Fc hk;have e:l.getD k default=l[k]:=by simp [getD,hk]
 generalize l.getD k default=a at *;obtain ⟨⟨h1,h2,h3⟩,h4⟩:=h.ok a ha;have hnd:=h.nd;rw [List.nodup_iff_pairwise_ne,List.pairwise_map,List.pairwise_iff_getElem] at hnd;have hmem:∀b∈l.set k {a with bP:=a.bP+u},b={a with bP:=a.bP+u}∨b∈l∧(b.bW,b.fR)≠(a.bW,a.fR):=fun b hb=>by
  obtain ⟨j,hj,rfl⟩:=List.mem_iff_getElem.1 hb;rw [length_set] at hj;rw [List.getElem_set]
  split
  ·exact .inl rfl
  ·rename_i hne;refine .inr ⟨List.getElem_mem hj,?_⟩;have hq:(l[j].bW,l[j].fR)≠(l[k].bW,l[k].fR):=by
    rcases lt_or_ge j k with hlt|hge
    ·exact hnd j k hj hk hlt
    ·exact (hnd k j hk hj (by omega)).symm
   rwa [←e] at hq
 refine ⟨fun b hb=>?_,fun b hb q hq1 hq2=>?_,?_,fun n b q hb hb2 hq=>?_⟩
 ·rcases hmem b hb with rfl|⟨hb,-⟩
  ·exact ⟨⟨h1,h2,by show 0≤a.bP+u;omega,by show a.bP+u≤_;omega⟩,h4⟩
  ·exact h.ok b hb
 ·rintro (hI|hx)
  ·rcases hmem b hb with rfl|⟨hb,-⟩
   ·exact h.fr a ha q (by simp only at hq1;omega) hq2 hI
   ·exact h.fr b hb q hq1 hq2 hI
  ·obtain ⟨j,hj,-,he⟩:=By hx;rcases hmem b hb with rfl|⟨hb,hne⟩
   ·simp only at hq1 he;unfold wV at he;omega
   ·obtain ⟨⟨g1,g2,g3⟩,-⟩:=h.ok b hb;obtain ⟨e1,e2,-⟩:=DF g2 ⟨by omega,hq2⟩ h2 ⟨by omega,by omega⟩ he;exact hne (by rw [e1,e2])
 ·have:(l.set k {a with bP:=a.bP+u}).map (fun a=>(a.bW,a.fR))=l.map fun a=>(a.bW,a.fR):=by
   refine List.ext_getElem (by simp) fun j hj1 hj2=>?_;simp only [List.getElem_map,List.getElem_set]
   split
   ·rename_i hkj;subst hkj;rw [e]
   ·rfl
  rw [this];exact h.nd
 ·rintro (hI|hx)
  ·exact h.ft n b q hb hb2 hq hI
  ·obtain ⟨j,hj,-,he⟩:=By hx;obtain ⟨e1,e2,-⟩:=DF hb2 ⟨by omega,hq.2⟩ h2 ⟨by omega,by omega⟩ he;subst e1 e2;omega
theorem wW.join {I:Int→Prop} {bs cs:List cn} {l m:List aL} {n t:Int} (h:wW I bs (l ++ m)) (hb:OY bs n t cs) (hn:0≤n∧n≤127):wW I cs (l ++ ((aL.mk n t 0) :: m)):=by
 obtain ⟨ht1,ht2⟩:=hb.rg;have hmem:∀a∈l ++ ((aL.mk n t 0) :: m),a=(aL.mk n t 0)∨a∈l ++ m:=fun a ha=>by
  simp only [List.mem_append,List.mem_cons] at ha ⊢;rcases ha with h|h|h
  ·exact .inr (.inl h)
  ·exact .inl h
  ·exact .inr (.inr h)
 refine ⟨fun a ha=>?_,fun a ha q h1 h2=>?_,?_,fun x b q h1 h2 h3=>?_⟩
 ·rcases hmem a ha with rfl|ha
  ·exact ⟨⟨hn,⟨ht1,by show t≤_;omega⟩,by show (0:Int)≤0;omega,by show (0:Int)≤_;omega⟩,by show t < Ef cs n;rw [hb.tn];omega⟩
  ·obtain ⟨k1,k2⟩:=h.ok a ha;refine ⟨k1,?_⟩;by_cases e:a.bW=n
   ·rw [e,hb.tn];rw [e,←hb.t0] at k2;omega
   ·rw [hb.tr _ e];exact k2
 ·rcases hmem a ha with rfl|ha
  ·exact h.ft n t q (by rw [hb.t0];exact Int.le_refl _) ⟨ht1,by omega⟩ ⟨by simp only at h1;have:(0:Int) < q:=h1;omega,h2⟩
  ·exact h.fr a ha q h1 h2
 ·have hp:((l ++ ((aL.mk n t 0) :: m)).map fun a=>(a.bW,a.fR)).Perm ((n,t) :: (l ++ m).map fun a=>(a.bW,a.fR)):=by
   refine (List.perm_middle.map _).trans ?_;rfl
  rw [hp.nodup_iff,List.nodup_cons];refine ⟨fun hx=>?_,h.nd⟩;obtain ⟨a,ha,he⟩:=List.mem_map.1 hx;simp only [Prod.mk.injEq] at he;have:=(h.ok a ha).2;rw [he.1,he.2,←hb.t0] at this;omega
 ·refine h.ft x b q ?_ h2 h3;by_cases e:x=n
  ·subst e;rw [hb.tn,hb.t0] at h1;omega
  ·rw [hb.tr _ e] at h1;exact h1
theorem wW.sub {I:Int→Prop} {bs:List cn} {l m:List aL} (h:wW I bs l) (hm:m.Sublist l):wW I bs m:=
 ⟨fun a ha=>h.ok a (hm.subset ha),fun a ha=>h.fr a (hm.subset ha),h.nd.sublist (hm.map _),h.ft⟩
theorem wW.set {I:Int→Prop} {bs:List cn} {l:List aj} {k:Nat} {s:aj} (h:wW I bs (l.map (·.bD))) (e:s.bD=(l.getD k default).bD):wW I bs ((l.set k s).map (·.bD)):=by
 rw [map_set,e];by_cases hk:k < l.length
 ·rw [show (l.getD k default).bD=(l.map (·.bD))[k]'(by simpa using hk) by simp [getD,hk],List.set_getElem_self];exact h
 ·rw [List.set_eq_of_length_le (by simp;omega)];exact h
structure gL (I D:Int→Prop) (N P S:Nat) (c:ao):Prop where
 z:I 0
 di:∀x,D x→I x
 sq:ja I D c.aY.bz
 sl:2*c.aY.bz.ah.length≤N
 nl:c.aY.bL.length≤1000∧1≤c.aY.bL.length
 pl:c.aY.cz.length≤P
 bo:Hj c.aY.b_
 bl:c.aY.b_.length≤S
 kl:c.aY.cX.length≤16
 kq:∀x∈c.aY.cX,i9 (cG I D) x
 ln:c.aq.length≤S
 st:∀s∈c.aq,jB (cG I D) N s
 nt:gT (cG I D) c.bQ
 al:wW I c.aY.b_ (c.aq.map (·.bD))
 nd:ij c.aY.bz
section
variable {I D J D':Int→Prop} {N P S N' P' S':Nat} {c:ao} {k:Nat}
theorem gL.mono (h:gL I D N P S c) (h1:N≤N') (h2:P≤P') (h3:S≤S'):gL I D N' P' S' c:=
 ⟨h.z,h.di,h.sq,le_trans h.sl h1,h.nl,le_trans h.pl h2,h.bo,le_trans h.bl h3,h.kl,h.kq,le_trans h.ln h3,fun s hs=>(h.st s hs).mono h1,h.nt,h.al,h.nd⟩
theorem gL.at (h:gL I D N P S c) (hk:k < c.aq.length):jB (cG I D) N (c.aq.getD k default):=h.st _ (bk hk)
theorem gL.d0 (h:gL I D N P S c):cG I D default:=fT h.z
theorem gL.O7 (h:gL I D N P S c) (hk:k < c.aq.length):(c.aq.getD k default).bD∈c.aq.map (·.bD):=List.mem_map.2 ⟨_,bk hk,rfl⟩
theorem gL.set {s:aj} {n:aR} (h:gL I D N P S c) (hN:N≤N') (hs:jB (cG I D) N' s) (ha:s.bD=(c.aq.getD k default).bD) (hn:gT (cG I D) n):gL I D N' P S {c with aq:=c.aq.set k s,bQ:=n}:=
 ⟨h.z,h.di,h.sq,le_trans h.sl hN,h.nl,h.pl,h.bo,h.bl,h.kl,h.kq,by show (c.aq.set k s).length≤_;rw [length_set];exact h.ln,fun x hx=>by
  rcases List.mem_or_eq_of_mem_set hx with hx|rfl
  ·exact (h.st x hx).mono hN
  ·exact hs,hn,h.al.set ha,h.nd⟩
theorem gL.store {s:aG} (h:gL I D N P S c) (hN:N≤N') (hs:ja I D s) (hl:2*s.ah.length≤N') (hnd:ij s):gL I D N' P S {c with aY:={c.aY with bz:=s}}:=
 ⟨h.z,h.di,hs,hl,h.nl,h.pl,h.bo,h.bl,h.kl,h.kq,h.ln,fun s hs=>(h.st s hs).mono hN,h.nt,h.al,hnd⟩
theorem gL.zp {l:List b8} (h:gL I D N P S c) (hP:l.length≤P'):gL I D N P' S {c with aY:={c.aY with cz:=l}}:=
 ⟨h.z,h.di,h.sq,h.sl,h.nl,hP,h.bo,h.bl,h.kl,h.kq,h.ln,h.st,h.nt,h.al,h.nd⟩
theorem gL.saved {l:List ax} (h:gL I D N P S c) (h1:l.length≤16) (h2:∀x∈l,i9 (cG I D) x):gL I D N P S {c with aY:={c.aY with cX:=l}}:=
 ⟨h.z,h.di,h.sq,h.sl,h.nl,h.pl,h.bo,h.bl,h1,h2,h.ln,h.st,h.nt,h.al,h.nd⟩
theorem gL.Rr {n:aR} (h:gL I D N P S c) (hn:gT (cG I D) n):gL I D N P S {c with bQ:=n}:=
 ⟨h.z,h.di,h.sq,h.sl,h.nl,h.pl,h.bo,h.bl,h.kl,h.kq,h.ln,h.st,hn,h.al,h.nd⟩
def AK (c:ao) (k:Nat) (a:aL):ao:={c with aq:=c.aq.set k {c.aq.getD k default with bD:=a}}
theorem G5 {α:Type} [Inhabited α] {l:List α} {k:Nat} {x:α} (h:k < l.length):(l.set k x).getD k default=x:=by simp [getD,h]
theorem gL.grow (h:gL I D N P S c) (hk:k < c.aq.length) (m:Nat) {u:Int} (hu:0≤u) (hs:(c.aq.getD k default).bD.bP+u≤1099511627775) (hm:m≤64) (hm2:(c.aq.getD k default).bD.bP+(m:Int)≤1099511627775)
  (hd:kY D D' (ik (c.aq.getD k default).bD m)) (hdj:∀y,D' y→jt I (ik (c.aq.getD k default).bD m) u y):
  gL (jt I (ik (c.aq.getD k default).bD m) u) D' N P S (AK c k {(c.aq.getD k default).bD with bP:=(c.aq.getD k default).bD.bP+u})∧∀o,cG I D o→cG (jt I (ik (c.aq.getD k default).bD m) u) D' o:=by
 have hnew:=h.al.new (h.O7 hk) m hm hm2;have hQ:∀o,cG I D o→cG (jt I (ik (c.aq.getD k default).bD m) u) D' o:=fun o ho=>ho.up (fun x hx=> .inl hx) hd.1 fun x hx=>(hd.2 x hx).imp_right (hnew.nf x);refine ⟨⟨.inl h.z,hdj,fun o ho=>hQ o (h.sq o ho),h.sl,h.nl,h.pl,h.bo,h.bl,h.kl,fun x hx=>(h.kq x hx).q hQ,?_,fun x hx=>?_,h.nt.q hQ,?_,h.nd⟩,hQ⟩
 ·show (c.aq.set k _).length≤S;rw [length_set];exact h.ln
 ·rcases List.mem_or_eq_of_mem_set hx with hx|rfl
  ·exact (h.st x hx).q hQ
  ·have:=(h.at hk).q hQ;exact ⟨this.tl,this.tq,this.dr,this.hl,this.nl,this.pn⟩
 ·have hg:=h.al.grow (k:=k) (by simpa using hk) m hu (by simpa [getD,hk] using hs);have e:(c.aq.map (·.bD)).getD k default=(c.aq.getD k default).bD:=by simp [getD,hk]
  rw [e] at hg;show wW _ c.aY.b_ ((c.aq.set k _).map (·.bD));rw [map_set];exact hg
structure m4 (I D:Int→Prop) (N P S:Nat) (c y:ao):Prop where
 ok:gL I D N P S y
 ln:y.aq.length=c.aq.length
theorem m4.refl (h:gL I D N P S c):m4 I D N P S c c:=⟨h,rfl⟩
theorem m4.trans {y z:ao} (h:m4 I D N P S c y) (g:m4 J D' N' P' S' y z):m4 J D' N' P' S' c z:=⟨g.ok,g.ln.trans h.ln⟩
theorem m4.mono {y:ao} (h:m4 I D N P S c y) (h1:N≤N') (h2:P≤P') (h3:S≤S'):m4 I D N' P' S' c y:=⟨h.ok.mono h1 h2 h3,h.ln⟩
structure Kg (I D:Int→Prop) (N P S:Nat) (c:ao) (k:Nat) (s:aj) (y:ao):Prop extends m4 I D N P S c y where
 vt:y.aY=c.aY
 at_:y.aq.getD k default=s
theorem Kg.of {s:aj} {n:aR} (h:gL I D N P S c) (hk:k < c.aq.length) (hN:N≤N') (hs:jB (cG I D) N' s) (ha:s.bD=(c.aq.getD k default).bD) (hn:gT (cG I D) n):Kg I D N' P S c k s {c with aq:=c.aq.set k s,bQ:=n}:=
 ⟨⟨h.set hN hs ha hn,length_set ..⟩,rfl,G5 hk⟩
end
def It (x:aK) (new:List Int) (y:aK):Prop:=
 y=default∨(y=x∧x.aU≠1)∨(x.aU=1∧∃k:Nat,k < new.length∧y={x with bn:=new.getD k default})
theorem It.desc {x y:aK} {new:List Int} (h:It x new y) (hk:y.aU=1):y.bn∈new:=by
 rcases h with rfl|⟨rfl,h⟩|⟨h,k,hk2,rfl⟩
 ·exact absurd hk (by decide)
 ·exact absurd hk h
 ·exact bk hk2
theorem It.ok {x y:aK} {new:List Int} (h:It x new y) (hx:j8 x=true) (hn:∀d∈new,d≠0):j8 y=true:=by
 rcases h with rfl|⟨rfl,h⟩|⟨h,k,hk2,rfl⟩
 ·rfl
 ·exact hx
 ·have h0:=hn _ (bk hk2);have hk0:(x.aU == 0)=false:=by rw [h];rfl
  unfold j8 at hx ⊢;simp only [hk0,Bool.false_eq_true,if_false] at hx ⊢;have e:(new.getD k default !=0)=true:=by simpa using h0
  have e1:(x.aU == 1)=true:=by rw [h];rfl
  simp only [Bool.and_eq_true] at hx ⊢;refine ⟨⟨hx.1.1,?_⟩,hx.2⟩;rw [e,e1];rfl
structure DK (t:List aK) (new:List Int) (m:List aK):Prop where
 ln:m.length≤16
 ok:∀y∈m,j8 y=true
 ds:∀y∈m,y.aU=1→y.bn∈new
theorem DK.nil {t:List aK} {new:List Int}:DK t new []:=⟨zero_le _,fun y h=>(nomatch h),fun y h=>(nomatch h)⟩
theorem DK.snoc {t:List aK} {new:List Int} {m:List aK} {x y:aK} (h:DK t new m) (hk:It x new y) (hx:j8 x=true) (hn:∀d∈new,d≠0) (hl:m.length < 16):DK t new (m ++ [y]):=by
 have hm:∀z∈m ++ [y],z∈m∨z=y:=fun z hz=>by simpa using hz
 refine ⟨by simp;omega,fun z hz=>?_,fun z hz=>?_⟩
 ·rcases hm z hz with hz|rfl
  ·exact h.ok z hz
  ·exact hk.ok hx hn
 ·rcases hm z hz with hz|rfl
  ·exact h.ds z hz
  ·exact hk.desc
theorem DK.take {t:List aK} {new:List Int} {m:List aK} (h:DK t new m) (k:Nat):DK t new (m.take k):=
 ⟨by have:=h.ln;simp;omega,fun y hy=>h.ok y (List.mem_of_mem_take hy),fun y hy=>h.ds y (List.mem_of_mem_take hy)⟩
theorem DK.tb {t:List aK} {new:List Int} {m:List aK} (h:DK t new m) (hl:m.length=0∨(m.getD (m.length - 1) default).aU≠0):i7 m=true:=by
 have hln:=h.ln;simp only [i7,Bool.and_eq_true,decide_eq_true_eq,all_eq_true,Bool.or_eq_true,beq_iff_eq,bne_iff_ne];refine ⟨⟨h.ok,by omega⟩,?_⟩;rcases hl with hl|hl
 ·exact .inl (by omega)
 ·exact .inr hl
def QU (p:aC) (tb:List aK) (pg:List ay):aC:={p with dg:=0,aZ:=[],aH:=tb,cy:=b6 .or .i64 p.cy 1073741824,aQ:=pg}
def HF (id:Int) (p:aC):af:={(default:af) with ID:=id,aU:=1,ae:=p}
theorem GD (id:Int) (p:aC):eB (HF id p) 2=true:=by
 have h2:okB 2 2 (!td p)=true:=by
  have:(b6 .andNot .i64 2 2 == 0)=true:=by decide
  simp [okB,this]
 unfold eB HF;simp only [h2];rfl
theorem Nx:kQ 1073741824=true:=by decide +kernel
theorem yF {l:List ay} {ids:List Int}:kC (dw l ids).1=true:=by
 unfold dw
 split
 ·rfl
 split
 ·rfl
 split
 ·rfl
 ·rename_i g;simpa using g
theorem Cx {l:List ay} {ids:List Int} {x:ay} (h:x∈(dw l ids).1):x∈l∨x.ID∈ids∨x.ID=0:=by
 unfold dw at h
 split at h
 ·cases h
 split at h
 ·cases h
 split at h
 ·cases h
 ·exact so h
section
variable {I D:Int→Prop} {ids new:List Int}
theorem Ln {o:af} {tb:List aK} {pg:List ay} {id:Int} (h0:I 0) (ho:cG I D o) (hl:rV o) (h1:o.ae.State=1) (hi:iR I ids) (hid:id∈ids) (hidn:id ∉ new) (hd:∀x,D x→I x) {r:List Int} (hr:∀x∈r,x∈ids) {t:List aK} (ht:DK t new tb) (htl:tb.length=0∨(tb.getD (tb.length - 1) default).aU≠0):
  cG (fun y=>I y∨y∈ids) (fun y=>D y∨y∈new) (HF id (QU o.ae tb (dw o.ae.aQ r).1)):=by
 have hsp:=i_ (l:=(dw o.ae.aQ r).1) (by rw [yF];rfl);have hln:=ht.ln;have hL:rV (HF id (QU o.ae tb (dw o.ae.aQ r).1)):=by
  refine ⟨rfl,hi.nz _ hid,GD _ _,rfl,fun e=>hi.nz _ hid e.symm,zero_le _,.inl h1,hl.AE,yF,ht.tb htl,A6 _ _ hl.sg Nx,hl.al,fun _=>hl.ss h1⟩
 refine ⟨⟨⟨zero_le _,ho.sm.1.2.1,ho.sm.1.2.2.1,by show (dw o.ae.aQ r).1.length≤_;omega,by show tb.length≤_;omega⟩,zero_le _,zero_le _,zero_le _,zero_le _,zero_le _,zero_le _,fun n hn=>(nomatch hn)⟩,zF _,fun _=>hL.pr,⟨.inr hid,fun c hc=>(nomatch hc),fun q hq=>?_,fun n hn=>(nomatch hn)⟩,fun n hn=>(nomatch hn),fun _=>⟨?_,fun s hs hk=> .inr (ht.ds s hs hk)⟩⟩
 ·rcases Cx (show q∈(dw o.ae.aQ r).1 from hq) with h|h|h
  ·exact .inl (ho.kn.2.2.1 q h)
  ·exact .inr (hr _ h)
  ·show I q.ID∨_;rw [h];exact .inl h0
 ·rintro (h|h)
  ·exact hi.nf _ hid (hd _ h)
  ·exact hidn h
theorem cG.NH {J D':Int→Prop} {o:af} {id r:Int} (h:cG I D o) (hJ:∀x,I x→J x) (hk:o.aU≠1) (hid:J id):cG J D' {o with ID:=id,Refs:=r}:=
 ⟨h.sm,h.pd,fun e=>absurd e hk,⟨hid,fun c hc=>hJ _ (h.kn.2.1 c hc),fun p hp=>hJ _ (h.kn.2.2.1 p hp),fun n hn i hi=>hJ _ (h.kn.2.2.2 n hn i hi)⟩,h.nm,fun e=>absurd e hk⟩
end
section
attribute [local irreducible] EC EV gW cc cK dT dA cC
def oe (p:af) (a b:SV):List SV:=aJ (aJ (ax.mk p [] []).c 36 [a]) 37 [b]
def E8:Env:={E with zr:=fun T=>if T=78 then oe default tY tY else E.zr T}
theorem eZ:cI prog E8:=⟨ab.ty,fun T h=>by
 simp only [E8] at h ⊢
 split
 ·rename_i e;subst e;kernel_rfl
 ·rename_i e;simp only [e,if_false] at h;exact ab.zr T h,ab.lv⟩
theorem Pd (T:Nat):E8.ty T=E.ty T:=rfl
theorem Pe:E8.kp=E.kp:=rfl
theorem Pc:E8.zr 78=oe default tY tY:=rfl
theorem LV:E8.zr 76=E.zr 76:=rfl
theorem JL (p:af) (a b:SV):oe p a b=p.c ++ [a,b]:=rfl
theorem OS (p q:af) (a b:SV):aJ (oe q a b) 0 p.c=oe p a b:=by
 rw [JL,JL];exact bb (by simp [af.len]) (by rw [List.drop_append_of_le_length (by rw [af.len,af.len];decide),af.len,List.drop_of_length_le (by rw [af.len];decide)];rfl)
theorem Ca (p:af) (a b:SV):(oe p a b).length=38:=rfl
theorem OR (p:af) (a b:SV):(oe p a b).take 38=oe p a b:=rfl
theorem OU (p:af) (a b d:SV):(oe p a b).getD 36 d=a∧(oe p a b).getD 37 d=b:=⟨rfl,rfl⟩
theorem OT (p:af) (a b x:SV):aJ (oe p a b) 36 [x]=oe p x b∧aJ (oe p a b) 37 [x]=oe p a x:=⟨rfl,rfl⟩
theorem Hg (p:af) (a b x:SV):(oe p a b).set 36 x=oe p x b∧(oe p a b).set 37 x=oe p a x:=⟨rfl,rfl⟩
theorem LF (p q:af) (a b c d:SV):aJ (oe p a b) 0 (oe q c d)=oe q c d:=bb (by rw [Ca,Ca];decide) (by rw [Ca,List.drop_of_length_le (by rw [Ca];decide)];simp)
theorem IK (p:af) (a b:SV):bt (oe p a b)=(a.fh && b.fh):=by
 have h:bt (oe p a b)=(a.fh && (b.fh && true)):=rfl;rw [h,Bool.and_true]
theorem gw.oe {m:Nat} {B:List aI} {p:af} {a b:SV} {l1 l2:List af} (h1:jv m B a (bG 36 af.c default l1)) (h2:jv m B b (bG 36 af.c default l2)):gw m B (oe p a b) (ax.mk p l1 l2).c:=
 gw.put (gw.put (gw.obj (cs:=(ax.mk p [] []).c) (fun s B=>by rw [ax.fk]) (fun s B=>by rw [ax.fz])) 36 h1 rfl) 37 h2 rfl
theorem bE.oe {m:Nat} {B:List aI} {p:af} {a b:SV} {l1 l2:List af} (h1:jv m B a (bG 36 af.c default l1)) (h2:jv m B b (bG 36 af.c default l2)):bE m B (.agg (oe p a b)) (.agg (ax.mk p l1 l2).c):=
 bE.agg (gw.oe h1 h2).1 (gw.oe h1 h2).2
theorem a6.oe {B:List aI} {p:af} {a b:SV} {l1 l2:List af} (h1:gY B a (Go.Lift.bG 36 af.c default l1)) (h2:gY B b (Go.Lift.bG 36 af.c default l2)):a6 B (.agg (oe p a b)) (.agg (ax.mk p l1 l2).c):=
 a6.agg (((eU.obj (cs:=(ax.mk p [] []).c) (fun s B=>by rw [ax.fk]) (fun s B=>by rw [ax.fz])).put 36 h1 rfl).put 37 h2 rfl)
attribute [local push_cast] Pd Pe Pc LV OS Ca OR OU OT Hg LF IK eO dG SV.fh
theorem BE {t:List aK}:(dA t).length≤t.length:=by
 have:=qJ (t:=t) t.length (le_refl _)
 rwa [List.take_length] at this
theorem xC {Q:af→Prop} (s:aG) (id:Int) (hs:s.ah.length≤1000000000) (hq:∀o∈s.ah,Q o) (h0:Q default) (hQ:∀o,Q o→mh o):EC prog 159 [.agg s.c,.int .u64 id] [] fun r N=>N=[]∧∃x:ax×Int,i9 Q x.1∧r= .bS [.agg x.1.c,.int .i64 x.2]:=by
 have hp:Q (cc s id).1:=sH hq h0;have hps:=hQ _ hp;have hpv:=mK (cc s id).1.ae.aQ;have hfv:=BE (t:=(cc s id).1.ae.aH);have hft:=hps.s.1.2.2.2.2;refine EC.bh ?_;(refine nW eZ (ca 159) func159 ntmps159 results159 ?_);generalize hgs:cc s id=g at *;obtain ⟨p,ok⟩:=g;have hGet:EC prog 70 [.agg s.c,.int .u64 id] [] fun r N=>N=[]∧r= .bS [.agg p.c,.bool ok]:=by
  have:=cL s id hs;rw [hgs] at this;exact this
 (repeat' (first|(with_reducible intro hh;first|subst hh|(revert hh;intro _))|with_reducible apply And.intro|refine eK eZ ?_|refine EC.use (hGet) ?_|refine EC.use (cH p hps.s hps.p) ?_|refine EC.use (dp _ hps.s.1.2.2.2.1) ?_|refine EC.use (ji _ hps.s.1.2.2.2.2) ?_|refine dN eZ [] [] [0,1,2,4,5,3,6,7,8] bZ fun R hR=>?_|refine dR eZ [6,7,8] ?_|refine dR eZ [7,8] ?_|(refine hR _ _ ?_;refine sA ?_)|refine wA eZ ?_|fail))<;>(first|(exact ⟨(default,_),i9.def h0,Lt.t2 (a6.oe ⟨trivial,cB⟩ ⟨trivial,cB⟩) a6.int⟩)|rfl|skip);generalize cC p.ae.aQ=pgs at hpv;generalize dA p.ae.aH=fls at hfv;have hgs:∀id,Q (cc s id).1:=fun id=>sH hq h0;refine eY 3 0 36 76 36 (by simp) rfl rfl rfl ?_;intro hh;simp only [List.set_cons_succ,List.set_cons_zero,length_cons,length_nil,cons_append,nil_append,zero_add,Nat.reduceAdd,Hg];refine aT eZ [2,4,8,9,10] (fun s:Nat×List af×Nat×aN=>[(11,.int .i64 s.1)]) (fun B s=>cW (cP B 3 [oe p (.row 4 s.2.2.2 36 0 s.2.2.1) tY]) 4 s.2.2.2 (s.2.1.map af.c)) (fun s=>s.1≤pgs.length∧s.2.2.1=s.2.1.length∧s.2.1.length≤s.1∧∀o∈s.2.1,Q o) (fun s=>pgs.length - s.1) (0,[],0,hh) ⟨zero_le _,rfl,le_refl _,fun o h=>(nomatch h)⟩ ?_;rintro ⟨i,m,km,hr⟩ ⟨hi,hk,hm,hmq⟩;replace hi:i≤pgs.length:=hi;obtain rfl:km=m.length:=hk;replace hm:m.length≤i:=hm;replace hmq:∀o∈m,Q o:=hmq;have hw:=wI i;simp only [hw,push_cast,simprocAttr];(repeat' (first|with_reducible (first|intro _|apply And.intro)|refine EC.use (cL s _ hs) ?_|refine dM eZ 9 [0,1,2,3,4,5,6,7,8,9,10,11,12,13] [1,2,3] bZ fun R hR=>?_|refine mV eZ 0 4 9 ?_ ?_ ?_|refine bT eZ 4 9 ?_ ?_|refine bT eZ 0 9 ?_ ?_|refine bT eZ 0 4 ?_ ?_|refine bT eZ 5 9 ?_ ?_|refine dC eZ 4 ?_|refine dC eZ 0 ?_|refine dR eZ [6,7,8,9,10,11] ?_|refine dR eZ [5,6,7,8,10,11] ?_|refine dR eZ [6,7,8,10,11] ?_|(refine hR _ _ ?_;refine sA ?_)|refine wA eZ ?_|fail))<;>(first|omega|((try simp only [hw]);refine a7 (i+1,m ++ [_],m.length+1,_) ⟨by show i+1≤_;omega,by simp,by simp;omega,fun x hx=>?_⟩;rcases List.mem_append.1 hx with hx|hx;exact hmq x hx;rw [List.mem_singleton.1 hx];exact hgs _)|skip);refine eY 3 0 37 76 36 (by simp [cP,cW,jA]) rfl rfl rfl ?_;intro hh2;simp only [List.set_cons_succ,List.set_cons_zero,length_cons,length_nil,cons_append,nil_append,zero_add,Nat.reduceAdd,Hg,cP,cW,jA];refine aT eZ [2,4,8,10] (fun s:Nat×List af×Nat×aN=>[(14,.int .i64 s.1)]) (fun B s=>cW (cP B 3 [oe p (.row 4 hr 36 0 m.length) (.row 5 s.2.2.2 36 0 s.2.2.1)]) 5 s.2.2.2 (s.2.1.map af.c)) (fun s=>s.1≤fls.length∧s.2.2.1=s.2.1.length∧s.2.1.length≤s.1∧∀o∈s.2.1,Q o) (fun s=>fls.length - s.1) (0,[],0,hh2) ⟨zero_le _,rfl,le_refl _,fun o h=>(nomatch h)⟩ ?_;rintro ⟨j,n,kn,hn⟩ ⟨hj,hk,hnl,hnq⟩;replace hj:j≤fls.length:=hj;obtain rfl:kn=n.length:=hk;replace hnl:n.length≤j:=hnl;replace hnq:∀o∈n,Q o:=hnq;have hw2:IntKind.i64.wrap ((j:Int)+1)=((j+1:Nat):Int):=by rw [bu (by omega)];omega
 have hck:i9 Q ⟨p,m,n⟩:=⟨hp,by show m.length≤_;omega,by show n.length≤_;omega,hmq,hnq⟩;simp only [hw2,push_cast,simprocAttr];(repeat' (first|(with_reducible intro hh;first|subst hh|(revert hh;intro _))|with_reducible apply And.intro|refine eK eZ ?_|refine EC.use (cL s _ hs) ?_|((refine EC.t6 (oR ⟨p,m,n⟩ hck hQ) (d_.two (bE.oe (jv.row (by decide) rfl rfl rfl) (jv.row (by decide) rfl rfl rfl)) .nil) (by rintro _ ⟨x,-,rfl⟩;rfl) ?_;rintro _ ⟨b,hb,rfl⟩))|refine dM eZ 9 [0,1,2,3,4,5,6,7,8,9,10,11,12,13] [1,2,3] bZ fun R hR=>?_|refine mV eZ 0 4 9 ?_ ?_ ?_|refine bT eZ 4 9 ?_ ?_|refine bT eZ 0 9 ?_ ?_|refine bT eZ 0 4 ?_ ?_|refine bT eZ 5 9 ?_ ?_|refine dC eZ 4 ?_|refine dC eZ 0 ?_|refine dR eZ [6,7,8,9,10,11] ?_|refine dR eZ [5,6,7,8,10,11] ?_|refine dR eZ [6,7,8,10,11] ?_|(refine hR _ _ ?_;refine sA ?_)|refine wA eZ ?_|fail))<;>(first|omega|((try simp only [hw2]);refine a7 (j+1,n ++ [_],n.length+1,_) ⟨by show j+1≤_;omega,by simp,by simp;omega,fun x hx=>?_⟩;rcases List.mem_append.1 hx with hx|hx;exact hnq x hx;rw [List.mem_singleton.1 hx];exact hgs _)|(exact ⟨(default,_),i9.def h0,Lt.t2 (a6.oe ⟨trivial,cB⟩ ⟨trivial,cB⟩) a6.int⟩)|(exact ⟨(⟨p,m,n⟩,_),hck,Lt.t2 (a6.oe (gY.row rfl rfl rfl) (gY.row rfl rfl rfl)) a6.int⟩)|rfl)
theorem Lt.sl {B:List aI} {x y:aK} (h:x=y):Lt B (.agg x.c) (.agg y.c):=by subst h;exact Lt.agg (eU.obj (cs:=x.c) (fun s B=>by rw [aK.fk]) (fun s B=>by rw [aK.fz]))
theorem xB (s:aG) (x:aK) (files new:List Int) (hs:s.ah.length≤1000000000) (hf:files.length≤1000000) (hl:files.length≤new.length) (hn:new.length≤1000000) (hx:x.aU=1→x.bn∈files):EC prog 221 [.agg s.c,.agg x.c,bG 1 (aS .u64) default files,bG 1 (aS .u64) default new] [] fun r N=>N=[]∧∃y:aK,It x new y∧r= .agg y.c:=by
 refine EC.bh ?_;refine nW ab (ca 221) func221 ntmps221 results221 ?_;have hdf:∀{B:List aI},∃y:aK,It x new y∧Lt B (.agg (default:aK).c) (.agg y.c):=⟨default,.inl rfl,Lt.sl rfl⟩;(repeat' (first|with_reducible (first|intro _|apply And.intro)|refine eK ab ?_|refine EC.use (qf s _ _ hs) ?_|((refine EC.aM (oQ files _ hf) ?_;rintro k hk))|fail))<;>(first|(exact hdf)|(have h1:x.aU=1:=(by grind);rcases hk with ⟨-,hk⟩|⟨j,hj,hkj,-⟩;exact absurd (hx h1) hk;subst hkj;first|omega|(exact ⟨_,.inr (.inr ⟨h1,j,by omega,rfl⟩),Lt.sl rfl⟩))|(have h1:x.aU≠1:=(by grind);exact ⟨x,.inr (.inl ⟨rfl,h1⟩),Lt.sl rfl⟩)|(show False;first|(simp_all;done)|grind))
end
section
attribute [local irreducible] EC EV gW cc cK dT dA cC iQ qF
attribute [local push_cast] eO dG iX l5 j7 l6
theorem jH (o:af) (ho:mh o):EC prog 239 [.agg o.c] [] fun r N=>N=[]∧∃c:Bool,((o.aU=2→c=iQ o)∧(o.aU=4→c=qF o))∧r= .bool c:=by
 refine EC.bh ?_;refine nW ab (ca 239) func239 ntmps239 results239 ?_;(repeat' (first|with_reducible (first|intro _|apply And.intro)|refine eK ab ?_|refine EC.use (cH o ho.s ho.p) ?_|refine EC.use (jr o ho.s) ?_|refine EC.use (jq o ho.s) ?_|refine EC.use (lM o) ?_|refine EC.use (jl o ho.s) ?_|refine EC.use (gr o ho.s) ?_|refine EC.use (eH o ho.s) ?_|refine EC.use (jk o) ?_|refine EC.use (jj o) ?_|(refine EC.aM (lL o ho.s.2.2.2.2.2.2.1 ho.s.2.2.2.2.2.2.2) ?_;rintro _ _)|fail))<;>((refine ⟨_,⟨fun h=>?_,fun h=>?_⟩,Lt.bool rfl⟩<;>first|rfl|(exfalso;simp_all;done)|(simp_all;done)))
def CW (p:aC) (o:af):Bool:=p.aH.all fun s=>!(s.aU == 1 && s.bn == o.ID && s.Target !=o.Target)
theorem CV {p:aC} {o:af} {i:Nat} (hi:i < p.aH.length) (h:((p.aH.getD i default).aU == 1 && (p.aH.getD i default).bn == o.ID && (p.aH.getD i default).Target !=o.Target)=true):CW p o=false:=by
 unfold CW;rw [List.all_eq_false];exact ⟨_,bk hi,by rw [h];decide⟩
theorem Fi {p:aC} {o:af} (h:∀j,j < p.aH.length→((p.aH.getD j default).aU == 1 && (p.aH.getD j default).bn == o.ID && (p.aH.getD j default).Target !=o.Target)=false):CW p o=true:=by
 unfold CW;rw [all_eq_true];intro s hs;obtain ⟨j,hj,rfl⟩:=List.mem_iff_getElem.1 hs;have:=h j hj;simp only [getD,hj,List.getElem?_eq_getElem,Option.getD_some] at this;rw [this];rfl
theorem vY (p:aC) (o:af) (hp:p.aH.length≤1000000):EC prog 240 [.agg p.c,.agg o.c] [] fun r N=>N=[]∧r= .bool (CW p o):=by
 refine EC.cQ ?_;refine nW ab (ca 240) func240 ntmps240 results240 ?_;(repeat' (with_reducible intro _));refine bV ab [2,3] 5 p.aH.length (fun i=>∀j,j < i→((p.aH.getD j default).aU == 1 && (p.aH.getD j default).bn == o.ID && (p.aH.getD j default).Target !=o.Target)=false) (fun j hj=>absurd hj (Nat.not_lt_zero j)) (by omega) ?_;intro i hI hi hw;simp only [hw,push_cast,simprocAttr];(repeat' (with_reducible (first|intro _|apply And.intro)))<;>(first|(refine Lt.bool (CV (i:=i) (by omega) ?_).symm;first|assumption|(simp_all;done)|grind)|(refine Lt.bool (Fi fun j hj=>hI j ?_).symm;(have hz:=‹decide ((i:Int) < _)=false›;simp at hz;omega))|omega|skip)
 all_goals
  (try simp only [hw]);refine cO fun j hj=>?_;rcases lt_or_ge j i with h|h
  ·exact hI j h
  ·obtain rfl:j=i:=by omega
   first|assumption|(simp_all;done)|grind
structure LD (c:ax):Prop where
 pr:gW c.ae=true
 st:c.ae.ae.State=1
 pl:c.aQ.length=(cC c.ae.ae.aQ).length
 fl:c.dt.length=(dA c.ae.ae.aH).length
 pg:∀j,j < c.aQ.length→iQ (c.aQ.getD j default)=true∧(c.aQ.getD j default).aU=2∧(c.aQ.getD j default).ID=(cC c.ae.ae.aQ).getD j default
 fi:∀j,j < c.dt.length→(qF (c.dt.getD j default)=true∧(c.dt.getD j default).aU=4∧(c.dt.getD j default).ID=(dA c.ae.ae.aH).getD j default)∧CW c.ae.ae (c.dt.getD j default)=true
theorem n3 {Q:af→Prop} (c:ax) (hc:i9 Q c) (hQ:∀o,Q o→mh o):EC prog 179 [.agg c.c] [] fun r N=>N=[]∧∃b:Bool,(b=true↔LD c)∧r= .bool b:=by
 refine EC.bh ?_;refine nW ab (ca 179) func179 ntmps179 results179 ?_;have hp:=hQ _ hc.p;have hno:∀{B:List aI},¬LD c→∃b:Bool,(b=true↔LD c)∧Lt B (.bool false) (.bool b):=fun hn=>⟨false,⟨fun h=>(nomatch h),fun h=>absurd h hn⟩,Lt.bool rfl⟩;(repeat' (first|with_reducible (first|intro _|apply And.intro)|refine eK ab ?_|refine EC.use (cH _ hp.s hp.p) ?_|refine EC.use (dp _ hp.s.1.2.2.2.1) ?_|refine EC.use (ji _ hp.s.1.2.2.2.2) ?_|refine dN ab [] [] [0,1,2,4,5,3,6,7,8] bZ fun R hR=>?_|refine dR ab [6,7,8] ?_|refine dR ab [7,8] ?_|(refine hR _ _ ?_;refine sA ?_)|refine wA ab ?_|fail))<;>(first|(refine hno fun hx=>?_;(have e1:=hx.pr;have e2:=hx.st;have e3:=hx.pl;have e4:=hx.fl);(simp_all;done))|(show (_:Bool)=true;first|(simp_all;done)|grind)|skip);have hz1:=‹(!gW c.ae || c.ae.ae.State !=1)=false›;have hz2:c.aQ.length=(cC c.ae.ae.aQ).length∧c.dt.length=(dA c.ae.ae.aH).length:=by grind
 have hpl:=hc.pl;have hfl:=hc.fl;refine bV ab [1,3,4,5] 6 (cC c.ae.ae.aQ).length (fun i=>∀j,j < i→iQ (c.aQ.getD j default)=true∧(c.aQ.getD j default).aU=2∧(c.aQ.getD j default).ID=(cC c.ae.ae.aQ).getD j default) (fun j hj=>absurd hj (Nat.not_lt_zero j)) (by omega) ?_;intro i hI hi hw;have hmem:i < c.aQ.length→mh (c.aQ.getD i default):=fun h=>hQ _ (hc.pq _ (bk h));simp only [hw,push_cast,simprocAttr];(repeat' (first|with_reducible (first|intro _|apply And.intro)|((refine EC.aM (jH _ (hmem (by omega))) ?_;rintro bv ⟨hbv,-⟩))|refine dN ab [] [] [0,1,2,3,4,5,6,7,8,9,10,11,12,13,14,15,16] bZ fun R hR=>?_|refine dR ab [2,3,4,5,6,7,8,9,10,11,12,13,14,15,16] ?_|(refine hR _ _ ?_;refine sA ?_)|refine wA ab ?_|fail))<;>(first|(refine hno fun hx=>?_;(obtain ⟨e1,e2,e3⟩:=hx.pg i (by omega));(have hb2:=hbv e2);(simp_all;done))|omega|(show (_:Bool)=true;first|(simp_all;done)|grind)|skip)
 ·(try simp only [hw]);have hz:=‹(!bv || _ || _)=false›;refine cO fun j hj=>?_;rcases lt_or_ge j i with h|h
  ·exact hI j h
  ·obtain rfl:j=i:=by omega
   simp only [Bool.or_eq_false_iff,bne_eq_false_iff_eq,Bool.not_eq_false'] at hz;exact ⟨(hbv hz.1.2).symm.trans hz.1.1,hz.1.2,hz.2⟩
 have hpk:∀j,j < c.aQ.length→iQ (c.aQ.getD j default)=true∧(c.aQ.getD j default).aU=2∧(c.aQ.getD j default).ID=(cC c.ae.ae.aQ).getD j default:=fun j hj=>by
  have hz:=‹decide ((i:Int) < _)=false›;exact hI j (by simp at hz;omega)
 refine bV ab [1,3,5] 8 (dA c.ae.ae.aH).length (fun i=>∀j,j < i→(qF (c.dt.getD j default)=true∧(c.dt.getD j default).aU=4∧(c.dt.getD j default).ID=(dA c.ae.ae.aH).getD j default)∧CW c.ae.ae (c.dt.getD j default)=true) (fun j hj=>absurd hj (Nat.not_lt_zero j)) (by omega) ?_;intro k hK hk hw2;have hmem2:k < c.dt.length→mh (c.dt.getD k default):=fun h=>hQ _ (hc.fq _ (bk h));simp only [hw2,push_cast,simprocAttr];(repeat' (first|with_reducible (first|intro _|apply And.intro)|((refine EC.aM (jH _ (hmem2 (by omega))) ?_;rintro bv ⟨-,hbv⟩))|refine EC.use (vY _ _ hp.s.1.2.2.2.2) ?_|refine dN ab [] [] [0,1,2,3,4,5,6,7,8,9,10,11,12,13,14,15,16,17,18,19,20,21,22,23] bZ fun R hR=>?_|refine dR ab [2,3,4,5,6,7,8,9,10,11,12,13,14,15,16,17,18,19,20,21,22,23] ?_|refine dR ab [22,23] ?_|(refine hR _ _ ?_;refine sA ?_)|refine wA ab ?_|fail))<;>(first|(refine hno fun hx=>?_;(obtain ⟨⟨e1,e2,e3⟩,e4⟩:=hx.fi k (by omega));(have hb2:=hbv e2);(simp_all;done))|omega|(show (_:Bool)=true;first|(simp_all;done)|grind)|(show False;first|(simp_all;done)|grind)|skip)
 ·(try simp only [hw2]);have hz:=‹(!bv || _ || _ || _)=false›;refine cO fun j hj=>?_;rcases lt_or_ge j k with h|h
  ·exact hK j h
  ·obtain rfl:j=k:=by omega
   simp only [Bool.or_eq_false_iff,bne_eq_false_iff_eq,Bool.not_eq_false'] at hz;exact ⟨⟨(hbv hz.1.1.2).symm.trans hz.1.1.1,hz.1.1.2,hz.1.2⟩,hz.2⟩
 ·refine ⟨true,⟨fun _=>⟨by grind,by grind,hz2.1,hz2.2,hpk,fun j hj=>?_⟩,fun _=>rfl⟩,Lt.bool rfl⟩;have hz:=‹decide ((k:Int) < _)=false›;exact hK j (by simp at hz;omega)
theorem n0 {Q:af→Prop} (c:ax) (hc:i9 Q c) (hQ:∀o,Q o→mh o):EC prog 162 [.agg c.c] [] fun r N=>N=[]∧∃n:Int,((LD c→n=((1+c.aQ.length+c.dt.length:Nat):Int))∧(¬LD c→n=0))∧r= .int .i64 n:=by
 have hp:=hc.pl;have hf:=hc.fl;refine EC.bh ?_;refine nW ab (ca 162) func162 ntmps162 results162 ?_;(repeat' (first|(with_reducible intro hh;first|subst hh|(revert hh;intro _))|with_reducible apply And.intro|refine eK ab ?_|((refine EC.aM (n3 c hc hQ) ?_;rintro b hb))|fail))<;>(first|(exact ⟨0,⟨fun hx=>(by have:=hb.2 hx;simp_all),fun _=>rfl⟩,Lt.int rfl⟩)|skip);have h1:IntKind.i64.wrap (1+(c.aQ.length:Int))=1+(c.aQ.length:Int):=bu (by omega);have h2:IntKind.i64.wrap (1+(c.aQ.length:Int)+(c.dt.length:Int))=1+(c.aQ.length:Int)+(c.dt.length:Int):=bu (by omega);rw [h1,h2];exact ⟨_,⟨fun _=>rfl,fun hn=>absurd (hb.1 (by simpa using ‹(!b)=false›)) hn⟩,Lt.int rfl⟩
end
section
theorem jv.part {α:Type} {m:Nat} {B:List aI} {i e n E:Nat} {h:aN} {xs:List (List SV)} {cells:α→List SV} {d:α} {l:List α} (hm:m≤i) (hB:au B i= .row h E e xs) (hx:xs=l.map cells) (hn:n≤l.length):jv m B (.row i h e 0 n) (bG e cells d (l.take n)):=by
 subst hx;have hsel:bc m i=true:=by simpa [bc] using hm
 refine ⟨?_,?_⟩
 ·simp [cf,hsel,hB,hn]
 ·simp only [gl,hsel,hB];have e:n=(l.take n).length:=by simp;omega
  conv=>lhs;rw [e]
  refine bq.sl (fun h=>h) (.inr rfl) fun k hk=>?_;simp only [List.length_take] at hk;have h1:k < n:=by omega
  have h2:k < l.length:=by omega
  simp [getD,h1,h2,cA]
def pY (s t:aG):Nat:=(t.ah.filter (mG s)).length
theorem Hd {s:aG} (h:ij s):pY s s=0:=by
 unfold pY;rw [List.length_eq_zero_iff,List.filter_eq_nil_iff];intro o ho;have:cc s o.ID=(o,true):=by
  unfold cc
  cases hf:s.ah.find? (fun y=>y.ID == o.ID) with
  |none=>exact absurd (by simp) (List.find?_eq_none.1 hf o ho)
  |some y=>
   have hy:=List.mem_of_find?_eq_some hf;have he:y.ID=o.ID:=by simpa using List.find?_some hf
   have:y=o:=by
    obtain ⟨i,hi,rfl⟩:=List.mem_iff_getElem.1 hy;obtain ⟨j,hj,rfl⟩:=List.mem_iff_getElem.1 ho;have hn:=h;unfold ij at hn;rw [List.nodup_iff_pairwise_ne,List.pairwise_iff_getElem] at hn;rcases Nat.lt_trichotomy i j with hlt|rfl|hlt
    ·have:=hn i j (by simpa using hi) (by simpa using hj) hlt;simp at this;exact absurd he this
    ·rfl
    ·have:=hn j i (by simpa using hj) (by simpa using hi) hlt;simp at this;exact absurd he.symm this
   rw [this]
 unfold mG;simp [this]
theorem AA {s t:aG} {o:af}:pY s (cK t o).1≤pY s t+1:=by
 unfold pY cK
 split
 ·exact zero_le _
 show ((mr t.ah o).filter (mG s)).length≤_;unfold mr
 split
 ·generalize t.ah.findIdx (fun y=>y.ID == o.ID)=k;generalize t.ah=l;by_cases hk:k < l.length
  ·rw [List.set_eq_take_append_cons_drop,if_pos hk];have hl:l=l.take k ++ l[k] :: l.drop (k+1):=by simp
   have e1:(l.filter (mG s)).length=(l.take k |>.filter (mG s)).length+((l[k] :: l.drop (k+1)).filter (mG s)).length:=by conv=>lhs;rw [hl,List.filter_append,List.length_append]
   rw [List.filter_append,List.length_append,e1];have e2:((o :: l.drop (k+1)).filter (mG s)).length≤((l.drop (k+1)).filter (mG s)).length+1:=by rw [filter_cons];split<;>simp
   have e3:((l.drop (k+1)).filter (mG s)).length≤((l[k] :: l.drop (k+1)).filter (mG s)).length:=by rw [filter_cons];split<;>simp
   omega
  ·rw [List.set_eq_of_length_le (by omega)];omega
 ·have hp:(t.ah.takeWhile (fun y=>decide (y.ID < o.ID)) ++ o :: t.ah.dropWhile (fun y=>decide (y.ID < o.ID))).Perm (o :: t.ah):=by
   refine List.perm_middle.trans ?_;rw [List.takeWhile_append_dropWhile]
  rw [(hp.filter _).length_eq,filter_cons]
  split<;>simp
theorem sf {l:List Int} {lo m:Nat} {x:Int} (h:x∈eE default l lo m):∃k,k < m∧x=l.getD (lo+k) default:=by
 obtain ⟨k,hk,rfl⟩:=List.mem_map.1 h;exact ⟨k,List.mem_range.1 hk,rfl⟩
theorem GM {l:List Int} (h:l.Nodup) {i j:Nat} (hi:i < l.length) (hj:j < l.length) (hij:i < j):l.getD i default≠l.getD j default:=by
 rw [List.nodup_iff_pairwise_ne,List.pairwise_iff_getElem] at h;simpa [getD,hi,hj] using h i j hi hj hij
theorem Ff {l:List Int} {k:Nat} (h:k < l.length):(map (aS .i64) l).getD k []=[SV.int .i64 (l.getD k 0)]:=by simp [getD,h,aS]
theorem Fe {l:List aK} {k:Nat} (h:k < l.length):(map aK.c l).getD k []=(l.getD k default).c:=by simp [getD,h]
theorem jv.QP {α:Type} {m e:Nat} {B:List aI} {cells:α→List SV} {d:α}:jv m B (.sl true 0 0 fun _=>[]) (bG e cells d []):=⟨trivial,cB⟩
attribute [local irreducible] EC EV gW cc cK dT dA cC dw pY
attribute [local push_cast] Gu P9 KZ eO dG eu gS length_range bM
structure Rv (I D:Int→Prop) (N:Nat) (s:aG) (ids:List Int) (x:aG):Prop where
 ex:∃D':Int→Prop,kY D D' ids∧(∀y,D' y→I y∨y∈ids)∧ja (fun y=>I y∨y∈ids) D' x
 ln:x.ah.length≤N+64
 ct:ij s→pY s x≤64
 ne:1≤ids.length
theorem xD {I D:Int→Prop} {N:Nat} (s:aG) (c:ax) (ids:List Int) (h0:I 0) (hs:ja I D s) (hsl:s.ah.length≤N) (hN:N≤800000000) (hc:i9 (cG I D) c) (hni:iR I ids) (hd:∀x,D x→I x):EC prog 163 [.agg s.c,.agg c.c,bG 1 (aS .u64) default ids] [] fun r N'=>N'=[]∧∃x:aG×Int,(x.2=0→Rv I D N s ids x.1)∧r= .bS [.agg x.1.c,.int .i64 x.2]:=by
 have hQ:∀o,cG I D o→mh o:=fun o ho=>ho.sp;have hil:=hni.ln;have hbad:∀{B:List aI} {e:Int},e≠0→∃x:aG×Int,(x.2=0→Rv I D N s ids x.1)∧Lt B (.bS [.agg (default:aG).c,.int .i64 e]) (.bS [.agg x.1.c,.int .i64 x.2]):=fun {B e} he=>⟨(default,e),fun h=>absurd h he,Lt.t2 (a6.agg (eU.pl rfl)) a6.int⟩;have hHas:∀(i:Nat) (x:Int),i≤ids.length→EC prog 114 [SV.sl false 1 i (cA (aS IntKind.u64) default (eE default ids 0 i)),.int .u64 x] [] fun r B=>B=[]∧r= .bool (decide (x∈eE default ids 0 i)):=fun i x hil2=>by
  have:=ec (eE default ids 0 i) x (by rw [bM];omega);rw [show bG 1 (aS .u64) default (eE default ids 0 i)=SV.sl false 1 i (cA (aS IntKind.u64) default (eE default ids 0 i)) by show SV.sl false 1 (eE default ids 0 i).length _=_;rw [bM];rfl] at this;exact this
 refine EC.bh ?_;refine EC.iU ab (ca 163) func163 rfl (by simp [ntmps163]) ?_;simp only [ntmps163,results163,fL]
 iterate 4
  (refine bR ab ?_
   generalize hK:i6 prog _ _ _=K0;refine sA ?_;(repeat' (first|(with_reducible intro hh;first|subst hh|(revert hh;intro _))|with_reducible apply And.intro|refine eK ab ?_|((refine EC.aM (n3 c hc hQ) ?_;rintro b hb))|((refine EC.aM (n0 c hc hQ) ?_;rintro n ⟨hn1,-⟩))|fail))<;>(first|(subst hK;simp only [gz,push_cast,simprocAttr];exact hbad (by decide))|skip)
   all_goals try (subst hK;rw [dc]))
 have hck:LD c:=hb.1 (by simpa using ‹(!b)=false›);obtain ⟨m,rfl,hm⟩:∃m:Nat,n=(m:Int)∧m=1+c.aQ.length+c.dt.length:=⟨_,hn1 hck,rfl⟩;have hge:m≤ids.length:=by have:=‹decide (_ < ((m:Nat):Int))=false›;simp at this;omega
 have hpl:=hc.pl;have hfl:=hc.fl;refine bR ab ?_;generalize hK:i6 prog _ _ _=K0;refine sA ?_;(repeat' (done));refine aT ab [2,3,4,6,8] (fun i:Nat=>[(9,.int .i64 i)]) (fun B _=>B) (fun i=>i≤m) (fun i=>m - i) 0 (zero_le _) ?_;intro i hi;replace hi:i≤m:=hi;have hw:=wI i;simp only [hw,push_cast,simprocAttr];(repeat' (with_reducible (first|intro _|apply And.intro)))
 ·refine kz (σ:=Unit) [2,3,4,6,8,9] (fun _=>[(11,.bool (cc s (ids.getD i default)).2)]) (fun B _=>[au B 0,au B 1,au B 2]) (fun _=>True) ?_ ?_;rotate_left 1
  ·refine bN ab ?_;refine sA ?_;(repeat' (first|with_reducible (first|intro _|apply And.intro)|refine EC.use (cL s _ (by omega)) ?_|refine dM ab 9 [0,1,2,3,4,5,6,7,8,9,10,11,12,13] [1,2,3] bZ fun R hR=>?_|refine mV ab 0 4 9 ?_ ?_ ?_|refine bT ab 4 9 ?_ ?_|refine bT ab 0 9 ?_ ?_|refine bT ab 0 4 ?_ ?_|refine bT ab 5 9 ?_ ?_|refine dC ab 4 ?_|refine dC ab 0 ?_|refine dR ab [6,7,8,9,10,11] ?_|refine dR ab [5,6,7,8,10,11] ?_|refine dR ab [6,7,8,10,11] ?_|(refine hR _ _ ?_;refine sA ?_)|fail))<;>(first|(exact du 3 () trivial ⟨So,So,So,trivial⟩)|omega)
  rintro - -;simp only [bK,dd,au,getD_cons_zero,getD_cons_succ,push_cast,simprocAttr];refine bN ab ?_;refine sA ?_;(repeat' (first|with_reducible (first|intro _|apply And.intro)|refine EC.use (hHas _ _ (by omega)) ?_|refine dN ab [] [] [0,1,2,3,4,5,6,7,8,9,10,11,12,13,14,15,16,17] bZ fun R hR=>?_|refine dR ab [17] ?_|(refine hR _ _ ?_;refine sA ?_)|fail))<;>(first|omega|skip)
  all_goals first
   |(refine bN ab ?_
     refine sA ?_
     (repeat' (with_reducible (first|intro _|apply And.intro)))<;>(first|(subst hK;simp only [gz,nL,iO,push_cast,simprocAttr];exact hbad (by decide))|((try simp only [hw]);exact a7 (i+1) (by show i+1≤_;omega))))
   |(exfalso;simp_all;done)
 subst hK;rw [dc]
 iterate 1
  (refine bR ab ?_
   generalize hK:i6 prog _ _ _=K0;refine sA ?_;(repeat' (with_reducible intro _))<;>(skip)
   all_goals try (subst hK;rw [dc]))
 have hL:=rV.of hck.pr (by rw [hck.st];decide);have htb:=hL.tb;simp only [i7,Bool.and_eq_true,decide_eq_true_eq,all_eq_true] at htb;obtain ⟨⟨htb,htl⟩,-⟩:=htb;replace htl:c.ae.ae.aH.length≤16:=by omega
 have hpgl:=i_ (l:=c.ae.ae.aQ) (by rw [hL.sp];rfl);refine bR ab ?_;generalize hK:i6 prog _ _ _=K0;refine sA ?_;(repeat' (done));refine aT ab [2,3,4,6,8,12] (fun i:Nat=>[(13,.int .i64 i)]) (fun B _=>B) (fun i=>i≤c.ae.ae.aQ.length) (fun i=>c.ae.ae.aQ.length - i) 0 (zero_le _) ?_;intro i hi;replace hi:i≤c.ae.ae.aQ.length:=hi;have hw:=wI i;simp only [hw,push_cast,simprocAttr];(repeat' (first|with_reducible (first|intro _|apply And.intro)|refine EC.use (qf s _ _ (by omega)) ?_|refine dN ab [] [] [0,1,2,3,4,5,6,7,8,9,10,11,12,13,14,15,16] bZ fun R hR=>?_|refine dR ab [15,16] ?_|(refine hR _ _ ?_;refine sA ?_)|fail))<;>(first|omega|skip)
 all_goals first
  |(subst hK;rw [dc])
  |(refine bN ab ?_
    refine sA ?_
    (repeat' (with_reducible (first|intro _|apply And.intro)))<;>(first|(subst hK;simp only [gz,nL,iO,push_cast,simprocAttr];exact hbad (by decide))|((try simp only [hw]);exact a7 (i+1) (by show i+1≤_;omega))))
  |(exfalso;simp_all;done)
 have hw1:IntKind.i64.wrap (1+(c.aQ.length:Int))=((1+c.aQ.length:Nat):Int):=by rw [bu (by omega)];omega
 refine bR ab ?_;generalize hK:i6 prog _ _ _=K0;simp only [hw1,push_cast,simprocAttr];(repeat' (first|with_reducible apply And.intro|refine dN ab [] [] [0,1,2,3,4,5,6,7,8,9,10,11,12,13,14] bZ fun R hR=>?_|fail))<;>(first|omega|skip);refine hR _ _ ?_;subst hK;rw [dc];clear hR;have e1:(IntKind.i64.wrap (1+(c.aQ.length:Int))).toNat=1+c.aQ.length:=by rw [hw1];exact Int.toNat_natCast _
 have e2:1+c.aQ.length - 1=c.aQ.length:=by omega
 have e3:m - (1+c.aQ.length)=c.dt.length:=by omega
 simp only [e1,e2,e3];have hpgl2:=bM (d:=default) (l:=ids) (lo:=1) (m:=c.aQ.length);have hfsl2:=bM (d:=default) (l:=ids) (lo:=1+c.aQ.length) (m:=c.dt.length);have hpgm:∀x∈eE default ids 1 c.aQ.length,x∈ids:=fun x hx=>by obtain ⟨k,hk,rfl⟩:=sf hx;exact bk (by omega)
 have hfsm:∀x∈eE default ids (1+c.aQ.length) c.dt.length,x∈ids:=fun x hx=>by obtain ⟨k,hk,rfl⟩:=sf hx;exact bk (by omega)
 have hidn:ids.getD 0 default ∉ eE default ids (1+c.aQ.length) c.dt.length:=fun hx=>by
  obtain ⟨k,hk,he⟩:=sf hx;exact GM hni.nd (show 0 < ids.length by omega) (by omega) (show 0 < 1+c.aQ.length+k by omega) he
 generalize eE default ids 1 c.aQ.length=pg at *;generalize eE default ids (1+c.aQ.length) c.dt.length=fs at *;have q1:SV.sl false 1 c.aQ.length (cA (aS .u64) default pg)=SV.sl false 1 pg.length (cA (aS .u64) default pg):=by rw [hpgl2]
 have q2:SV.sl false 1 c.dt.length (cA (aS .u64) default fs)=SV.sl false 1 fs.length (cA (aS .u64) default fs):=by rw [hfsl2]
 simp only [q1,q2]
 iterate 3
  (refine bR ab ?_
   generalize hK:i6 prog _ _ _=K0;refine sA ?_;(repeat' (first|with_reducible (first|intro _|apply And.intro)|refine eK ab ?_|refine EC.use (ji _ (by omega)) ?_|fail))<;>(first|omega|skip)
   all_goals try (subst hK;rw [dc]))
 have hfn:∀d∈fs,d≠0:=fun d hd=>hni.nz d (hfsm d hd);have hfl2:(dA c.ae.ae.aH).length≤fs.length:=by rw [hfsl2,hck.fl];exact le_refl _
 refine bR ab ?_;generalize hK:i6 prog _ _ _=K0;refine sA ?_;(repeat' (done));refine cw 17 298 4 rfl ?_;intro hh0;rw [show replicate fs.length [SV.int IntKind.i64 0]=(replicate fs.length (0:Int)).map (aS .i64) by simp [aS]];refine aT ab [2,3,4,6,12,14,15,16,18] (fun s:Nat×List aK×Nat×aN×List Int=>[(19,.int .i64 s.1),(17,.row 5 s.2.2.2.1 4 0 s.2.2.1)]) (fun B s=>cW (cP B 4 (s.2.2.2.2.map (aS .i64))) 5 s.2.2.2.1 (s.2.1.map aK.c)) (fun s=>s.1≤c.ae.ae.aH.length∧s.2.2.1=s.2.1.length∧s.2.1.length=s.1∧DK c.ae.ae.aH fs s.2.1∧s.2.2.2.2.length=fs.length) (fun s=>c.ae.ae.aH.length - s.1) (0,[],0,hh0,replicate fs.length 0) ⟨zero_le _,rfl,rfl,DK.nil,by simp⟩ ?_;rintro ⟨j,tb,km,hr,rf⟩ ⟨hj,hk,hml,hkt,hrf⟩;replace hj:j≤c.ae.ae.aH.length:=hj;obtain rfl:km=tb.length:=hk;replace hml:tb.length=j:=hml;replace hkt:DK c.ae.ae.aH fs tb:=hkt;replace hrf:rf.length=fs.length:=hrf;have hw2:IntKind.i64.wrap ((j:Int)+1)=((j+1:Nat):Int):=by rw [bu (by omega)];omega
 simp only [hw2,push_cast,simprocAttr];(repeat' (with_reducible (first|intro _|apply And.intro)))
 ·refine kz (σ:=aK×aN) [2,3,4,6,12,14,15,16,17,18,19] (fun s=>[(20,.bx 6 s.2 4 0 0)]) (fun B s=>[au B 0,au B 1,au B 2,au B 3,au B 4,au B 5,.row s.2 298 4 [s.1.c]]) (fun s=>It (c.ae.ae.aH.getD j default) fs s.1) ?_ ?_;rotate_left 1
  ·refine bN ab ?_;refine sA ?_;(repeat' (first|with_reducible (first|intro _|apply And.intro)|((refine EC.aM (xB s (c.ae.ae.aH.getD j default) (dA c.ae.ae.aH) fs (by omega) (by omega) hfl2 (by omega) (fun hk=>CY (bk (by omega)) hk)) ?_;rintro y hy))|refine dM ab 3 [] [0,1,2,3,4,5,6,7] bZ fun R hR=>?_|refine bT ab 8 9 ?_ ?_|refine dR ab [9,10] ?_|refine dR ab [8,10] ?_|refine dR ab [10] ?_|(refine hR _ _ ?_;refine sA ?_)|fail))<;>(first|(exact du 7 (y,_) hy ⟨So,So,So,So,So,So,So,trivial⟩)|omega)
  rintro ⟨y,hy5⟩ hy;replace hy:It (c.ae.ae.aH.getD j default) fs y:=hy;simp only [bK,dd,au,getD_cons_zero,getD_cons_succ,push_cast,simprocAttr];refine bN ab ?_;refine sA ?_;(repeat' (first|with_reducible (first|intro _|apply And.intro)|refine eK ab ?_|((refine EC.aM (oQ fs _ (by omega)) ?_;rintro kx hkx;obtain ⟨k,hk1,rfl⟩:∃k:Nat,k < fs.length∧kx=(k:Int):=(by rcases hkx with ⟨-,hkx⟩|⟨k,hk1,hk2,-⟩;exact absurd (hy.desc (by simpa using ‹(y.aU == 1)=true›)) hkx;exact ⟨k,hk1,hk2⟩);have hgk:=Ff (l:=rf) (k:=k) (by omega)))|fail))<;>(first|omega|skip)
  all_goals try simp only [hgk,push_cast,simprocAttr]
  all_goals first
   |omega
   |((try simp only [hw2]);refine a7 (j+1,tb ++ [_],tb.length+1,_,_) ⟨by show j+1≤_;omega,by simp,by simp;omega,hkt.snoc hy (htb _ (bk (by omega))) hfn (by omega),?_⟩;first|exact hrf|(simp [hrf];done))
 subst hK;rw [dc];refine dy (σ:=Nat) [2,3,4,6,12,14,15,18] (fun k=>[(17,.row 5 hr 4 0 k)]) (fun B _=>[au B 0,au B 1,au B 2,au B 3,au B 4,au B 5]) (fun k=>k≤tb.length∧(k=0∨(tb.getD (k - 1) default).aU≠0)) ?_ ?_;rotate_left 1
 ·refine bN ab ?_;refine sA ?_;(repeat' (done));refine aT ab [2,3,4,6,12,14,15,18] (fun k:Nat=>[(17,.row 5 hr 4 0 k)]) (fun B _=>B) (fun k=>k≤tb.length) (fun k=>k) tb.length (le_refl _) ?_;intro k hk;replace hk:k≤tb.length:=hk;rcases k with _|k
  ·refine sA ?_;(repeat' (done))<;>((exact du 6 0 ⟨zero_le _,.inl rfl⟩ ⟨So,So,So,So,So,So,trivial⟩))
  ·have hw3:IntKind.i64.wrap ((k:Int)+1 - 1)=(k:Int):=by rw [bu (by omega)];omega
   have hd3:decide (0 < (k:Int)+1)=true:=decide_eq_true (by omega);have hgl:=Fe (l:=tb) (k:=k) (by omega);simp only [hw3,hd3,push_cast,simprocAttr];(repeat' (with_reducible (first|intro _|apply And.intro)))<;>(first|omega|skip)
   all_goals try simp only [hw3,hd3,hgl,Int.toNat_natCast,push_cast,simprocAttr]
   all_goals try omega
   ·first|exact a7 k (by show k≤_;omega)|(simp only [hw3];exact a7 k (by show k≤_;omega))
   ·rename_i hx;simp only [hgl,push_cast,simprocAttr] at hx;exact du 6 (k+1) ⟨hk,.inr (by simpa using hx)⟩ ⟨So,So,So,So,So,So,trivial⟩
 rintro k ⟨hk,hkz⟩;simp only [bK,dd,au,getD_cons_zero,getD_cons_succ,push_cast,simprocAttr];refine dy (σ:=Unit) [2,3,4,6,12,14,15] (fun _=>[(18,bG 1 (aS .i64) default rf)]) (fun B _=>(cP B 3 [({c.ae.ae with dg:=0,aZ:=[],aH:=tb.take k,cy:=b6 .or .i64 c.ae.ae.cy 1073741824}:aC).c]).take 4) (fun _=>True) ?_ ?_;rotate_left 1
 ·refine bN ab ?_;refine sA ?_;(repeat' (done))<;>(skip);refine du 4 () trivial ⟨So,So,So,⟨by decide,wY.EI rfl (by rw [cd,cd,cd,aC.len];decide) ((((gw.obj (cs:=({c.ae.ae with dg:=0}:aC).c) (fun s B=>by rw [aC.fk]) (fun s B=>by rw [aC.fz])).put 2 (jv.QP (cells:=aS .u64) (d:=default) (e:=1)) rfl).put 16 (jv.part (l:=tb) (by decide) rfl rfl hk) rfl).put 17 jv.int rfl)⟩,trivial⟩ ?_;refine And.intro ?_ ?_
  ·simp only [dd,push_cast,simprocAttr];exact Pb.row (by decide) rfl rfl hrf.symm
  ·(repeat (first|exact trivial|refine And.intro (by first|(refine And.intro trivial ?_;first|exact bq.refl _|(simp only [dd,push_cast,simprocAttr];exact bq.refl _))|(simp only [dd,push_cast,simprocAttr];exact jv.low (by decide))|(simp [dd,dE,fu,fw,iT,cf,gl,bc,bq.refl];done)|fail) ?_))
 rintro - -;simp only [bK,dd,au,cP,jA,List.take_succ_cons,List.take_zero,getD_cons_zero,getD_cons_succ,push_cast,simprocAttr]
 (refine bR ab ?_
  generalize hK:i6 prog _ _ _=K0;refine sA ?_;(repeat' (first|refine eK ab ?_|refine EC.use (mZ _ _ (by omega) (by omega)) ?_|fail))<;>(skip)
  all_goals try (subst hK;rw [dc]))
 have hkt2:=hkt.take k;have htz:(tb.take k).length=0∨((tb.take k).getD ((tb.take k).length - 1) default).aU≠0:=by
  rcases hkz with rfl|hkz
  ·exact .inl (by simp)
  ·by_cases h0:k=0
   ·subst h0;exact .inl (by simp)
   ·refine .inr ?_;have e1:(tb.take k).length=k:=by simp;omega
    rw [e1];have e2:(tb.take k).getD (k - 1) default=tb.getD (k - 1) default:=by simp [getD,show k - 1 < k by omega]
    rw [e2];exact hkz
 have hid0:ids.getD 0 default∈ids:=bk (by omega);have hob:=Ln (pg:=[]) h0 hc.p hL hck.st hni hid0 hidn hd hpgm hkt2 htz;generalize hP2:QU c.ae.ae (tb.take k) (dw c.ae.ae.aQ pg).1=P2 at hob;have hDf:∀x,D x→(D x∨x∈fs):=fun x hx=> .inl hx;have hIj:∀x,I x→(I x∨x∈ids):=fun x hx=> .inl hx;have hDn:∀x,(D x∨x∈fs)→D x∨¬I x:=fun x hx=>hx.elim .inl fun h=> .inr (hni.nf x (hfsm x h));have hs2:ja (fun y=>I y∨y∈ids) (fun y=>D y∨y∈fs) s:=fun o ho=>(hs o ho).up hIj hDf hDn;have hst0:=hs2.put hob;have hsl0:=iG s (HF (ids.getD 0 default) P2);have hct0:ij s→pY s (cK s (HF (ids.getD 0 default) P2)).1≤1:=fun hn=>by have:=AA (s:=s) (t:=s) (o:=HF (ids.getD 0 default) P2);rw [Hd hn] at this;exact this
 simp only [show ({c.ae.ae with dg:=0,aZ:=[],aH:=tb.take k,cy:=b6 .or .i64 c.ae.ae.cy 1073741824,aQ:=(dw c.ae.ae.aQ pg).1}:aC)=P2 from hP2];refine dy (σ:=aN) [4,6,14,15,18] (fun h=>[(21,.bx 4 h 1 0 0)]) (fun B h=>[au B 0,au B 1,au B 2,au B 3,.row h 26 1 [(cK s (HF (ids.getD 0 default) P2)).1.c]]) (fun _=>True) ?_ ?_;rotate_left 1
 ·refine bN ab ?_;refine sA ?_;(repeat' (first|with_reducible (first|intro _|apply And.intro)|refine EC.use (ee s (HF (ids.getD 0 default) P2) (by omega)) ?_|refine dM ab 7 [] [0,1,2,3,4,5] bZ fun R hR=>?_|refine bT ab 6 10 ?_ ?_|refine dR ab [7,8,9,10,11,12] ?_|refine dR ab [6,7,8,9,11,12] ?_|refine dR ab [7,8,9,11,12] ?_|(refine hR _ _ ?_;refine sA ?_)|fail))<;>(first|(exact du 5 _ trivial ⟨So,So,So,So,So,trivial⟩)|omega)
 rintro h21 -;simp only [bK,dd,au,getD_cons_zero,getD_cons_succ,push_cast,simprocAttr];generalize (cK s (HF (ids.getD 0 default) P2)).1=st0 at hst0 hsl0 hct0;have hpi:∀i,i < c.aQ.length→∀id r,id∈ids→cG (fun y=>I y∨y∈ids) (fun y=>D y∨y∈fs) {c.aQ.getD i default with ID:=id,Refs:=r}:=fun i hi id r hid=>(hc.pq _ (bk hi)).NH hIj (by rw [(hck.pg i hi).2.1];decide) (.inr hid);have hfi:∀i,i < c.dt.length→∀id r,id∈ids→cG (fun y=>I y∨y∈ids) (fun y=>D y∨y∈fs) {c.dt.getD i default with ID:=id,Refs:=r}:=fun i hi id r hid=>(hc.fq _ (bk hi)).NH hIj (by rw [(hck.fi i hi).1.2.1];decide) (.inr hid);refine bR ab ?_;generalize hK:i6 prog _ _ _=K0;refine sA ?_;(repeat' (done));refine aT ab [4,6,14,15,18,21] (fun x:Nat×aG=>[(23,.int .i64 x.1)]) (fun B x=>cP B 4 [x.2.c]) (fun x=>x.1≤c.aQ.length∧ja (fun y=>I y∨y∈ids) (fun y=>D y∨y∈fs) x.2∧x.2.ah.length≤s.ah.length+1+x.1∧(ij s→pY s x.2≤1+x.1)) (fun x=>c.aQ.length - x.1) (0,st0) ⟨zero_le _,hst0,hsl0,hct0⟩ ?_;rintro ⟨i,st⟩ ⟨hi,hst,hsl2,hct⟩;replace hi:i≤c.aQ.length:=hi;replace hst:ja (fun y=>I y∨y∈ids) (fun y=>D y∨y∈fs) st:=hst;replace hsl2:st.ah.length≤s.ah.length+1+i:=hsl2;replace hct:ij s→pY s st≤1+i:=hct;have hw:=wI i;have hnx:∀o,cG (fun y=>I y∨y∈ids) (fun y=>D y∨y∈fs) o→ja (fun y=>I y∨y∈ids) (fun y=>D y∨y∈fs) (cK st o).1∧(cK st o).1.ah.length≤s.ah.length+1+(i+1)∧(ij s→pY s (cK st o).1≤1+(i+1)):=fun o ho=>⟨hst.put ho,by have:=iG st o;omega,fun hn=>by have:=AA (s:=s) (t:=st) (o:=o);have:=hct hn;omega⟩;simp only [hw,push_cast,simprocAttr];(repeat' (first|with_reducible (first|intro _|apply And.intro)|refine eK ab ?_|refine EC.use (ee st _ (by omega)) ?_|fail))<;>(first|omega|((try simp only [hw]);exact a7 (i+1,(cK st {c.aQ.getD i default with ID:=pg.getD i default,Refs:=(c.aQ.getD i default).Refs}).1) ⟨by show i+1≤_;omega,hnx _ (hpi i (by omega) _ _ (hpgm _ (bk (by omega))))⟩)|skip);subst hK;rw [dc];refine bN ab ?_;refine sA ?_;(repeat' (done));have hie:i=c.aQ.length:=by have:=‹decide ((i:Int) < _)=false›;simp at this;omega
 subst hie;refine aT ab [4,6,15,18,21] (fun x:Nat×aG=>[(25,.int .i64 x.1)]) (fun B x=>cP B 4 [x.2.c]) (fun x=>x.1≤c.dt.length∧ja (fun y=>I y∨y∈ids) (fun y=>D y∨y∈fs) x.2∧x.2.ah.length≤s.ah.length+1+c.aQ.length+x.1∧(ij s→pY s x.2≤1+c.aQ.length+x.1)) (fun x=>c.dt.length - x.1) (0,st) ⟨zero_le _,hst,hsl2,hct⟩ ?_;clear hnx hw hsl2 hct hst;rintro ⟨i,st⟩ ⟨hi,hst,hsl2,hct⟩;replace hi:i≤c.dt.length:=hi;replace hst:ja (fun y=>I y∨y∈ids) (fun y=>D y∨y∈fs) st:=hst;replace hsl2:st.ah.length≤s.ah.length+1+c.aQ.length+i:=hsl2;replace hct:ij s→pY s st≤1+c.aQ.length+i:=hct;have hw:=wI i;have hnx:∀o,cG (fun y=>I y∨y∈ids) (fun y=>D y∨y∈fs) o→ja (fun y=>I y∨y∈ids) (fun y=>D y∨y∈fs) (cK st o).1∧(cK st o).1.ah.length≤s.ah.length+1+c.aQ.length+(i+1)∧(ij s→pY s (cK st o).1≤1+c.aQ.length+(i+1)):=fun o ho=>⟨hst.put ho,by have:=iG st o;omega,fun hn=>by have:=AA (s:=s) (t:=st) (o:=o);have:=hct hn;omega⟩;have hn0:ja (fun y=>I y∨y∈ids) (fun y=>D y∨y∈fs) st∧st.ah.length≤s.ah.length+1+c.aQ.length+(i+1)∧(ij s→pY s st≤1+c.aQ.length+(i+1)):=⟨hst,by omega,fun hn=>by have:=hct hn;omega⟩;simp only [hw,push_cast,simprocAttr];(repeat' (first|with_reducible (first|intro _|apply And.intro)|refine dN ab [] [5] [0,1,2,3,4,5,6,7,8,9,10,11] bZ fun R hR=>?_|(refine hR _ _ ?_;refine sA ?_)|fail))<;>(first|omega|(exact ⟨(st,0),fun _=>⟨⟨_,⟨hDf,fun x hx=>hx.elim .inl fun h=> .inr (hfsm x h)⟩,fun y hy=>hy.elim (fun h=> .inl (hd y h)) fun h=> .inr (hfsm y h),hst⟩,by show st.ah.length≤_;omega,fun hn=>by have:=hct hn;show pY s st≤64;omega,by omega⟩,Lt.t2 (a6.agg (eU.obj (cs:=st.c) (fun s B=>by rw [aG.fk]) (fun s B=>by rw [aG.fz]))) a6.int⟩)|skip);refine bN ab ?_;refine sA ?_;(repeat' (first|with_reducible (first|intro _|apply And.intro)|refine eK ab ?_|refine EC.use (ee st _ (by omega)) ?_|fail))<;>(first|omega|((try simp only [hw]);first|exact a7 (i+1,(cK st {c.dt.getD i default with ID:=fs.getD i default,Refs:=rf.getD i default}).1) ⟨by show i+1≤_;omega,hnx _ (hfi i (by omega) _ _ (hfsm _ (bk (by omega))))⟩|exact a7 (i+1,st) ⟨by show i+1≤_;omega,hn0⟩))
end
section
attribute [local irreducible] EC EV gW cc cK dT
attribute [local push_cast] CK Dz oa ov
theorem En {α:Type} [Inhabited α] {l:List α} {k:Nat}:l.set k (l.getD k default)=l:=by
 by_cases h:k < l.length
 ·rw [show l.getD k default=l[k] by simp [getD,h],List.set_getElem_self]
 ·exact List.set_eq_of_length_le (by omega)
theorem Cg {c:ao} {k:Nat}:AK c k (c.aq.getD k default).bD=c:=by
 unfold AK;rw [show ({c.aq.getD k default with bD:=(c.aq.getD k default).bD}:aj)=c.aq.getD k default from rfl,En]
section
variable {I D:Int→Prop} {N P S:Nat} (c:ao) (k:Nat)
theorem rE {N':Nat} {a:aL} (s:aj) (l:List aA) (h:gL I D N P S (AK c k a)) (hk:k < c.aq.length) (hS:S≤1000) (hN:N≤N') (hs:jB (cG I D) N' s) (ha:s.bD=a) (hl:dU (cG I D) 10000000000 l):
  EC prog 125 [.agg c.c,.int .i64 k,.agg s.c,bG 45 aA.c default l] [] fun r N=>N=[]∧∃y:ao,Kg I D N' P S c k s y∧r= .agg y.c:=by
 have hln:c.aq.length≤S:=by have:=h.ln;simpa [AK] using this
 refine (xj (Q:=cG I D) c k s l hk (by omega) h.nt hl.ln hl.q).mono ?_;rintro r N ⟨h1,n,hn,h2⟩;refine ⟨h1,_,?_,h2⟩;have hw:=Kg.of (k:=k) (s:=s) h (by simpa [AK] using hk) hN hs (by rw [ha];simp [AK,getD,hk]) hn;have e:({AK c k a with aq:=(AK c k a).aq.set k s,bQ:=n}:ao)={c with aq:=c.aq.set k s,bQ:=n}:=by simp [AK,List.set_set]
 rw [e] at hw;exact ⟨⟨hw.ok,length_set ..⟩,rfl,hw.at_⟩
theorem jf {N':Nat} (s:aj) (l:List aA) (h:gL I D N P S c) (hk:k < c.aq.length) (hS:S≤1000) (hN:N≤N') (hs:gd (cG I D) N' (c.aq.getD k default) s) (hl:dU (cG I D) 10000000000 l):
  EC prog 125 [.agg c.c,.int .i64 k,.agg s.c,bG 45 aA.c default l] [] fun r N=>N=[]∧∃y:ao,Kg I D N' P S c k s y∧r= .agg y.c:=
 rE c k s l (by rw [Cg];exact h) hk hS hN hs.ok hs.al hl
theorem BN {N':Nat} (s:aj) (h:gL I D N P S c) (hk:k < c.aq.length) (hS:S≤1000) (hN:N≤N') (hs:gd (cG I D) N' (c.aq.getD k default) s):
  EC prog 125 [.agg c.c,.int .i64 k,.agg s.c,.sl true 0 0 fun _=>[]] [] fun r N=>N=[]∧∃y:ao,Kg I D N' P S c k s y∧r= .agg y.c:=
 EC.args (.cons (bq.refl _) (.cons (bq.refl _) (.cons (bq.refl _) (.cons (cB (e:=45) (cells:=aA.c) (d:=default)) .nil)))) (jf c k s [] h hk hS hN hs dU.nil)
theorem Lt.cl {B:List aI} {x y:ao} (h:x=y):Lt B (.agg x.c) (.agg y.c):=by subst h;exact Lt.agg (eU.obj (cs:=x.c) (fun s B=>by rw [ao.fk]) (fun s B=>by rw [ao.fz]))
theorem xq (a b:aG) (h:gL I D N P S c) (hk:k < c.aq.length) (hS:S≤1000) (hN:N+1000000≤800000000) (hP:P+1000000≤800000000) (ha:a.ah.length≤1000000) (hb:b.ah.length≤1000000) (haq:ja I D a) (hbq:ja I D b):
  EC prog 135 [.agg c.c,.int .i64 k,.agg a.c,.agg b.c] [] fun r N'=>N'=[]∧∃y:ao,m4 I D (N+b.ah.length) (P+b.ah.length) S c y∧r= .agg y.c:=by
 refine EC.bh ?_;refine nW ab (ca 135) func135 ntmps135 results135 ?_;(repeat' (first|with_reducible intro _|refine eK ab ?_|((refine EC.aM (jT a b (by omega) (by omega) (fun o ho=>(haq o ho).sp) (fun o ho=>(hbq o ho).sp) h.d0.sp) ?_;rintro ⟨pt,gn⟩ ⟨⟨hpl,hpm⟩,hgl,-⟩))|fail));replace hpl:pt.length≤b.ah.length:=hpl;replace hpm:∀o∈pt,o∈b.ah:=hpm;refine aT ab [1,4,6,8,9] (fun s:Nat×ao=>[(11,.int .i64 s.1)]) (fun B s=>cP B 0 [s.2.c]) (fun s=>s.1≤pt.length∧m4 I D (N+s.1) (P+s.1) S c s.2) (fun s=>pt.length - s.1) (0,c) ⟨zero_le _,m4.refl h⟩ ?_;rintro ⟨i,y⟩ ⟨hi,hy⟩;replace hi:i≤pt.length:=hi;replace hy:m4 I D (N+i) (P+i) S c y:=hy;have hyk:k < y.aq.length:=by rw [hy.ln];exact hk
 have hyh:=(hy.ok.at hyk).hl;have hyl:=hy.ok.ln;have hw:=wI i;have hnx:m4 I D (N+(i+1)) (P+(i+1)) S c y:=hy.mono (by omega) (by omega) (le_refl _);simp only [hw,push_cast,simprocAttr];(repeat' (first|with_reducible (first|intro _|apply And.intro)|refine EC.use (cL a _ (by omega)) ?_|((refine EC.aM (my (y.aq.getD k default) _ (by omega)) ?_;rintro m hm))|((refine EC.aM (BN y k {y.aq.getD k default with cT:=m} hy.ok hyk hS (le_succ _) (((gd.refl (hy.ok.at hyk)).mono (le_succ _)).host (by omega))) ?_;rintro z hz;have hzk:k < z.aq.length:=(by rw [hz.ln];exact hyk);have hzp:=hz.ok.pl))|((refine EC.aM (kH z.aY _ _ (by omega)) ?_;rintro pl hpl2))|refine dM ab 9 [0,1,2,3,4,5,6,7,8,9,10,11,12,13] [1,2,3,4] bZ fun R hR=>?_|refine dN ab [14] [] [0,1,2,3,4,5,6,7,8,9,10,11,12,13,14] bZ fun R hR=>?_|refine dN ab [16] [] [0,1,2,3,4,5,6,7,8,9,10,11,12,13,14,15,16] bZ fun R hR=>?_|refine mV ab 0 5 10 ?_ ?_ ?_|refine bT ab 5 10 ?_ ?_|refine bT ab 0 10 ?_ ?_|refine bT ab 0 5 ?_ ?_|refine bT ab 6 10 ?_ ?_|refine dC ab 5 ?_|refine dC ab 0 ?_|refine dR ab [7,8,9,10,11,12] ?_|refine dR ab [6,7,8,9,11,12] ?_|refine dR ab [7,8,9,11,12] ?_|refine dR ab [13,14] ?_|refine dR ab [14] ?_|refine dR ab [15,16] ?_|(refine hR _ _ ?_;refine sA ?_)|refine wA ab ?_|fail))<;>(first|omega|((try simp only [hw]);exact a7 (i+1,y) ⟨by show i+1≤_;omega,hnx⟩)|((try simp only [hw]);exact a7 (i+1,{z with aY:={z.aY with cz:=pl}}) ⟨by show i+1≤_;omega,⟨(hz.ok.zp (by omega)).mono (by omega) (le_refl _) (le_refl _),hz.ln.trans hy.ln⟩⟩)|(exact ⟨y,hy.mono (by omega) (by omega) (le_refl _),Lt.cl rfl⟩))
theorem AH {c:ao} {s:aj} (h:LH c s=true):s.ea=c.aY.ea∧s.aD.bW∈c.aY.bL:=by
 simpa [LH] using h
theorem nS (a:aL) (id:Int) (l:List af) (h:gL I D N P S (AK c k a)) (hk:k < c.aq.length) (hb:LH c (c.aq.getD k default)=true) (hS:S≤1000) (hN:N+1000000≤800000000) (hP:P+1000000≤800000000) (hl:l.length≤900000) (hq:∀o∈l,cG I D o):
  EC prog 150 [.agg c.c,.int .i64 k,.agg a.c,.int .u64 id,bG 36 af.c default l] [] fun r N'=>N'=[]∧∃y:ao,(gL I D (N+2*l.length+1) (P+1) S y∧y.aq.length=c.aq.length)∧r= .agg y.c:=by
 obtain ⟨hb1,hb2⟩:=AH hb;have h0:=h.d0;have hst:jB (cG I D) N {c.aq.getD k default with bD:=a}:=by
  have:=h.at (k:=k) (by simpa [AK] using hk);simpa [AK,getD,hk] using this
 have hvn:=h.nl.1;have hvs:=h.sl;have hvq:=h.sq;refine EC.bh ?_;refine nW ab (ca 150) func150 ntmps150 results150 ?_;(repeat' (with_reducible (first|intro _|apply And.intro)))<;>(first|omega|skip);generalize c.aq.getD k default=s0 at hb1 hb2 hst;refine aT ab [1,3,4,5,10,11] (fun s:Nat×aj=>[(12,.int .i64 s.1)]) (fun B s=>cP B 3 [s.2.c]) (fun s=>s.1≤l.length∧gd (cG I D) (N+s.1) {s0 with bD:=a} s.2) (fun s=>l.length - s.1) (0,{s0 with bD:=a}) ⟨zero_le _,gd.refl hst⟩ ?_;rintro ⟨i,s⟩ ⟨hi,hs⟩;replace hi:i≤l.length:=hi;replace hs:gd (cG I D) (N+i) {s0 with bD:=a} s:=hs;have hst:=hs.ok.tl;have hsh:=hs.ok.hl;have hw:=wI i;have hmem:i < l.length→cG I D (l.getD i default):=fun h=>hq _ (bk h);simp only [hw,push_cast,simprocAttr];(repeat' (first|with_reducible (first|intro _|apply And.intro)|((refine EC.aM (mB s.aD (by omega) hs.ok.tq h0 (l.getD i default) (hmem (by omega))) ?_;rintro ⟨t,e⟩ ht))|refine dM ab 9 [0,1,2,3,4,5,6,7,8,9,10,11,12,13] [0,2,3,4] bZ fun R hR=>?_|refine mV ab 1 5 10 ?_ ?_ ?_|refine bT ab 5 10 ?_ ?_|refine bT ab 1 10 ?_ ?_|refine bT ab 1 5 ?_ ?_|refine bT ab 6 10 ?_ ?_|refine dC ab 5 ?_|refine dC ab 1 ?_|refine dR ab [7,8,9,10,11,12] ?_|refine dR ab [6,7,8,9,11,12] ?_|refine dR ab [7,8,9,11,12] ?_|(refine hR _ _ ?_;refine sA ?_)|refine wA ab ?_|fail))<;>(first|omega|((try simp only [hw]);first|(have he:e=0:=(by simpa using ‹(e == 0)=true›);exact a7 (i+1,{s with aD:=t}) ⟨by show i+1≤_;omega,hs.tk (ht.1 he)⟩)|(exact a7 (i+1,s) ⟨by show i+1≤_;omega,hs.mono (le_succ _)⟩))|skip);have hsv:s.ea=c.aY.ea:=hs.vw.trans hb1;have hsn:s.aD.bW∈c.aY.bL:=by rw [hs.nd];exact hb2
 (repeat' (first|refine eK ab ?_|((refine EC.aM (my s _ (by omega)) ?_;rintro m hm))|((refine EC.args (.cons (bq.refl _) (.cons (bq.refl _) (.cons (bq.refl _) (.cons (cB (e:=45) (cells:=aA.c) (d:=default)) .nil)))) ?_;refine EC.aM (rE (N':=N+2*l.length+1) c k {s with cT:=m} [] h hk hS (by omega) (((hs.mono (show N+i≤N+2*l.length+1 by omega)).host (by show m.length≤_;omega)).ok) hs.al dU.nil) ?_;rintro y hy;have hyv:=hy.vt;have hyn:=hy.ok.nl.1;have hys:=hy.ok.sl;have hys2:2*y.aY.bz.ah.length≤N:=(by rw [hyv];exact hvs)))|((refine EC.aM (iv (Q:=cG I D) y.aY _ _ default ⟨l⟩ (by omega) (by omega) hy.ok.sq (zero_le _) (by show l.length≤_;omega) (fun o ho=>(nomatch ho)) hq h0 (fun o ho=>ho.sp)) ?_;rintro ⟨w,e⟩ hw2;obtain ⟨s2,hs2⟩:=hw2.st (hw2.ok (by rw [hyv];exact hsv) (by rw [hyv];exact hsn));have hwl:=hw2.ln;have hwq:=hw2.q;have hwn:=hw2.nd hy.ok.nd;simp only at hs2 hwl hwq hwn;subst hs2))|((have hyp:=hy.ok.pl;refine EC.aM (kH _ _ _ (by show y.aY.cz.length≤_;omega)) ?_;rintro pl hpl2;replace hpl2:pl.length≤y.aY.cz.length+1:=hpl2))|refine dN ab [6] [] [0,1,2,3,4,5,6] bZ fun R hR=>?_|refine dR ab [5,6] ?_|refine dR ab [6] ?_|(refine hR _ _ ?_;refine sA ?_)|refine wA ab ?_|fail))<;>((exact ⟨{y with aY:={y.aY with bz:=s2,cz:=pl}},⟨(hy.ok.store (s:=s2) (le_refl _) hwq (by have:=hwl;have:=hys2;simp only at *;omega) hwn).zp (by omega),hy.ln⟩,Lt.cl rfl⟩))
end
end
section
attribute [local irreducible] EC EV gW cc cK dT dQ
attribute [local push_cast] CK Dz oa ov Gt
def od (N P S:Nat) (c y:ao):Prop:=∃I D:Int→Prop,m4 I D N P S c y
theorem m4.ex {I D:Int→Prop} {N P S N' P' S':Nat} {c y:ao} (h:m4 I D N P S c y) (h1:N≤N') (h2:P≤P') (h3:S≤S'):od N' P' S' c y:=⟨I,D,h.mono h1 h2 h3⟩
theorem f_ (a:aL) (n:Int) (hi:-9223372036854775808≤n∧n≤9223372036854775807):EC prog 68 [.agg a.c,.int .i64 n] [] fun r N=>N=[]∧∃x:List Int×aL×Int,x=dQ a n∧r=Gt x:=
 (wB a n hi).mono fun r N ⟨h1,h2⟩=>⟨h1,_,rfl,h2⟩
theorem rb {a a2:aL} {n e:Int} {ids:List Int} (h:(ids,a2,e)=dQ a n) (he:e=0):ER a∧(0≤n∧n≤64)∧a.bP+n≤1099511627775∧ids=ik a n.toNat∧a2={a with bP:=a.bP+n}:=by
 obtain ⟨h1,h2,h3,h4⟩:=GN (a:=a) (n:=n) (by rw [←h];exact he);rw [h4] at h;simp only [Prod.mk.injEq] at h;exact ⟨h1,h2,h3,h.1,h.2.1⟩
section
variable {I D:Int→Prop} {N P S:Nat} (c:ao) (h:gL I D N P S c) (hS:S≤1000) (hN:N+1000000≤800000000) (hP:P+1000000≤800000000)
include h hS hN hP
theorem gL.all {k:Nat} (hk:k < c.aq.length) {a a2:aL} {n e:Int} {ids:List Int} {D':Int→Prop} (ha:a=(c.aq.getD k default).bD) (hx:(ids,a2,e)=dQ a n) (he:e=0) (hd:kY D D' ids) (hdj:∀y,D' y→I y∨y∈ids):
  gL (fun y=>I y∨y∈ids) D' N P S (AK c k a2)∧iR I ids∧(ids.length:Int)=n∧∀o,cG I D o→cG (fun y=>I y∨y∈ids) D' o:=by
 have _:=hS;have _:=hN;have _:=hP;subst ha;obtain ⟨h1,h2,h3,rfl,rfl⟩:=rb hx he;have e:(fun y=>I y∨y∈ik (c.aq.getD k default).bD n.toNat)=jt I (ik (c.aq.getD k default).bD n.toNat) n:=by
  funext y
  unfold jt;rw [List.take_of_length_le (by rw [kb];exact le_refl _)]
 have hg:=h.grow (D':=D') hk n.toNat h2.1 h3 (by omega) (by omega) hd (fun y hy=>by have:=hdj y hy;rw [←e];exact this);rw [←e] at hg;exact ⟨hg.1,h.al.new (h.O7 hk) n.toNat (by omega) (by omega),by rw [kb];omega,hg.2⟩
theorem xl (p:Int):EC prog 94 [.agg c.c,.int .u64 p] [] fun r N'=>N'=[]∧∃x:ao×aB,od N P S c x.1∧r= .bS [.agg x.1.c,.agg x.2.c]:=by
 have _:=hS;have _:=hP;have hsl:=h.sl;refine EC.bh ?_;refine nW ab (ca 94) func94 ntmps94 results94 ?_;(repeat' (first|with_reducible (first|intro _|apply And.intro)|refine eK ab ?_|((refine EC.aM (xC (Q:=cG I D) c.aY.bz p (by omega) h.sq h.d0 (fun o ho=>ho.sp)) ?_;rintro ⟨x,e⟩ hx))|((refine EC.aM (cE _) ?_;rintro hh -))|((refine EC.aM (xz (Q:=cG I D) c.aY x h.kl h.kq hx (fun o ho=>ho.sp)) ?_;rintro m ⟨hm1,hm2⟩))|refine dM ab 4 [0,1,2,3,4,5,6,7,8,9,10,11,12,13] [1] bZ fun R hR=>?_|refine dM ab 5 [0,1,2,3,4,5,6,7,8,9,10,11,12,13] [1] bZ fun R hR=>?_|refine bT ab 0 2 ?_ ?_|refine dR ab [2,3,4] ?_|refine dR ab [3,4] ?_|refine dC ab 0 ?_|refine bT ab 2 4 ?_ ?_|refine dP ab 3 [3] ?_|refine dR ab [3,4,5] ?_|refine dC ab 2 ?_|refine dR ab [4,5] ?_|refine dR ab [3,5] ?_|(refine hR _ _ ?_;refine sA ?_)|refine wA ab ?_|fail))<;>(first|(exact ⟨(_,_),(m4.refl h).ex (le_refl _) (le_refl _) (le_refl _),Lt.t2 (a6.cl rfl) (a6.hp rfl)⟩)|(exact ⟨(_,_),m4.ex ⟨h.saved hm1 hm2,rfl⟩ (le_refl _) (le_refl _) (le_refl _),Lt.t2 (a6.cl rfl) (a6.hp rfl)⟩))
theorem xn (p to:Int):EC prog 89 [.agg c.c,.int .u64 p,.int .i64 to] [] fun r N'=>N'=[]∧∃x:ao×aB,od N (P+1) S c x.1∧r= .bS [.agg x.1.c,.agg x.2.c]:=by
 have hpl:=h.pl;have hnl:=h.nl.1;have hln:=h.ln;refine EC.bh ?_;refine nW ab (ca 89) func89 ntmps89 results89 ?_;(repeat' (first|(with_reducible intro hh;first|subst hh|(revert hh;intro _))|with_reducible apply And.intro|refine eK ab ?_|((refine EC.aM (lG c.aY p (by omega)) ?_;rintro ⟨node,ok1⟩ -))|((refine EC.aM (cE _) ?_;rintro hh -))|refine EC.use (d7 c.aY.bL _ (by omega)) ?_|((refine EC.aM (gF c node (by omega) (by omega)) ?_;rintro ⟨k,hp,ok⟩ hk))|((have hkk:=(hk (by simpa using ‹(!ok)=false›));refine EC.aM (qc (Q:=cG I D) (N:=N) (c.aq.getD k default) c.aY.bL (h.at hkk.1) (by omega) (by omega) h.d0 p to) ?_;rintro ⟨s,l⟩ ⟨hs,hl⟩))|((have hkk:=(hk (by simpa using ‹(!ok)=false›));refine EC.aM (jf c k s l h hkk.1 hS (le_refl _) hs (hl.mono (by omega))) ?_;rintro y hy;have hyp:=hy.ok.pl))|((refine EC.aM (kH y.aY p to (by omega)) ?_;rintro pl hpl2))|refine dN ab [2,3] [] [0,1,2,3] bZ fun R hR=>?_|refine dM ab 4 [0,1,2,3,4,5,6,7,8,9,10,11,12,13] [] bZ fun R hR=>?_|refine dM ab 11 [0,1,2,3,4,5,6,7,8,9,10,11,12,13] [0,2,5,6,7,8] bZ fun R hR=>?_|refine dR ab [2,3] ?_|refine bT ab 0 1 ?_ ?_|refine bT ab 1 2 ?_ ?_|refine dC ab 0 ?_|refine dC ab 1 ?_|refine dR ab [3] ?_|refine mV ab 1 9 14 ?_ ?_ ?_|refine dP ab 8 [3,4] ?_|refine bT ab 9 14 ?_ ?_|refine bT ab 1 14 ?_ ?_|refine bT ab 1 9 ?_ ?_|refine bT ab 10 14 ?_ ?_|refine dC ab 9 ?_|refine dP ab 7 [3,4] ?_|refine dR ab [11,12,13,14,15,16] ?_|refine dR ab [10,11,12,13,15,16] ?_|refine dR ab [11,12,13,15,16] ?_|refine dR ab [3,4,10,11,12,13,15,16] ?_|(refine hR _ _ ?_;refine sA ?_)|refine wA ab ?_|fail))<;>(first|(exact ⟨(_,_),(m4.refl h).ex (le_refl _) (le_succ _) (le_refl _),Lt.t2 (a6.cl rfl) (a6.hp rfl)⟩)|(have hkk:=(hk (by simpa using ‹(!ok)=false›));have:=hkk.1;omega)|skip)
 all_goals exact ⟨(_,_),m4.ex ⟨hy.ok.zp (l:=pl) (P':=P+1) (by omega),hy.ln⟩ (le_refl _) (le_refl _) (le_refl _),Lt.t2 (a6.cl rfl) (a6.hp rfl)⟩
theorem vQ (node:Int) (p:aP) (hpc:p.Code.length≤1000000) (hps:p.Strings.length≤1000000):EC prog 88 [.agg c.c,.int .i64 node,.agg p.c] [] fun r N'=>N'=[]∧∃x:ao×aB,od (N+131) (P+1) S c x.1∧r= .bS [.agg x.1.c,.agg x.2.c]:=by
 have hnl:=h.nl.1;have hln:=h.ln;have hmx:0≤re 0 p.aQ:=by unfold re;split<;>omega
 refine EC.bh ?_;refine nW ab (ca 88) func88 ntmps88 results88 ?_;(repeat' (first|(with_reducible intro hh;first|subst hh|(revert hh;intro _))|with_reducible apply And.intro|refine eK ab ?_|((refine EC.aM (cE _) ?_;rintro hh -))|((refine EC.aM (gF c node (by omega) (by omega)) ?_;rintro ⟨k,hp,ok⟩ hk))|((have hpg:=‹decide ((1073741824:Int) < _)=false›;have hw1:IntKind.i64.wrap (1+re 0 p.aQ)=1+re 0 p.aQ:=(by simp at hpg;rw [bu (by omega)]);refine EC.aM (f_ (c.aq.getD k default).bD _ (by rw [hw1];simp at hpg;omega)) ?_;rintro ⟨ids,a2,e⟩ hx;have hkk:=(hk (by simpa using ‹(!ok)=false›));simp only at hkk))|((have he:e=0:=(by simpa using ‹(e == 0)=true›);obtain ⟨hc2,hnew,hlen,hup⟩:=gL.all c h hS hN hP hkk.1 rfl hx he kY.refl (fun y hy=> .inl (h.di y hy));have hlen2:1≤ids.length:=(by rw [hw1] at hlen;omega);refine EC.aM (v7 (I:=I) (D:=D) (L:=0) default p ids h.z (fun o ho=>(nomatch ho)) (zero_le _) (by decide) hpc hps hnew h.di) ?_;rintro ⟨st,e2⟩ hst))|((have he2:e2=0:=(by simpa using ‹(e2 !=0)=false›);obtain ⟨hst1,hst2⟩:=hst he2;replace hst2:st.ah.length≤0+65:=hst2;refine EC.aM (nS c k a2 _ st.ah hc2 hkk.1 hkk.2.2 hS hN hP (by omega) hst1) ?_;rintro y ⟨hy1,hy2⟩))|refine dM ab 4 [0,1,2,3,4,5,6,7,8,9,10,11,12,13] [] bZ fun R hR=>?_|refine dM ab 4 [0,1,2,3,4,5,6,7,8,9,10,11,12,13] [1] bZ fun R hR=>?_|refine dN ab [9] [] [0,1,2,3,4,5,6,7,8,9] bZ fun R hR=>?_|refine bT ab 0 1 ?_ ?_|refine bT ab 1 2 ?_ ?_|refine dC ab 0 ?_|refine dR ab [2,3] ?_|refine dC ab 1 ?_|refine dR ab [3] ?_|refine bT ab 0 2 ?_ ?_|refine dR ab [2,3,4] ?_|refine dR ab [3,4] ?_|refine dR ab [9] ?_|(refine hR _ _ ?_;refine sA ?_)|fail))<;>(first|(have hkk:=(hk (by simpa using ‹(!ok)=false›));have:=hkk.1;omega)|(simp_all;done)|skip)
 all_goals
  (repeat' (first|with_reducible apply And.intro|refine dN ab [] [2,3] [0,1,2,3,4,5,6,7,8,9] bZ fun R hR=>?_|(refine hR _ _ ?_;refine sA ?_)|refine wA ab ?_|fail))<;>(first|(exact ⟨(_,_),(m4.refl h).ex (le_add_right _ _) (le_succ _) (le_refl _),Lt.t2 (a6.cl rfl) (a6.hp rfl)⟩)|omega|(exact ⟨(y,_),m4.ex ⟨hy1,hy2⟩ (by omega) (le_refl _) (le_refl _),Lt.t2 (a6.cl rfl) (a6.hp rfl)⟩))
end
end
section
attribute [local irreducible] EC EV gW cc cK dT dQ
attribute [local push_cast] CK Dz oa ov Gt eO dG eu gS length_range bM
theorem Eh {α:Type} (d:α) {l:List α} {k:Nat} (h:k≤l.length):eE d l 0 k=l.take k:=by
 apply List.ext_getElem
 ·simp [bM];omega
 ·intro i h1 h2;simp only [bM] at h1;simp [eE,getD,show i < l.length by omega]
attribute [local push_cast] RB Rz Rx Ry
section
variable {I D:Int→Prop} {N P S:Nat} (c:ao) (h:gL I D N P S c) (hS:S≤1000) (hN:N+1000000≤800000000) (hP:P+1000000≤800000000)
include h hS hN hP
theorem gL.sub {k:Nat} {n:aR} (hn:gT (cG I D) n):gL I D N P S {c with aq:=c.aq.take k ++ c.aq.drop (k+1),bQ:=n}:=by
 have _:=hS;have _:=hN;have _:=hP;have hs:(c.aq.take k ++ c.aq.drop (k+1)).Sublist c.aq:=by
  conv=>rhs;rw [←List.take_append_drop k c.aq]
  refine List.Sublist.append (List.Sublist.refl _) ?_;rw [←List.drop_drop];exact List.drop_sublist _ _
 exact ⟨h.z,h.di,h.sq,h.sl,h.nl,h.pl,h.bo,h.bl,h.kl,h.kq,le_trans hs.length_le h.ln,fun s hm=>h.st s (hs.subset hm),hn,h.al.sub (hs.map _),h.nd⟩
theorem xt (node:Int):EC prog 91 [.agg c.c,.int .i64 node] [] fun r N'=>N'=[]∧∃x:ao×aB,(∃I D:Int→Prop,gL I D N P S x.1)∧r= .bS [.agg x.1.c,.agg x.2.c]:=by
 have hln:=h.ln;refine EC.bh ?_;refine nW ab (ca 91) func91 ntmps91 results91 ?_;(repeat' (first|with_reducible (first|intro _|apply And.intro)|refine eK ab ?_|((refine EC.aM (jR c node (by omega)) ?_;rintro x (rfl|⟨k,hk,rfl,hnd⟩)))|((refine EC.aM (cE _) ?_;rintro hh -))|((refine EC.aM (um (Q:=cG I D) c.bQ node h.nt) ?_;rintro nt hnt))|refine dN ab [2,3] [] [0,1,2,3] bZ fun R hR=>?_|refine dM ab 9 [0,1,2,3,4,5,6,7,8,9,10,11,12,13] [1,3,6,8,9] bZ fun R hR=>?_|refine dR ab [2,3] ?_|refine mV ab 0 2 7 ?_ ?_ ?_|refine bT ab 2 7 ?_ ?_|refine dP ab 7 [4] ?_|refine bT ab 0 7 ?_ ?_|refine dP ab 7 [10] ?_|refine bT ab 0 2 ?_ ?_|refine dP ab 6 [4] ?_|refine bT ab 5 7 ?_ ?_|refine dP ab 6 [10] ?_|refine dC ab 2 ?_|refine dR ab [10,0,5,11,12,13] ?_|refine dR ab [4,0,5,11,12,13] ?_|refine dC ab 7 ?_|refine dR ab [10,5,11,12,13] ?_|refine dR ab [4,5,11,12,13] ?_|refine dR ab [10,11,12,13] ?_|(refine hR _ _ ?_;refine sA ?_)|refine wA ab ?_|contradiction))<;>(first|(exact ⟨(_,_),⟨I,D,h⟩,Lt.t2 (a6.cl rfl) (a6.hp rfl)⟩)|omega|skip)
 all_goals
  have hwk:IntKind.i64.wrap ((k:Int)+1)=((k+1:Nat):Int):=by rw [bu (by omega)];omega
  rw [hwk]
  first
   |omega
   |(rw [Int.toNat_natCast];omega)
   |(rw [Int.toNat_natCast];refine ⟨({c with aq:=c.aq.take k ++ c.aq.drop (k+1),bQ:=nt},default),⟨I,D,gL.sub c h hS hN hP hnt⟩,Lt.t2 (a6.agg ((eU.obj (cs:=ao.c {c with bQ:=nt}) (fun s B=>by rw [ao.fk]) (fun s B=>by rw [ao.fz])).put 6 (gY.row (l:=c.aq.take k ++ c.aq.drop (k+1)) rfl (by rw [Eh _ (by omega),pw,←List.map_take,List.take_take,Nat.min_self,map_append]) (by simp;omega)) rfl)) (a6.hp rfl)⟩)
theorem gL.join {n t:Int} {bs:List cn} {k:Nat} (hb:OY c.aY.b_ n t bs) (hbl:bs.length≤c.aY.b_.length+1) (hn:0≤n∧n≤127):gL I D N P (S+1) {c with aY:={c.aY with b_:=bs},aq:=c.aq.take k ++ oB n t 0 :: c.aq.drop k}:=by
 have _:=hS;have _:=hN;have _:=hP;obtain ⟨ht1,ht2⟩:=hb.rg;have hA:(oB n t 0).bD=aL.mk n t 0:=by
  unfold oB oC;rw [if_neg (by simp;omega)];rfl
 have hm:∀s∈c.aq.take k ++ oB n t 0 :: c.aq.drop k,s=oB n t 0∨s∈c.aq:=fun s hs=>by
  simp only [List.mem_append,List.mem_cons] at hs;rcases hs with h|h|h
  ·exact .inr (List.mem_of_mem_take h)
  ·exact .inl h
  ·exact .inr (List.mem_of_mem_drop h)
 have ha:=h.al;rw [←List.take_append_drop k c.aq,map_append] at ha;refine ⟨h.z,h.di,h.sq,h.sl,h.nl,h.pl,hb.ok,by have:=h.bl;show bs.length≤_;omega,h.kl,h.kq,?_,fun s hs=>?_,h.nt,?_,h.nd⟩
 ·have:=h.ln;show (c.aq.take k ++ oB n t 0 :: c.aq.drop k).length≤_;simp;omega
 ·rcases hm s hs with rfl|hs
  ·exact ⟨zero_le _,fun x hx=>(nomatch hx),⟨zero_le _,fun x hx=>(nomatch hx)⟩,zero_le _,zero_le _,Int.le_refl _⟩
  ·exact h.st s hs
 ·show wW I bs ((c.aq.take k ++ oB n t 0 :: c.aq.drop k).map (·.bD));rw [map_append,List.map_cons,hA];exact ha.join hb hn
theorem xo (node:Int):EC prog 92 [.agg c.c,.int .i64 node] [] fun r N'=>N'=[]∧∃x:ao×aB,(∃I D:Int→Prop,gL I D N P (S+1) x.1)∧r= .bS [.agg x.1.c,.agg x.2.c]:=by
 have hln:=h.ln;have hbl:=h.bl;refine EC.bh ?_;refine nW ab (ca 92) func92 ntmps92 results92 ?_;(repeat' (first|with_reducible (first|intro _|apply And.intro)|refine eK ab ?_|((refine EC.aM (jR c node (by omega)) ?_;rintro x (rfl|⟨k,hk,rfl,hnd⟩)))|((refine EC.aM (cE _) ?_;rintro hh -))|((refine EC.aM (xA c.aY node (by omega) h.bo) ?_;rintro ⟨t,bs,e⟩ hb;by_cases he:e=0;rotate_left 1;(simp only [he,if_false]);rotate_left 1;(subst he;simp only [if_true])))|((refine EC.aM (z9 node t 0) ?_;rintro ⟨s,e2⟩ ⟨hs1,hs2⟩))|refine dN ab [2,3] [] [0,1,2,3] bZ fun R hR=>?_|refine dM ab 4 [0,1,2,3,4,5,6,7,8,9,10,11,12,13] [1] bZ fun R hR=>?_|refine dR ab [2,3] ?_|refine bT ab 0 2 ?_ ?_|refine dR ab [2,3,4] ?_|refine dR ab [3,4] ?_|refine dC ab 0 ?_|(refine hR _ _ ?_;refine sA ?_)|refine wA ab ?_|contradiction))<;>(first|(exact ⟨(_,_),⟨I,D,h.mono (le_refl _) (le_refl _) (le_succ _)⟩,Lt.t2 (a6.cl rfl) (a6.hp rfl)⟩)|(simp_all;done)|skip);have he2:e2=0:=by simpa using ‹(e2 !=0)=false›
 obtain ⟨hb1,hb2,hb3⟩:=hb rfl;replace hb1:OY c.aY.b_ node t bs:=hb1;replace hb3:bs.length≤c.aY.b_.length+1:=hb3;obtain rfl:s=oB node t 0:=(hs1 he2).1;refine cw 10 143 15 rfl ?_;intro hh;refine aT ab [1,2,4,5,9] (fun s:Nat×List (aj)×Nat×aN=>[(11,.int .i64 s.1),(10,.row 5 s.2.2.2 15 0 s.2.2.1)]) (fun B s=>cW B 5 s.2.2.2 (s.2.1.map aj.c)) (fun s=>s.1≤c.aq.length∧s.2.2.1=s.2.1.length∧(s.2.1=c.aq.take s.1)) (fun s=>c.aq.length - s.1) (0,[],0,hh) ⟨zero_le _,rfl,rfl⟩ ?_;rintro ⟨i,m,km,hr⟩ ⟨hi,hk,hI⟩;replace hi:i≤c.aq.length:=hi;obtain rfl:km=m.length:=hk;replace hI:m=c.aq.take i:=hI;have hw:=wI i;simp only [hw,push_cast,simprocAttr];have hml:m.length=i:=by rw [hI];simp;omega
 have hsn:i < c.aq.length→m ++ [c.aq.getD i default]=c.aq.take (i+1):=fun hlt=>by
  have e:c.aq.getD i default=c.aq[i]:=by simp [getD,hlt]
  rw [hI,e,List.take_succ_eq_append_getElem]
 (repeat' (first|with_reducible (first|intro _|apply And.intro)|refine dM ab 8 [0,1,2,3,4,5,6,7,8,9,10,11,12,13] [0,4,6,7] bZ fun R hR=>?_|refine bT ab 1 5 ?_ ?_|refine bT ab 2 5 ?_ ?_|refine dP ab 6 [8] ?_|refine dC ab 1 ?_|refine bT ab 3 5 ?_ ?_|refine dR ab [8,2,3,9,10,11] ?_|refine dR ab [2,3,9,10,11] ?_|refine dC ab 5 ?_|refine dR ab [8,3,9,10,11] ?_|refine dR ab [8,9,10,11] ?_|(refine hR _ _ ?_;refine sA ?_)|refine wA ab ?_|fail))<;>(first|(have hz:=‹(decide ((i:Int) < _) && _)=true›;simp only [Bool.and_eq_true,decide_eq_true_eq] at hz;(try simp only [hw]);exact a7 (i+1,m ++ [_],m.length+1,_) ⟨by show i+1≤_;omega,by simp,hsn (by omega)⟩)|omega|(simp_all;done)|skip)
 all_goals
  have hmm:m.map aj.c ++ [(oB node t 0).c]=(m ++ [oB node t 0]).map aj.c:=by simp
  first
   |(refine ⟨({c with aY:={c.aY with b_:=bs},aq:=c.aq.take i ++ oB node t 0 :: c.aq.drop i},default),⟨I,D,gL.join c h hS hN hP hb1 hb3 (by omega)⟩,Lt.t2 (a6.agg ((eU.obj (cs:=ao.c {c with aY:={c.aY with b_:=bs}}) (fun s B=>by rw [ao.fk]) (fun s B=>by rw [ao.fz])).put 6 (gY.row (l:=c.aq.take i ++ oB node t 0 :: c.aq.drop i) rfl (by rw [pw,hml,←hI];simp) (by simp;omega)) rfl)) (a6.hp rfl)⟩)
end
end
section
attribute [local irreducible] EC EV gW cc cK dT dQ
attribute [local push_cast] CK Dz oa ov Gt eO dG eu gS length_range bM
theorem xH {Q:af→Prop} (t:a9) (hl:t.aD.length≤1073741824) (hq:∀x∈t.aD,Q x.ba) (h0:Q default) (id:Int) (o:af) (ho:Q o):EC prog 148 [.agg t.c,.int .u64 id,.agg o.c] [] fun r N=>N=[]∧∃x:a9×Int,(x.1.aD.length≤t.aD.length+1∧∀y∈x.1.aD,Q y.ba)∧r= .bS [.agg x.1.c,.int .i64 x.2]:=
 (rJ t hl hq h0 id o ho).mono fun r N ⟨h1,x,h2,h3,h4⟩=>⟨h1,x,by
  by_cases e:x.2=0
  ·exact ⟨(h2 e).ln,(h2 e).q⟩
  ·rw [h3 e];exact ⟨zero_le _,fun y hy=>(nomatch hy)⟩,h4⟩
section
variable {I D:Int→Prop} {N P S:Nat} (c:ao) (h:gL I D N P S c) (hS:S≤1000) (hN:N+1000000≤800000000) (hP:P+1000000≤800000000)
include h hS hN hP
theorem xk (p n:Int):EC prog 87 [.agg c.c,.int .u64 p,.int .i64 n] [] fun r N'=>N'=[]∧∃x:ao×aB,od (N+4) P S c x.1∧r= .bS [.agg x.1.c,.agg x.2.c]:=by
 have hpl:=h.pl;have hnl:=h.nl.1;have hln:=h.ln;have hsl:=h.sl;have h0:=h.d0;have hbad:∀{B:List aI} {y:aB},∃x:ao×aB,od (N+4) P S c x.1∧Lt B (.bS [.agg c.c,.agg y.c]) (.bS [.agg x.1.c,.agg x.2.c]):=fun {B y}=>⟨(c,y),(m4.refl h).ex (le_add_right _ _) (le_refl _) (le_refl _),Lt.t2 (a6.cl rfl) (a6.hp rfl)⟩;refine EC.bh ?_;refine EC.iU ab (ca 87) func87 rfl (by simp [ntmps87]) ?_;simp only [ntmps87,results87,fL]
 iterate 8
  (refine bR ab ?_
   generalize hK:i6 prog _ _ _=K0;refine sA ?_;(repeat' (first|(with_reducible intro hh;first|subst hh|(revert hh;intro _))|with_reducible apply And.intro|refine eK ab ?_|((refine EC.aM (lG c.aY p (by omega)) ?_;rintro ⟨node,ok1⟩ -))|((refine EC.aM (cE _) ?_;rintro hh -))|((refine EC.aM (gF c node (by omega) (by omega)) ?_;rintro ⟨k,hp,ok⟩ hk))|((have hkk:=(hk (by simpa using ‹(!ok)=false›));simp only at hkk;have hst:=h.at hkk.1;have hstl:=hst.tl;refine EC.aM (oS (Q:=cG I D) (c.aq.getD k default).aD p _ (by omega) hst.tq h0) ?_;rintro hb -))|refine dN ab [2,3] [] [0,1,2,3] bZ fun R hR=>?_|refine dM ab 4 [0,1,2,3,4,5,6,7,8,9,10,11,12,13] [] bZ fun R hR=>?_|refine dR ab [2,3] ?_|refine bT ab 0 1 ?_ ?_|refine bT ab 1 2 ?_ ?_|refine dC ab 0 ?_|refine dC ab 1 ?_|refine dR ab [3] ?_|(refine hR _ _ ?_;refine sA ?_)|fail))<;>(first|(refine gx ab ?_;subst hK;rw [iO,gz];refine sA ?_;exact hbad)|rfl|assumption|(show (_:Bool)=true;(simp_all;done))|(have hkk:=(hk (by simpa using ‹(!ok)=false›));have:=hkk.1;omega)|skip)
   all_goals try (subst hK;rw [dc]))
 have hkk:=hk (by simpa using ‹(!ok)=false›);simp only at hkk;have hst:=h.at hkk.1;have hstl:=hst.tl;obtain ⟨hb1,hb2⟩:=AH hkk.2.2;rename_i fr0 fr1 fr2 fr3 fr4;generalize hss:c.aq.getD k default=s0 at hkk hst hstl hb1 hb2;obtain ⟨hk1,hk2,hk3⟩:=hkk;refine dy (σ:=aG) [1,2,3,6,7,8,10,12,13] (fun s=>[]) (fun B s=>[au B 0,au B 1,au B 2,au B 3,au B 4,.row (fr4 0) 26 1 [s.c]]) (fun s=>s.ah.length≤1∧ja I D s) ?_ ?_;rotate_left 1
 ·refine bN ab ?_;simp only [hss,push_cast,simprocAttr];(repeat' (first|with_reducible (first|intro _|apply And.intro)|refine eK ab ?_|((refine EC.aM (gp (Q:=cG I D) s0.aD p (by omega) hst.tq h0) ?_;rintro ⟨o,e⟩ ho))|fail))<;>(first|(exact du 6 ⟨[o]⟩ ⟨le_refl _,fun x hx=>by rw [List.mem_singleton.1 hx];exact ho⟩ ⟨So,So,So,So,So,⟨by decide,wY.EI rfl (by rw [cd];decide) (gw.put (gw.obj (cs:=(default:aG).c) (fun s B=>by rw [aG.fk]) (fun s B=>by rw [aG.fz])) 0 (jv.row (l:=[o]) (by decide) rfl rfl rfl) rfl)⟩,trivial⟩)|(exact du 6 default ⟨zero_le _,fun x hx=>(nomatch hx)⟩ ⟨So,So,So,So,So,So,trivial⟩))
 rintro s ⟨hs1,hs2⟩;simp only [hss,bK,dd,au,getD_cons_zero,getD_cons_succ,push_cast,simprocAttr];refine bN ab ?_;refine sA ?_;(repeat' (first|with_reducible (first|intro _|apply And.intro)|refine eK ab ?_|((refine EC.aM (xL (I:=I) (D:=D) (L:=1) s p n h.z hs2 hs1 (by decide)) ?_;rintro ⟨aft,e⟩ hx))|((refine EC.aM (cE _) ?_;rintro hh -))|((have he:e=0:=(by simpa using ‹(e !=0)=false›);obtain ⟨hx1,hx2⟩:=hx he;replace hx2:aft.ah.length≤2:=hx2;refine EC.aM (iv (Q:=cG I D) c.aY s0.ea node s aft (by omega) (by omega) h.sq (by omega) (by omega) hs2 hx1 h0 (fun o ho=>ho.sp)) ?_;rintro ⟨w,e3⟩ hw;obtain ⟨s2,hw2⟩:=hw.st (hw.ok hb1 (hk2▸hb2));have hwl:=hw.ln;have hwq:=hw.q;have hwn:=hw.nd h.nd;simp only at hw2 hwl hwq hwn;subst hw2))|refine EC.use (cL aft p (by omega)) ?_|((refine EC.aM (xH (Q:=cG I D) s0.aD (by omega) hst.tq h0 p (cc aft p).1 (hx1.get h.z)) ?_;rintro ⟨t,e4⟩ ⟨ht1,ht2⟩;replace ht1:t.aD.length≤s0.aD.aD.length+1:=ht1))|((refine EC.args (.cons (bq.refl _) (.cons (bq.refl _) (.cons (bq.refl _) (.cons (cB (e:=45) (cells:=aA.c) (d:=default)) .nil)))) ?_;refine EC.aM (rE (N':=N+4) (a:=s0.bD) {c with aY:={c.aY with bz:=s2}} k {s0 with aD:=t} [] (by rw [←hss];exact (Cg (c:={c with aY:={c.aY with bz:=s2}}) (k:=k)).symm▸(h.store (N':=N+4) (le_add_right _ _) hwq (by have:=hwl;simp only at *;omega) hwn)) hk1 hS (le_refl _) ⟨by show t.aD.length≤_;omega,ht2,hst.dr.mono (le_add_right _ _),le_trans hst.hl (le_add_right _ _),hst.nl,hst.pn⟩ rfl dU.nil) ?_;rintro y hy))|refine dM ab 4 [0,1,2,3,4,5,6,7,8,9,10,11,12,13] [1] bZ fun R hR=>?_|refine dC ab 0 ?_|refine bT ab 0 2 ?_ ?_|refine dR ab [2,3,4] ?_|refine dR ab [3,4] ?_|(refine hR _ _ ?_;refine sA ?_)|fail))<;>(first|(refine gx ab ?_;refine sA ?_;exact hbad)|(exact ⟨(y,_),m4.ex ⟨hy.ok,hy.ln⟩ (le_refl _) (le_refl _) (le_refl _),Lt.t2 (a6.cl rfl) (a6.hp rfl)⟩))
end
end
section
theorem GO {a a2:aL} {n u:Int} {ids:List Int} (h:(ids,a2,0)=dQ a n) (h0:0≤u) (hu:u≤n):dQ a u=(ik a u.toNat,{a with bP:=a.bP+u},0):=by
 obtain ⟨⟨h1,h2,h3⟩,h4,h5,-,-⟩:=rb h rfl;have e:(oC a.bW a.fR).2=0:=by
  unfold oC;rw [if_neg (by simp;omega)]
 unfold dQ;rw [if_neg (by rw [e];simp;omega),if_neg (by simp;omega),if_neg (by simp;omega)]
section
variable {I D:Int→Prop} {N P S:Nat} {c:ao}
theorem Gm {y:ao} {s:aj} {k:Nat} {ids:List Int} {a2:aL} {n:Int} {aft:aG} {out:bY} (hy:Kg I D N P S c k s y) (hk:k < c.aq.length) (hx:(ids,a2,0)=dQ s.bD n) (hst:gi I D 400 ids aft out):
  ∃J D':Int→Prop,gL J D' N P S (AK y k {s.bD with bP:=s.bD.bP+out.Used})∧(∀o,cG I D o→cG J D' o)∧ja J D' aft∧dQ s.bD out.Used=(ik s.bD out.Used.toNat,{s.bD with bP:=s.bD.bP+out.Used},0):=by
 obtain ⟨us,⟨D',hd1,hd2,hd3⟩,-⟩:=hst;obtain ⟨h1,h2,h3,rfl,-⟩:=rb hx rfl;rw [kb] at us;have hyk:k < y.aq.length:=by rw [hy.ln];exact hk
 have e:(y.aq.getD k default).bD=s.bD:=by rw [hy.at_]
 have hg:=hy.ok.grow (D':=D') hyk n.toNat (u:=out.Used) us.1 (by rw [e];omega) (by omega) (by rw [e];omega) (by rw [e];exact hd1) (by rw [e];exact hd3);rw [e] at hg;exact ⟨_,D',hg.1,hg.2,hd2,GO hx us.1 (by omega)⟩
theorem FE {y:ao} {k:Nat} {a:aL} {s:aG}:AK {y with aY:={y.aY with bz:=s}} k a={AK y k a with aY:={(AK y k a).aY with bz:=s}}:=rfl
end
attribute [local irreducible] EC EV gW cc cK dT dQ
attribute [local push_cast] CK Dz oa ov Gt
section
variable {I D:Int→Prop} {N P S:Nat} (c:ao) (h:gL I D N P S c) (hS:S≤1000) (hN:N+1000000≤700000000) (hP:P+1000000≤800000000)
include h hS hN hP
theorem z6 (node:Int):EC prog 85 [.agg c.c,.int .i64 node] [] fun r N'=>N'=[]∧∃x:ao×aB,od (N+2000) (P+500) S c x.1∧r= .bS [.agg x.1.c,.agg x.2.c]:=by
 have hnl:=h.nl.1;have hln:=h.ln;have h0:=h.d0;have hQ:∀o,cG I D o→mh o:=fun o ho=>ho.sp;have hbad:∀{B:List aI} {J D':Int→Prop} {y:ao} {p:aB},m4 J D' (N+2000) (P+500) S c y→∃x:ao×aB,od (N+2000) (P+500) S c x.1∧Lt B (.bS [.agg y.c,.agg p.c]) (.bS [.agg x.1.c,.agg x.2.c]):=fun {B J D' y p} hy=>⟨(y,p),⟨J,D',hy⟩,Lt.t2 (a6.cl rfl) (a6.hp rfl)⟩;refine EC.bh ?_;refine EC.iU ab (ca 85) func85 rfl (by simp [ntmps85]) ?_;simp only [ntmps85,results85,fL]
 iterate 6
  (refine bR ab ?_
   generalize hK:i6 prog _ _ _=K0;refine sA ?_;(repeat' (first|(with_reducible intro hh;first|subst hh|(revert hh;intro _))|with_reducible apply And.intro|refine eK ab ?_|((refine EC.aM (gF c node (by omega) (by omega)) ?_;rintro ⟨k,hp,ok⟩ hk))|((have hkk:=(hk (by simpa using ‹(!ok)=false›));simp only at hkk;obtain ⟨hk1,hk2,hk3⟩:=hkk;have hst:=h.at hk1;have hb:=AH hk3;refine EC.aM (uf (Q:=cG I D) (N:=N) (c.aq.getD k default) c.aY.bL hst (by omega) (by omega) h0 hQ) ?_;rintro ⟨s,l,gs⟩ ⟨hs,hl⟩;replace hs:gd (cG I D) (N+402) (c.aq.getD k default) s:=hs;replace hl:dU (cG I D) (N+402) l:=hl;have hstl:=hs.ok.tl))|((refine EC.aM (jf c k s l h hk1 hS (le_add_right N 402) hs (hl.mono (by omega))) ?_;rintro y hy;have hyk:k < y.aq.length:=(by rw [hy.ln];exact hk1)))|refine dM ab 4 [0,1,2,3,4,5,6,7,8,9,10,11,12,13] [] bZ fun R hR=>?_|refine bT ab 0 1 ?_ ?_|refine bT ab 1 2 ?_ ?_|refine dC ab 0 ?_|refine dR ab [2,3] ?_|refine dC ab 1 ?_|refine dR ab [3] ?_|(refine hR _ _ ?_;refine sA ?_)|fail))<;>(first|(refine gx ab ?_;subst hK;rw [iO,gz];refine sA ?_;exact hbad ((m4.refl h).mono (by omega) (by omega) (le_refl _)))|(have hkk:=(hk (by simpa using ‹(!ok)=false›));have:=hkk.1;omega)|skip)
   all_goals try (subst hK;rw [dc]))
 iterate 4
  (refine bR ab ?_
   generalize hK:i6 prog _ _ _=K0;refine sA ?_;(repeat' (first|with_reducible (first|intro _|apply And.intro)|refine eK ab ?_|((refine EC.aM (gp (Q:=cG I D) s.aD _ (by omega) hs.ok.tq h0) ?_;rintro ⟨o,e0⟩ ho;replace ho:cG I D o:=ho;have hfr:=y1 o))|(refine EC.aM (iK o ho.sp) ?_;rintro _ _)|((refine EC.aM (sO (Q:=cG I D) (N:=N+402) s c.aY.bL hs.ok (by omega) (by omega) h0 hQ) ?_;rintro ⟨x,l2,e1⟩ hx))|((have he1:e1=0:=(by simpa using ‹(e1 == 0)=true›);obtain ⟨hx1,hx2⟩:=hx he1;refine EC.aM (jf (N':=N+402) y k x l2 hy.ok hyk hS (le_refl _) (by rw [hy.at_];exact hx1) (hx2.mono (by omega))) ?_;rintro z hz))|fail))<;>(first|(subst hK;simp only [gz,push_cast,simprocAttr];exact hbad ((hy.tom4.trans hz.tom4).mono (by omega) (by omega) (le_refl _)))|(subst hK;simp only [gz,push_cast,simprocAttr];exact hbad (hy.tom4.mono (by omega) (by omega) (le_refl _)))|skip)
   all_goals try (subst hK;rw [dc]))
 refine dy (σ:=List Int×aL×Int) [1,2,4,5,6,9,10,13] (fun s=>[(19,bG 1 (aS .u64) default s.1),(21,.int .i64 s.2.2)]) (fun B s=>[au B 0,au B 1,au B 2,au B 3,au B 4,au B 5]) (fun x=>x=dQ s.bD (iC o)) ?_ ?_;rotate_left 1
 ·refine bN ab ?_;refine sA ?_;(repeat' (first|with_reducible intro _|((refine EC.use (oX o ho.sm ho.pd) ?_))|((refine EC.aM (f_ s.bD (iC o) (by omega)) ?_;rintro ⟨ids,a2,e⟩ hx3))|refine dM ab 12 [0,1,2,3,4,5,6,7,8,9,10,11,12,13] [0] bZ fun R hR=>?_|refine bT ab 1 2 ?_ ?_|refine dC ab 1 ?_|refine mV ab 1 2 9 ?_ ?_ ?_|refine bT ab 2 9 ?_ ?_|refine mV ab 1 3 9 ?_ ?_ ?_|refine bT ab 3 9 ?_ ?_|refine dC ab 2 ?_|refine bT ab 1 9 ?_ ?_|refine bT ab 1 3 ?_ ?_|refine bT ab 4 9 ?_ ?_|refine dR ab [3,4,5,6,7,8,10,11,12] ?_|refine dR ab [4,5,6,7,8,10,11,12] ?_|refine dR ab [5,6,7,8,10,11,12] ?_|refine dR ab [5,6,7,8,9,10,11,12] ?_|(refine hR _ _ ?_;refine sA ?_)|fail))<;>((exact du 6 (ids,a2,e) hx3 ⟨So,So,So,So,So,So,trivial⟩))
 rintro ⟨ids,a2,e⟩ hx3;simp only [bK,dd,au,getD_cons_zero,getD_cons_succ,push_cast,simprocAttr]
 iterate 4
  (refine bR ab ?_
   generalize hK:i6 prog _ _ _=K0;refine sA ?_;(repeat' (first|with_reducible (first|intro _|apply And.intro)|refine eK ab ?_|((refine EC.aM (vW (Q:=cG I D) (N:=N+402) s hs.ok (by omega) h0) ?_;rintro bf ⟨hb1,hb2⟩))|((have he:e=0:=(by simpa using ‹(e == 0)=true›);obtain ⟨hn1,hn2,hn3,hn4,hn5⟩:=rb hx3 he;have hnew:iR I ids:=(by rw [hn4];exact h.al.new (by have:=h.O7 hk1;rw [←hs.al] at this;exact this) _ (by omega) (by omega));refine EC.aM (qk (I:=I) (D:=D) (L:=400) ⟨bf⟩ _ ids h.z hb2 hb1 (by decide) hnew h.di) ?_;rintro ⟨aft,out,e2⟩ hst2))|fail))<;>(skip)
   all_goals try (subst hK;rw [dc]))
 ·refine bR ab ?_;generalize hK:i6 prog _ _ _=K0;refine sA ?_;(repeat' (first|with_reducible (first|intro _|apply And.intro)|refine eK ab ?_|((refine EC.aM (jL (Q:=cG I D) (N:=N+402) s c.aY.bL hs.ok (by omega) (by omega) h0) ?_;rintro ⟨w,ms⟩ ⟨hw1,hw2⟩))|((refine EC.aM (jf (N':=N+402) y k w ms hy.ok hyk hS (le_refl _) (by rw [hy.at_];exact hw1) (hw2.mono (by omega))) ?_;rintro z hz))|((refine EC.aM (cE _) ?_;rintro hh -))|refine dM ab 4 [0,1,2,3,4,5,6,7,8,9,10,11,12,13] [1] bZ fun R hR=>?_|refine dC ab 0 ?_|refine dC ab 2 ?_|refine bT ab 0 2 ?_ ?_|refine dR ab [3,4] ?_|(refine hR _ _ ?_;refine sA ?_)|fail))<;>(first|(refine gx ab ?_;subst hK;simp only [iO,nL,gz,push_cast,simprocAttr];exact hbad ((hy.tom4.trans hz.tom4).mono (by omega) (by omega) (le_refl _)))|(subst hK;simp only [gz,nL,push_cast,simprocAttr];exact hbad ((hy.tom4.trans hz.tom4).mono (by omega) (by omega) (le_refl _)))|skip)
  all_goals try (subst hK;rw [dc])
  have he2:e2=0:=by simpa using (Bool.or_eq_false_iff.1 ‹(e2 !=0 || out.dF)=false›).1
  have hx4:(ids,a2,0)=dQ s.bD (iC o):=by rw [←he];exact hx3
  have hst3:=hst2 he2;simp only at hst3;obtain ⟨J,D',hg,hup,haft,hnx⟩:=Gm hy hk1 hx4 hst3;have hvw:s.ea=y.aY.ea:=by rw [hy.vt,hs.vw];exact hb.1
  have hvn:node∈y.aY.bL:=by rw [hy.vt];exact hk2▸hb.2
  have hJ0:=hup _ h0;have hal:aft.ah.length≤461:=hst3.ln;have hys:2*y.aY.bz.ah.length≤N:=by rw [hy.vt];exact h.sl
  have hyn:=hy.ok.nl.1;have hus:=hst3.us;have hidl:=hnew.ln;have hq2:=hs.ok.q hup;generalize hA3:({s.bD with bP:=s.bD.bP+out.Used}:aL)=A3 at hg hnx
  iterate 3
   (refine bR ab ?_
    generalize hK:i6 prog _ _ _=K0;refine sA ?_;(repeat' (first|refine eK ab ?_|((refine EC.aM (iv (Q:=cG J D') y.aY s.ea node ⟨bf⟩ aft (by omega) (by omega) (fun o ho=>hup o (hy.ok.sq o ho)) (by show bf.length≤_;omega) (by omega) (fun o ho=>hup o (hb2 o ho)) haft hJ0 (fun o ho=>ho.sp)) ?_;rintro ⟨w,e3⟩ hw;obtain ⟨s2,hw2⟩:=hw.st (hw.ok hvw hvn);have hwl:=hw.ln;have hwq:=hw.q;have hwn:=hw.nd hy.ok.nd;simp only at hw2 hwl hwq hwn;subst hw2))|((refine EC.aM (f_ s.bD out.Used (by omega)) ?_;rintro ⟨ids2,a3,e4⟩ hx5;rw [hnx] at hx5;have ha3:a3=A3:=(Prod.mk.inj (Prod.mk.inj hx5).2).1;subst ha3))|((refine EC.aM (nY (Q:=cG J D') (N:=N+402) {s with bD:=a3} c.aY.bL ⟨hq2.tl,hq2.tq,hq2.dr,hq2.hl,hq2.nl,hq2.pn⟩ (by omega) (by omega) hJ0 ⟨bf⟩ aft (by show bf.length≤_;omega) (by omega) (fun o ho=>hup o (hb2 o ho)) haft (fun o ho=>ho.sp)) ?_;rintro ⟨f,ms⟩ ⟨hf1,hf2⟩;replace hf1:gd (cG J D') (N+402+aft.ah.length+bf.length) {s with bD:=a3} f:=hf1;replace hf2:dU (cG J D') (N+402+aft.ah.length+bf.length) ms:=hf2))|fail))<;>(skip)
    all_goals try (subst hK;rw [dc]))
  have hwa:gL J D' (N+1000) P S (AK {y with aY:={y.aY with bz:=s2}} k a3):=by
   rw [FE];exact (hg.mono (N':=N+1000) (by omega) (le_refl _) (le_refl _)).store (le_refl _) hwq (by simp only at *;omega) hwn
  have hfo:=hf1.ok.mono (show N+402+aft.ah.length+bf.length≤N+1300 by omega);have hfm:=hf2.mono (show N+402+aft.ah.length+bf.length≤10000000000 by omega);have hfa:f.bD=a3:=hf1.al;have hyk2:k < ({y with aY:={y.aY with bz:=s2}}:ao).aq.length:=hyk
  iterate 1
   (refine bR ab ?_
    generalize hK:i6 prog _ _ _=K0;refine sA ?_;(repeat' (first|((refine EC.aM (rE (N':=N+1300) (a:=a3) {y with aY:={y.aY with bz:=s2}} k f ms hwa hyk2 hS (by omega) hfo hfa hfm) ?_;rintro z hz;have hzk:k < z.aq.length:=(by rw [hz.ln];exact hyk)))|((refine EC.aM (xq z k ⟨bf⟩ aft hz.ok hzk hS (by omega) (by omega) (by show bf.length≤_;omega) (by omega) (fun o ho=>hup o (hb2 o ho)) haft) ?_;rintro u hu;have huk:k < u.aq.length:=(by rw [hu.ln];exact hzk);have hfin:m4 J D' (N+1800) (P+461) S c u:=⟨hu.ok.mono (by omega) (by omega) (le_refl _),hu.ln.trans (hz.ln.trans hy.ln)⟩;have hua:=hfin.ok.at huk;have hul:=hua.hl;have hup2:=hfin.ok.pl))|refine dN ab [9] [] [0,1,2,3,5,6,7,4,8,9] bZ fun R hR=>?_|refine dR ab [8,9] ?_|refine dR ab [9] ?_|fail))<;>(skip)
    all_goals try (subst hK;rw [dc]))
  refine hR _ _ ?_;subst hK;rw [dc];clear hR;refine bN ab ?_;refine sA ?_;(repeat' (first|with_reducible (first|intro _|apply And.intro)|((refine EC.aM (lE (u.aq.getD k default) _ (by omega)) ?_;rintro ⟨hh2,tk⟩ ⟨hl1,ht1⟩))|((have hlv:gd (cG J D') (N+1800) (u.aq.getD k default) {u.aq.getD k default with cT:=hh2,Task:=tk}:=⟨⟨hua.tl,hua.tq,hua.dr,le_trans hl1 hul,(by rcases ht1 with e|e<;>(simp only at e;rw [e];first|exact hua.nl|exact zero_le _)),(by rcases ht1 with e|e<;>(simp only at e;rw [e];first|exact hua.pn|exact Int.le_refl _))⟩,rfl,rfl,rfl⟩;refine EC.aM (BN u k {u.aq.getD k default with cT:=hh2,Task:=tk} hfin.ok huk hS (le_refl _) hlv) ?_;rintro v hv;have hvp:=hv.ok.pl))|refine dN ab [10] [] [0,1,2,3,4,5,6,7,8,9,10] bZ fun R hR=>?_|refine dR ab [9,10] ?_|refine dR ab [10] ?_|(refine hR _ _ ?_;refine sA ?_)|fail))<;>(first|(exact hbad (hfin.mono (by omega) (by omega) (le_refl _)))|omega|skip);refine bN ab ?_;refine sA ?_;(repeat' (first|refine eK ab ?_|((refine EC.aM (kG v.aY _ (by omega)) ?_;rintro pl hpl))|fail))<;>((exact hbad ⟨(hv.ok.zp (P':=P+500) (le_trans hpl (by omega))).mono (by omega) (le_refl _) (le_refl _),hv.ln.trans hfin.ln⟩))
 ·refine bR ab ?_;generalize hK:i6 prog _ _ _=K0;refine sA ?_;(repeat' (first|with_reducible (first|intro _|apply And.intro)|refine eK ab ?_|((refine EC.aM (jL (Q:=cG I D) (N:=N+402) s c.aY.bL hs.ok (by omega) (by omega) h0) ?_;rintro ⟨w,ms⟩ ⟨hw1,hw2⟩))|((refine EC.aM (jf (N':=N+402) y k w ms hy.ok hyk hS (le_refl _) (by rw [hy.at_];exact hw1) (hw2.mono (by omega))) ?_;rintro z hz))|((refine EC.aM (cE _) ?_;rintro hh -))|refine dM ab 4 [0,1,2,3,4,5,6,7,8,9,10,11,12,13] [1] bZ fun R hR=>?_|refine dC ab 0 ?_|refine dC ab 2 ?_|refine bT ab 0 2 ?_ ?_|refine dR ab [3,4] ?_|(refine hR _ _ ?_;refine sA ?_)|fail))<;>(first|(refine gx ab ?_;subst hK;simp only [iO,nL,gz,push_cast,simprocAttr];exact hbad ((hy.tom4.trans hz.tom4).mono (by omega) (by omega) (le_refl _)))|(subst hK;simp only [gz,nL,push_cast,simprocAttr];exact hbad ((hy.tom4.trans hz.tom4).mono (by omega) (by omega) (le_refl _)))|skip);exfalso;clear hK;simp_all
end
end
section
attribute [local irreducible] EC EV gW cc cK dT dQ dA cC
attribute [local push_cast] CK Dz oa ov Gt
section
variable {I D:Int→Prop} {N P S:Nat} (c:ao) (h:gL I D N P S c) (hS:S≤1000) (hN:N+1000000≤700000000) (hP:P+1000000≤800000000)
include h hS hN hP
theorem sM (p node:Int):EC prog 95 [.agg c.c,.int .u64 p,.int .i64 node] [] fun r N'=>N'=[]∧∃x:ao×aB,od (N+131) (P+1) S c x.1∧r= .bS [.agg x.1.c,.agg x.2.c]:=by
 have hnl:=h.nl.1;have hln:=h.ln;have hkl:=h.kl;have hsl:=h.sl;have h0:=h.d0;have hN1:N+1000000≤800000000:=by omega
 have hP1:=hP;have hQ:∀o,cG I D o→mh o:=fun o ho=>ho.sp;have hbad:∀{B:List aI} {J D':Int→Prop} {y:ao} {p:aB},m4 J D' (N+131) (P+1) S c y→∃x:ao×aB,od (N+131) (P+1) S c x.1∧Lt B (.bS [.agg y.c,.agg p.c]) (.bS [.agg x.1.c,.agg x.2.c]):=fun {B J D' y p} hy=>⟨(y,p),⟨J,D',hy⟩,Lt.t2 (a6.cl rfl) (a6.hp rfl)⟩;refine EC.bh ?_;refine EC.iU ab (ca 95) func95 rfl (by simp [ntmps95]) ?_;simp only [ntmps95,results95,fL]
 iterate 6
  (refine bR ab ?_
   generalize hK:i6 prog _ _ _=K0;refine sA ?_;(repeat' (first|(with_reducible intro hh;first|subst hh|(revert hh;intro _))|with_reducible apply And.intro|refine eK ab ?_|((refine EC.aM (cE _) ?_;rintro hh -))|((refine EC.aM (gF c node (by omega) (by omega)) ?_;rintro ⟨k,hp,ok⟩ hk))|((refine EC.aM (vX (Q:=cG I D) c.aY p (by omega) h.kq h0) ?_;rintro ⟨x,ok2⟩ hx;replace hx:i9 (cG I D) x:=hx))|refine EC.use (cL c.aY.bz p (by omega)) ?_|refine dM ab 4 [0,1,2,3,4,5,6,7,8,9,10,11,12,13] [] bZ fun R hR=>?_|refine bT ab 0 1 ?_ ?_|refine bT ab 1 2 ?_ ?_|refine dC ab 0 ?_|refine dR ab [2,3] ?_|refine dC ab 1 ?_|refine dR ab [3] ?_|(refine hR _ _ ?_;refine sA ?_)|fail))<;>(first|(refine gx ab ?_;subst hK;rw [iO,gz];refine sA ?_;exact hbad ((m4.refl h).mono (by omega) (by omega) (le_refl _)))|skip)
   all_goals try (subst hK;rw [dc]))
 obtain ⟨hk1,hk2,hk3⟩:=hk (by simpa using ‹(!ok)=false›);simp only at hk1 hk2 hk3;refine dy (σ:=(List Int×aL×Int)×aN) [2,3,6,7,8,11] (fun s=>[(14,bG 1 (aS .u64) default s.1.1),(15,.bx 6 s.2 3 0 0),(16,.int .i64 s.1.2.2)]) (fun B s=>[au B 0,au B 1,au B 2,au B 3,au B 4,au B 5,.row s.2 132 3 [s.1.2.1.c]]) (fun s=>∃n:Int,s.1=dQ (c.aq.getD k default).bD n) ?_ ?_;rotate_left 1
 ·refine bN ab ?_;refine sA ?_;(repeat' (first|with_reducible (first|intro _|apply And.intro)|((refine EC.aM (n0 x hx hQ) ?_;rintro n ⟨hn1,hn2⟩;have hnr:0≤n∧n≤3000000:=(by have hxp:=hx.pl;have hxf:=hx.fl;by_cases hck:LD x;rw [hn1 hck];omega;rw [hn2 hck];decide)))|((refine EC.aM (f_ (c.aq.getD k default).bD n (by omega)) ?_;rintro ⟨ids,a2,e⟩ hx3))|refine dM ab 10 [] [0,1,2,3,4,5,6] bZ fun R hR=>?_|refine bT ab 7 13 ?_ ?_|refine bT ab 8 13 ?_ ?_|refine dR ab [7,8,9,10,11,12,14,15,16] ?_|refine dR ab [8,9,10,11,12,14,15,16] ?_|refine dR ab [9,10,11,12,14,15,16] ?_|refine dR ab [9,10,11,12,13,14,15,16] ?_|(refine hR _ _ ?_;refine sA ?_)|fail))<;>(first|(exact du 7 ((ids,a2,e),_) ⟨n,hx3⟩ ⟨So,So,So,So,So,So,So,trivial⟩)|omega)
 rintro ⟨⟨ids,a2,e⟩,h15⟩ ⟨n,hx3⟩;replace hx3:(ids,a2,e)=dQ (c.aq.getD k default).bD n:=hx3;simp only [bK,dd,au,getD_cons_zero,getD_cons_succ,push_cast,simprocAttr]
 iterate 2
  (refine bR ab ?_
   generalize hK:i6 prog _ _ _=K0;refine sA ?_;(repeat' (first|with_reducible (first|intro _|apply And.intro)|refine eK ab ?_|((have he:e=0:=(by simpa using ‹(e == 0)=true›);obtain ⟨-,hnew,-,-⟩:=gL.all c h hS hN1 hP1 hk1 rfl hx3 he kY.refl (fun y hy=> .inl (h.di y hy));refine EC.aM (xD (I:=I) (D:=D) (N:=N) c.aY.bz x ids h.z h.sq (by omega) (by omega) hx hnew h.di) ?_;rintro ⟨aft,e2⟩ hld))|fail))<;>(skip)
   all_goals try (subst hK;rw [dc]))
 ·iterate 1
   (refine bR ab ?_
    generalize hK:i6 prog _ _ _=K0;refine sA ?_;(repeat' (first|with_reducible (first|intro _|apply And.intro)|((refine EC.aM (cE _) ?_;rintro hh -))|refine dM ab 4 [0,1,2,3,4,5,6,7,8,9,10,11,12,13] [1] bZ fun R hR=>?_|refine dC ab 0 ?_|refine bT ab 0 2 ?_ ?_|refine dR ab [2,3,4] ?_|refine dR ab [3,4] ?_|(refine hR _ _ ?_;refine sA ?_)|fail))<;>(first|(refine gx ab ?_;subst hK;rw [iO,gz];refine sA ?_;exact hbad ((m4.refl h).mono (by omega) (by omega) (le_refl _)))|skip)
    all_goals try (subst hK;rw [dc]))
  have he2:e2=0:=by simpa using ‹(e2 !=0)=false›
  have hld2:=hld he2;simp only at hld2;obtain ⟨⟨D',hd1,hd2,hd3⟩,hal,hct,hne⟩:=hld2;obtain ⟨hc2,-,-,hup⟩:=gL.all c h hS hN1 hP1 hk1 rfl hx3 he hd1 hd2;have hao:∀o∈aft.ah,cG (fun y=>I y∨y∈ids) D' o:=hd3;have hct2:(aft.ah.filter (mG c.aY.bz)).length≤64:=hct h.nd
  iterate 1
   (refine bR ab ?_
    generalize hK:i6 prog _ _ _=K0;refine sA ?_;(repeat' (first|refine eK ab ?_|((refine EC.aM (jT c.aY.bz aft (by omega) (by omega) (fun o ho=>(h.sq o ho).sp) (fun o ho=>(hao o ho).sp) h0.sp) ?_;rintro ⟨pt,gn⟩ ⟨⟨hpl,hpm⟩,hgl,hpf⟩))|fail))<;>(skip)
    all_goals try (subst hK;rw [dc]))
  replace hpm:∀o∈pt,o∈aft.ah:=hpm;replace hpf:pt.length≤(aft.ah.filter (mG c.aY.bz)).length:=hpf
  iterate 1
   (refine bR ab ?_
    generalize hK:i6 prog _ _ _=K0;refine sA ?_;(repeat' (first|with_reducible apply And.intro|((refine EC.aM (nS c k a2 (ids.getD 0 default) pt hc2 hk1 hk3 hS hN1 hP1 (by omega) (fun o ho=>hao o (hpm o ho))) ?_;rintro y ⟨hy1,hy2⟩))|refine dN ab [8] [] [0,1,2,3,4,5,6,7,8] bZ fun R hR=>?_|refine dR ab [8] ?_|fail))<;>(first|omega|skip)
    all_goals try (subst hK;rw [dc]))
  all_goals first
   |(refine hR _ _ ?_
     subst hK;rw [dc]
     clear hR)
   |skip
  refine bN ab ?_;refine sA ?_;(repeat' (first|with_reducible apply And.intro|refine dM ab 6 [0,1,2,3,4,5,6,7,8,9,10,11,12,13] [1,2,4,5] bZ fun R hR=>?_|refine dC ab 0 ?_|refine dC ab 6 ?_|refine mV ab 0 3 6 ?_ ?_ ?_|refine mV ab 3 6 8 ?_ ?_ ?_|refine bT ab 0 6 ?_ ?_|refine bT ab 0 3 ?_ ?_|refine bT ab 6 8 ?_ ?_|refine bT ab 3 8 ?_ ?_|refine bT ab 3 6 ?_ ?_|refine dP ab 3 [7] ?_|refine dR ab [7,8,9] ?_|refine dC ab 3 ?_|refine dR ab [8,9] ?_|refine dR ab [7,9] ?_|(refine hR _ _ ?_;refine sA ?_)|fail))<;>(first|(refine gx ab ?_;refine sA ?_;exact hbad ⟨hy1.mono (by omega) (le_refl _) (le_refl _),hy2⟩)|omega)
 ·iterate 1
   (refine bR ab ?_
    generalize hK:i6 prog _ _ _=K0;refine sA ?_;(repeat' (first|with_reducible (first|intro _|apply And.intro)|((refine EC.aM (cE _) ?_;rintro hh -))|refine dM ab 4 [0,1,2,3,4,5,6,7,8,9,10,11,12,13] [1] bZ fun R hR=>?_|refine dC ab 0 ?_|refine bT ab 0 2 ?_ ?_|refine dR ab [2,3,4] ?_|refine dR ab [3,4] ?_|(refine hR _ _ ?_;refine sA ?_)|fail))<;>(first|(refine gx ab ?_;subst hK;rw [iO,gz];refine sA ?_;exact hbad ((m4.refl h).mono (by omega) (by omega) (le_refl _)))|skip)
    all_goals try (subst hK;rw [dc]))
  exfalso;simp_all
end
end
end Go.Proofs.YteejbbfaphcgiaaGreat
