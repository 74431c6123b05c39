/- Part 11. -/
import Derived.Test.YteejbbfaphcgiaaGreatV07
import Derived.Test.YteejbbfaphcgiaaGreatV08
import Derived.Test.YteejbbfaphcgiaaGreatV09
import Derived.Test.YteejbbfaphcgiaaGreatV10
namespace Go.Proofs.YteejbbfaphcgiaaGreat
open Go.Lift _root_.Go.Proofs.Tryz
set_option linter.unusedSimpArgs false
set_option linter.unusedVariables false
set_option maxHeartbeats 2000000
set_option maxRecDepth 10000
open List (set_cons_succ set_cons_zero length_cons length_nil cons_append nil_append getD map length map_append pairwise_map map_map mem_cons not_mem_nil map_nil map_cons)
open Nat (le_refl zero_le zero_add le_succ_of_le le_trans le_succ le_of_ble_eq_true)
section
attribute [local irreducible] EC EV gW cc cK dT dQ dA cC
attribute [local push_cast] CK Dz oa ov Gt Pz
section
variable {I D:Int→Prop} {N P S:Nat} (c:ao) (h:gL I D N P S c) (hS:S≤1000) (hN:N+1000000≤700000000) (hP:P+1000000≤800000000)
include h hS hN hP
theorem sN (frm to:Int):EC prog 86 [.agg c.c,.int .i64 frm,.int .i64 to] [] fun r N'=>N'=[]∧∃x:ao×aB,od (N+140) P S c x.1∧r= .bS [.agg x.1.c,.agg x.2.c]:=by
 have h0:=h.d0;have hQ:∀o,cG I D o→mh o:=fun o ho=>ho.sp;have hbad:∀{B:List aI} {J D':Int→Prop} {y:ao} {p:aB},m4 J D' (N+140) P S c y→∃x:ao×aB,od (N+140) P S c x.1∧Lt B (.bS [.agg y.c,.agg p.c]) (.bS [.agg x.1.c,.agg x.2.c]):=fun {B J D' y p} hy=>⟨(y,p),⟨J,D',hy⟩,Lt.t2 (a6.cl rfl) (a6.hp rfl)⟩;refine EC.bh ?_;refine EC.iU ab (ca 86) func86 rfl (by simp [ntmps86]) ?_;simp only [ntmps86,results86,fL]
 iterate 4
  (refine bR ab ?_
   generalize hK:i6 prog _ _ _=K0;refine sA ?_;(repeat' (first|with_reducible (first|intro _|apply And.intro)|refine eK ab ?_|((refine EC.aM (cE _) ?_;rintro hh -))|((refine EC.aM (sR (Q:=cG I D) c.bQ frm to h.nt) ?_;rintro ⟨m,nt,e⟩ hm;replace hm:e=0→cG I D m.ba∧gT (cG I D) nt:=hm))|refine dM ab 4 [0,1,2,3,4,5,6,7,8,9,10,11,12,13] [1] bZ fun R hR=>?_|refine bT ab 0 2 ?_ ?_|refine dR ab [2,3,4] ?_|refine dR ab [3,4] ?_|refine dC ab 0 ?_|(refine hR _ _ ?_;refine sA ?_)|fail))<;>(first|(refine gx ab ?_;subst hK;rw [iO,gz];refine sA ?_;exact hbad ((m4.refl h).mono (by omega) (le_refl _) (le_refl _)))|skip)
   all_goals try (subst hK;rw [dc]))
 obtain ⟨hm1,hm2⟩:=hm (by simpa using ‹(e !=0)=false›);have hc1:m4 I D N P S c {c with bQ:=nt}:=⟨h.Rr hm2,rfl⟩;generalize ({c with bQ:=nt}:ao)=c1 at hc1 ⊢;have h1:=hc1.ok;have hnl:=h1.nl.1;have hln:=h1.ln;have hpl:=h1.pl
 iterate 1
  (refine bR ab ?_
   generalize hK:i6 prog _ _ _=K0;refine sA ?_;(repeat' (first|refine eK ab ?_|((refine EC.aM (jR c1 to (by omega)) ?_;rintro x hx))|fail))<;>(skip)
   all_goals try (subst hK;rw [dc]))
 rcases hx with rfl|⟨k,hk,rfl,hkn⟩
 ·refine bR ab ?_;generalize hK:i6 prog _ _ _=K0;simp only [show decide ((-1:Int) < 0)=true from rfl,push_cast,simprocAttr];(repeat' (first|refine dN ab [] [] [0,1,2,3,4,5,6,7,8,9,10,11,12,13,14,15,16,17,18,19,20,21,22] bZ fun R hR=>?_|refine dR ab [10,11,12,13,14,15,16,17,18,19,20,21,22] ?_|(refine hR _ _ ?_;refine sA ?_)|fail))<;>(skip);refine bN ab ?_;simp only [show decide ((-1:Int) < 0)=true from rfl,push_cast,simprocAttr];(repeat' (done))<;>((subst hK;simp only [gz,push_cast,simprocAttr];exact hbad (hc1.mono (by omega) (le_refl _) (le_refl _))))
 ·refine bR ab ?_;generalize hK:i6 prog _ _ _=K0;have hk0:decide ((k:Int) < 0)=false:=decide_eq_false (by omega);simp only [hk0,push_cast,simprocAttr];(repeat' (first|with_reducible (first|intro _|apply And.intro)|refine EC.use (iu c1 _ (by omega)) ?_|refine dN ab [] [] [0,1,2,3,4,5,6,7,8,9,10,11,12,13,14,15,16,17,18,19,20,21,22] bZ fun R hR=>?_|refine dR ab [10,11,12,13,14,15,16,17,18,19,20,21,22] ?_|(refine hR _ _ ?_;refine sA ?_)|contradiction))<;>(first|rfl|assumption|omega|skip)
  all_goals try simp only [hk0,push_cast,simprocAttr]
  refine bN ab ?_;simp only [hk0,push_cast,simprocAttr];(repeat' (with_reducible (first|intro _|apply And.intro)))<;>(first|(subst hK;simp only [gz,push_cast,simprocAttr];exact hbad (hc1.mono (by omega) (le_refl _) (le_refl _)))|skip)
  all_goals try (subst hK;rw [dc])
  have hst:=h1.at hk;have hsl:=h1.sl;refine dy (σ:=aN) [2,3,6,7,8,11] (fun s=>[(12,.bx 5 s 15 0 0),(13,bG 1 (aS .i64) default c1.aY.bL)]) (fun B s=>[au B 0,au B 1,au B 2,au B 3,au B 4,.row s 143 15 [(c1.aq.getD k default).c]]) (fun _=>True) ?_ ?_;rotate_left 1
  ·refine bN ab ?_;refine sA ?_;(repeat' (first|with_reducible (first|intro _|apply And.intro)|refine dN ab [] [] [0,1,2,3,4,5,6,7,8,9,10] bZ fun R hR=>?_|(refine hR _ _ ?_;refine sA ?_)|fail))<;>(first|(exact du 6 _ trivial ⟨So,So,So,So,So,So,trivial⟩)|omega)
  rintro h12 -;simp only [bK,dd,au,List.getD_cons_zero,List.getD_cons_succ,push_cast,simprocAttr]
  iterate 2
   (refine bR ab ?_
    generalize hK:i6 prog _ _ _=K0;refine sA ?_;(repeat' (first|(with_reducible intro hh;first|subst hh|(revert hh;intro _))|with_reducible apply And.intro|refine eK ab ?_|((refine EC.aM (lG c1.aY _ (by omega)) ?_;rintro ⟨place,placed⟩ -))|((refine EC.aM (ud (Q:=cG I D) (N:=N) (c1.aq.getD k default) [] hst (by omega) (zero_le _) h0 _ _) ?_;rintro ⟨xa,la⟩ ⟨ha1,ha2⟩))|((refine EC.aM (jf (N':=N+140) c1 k xa la h1 hk hS (by omega) (ha1.mono (by omega)) (ha2.mono (by omega))) ?_;rintro z hz))|((refine EC.aM (vT (I:=I) (D:=D) h1.z h1.di c1.aY to m (by omega) (by omega) h1.sq hm1) ?_;rintro ⟨v,lv,dn,ev⟩ hsv))|((have hev:ev=0:=(by simpa using ‹(ev !=0)=false›);have hq:=hsv hev;obtain ⟨s2,hs2⟩:=hq.st;have hq1:=hq.q;have hq2:=hq.ln;have hq3:=hq.ms;have hq4:=hq.nd h1.nd;simp only at hs2 hq1 hq2 hq3 hq4;subst hs2;simp only at hq1 hq2 hq4;refine EC.aM (jf (N':=N+140) {c1 with aY:={c1.aY with bz:=s2}} k (c1.aq.getD k default) lv (h1.store (N':=N+140) (by omega) hq1 (by omega) hq4) hk hS (le_refl _) (gd.refl (hst.mono (by omega))) (hq3.mono (by omega))) ?_;rintro z hz))|((refine EC.aM (uc (Q:=cG I D) (N:=N) (c1.aq.getD k default) c1.aY.bL hst (by omega) (by omega) h0 hQ m hm1) ?_;rintro ⟨xb,lb,eb⟩ hb))|((have heb:eb=0:=(by simpa using ‹(eb !=0)=false›);obtain ⟨hb1,hb2⟩:=hb heb;replace hb1:gd (cG I D) (N+2) (c1.aq.getD k default) xb:=hb1;replace hb2:dU (cG I D) (N+2) lb:=hb2;refine EC.aM (jf (N':=N+140) c1 k xb lb h1 hk hS (by omega) (hb1.mono (by omega)) (hb2.mono (by omega))) ?_;rintro z hz;have hzk:k < z.aq.length:=(by rw [hz.ln];exact hk)))|((refine EC.aM (qc (Q:=cG I D) (N:=N+2) xb c1.aY.bL hb1.ok (by omega) (by omega) h0 _ _) ?_;rintro ⟨xp,lp⟩ ⟨hp1,hp2⟩;replace hp1:gd (cG I D) (N+2) xb xp:=hp1;replace hp2:dU (cG I D) (N+3) lp:=hp2))|((refine EC.aM (jf (N':=N+140) z k xp lp hz.ok hzk hS (le_refl _) (by rw [hz.at_];exact hp1.mono (by omega)) (hp2.mono (by omega))) ?_;rintro z2 hz2))|refine dM ab 5 [0,1,2,3,4,5,6,7,8,9,10,11,12,13] [1,3] bZ fun R hR=>?_|refine bT ab 0 2 ?_ ?_|refine dC ab 0 ?_|refine bT ab 2 5 ?_ ?_|refine dP ab 3 [4] ?_|refine dR ab [4,5,6] ?_|refine dC ab 2 ?_|refine dR ab [5,6] ?_|refine dR ab [4,6] ?_|(refine hR _ _ ?_;refine sA ?_)|fail))<;>(first|(subst hK;simp only [gz,nL,push_cast,simprocAttr];exact hbad (⟨hz2.ok,hz2.ln.trans (hz.ln.trans hc1.ln)⟩))|(subst hK;simp only [gz,nL,push_cast,simprocAttr];exact hbad (⟨hz.ok,hz.ln.trans hc1.ln⟩))|(refine gx ab ?_;subst hK;simp only [iO,nL,gz,push_cast,simprocAttr];exact hbad (⟨hz.ok,hz.ln.trans hc1.ln⟩))|(subst hK;simp only [gz,nL,push_cast,simprocAttr];exact hbad (hc1.mono (by omega) (le_refl _) (le_refl _)))|skip)
    all_goals try (subst hK;rw [dc]))
  refine bN ab ?_;refine sA ?_;(repeat' (first|with_reducible intro _|refine eK ab ?_|((refine EC.aM (sQ (Q:=cG I D) (N:=N) (c1.aq.getD k default) c1.aY.bL hst (by omega) (by omega) h0 m hm1) ?_;rintro ⟨xr,lr,er⟩ ⟨hr1,hr2⟩))|((refine EC.aM (jf (N':=N+140) c1 k xr lr h1 hk hS (by omega) (hr1.mono (by omega)) hr2) ?_;rintro z hz))|fail))<;>((exact hbad ⟨hz.ok,hz.ln.trans hc1.ln⟩))
end
end
section
attribute [local irreducible] EC EV gW cc cK dT dA cC
theorem FH {P:Program} {E:Env} {n:Nat} {k:Kn} {t:aV} {B:List aI} {σ:Type} (live:List Nat) (V:σ→aV) (R:List aI→σ→List aI) (Inv:σ→Prop) {i:Nat} {c y:Code}
  (hrest:∀s,Inv s→wl P E n y k (V s ++ bK t live) (R B s)) (h:EV P n c t B (FM i (Cp (LN V (R B) Inv (bK t live)) k)).f):EV P n c t B (FM i (Mc P E n y k)).f:=by
 refine wS h fun e t' B' hq=>?_;have key:LN V (R B) Inv (bK t live) t' B'→∃m t2 R2,Ed m B' t' t2∧Hz m B' 0 R2∧(gy (fun t B=>wl P E n y k t B) k.f) .normal t2 R2:=by
  rintro ⟨s',m,h1,h3,h4⟩;exact ⟨m,_,_,h3,h4,hrest s' h1⟩
 cases e with
 |normal=>exact .inr (key hq)
 |exit j=>
  simp only [FM,Cp,Mc,jM] at hq ⊢
  split at hq
  ·rename_i hj;simp only [hj,if_true];exact .inr (key hq)
  ·rename_i hj;simp only [hj,if_false];exact .inl hq
 |goto l=>exact .inl hq
 |ret=>exact .inl hq
 |panic l=>exact .inl hq
 |outgrown=>exact .inl hq
def t8 (e:bg) (a:SV):List SV:=e.c.set 2 a
def Ma:Env:={E with zr:=fun T=>if T=138 then [.int .i64 0,tY] else if T=334 then t8 default tY else E.zr T}
theorem iW:cI prog Ma:=⟨ab.ty,fun T h=>by
 simp only [Ma] at h ⊢
 split
 ·rename_i e;subst e;kernel_rfl
 ·rename_i e
  split
  ·rename_i e2;subst e2;kernel_rfl
  ·rename_i e2;simp only [e,e2,if_false] at h;exact ab.zr T h,ab.lv⟩
theorem L9 (T:Nat):Ma.ty T=E.ty T:=rfl
theorem L_:Ma.kp=E.kp:=rfl
theorem L8:Ma.zr 138=[.int .i64 0,tY]:=rfl
theorem Jf:Ma.zr 334=t8 default tY:=rfl
theorem Je:Ma.zr 76=E.zr 76:=rfl
theorem vM (e:bg) (a:SV):(t8 e a).length=41:=rfl
theorem OI (e:bg) (a d:SV):(t8 e a).getD 2 d=a:=rfl
theorem OF (e:bg) (a x:SV):aJ (t8 e a) 2 [x]=t8 e x:=rfl
theorem OH (e:bg) (a:SV) (x:Int):aJ (t8 e a) 0 [.int .u64 x]=t8 {e with ID:=x} a:=rfl
theorem OE (e:bg) (a:SV) (x:Int):aJ (t8 e a) 1 [.int .i64 x]=t8 {e with m8:=x} a:=rfl
theorem OG (e:bg) (a:SV) (o:af):aJ (t8 e a) 3 o.c=t8 {e with ba:=o} a:=bb (by simp only [vM,af.len];decide) rfl
theorem JK (e:bg) (a x:SV):(t8 e a).set 2 x=t8 e x:=rfl
theorem Lu (e f:bg) (a b:SV):aJ (t8 e a) 0 (t8 f b)=t8 f b:=bb (by rw [vM,vM];decide) (by rw [vM,List.drop_of_length_le (by rw [vM];decide)];simp)
theorem IF (e:bg) (a:SV):bt (t8 e a)=a.fh:=by
 have h:bt (t8 e a)=(a.fh && true):=rfl;rw [h,Bool.and_true]
theorem gw.t8 {m:Nat} {B:List aI} {e:bg} {a:SV} {l:List Int} (h1:jv m B a (bG 1 (aS .i64) default l)):gw m B (t8 e a) (bg.c {e with br:=l}):=
 (gw.put (gw.obj (cs:=e.c) (fun s B=>by rw [bg.fk]) (fun s B=>by rw [bg.fz])) 2 h1 (r:=bg.c {e with br:=l}) rfl)
attribute [local push_cast] L9 L_ L8 Jf Je vM OI OF OH OE OG JK Lu IF eO dG SV.fh
attribute [local irreducible] t8
theorem qN {Q:af→Prop} {n:Nat} (number:Int) (nodes:List Int) (s:aG) (l:List bJ) (hn:nodes.length≤1000000) (hs:s.ah.length≤900000000) (hl:l.length≤100000000000) (hq:∀o∈s.ah,Q o) (h0:Q default):EC prog 158 [.int .i64 number,bG 1 (aS .i64) default nodes,.agg s.c,bG 3 bJ.c default l] [] fun r N=>N=[]∧∃d:aW,(d.Entries.length≤s.ah.length∧∀e∈d.Entries,mQ Q 0 e)∧r= .agg d.c:=by
 refine EC.bh ?_;refine EC.iU iW (ca 158) func158 rfl (by simp [ntmps158]) ?_;simp only [ntmps158,results158,fL]
 iterate 3
  (refine bR iW ?_
   generalize hK:i6 prog _ _ _=K0;refine sA ?_;(repeat' (first|with_reducible (first|intro _|apply And.intro)|refine eK iW ?_|((refine EC.aM (nT l hl) ?_;rintro a ha))|fail))<;>(first|rfl|skip)
   all_goals try (subst hK;rw [dc]))
 have hal:=ha.ln;refine eY 2 0 1 334 41 (by simp) rfl rfl rfl ?_;intro hh;simp only [set_cons_succ,set_cons_zero,length_cons,length_nil,cons_append,nil_append,zero_add,Nat.reduceAdd];refine bR iW ?_;generalize hK:i6 prog _ _ _=K0;refine sA ?_;(repeat' (done));refine aT iW [0,1,3,6,8,9] (fun x:Nat×List bg×Nat×aN=>[(10,.int .i64 x.1)]) (fun B x=>cW (cP B 2 [[.int .i64 number,.row 3 x.2.2.2 41 0 x.2.2.1]]) 3 x.2.2.2 (x.2.1.map bg.c)) (fun x=>x.1≤s.ah.length∧x.2.2.1=x.2.1.length∧x.2.1.length≤x.1∧∀e∈x.2.1,mQ Q 0 e) (fun x=>s.ah.length - x.1) (0,[],0,hh) ⟨zero_le _,rfl,le_refl _,fun e he=>(nomatch he)⟩ ?_;rintro ⟨i,en,km,hr⟩ ⟨hi,hk,hen,heq⟩;replace hi:i≤s.ah.length:=hi;obtain rfl:km=en.length:=hk;replace hen:en.length≤i:=hen;replace heq:∀e∈en,mQ Q 0 e:=heq;have hw:=wI i;have hoq:i < s.ah.length→Q (s.ah.getD i default):=fun h=>hq _ (bk h);simp only [hw,push_cast,simprocAttr];(repeat' (first|with_reducible (first|intro _|apply And.intro)|refine eK iW ?_|(refine EC.aM (jS nodes _ (by omega)) ?_;rintro _ _)|fail))<;>(first|omega|((try simp only [hw]);exact a7 (i+1,en,en.length,hr) ⟨by show i+1≤_;omega,rfl,le_succ_of_le hen,heq⟩)|rfl|(show (_:Bool)=true;first|(simp_all;done)|grind)|(show False;first|(simp_all;done)|grind)|(simp_all;done)|skip)
 ·refine FH (σ:=bg) [0,1,3,6,8,9,10,11,12] (fun _=>[]) (fun B e=>(cP B 5 [e.c]).take 6) (fun e=>mQ Q 0 e) ?_ ?_;rotate_left 1
  ·refine eY 5 0 2 3 1 (by simp) rfl rfl (by unfold t8;rfl) ?_;intro hh2;simp only [set_cons_succ,set_cons_zero,length_cons,length_nil,cons_append,nil_append,zero_add,Nat.reduceAdd,JK];refine aT iW [0,1,3,6,8,9,10,11,12] (fun x:Nat×bg×List Int×Nat×aN=>[(13,.int .i64 x.1)]) (fun B x=>cW (cP B 5 [t8 x.2.1 (.row 6 x.2.2.2.2 1 0 x.2.2.2.1)]) 6 x.2.2.2.2 (x.2.2.1.map (aS .i64))) (fun x=>x.1≤a.length∧x.2.2.2.1=x.2.2.1.length∧x.2.2.1.length≤x.1∧Q x.2.1.ba∧x.2.1.bX.length≤0∧x.2.1.bA.length≤0) (fun x=>a.length - x.1) (0,({ID:=(s.ah.getD i default).ID,m8:=-1,br:=(default:bg).br,ba:=s.ah.getD i default,bX:=(default:bg).bX,bA:=(default:bg).bA}:bg),[],0,hh2) ⟨zero_le _,rfl,le_refl _,hoq (by omega),le_refl _,le_refl _⟩ ?_;rintro ⟨k,e,rd,kr,hr2⟩ ⟨hk,hkr,hrl,hq1,hq2,hq3⟩;replace hk:k≤a.length:=hk;obtain rfl:kr=rd.length:=hkr;replace hrl:rd.length≤k:=hrl;replace hq1:Q e.ba:=hq1;replace hq2:e.bX.length≤0:=hq2;replace hq3:e.bA.length≤0:=hq3;have hw2:IntKind.i64.wrap ((k:Int)+1)=((k+1:Nat):Int):=by rw [bu (by omega)];omega
   have hok:mQ Q 0 {e with br:=rd}:=⟨hq1,by show rd.length≤_;omega,by show e.bX.length≤_;omega,hq3⟩;simp only [hw2,push_cast,simprocAttr];(repeat' (first|with_reducible (first|intro _|apply And.intro)|refine dN iW [] [] [0,1,2,3,4,5,6,7] bZ fun R hR=>?_|(refine hR _ _ ?_;refine sA ?_)|fail))<;>(first|omega|(exact du 6 {e with br:=rd} hok ⟨So,So,So,So,So,⟨by decide,wY.EI rfl (by rw [vM];decide) (gw.t8 (jv.row (by decide) rfl rfl rfl))⟩,trivial⟩)|skip);refine bN iW ?_;simp only [hw2,push_cast,simprocAttr];(repeat' (first|with_reducible (first|intro _|apply And.intro)|refine dJ iW 5 [10] [6] [0,1,2,3,4,5] bZ fun R hR=>?_|refine kh iW 6 ?_|refine kh iW 7 ?_|refine kh iW 8 ?_|refine dR iW [9,10] ?_|(refine hR _ _ ?_;refine sA ?_)|fail))<;>(first|omega|rfl|((try simp only [hw2]);exact a7 (k+1,e,rd,rd.length,hr2) ⟨by show k+1≤_;omega,rfl,le_succ_of_le hrl,hq1,hq2,hq3⟩)|((try simp only [hw2]);exact a7 (k+1,{e with m8:=_,ba:=default},rd,rd.length,hr2) ⟨by show k+1≤_;omega,rfl,le_succ_of_le hrl,h0,hq2,hq3⟩)|((try simp only [hw2]);refine a7 (k+1,e,rd ++ [_],rd.length+1,_) ⟨by show k+1≤_;omega,by simp,by simp;omega,hq1,hq2,hq3⟩))
  intro e he;replace he:mQ Q 0 e:=he;simp only [bK,dd,au,cP,jA,List.take_succ_cons,List.take_zero,List.getD_cons_zero,List.getD_cons_succ,push_cast,simprocAttr];(repeat' (with_reducible (first|intro _|apply And.intro)))<;>(first|omega|((try simp only [hw]);refine a7 (i+1,en ++ [_],en.length+1,_) ⟨by show i+1≤_;omega,by simp,by simp;omega,fun x hx=>?_⟩;rcases List.mem_append.1 hx with hx|hx;exact heq x hx;rw [List.mem_singleton.1 hx];exact he))
 subst hK;rw [dc];refine bN iW ?_;refine sA ?_;(repeat' (done))<;>((exact ⟨⟨number,en⟩,⟨by show en.length≤_;omega,heq⟩,Lt.QY rfl rfl rfl⟩))
end
section
attribute [local irreducible] EC EV gW cc cK dT dQ dA cC ku ot
attribute [local push_cast] CK Dz oa ov Gt Pz eO dG eu gS List.length_range bM
theorem FI {P:Program} {n:Nat} {k:Kn} {t:aV} {B:List aI} {σ:Type} (live:List Nat) (V:σ→aV) (R:List aI→σ→List aI) (Inv:σ→Prop) {i:Nat} {c:Code}
  (hrest:∀s,Inv s→k.f .normal (V s ++ bK t live) (R B s)) (h:EV P n c t B (FM i (Cp (LN V (R B) Inv (bK t live)) k)).f):EV P n c t B (FM i k).f:=by
 refine wS h fun e t' B' hq=>?_;have key:LN V (R B) Inv (bK t live) t' B'→∃m t2 R2,Ed m B' t' t2∧Hz m B' 0 R2∧k.f .normal t2 R2:=by
  rintro ⟨s',m,h1,h3,h4⟩;exact ⟨m,_,_,h3,h4,hrest s' h1⟩
 cases e with
 |normal=>exact .inr (key hq)
 |exit j=>
  simp only [FM,Cp,jM] at hq ⊢
  split at hq
  ·rename_i hj;simp only [hj,if_true];exact .inr (key hq)
  ·rename_i hj;simp only [hj,if_false];exact .inl hq
 |goto l=>exact .inl hq
 |ret=>exact .inl hq
 |panic l=>exact .inl hq
 |outgrown=>exact .inl hq
def eA (pre:List aj) (x:List SV) (post:List aj):List (List SV):=pre.map aj.c ++ x :: post.map aj.c
theorem Dw (pre:List aj) (x:List SV) (post:List aj):(eA pre x post).getD pre.length []=x:=by simp [eA,getD]
theorem HZ (pre:List aj) (x:List SV) (post:List aj):(eA pre x post)[pre.length]?=some x:=by simp [eA]
theorem zi (pre:List aj) (x y:List SV) (post:List aj):(eA pre x post).set pre.length y=eA pre y post:=by simp [eA]
theorem Dv (pre:List aj) (x:List SV) (post:List aj):(eA pre x post).length=pre.length+1+post.length:=by simp [eA];omega
theorem uF (pre:List aj) (x:aj) (post:List aj):map aj.c (pre ++ x :: post)=eA pre x.c post:=by simp [eA]
theorem Du (pre:List aj) (x:aj) (post:List aj):map aj.c (pre ++ [x] ++ post)=eA pre x.c post:=by simp [eA]
def AP (x:aj) (a:SV):List SV:=x.c.set 9 a
theorem Nt (x:aj) (f:Nat→List SV):aJ x.c 9 [.sl true 0 0 f]=AP x (.sl true 0 0 f):=rfl
theorem No (x:aj) (a:SV) (t:a9):aJ (AP x a) 5 t.c=AP {x with aD:=t} a:=rfl
theorem Ns (x:aj) (a:SV) (d:aW):aJ (AP x a) 7 d.c=AP {x with dq:=d} a:=rfl
theorem Nq (x:aj) (a:SV):(AP x a).length=15:=rfl
theorem Nr (x:aj) (a d:SV):(AP x a).getD 9 d=a:=rfl
theorem Jt (x:aj) (a b:SV):(AP x a).set 9 b=AP x b:=rfl
theorem Np (x:aj) (a b:SV):aJ (AP x a) 9 [b]=AP x b:=rfl
theorem gw.AP {m:Nat} {B:List aI} {x:aj} {a:SV} {l:List Int} (h1:jv m B a (bG 1 (aS .u64) default l)):gw m B (AP x a) (aj.c {x with cT:=l}):=
 (gw.put (gw.obj (cs:=x.c) (fun s B=>by rw [aj.fk]) (fun s B=>by rw [aj.fz])) 9 h1 (r:=aj.c {x with cT:=l}) rfl)
theorem wY.eA {m:Nat} {B:List aI} {o:aI} {h:aN} {E e:Nat} {pre post:List aj} {x y:List SV} (ho:o= .row h E e (eA pre x post)) (hx:x.length=15) (hf:gw m B x y):wY m B o (.row h E e (Go.Proofs.YteejbbfaphcgiaaGreat.eA pre y post)):=by
 refine .inr (.inr ⟨h,E,e,_,_,ho,rfl,?_⟩);have hob:∀z:aj,(∀k1 k2 a v,z.c≠[.int k1 a,.int k2 v])∧gw m B z.c z.c:=fun z=>⟨fun k1 k2 a v e=>by have:=congrArg length e;simp [aj.len] at this,gw.obj (cs:=z.c) (fun s B=>by rw [aj.fk]) (fun s B=>by rw [aj.fz])⟩;refine ⟨by simp [Go.Proofs.YteejbbfaphcgiaaGreat.eA],fun k cs ds hc hd=>?_⟩;unfold Go.Proofs.YteejbbfaphcgiaaGreat.eA at hc hd;rcases Nat.lt_trichotomy k pre.length with hlt|rfl|hgt
 ·rw [List.getElem?_append_left (by simpa using hlt),List.getElem?_map] at hc hd
  cases hp:pre[k]? with
  |none=>simp [hp] at hc
  |some z=>simp [hp] at hc hd;subst hc hd;exact hob z
 ·simp at hc hd;subst hc hd;exact ⟨fun k1 k2 a v e=>by have:=congrArg length e;simp [hx] at this,hf⟩
 ·rw [List.getElem?_append_right (by simp;omega)] at hc hd;simp only [List.length_map] at hc hd;obtain ⟨j,hj⟩:∃j,k - pre.length=j+1:=⟨k - pre.length - 1,by omega⟩;rw [hj,List.getElem?_cons_succ,List.getElem?_map] at hc hd
  cases hp:post[j]? with
  |none=>simp [hp] at hc
  |some z=>simp [hp] at hc hd;subst hc hd;exact hob z
attribute [local push_cast] Dw zi Dv Nt No Ns Nr Jt Np
attribute [local irreducible] eA AP
section
variable {I D:Int→Prop} {N P S:Nat} (c:ao) (h:gL I D N P S c) (hS:S≤100) (hN:N+121*P+1000000≤700000000) (hP:P≤1000000)
include h hS hN hP
theorem vR (nodes:List Int) (hnn:nodes.length≤1000000):EC prog 93 [.agg c.c,bG 1 (aS .i64) default nodes] [] fun r N'=>N'=[]∧∃x:ao×aB,od (N+121*P) P S c x.1∧r= .bS [.agg x.1.c,.agg x.2.c]:=by
 have hnl:=h.nl.1;have hln:=h.ln;have hsl:=h.sl;have hpl:=h.pl;have hlk:=h.nt.ln;have h0:=h.d0;have hQ:∀o,cG I D o→mh o:=fun o ho=>ho.sp;have hbad:∀{B:List aI} {J D':Int→Prop} {y:ao} {p:aB},m4 J D' (N+121*P) P S c y→∃x:ao×aB,od (N+121*P) P S c x.1∧Lt B (.bS [.agg y.c,.agg p.c]) (.bS [.agg x.1.c,.agg x.2.c]):=fun {B J D' y p} hy=>⟨(y,p),⟨J,D',hy⟩,Lt.t2 (a6.cl rfl) (a6.hp rfl)⟩;refine EC.bh ?_;refine EC.iU ab (ca 93) func93 rfl (by simp [ntmps93]) ?_;simp only [ntmps93,results93,fL]
 iterate 2
  (refine bR ab ?_
   generalize hK:i6 prog _ _ _=K0;refine sA ?_;(repeat' (with_reducible intro _))<;>(skip)
   all_goals try (subst hK;rw [dc]))
 refine dy (σ:=List Int) [1,2,4,5] (fun l=>[(6,bG 1 (aS .i64) default l)]) (fun B _=>[au B 0,au B 1,au B 2]) (fun l=>l.length≤c.aq.length) ?_ ?_;rotate_left 1
 ·refine cw 6 3 1 rfl ?_;intro hh;refine bN ab ?_;refine sA ?_;(repeat' (done));refine aT ab [1,2,4,5] (fun s:Nat×List Int×Nat×aN=>[(7,.int .i64 s.1),(6,.row 3 s.2.2.2 1 0 s.2.2.1)]) (fun B s=>cW B 3 s.2.2.2 (s.2.1.map (aS .i64))) (fun s=>s.1≤c.aq.length∧s.2.2.1=s.2.1.length∧s.2.1.length≤s.1) (fun s=>c.aq.length - s.1) (0,[],0,hh) ⟨zero_le _,rfl,le_refl _⟩ ?_;rintro ⟨i,m,km,hr⟩ ⟨hi,hk,hm⟩;replace hi:i≤c.aq.length:=hi;obtain rfl:km=m.length:=hk;replace hm:m.length≤i:=hm;have hw:=wI i;simp only [hw,push_cast,simprocAttr];(repeat' (with_reducible (first|intro _|apply And.intro)))<;>(first|omega|((try simp only [hw]);refine a7 (i+1,m ++ [_],m.length+1,_) ⟨by show i+1≤_;omega,by simp,by simp;omega⟩)|skip);refine du 3 m (by show m.length≤_;omega) ⟨So,So,So,trivial⟩ ?_;refine And.intro ?_ ?_
  ·simp only [dd,push_cast,simprocAttr];exact Pb.row (by decide) rfl rfl rfl
  ·(repeat (first|exact trivial|refine And.intro (by first|(refine And.intro trivial ?_;first|exact bq.refl _|(simp only [dd,push_cast,simprocAttr];exact bq.refl _))|(simp only [dd,push_cast,simprocAttr];exact jv.low (by decide))|(simp [dd,dE,fu,fw,iT,cf,gl,bc,bq.refl];done)|fail) ?_))
 intro up hup;replace hup:up.length≤c.aq.length:=hup;simp only [bK,dd,au,List.getD_cons_zero,List.getD_cons_succ,push_cast,simprocAttr]
 iterate 1
  (refine bR ab ?_
   generalize hK:i6 prog _ _ _=K0;refine sA ?_;(repeat' (first|with_reducible (first|intro _|apply And.intro)|refine eK ab ?_|refine EC.use (oL c.aY up c.bQ nodes (by omega) (by omega) (by omega) hnn) ?_|((refine EC.aM (cE _) ?_;rintro hh -))|refine dM ab 4 [0,1,2,3,4,5,6,7,8,9,10,11,12,13] [1] bZ fun R hR=>?_|refine bT ab 0 2 ?_ ?_|refine dR ab [2,3,4] ?_|refine dR ab [3,4] ?_|refine dC ab 0 ?_|(refine hR _ _ ?_;refine sA ?_)|fail))<;>(first|(refine gx ab ?_;subst hK;simp only [iO,nL,gz,push_cast,simprocAttr];exact hbad (m4.refl h |>.mono (by omega) (le_refl _) (le_refl _)))|skip)
   all_goals try (subst hK;rw [dc]))
 have hprp:ib nodes=true:=by
  have hc0:ku c.aY up c.bQ nodes=0:=by simpa using ‹(ku c.aY up c.bQ nodes !=0)=false›
  unfold ku at hc0;by_cases hp:ib nodes=true
  ·exact hp
  ·rw [if_pos (by simpa using hp)] at hc0;exact absurd hc0 (by decide)
 have hn8:=(ow hprp).2;refine dy (σ:=((aG×List b8)×List Int)×aN) [1,2,4,5] (fun s=>[(9,.bx 3 s.2 6 0 0),(10,bG 1 (aS .u64) default s.1.2)]) (fun B s=>[au B 0,au B 1,au B 2,.row s.2 31 6 [aO.c {({c.aY with ea:=IntKind.i64.wrap (c.aY.ea+1),bL:=nodes}:aO) with bz:=s.1.1.1,cz:=s.1.1.2}]]) (fun x=>(ja I D x.1.1.1∧x.1.1.1.ah.length≤c.aY.bz.ah.length+60*P∧(ij c.aY.bz→ij x.1.1.1))∧x.1.1.2.length≤P∧x.1.2.length≤P) ?_ ?_;rotate_left 1
 ·refine bN ab ?_;refine sA ?_;(repeat' (first|with_reducible intro _|refine EC.use (qb c.aY nodes hnn) ?_|((refine EC.aM (xu c.aY nodes (by omega) hnn) ?_;rintro ml hml))|((refine EC.aM (xv (I:=I) (D:=D) (L:=c.aY.bz.ah.length) (P:=P) {c.aY with ea:=IntKind.i64.wrap (c.aY.ea+1),bL:=nodes} ml h.z h.sq (le_refl _) hpl hP (le_trans hml hpl) (by omega) h.di) ?_;rintro ⟨⟨st,pl⟩,kl⟩ hkl))|refine dM ab 9 [] [0,1,2,4,5,6] bZ fun R hR=>?_|refine bT ab 3 12 ?_ ?_|refine bT ab 7 12 ?_ ?_|refine dR ab [3,7,8,9,10,11,13,14] ?_|refine dR ab [7,8,9,10,11,13,14] ?_|refine dR ab [8,9,10,11,13,14] ?_|refine dR ab [9,10,11,13,14] ?_|refine bT ab 8 12 ?_ ?_|refine dR ab [9,10,11,12,13,14] ?_|(refine hR _ _ ?_;refine sA ?_)|fail))<;>((exact du 4 (((st,pl),kl),_) hkl ⟨So,So,So,So,trivial⟩))
 rintro ⟨⟨⟨st,pl⟩,kl⟩,h9⟩ ⟨⟨hst,hstl,hnd⟩,hpl2,hkl⟩;replace hst:ja I D st:=hst;replace hstl:st.ah.length≤c.aY.bz.ah.length+60*P:=hstl;replace hnd:ij c.aY.bz→ij st:=hnd;replace hpl2:pl.length≤P:=hpl2;simp only [bK,dd,au,List.getD_cons_zero,List.getD_cons_succ,push_cast,simprocAttr]
 iterate 1
  (refine bR ab ?_
   generalize hK:i6 prog _ _ _=K0;refine sA ?_;(repeat' (done))<;>(skip)
   all_goals try (subst hK;rw [dc]))
 refine dy (σ:=List bJ) [1,2,4,5,9,10] (fun l=>[(11,bG 3 bJ.c default l)]) (fun B _=>[au B 0,au B 1,au B 2,au B 3]) (fun l=>l.length≤c.aq.length*N) ?_ ?_;rotate_left 1
 ·refine cw 11 330 3 rfl ?_;intro hh;refine bN ab ?_;refine sA ?_;(repeat' (done));refine aT ab [1,2,4,5,9,10] (fun s:Nat×List bJ×Nat×aN=>[(12,.int .i64 s.1),(11,.row 4 s.2.2.2 3 0 s.2.2.1)]) (fun B s=>cW B 4 s.2.2.2 (s.2.1.map bJ.c)) (fun s=>s.1≤c.aq.length∧s.2.2.1=s.2.1.length∧s.2.1.length≤s.1*N) (fun s=>c.aq.length - s.1) (0,[],0,hh) ⟨zero_le _,rfl,zero_le _⟩ ?_;rintro ⟨i,m,km,hr⟩ ⟨hi,hk,hm⟩;replace hi:i≤c.aq.length:=hi;obtain rfl:km=m.length:=hk;replace hm:m.length≤i*N:=hm;have hw:=wI i;have hmN:m.length≤100*700000000:=le_trans hm (Nat.mul_le_mul (by omega) (by omega));have hm1:∀k,k≤N→m.length+k≤(i+1)*N:=fun k hk=>by rw [Nat.succ_mul];omega
  simp only [hw,push_cast,simprocAttr];(repeat' (first|with_reducible (first|intro _|apply And.intro)|refine eK ab ?_|refine EC.use (iu c _ (by omega)) ?_|refine EC.use (d7 nodes _ (by omega)) ?_|((have hsi:=h.at (k:=i) (by omega);have hsit:=hsi.tl;refine EC.aM (ua (Q:=cG I D) (c.aq.getD i default).aD st (by omega) (by omega) hsi.tq hst h0 hQ) ?_;rintro cl hcl;have hclN:=le_trans hcl hsit))|fail))<;>(first|omega|((try simp only [hw,←map_append]);first|exact a7 (i+1,m ++ cl,m.length+cl.length,_) ⟨by show i+1≤_;omega,by simp,by show (m ++ cl).length≤(i+1)*N;rw [List.length_append];exact hm1 _ hclN⟩|exact a7 (i+1,m,m.length,hr) ⟨by show i+1≤_;omega,rfl,hm1 0 (zero_le _)⟩)|(show False;first|(simp_all;done)|grind)|skip);refine du 4 m (le_trans hm (Nat.mul_le_mul_right _ hi)) ⟨So,So,So,So,trivial⟩ ?_;refine And.intro ?_ ?_
  ·simp only [dd,push_cast,simprocAttr];exact Pb.row (by decide) rfl rfl rfl
  ·(repeat (first|exact trivial|refine And.intro (by first|(refine And.intro trivial ?_;first|exact bq.refl _|(simp only [dd,push_cast,simprocAttr];exact bq.refl _))|(simp only [dd,push_cast,simprocAttr];exact jv.low (by decide))|(simp [dd,dE,fu,fw,iT,cf,gl,bc,bq.refl];done)|fail) ?_))
 intro cl hcl;replace hcl:cl.length≤c.aq.length*N:=hcl;have hclN:cl.length≤100000000000:=le_trans hcl (le_trans (Nat.mul_le_mul (show c.aq.length≤100 by omega) (show N≤700000000 by omega)) (by decide));simp only [bK,dd,au,List.getD_cons_zero,List.getD_cons_succ,push_cast,simprocAttr]
 iterate 1
  (refine bR ab ?_
   generalize hK:i6 prog _ _ _=K0;refine sA ?_;(repeat' (with_reducible (first|intro _|apply And.intro)))<;>(first|omega|skip)
   all_goals try (subst hK;rw [dc]))
 refine dy (σ:=List aj) [1,2,4,5,9,10] (fun l=>[(14,bG 15 aj.c default l)]) (fun B l=>[au B 0,au B 1,au B 2,au B 3]) (fun l=>l.length=c.aq.length∧l.map (·.bD)=c.aq.map (·.bD)∧∀y∈l,jB (cG I D) (N+121*P) y) ?_ ?_;rotate_left 1
 ·refine bN ab ?_;refine sA ?_;(repeat' (done));refine aT ab [1,2,4,5,9,10,11,14] (fun x:List aj×List aj=>[(15,.int .i64 x.1.length)]) (fun B x=>cP B 4 ((x.1 ++ x.2).map aj.c)) (fun x=>x.1.length+x.2.length=c.aq.length∧(x.1 ++ x.2).map (·.bD)=c.aq.map (·.bD)∧(∀y∈x.1,jB (cG I D) (N+121*P) y)∧∀y∈x.2,y∈c.aq) (fun x=>x.2.length) ([],c.aq) ⟨zero_add _,rfl,fun y hy=>(nomatch hy),fun y hy=>hy⟩ ?_;rintro ⟨pre,post⟩ ⟨hl,hA,hpre,hpost⟩;replace hl:pre.length+post.length=c.aq.length:=hl;replace hA:(pre ++ post).map (·.bD)=c.aq.map (·.bD):=hA;replace hpre:∀y∈pre,jB (cG I D) (N+121*P) y:=hpre;replace hpost:∀y∈post,y∈c.aq:=hpost;have hw:IntKind.i64.wrap ((pre.length:Int)+1)=((pre.length+1:Nat):Int):=by rw [bu (by omega)];omega
  rcases post with _|⟨x,post⟩
  ·have hpl3:pre.length=c.aq.length:=by simpa using hl
   have hdd:decide ((pre.length:Int) < (c.aq.length:Int))=false:=by simp;omega
   simp only [List.append_nil,hdd,push_cast,simprocAttr];(repeat' (done))<;>(skip);refine du 4 pre ⟨hpl3,by simpa using hA,hpre⟩ ⟨So,So,So,So,trivial⟩ ?_;refine And.intro ?_ ?_
   ·simp only [dd,push_cast,simprocAttr];exact Pb.row (by decide) rfl rfl hpl3.symm
   ·(repeat (first|exact trivial|refine And.intro (by first|(refine And.intro trivial ?_;first|exact bq.refl _|(simp only [dd,push_cast,simprocAttr];exact bq.refl _))|(simp only [dd,push_cast,simprocAttr];exact jv.low (by decide))|(simp [dd,dE,fu,fw,iT,cf,gl,bc,bq.refl];done)|fail) ?_))
  ·have hll:pre.length+(post.length+1)=c.aq.length:=by simpa using hl
   simp only [cP,jA,uF,hw,push_cast,simprocAttr];(repeat' (first|with_reducible (first|intro _|apply And.intro)|refine eK ab ?_|refine EC.use (d7 nodes _ (by omega)) ?_|fail))<;>(first|omega|skip)
   ·simp only [←Du];(try simp only [hw]);refine a7 (hm:=by show post.length < (x :: post).length;simp) (pre ++ [x],post) ⟨by simp;omega,by simpa using hA,fun y hy=>by rcases List.mem_append.1 hy with hy|hy;exact hpre y hy;rw [List.mem_singleton.1 hy];exact (h.st x (hpost x List.mem_cons_self)).mono (by omega),fun y hy=>hpost y (List.mem_cons_of_mem _ hy)⟩
   ·refine kz (σ:=a9×aW) [1,2,4,5,9,10,11,14,15,16,17] (fun s=>[]) (fun B s=>(cP B 4 (eA pre (AP {x with ea:=IntKind.i64.wrap (c.aY.ea+1),Task:=default,aD:=s.1,dq:=s.2} (.sl true 0 0 fun _=>[])) post)).take 5) (fun s=>(s.1.aD.length≤2*st.ah.length∧∀y∈s.1.aD,cG I D y.ba)∧s.2.Entries.length≤st.ah.length∧∀e∈s.2.Entries,mQ (cG I D) 0 e) ?_ ?_;rotate_left 1
    ·refine bN ab ?_;simp only [cP,jA,push_cast,simprocAttr];(repeat' (first|with_reducible apply And.intro|((refine EC.aM (t_ x.aD.bW st cl hclN (by omega)) ?_;rintro ac hac))|((refine EC.aM (qN (n:=0) (Q:=cG I D) x.aD.bW nodes st cl hnn (by omega) hclN hst h0) ?_;rintro d hd))|refine dN ab [] [4] [0,1,2,3,4,5,7,8,9,10,11,6,12,13,14,15,16,17,18] bZ fun R hR=>?_|refine dR ab [12,13,14,15,16,17,18] ?_|refine dR ab [13,14,15,16,17,18] ?_|(refine hR _ _ ?_;refine sA ?_)|fail))<;>(first|omega|(exact du 5 (⟨x.aD.bW,ot x.aD.bW st ac⟩,d) ⟨⟨AY hac,KM hst h0⟩,hd⟩ ⟨So,So,So,So,So,trivial⟩))
    rintro ⟨tk,d⟩ ⟨⟨htk1,htk2⟩,hd1,hd2⟩;replace htk1:tk.aD.length≤2*st.ah.length:=htk1;replace htk2:∀y∈tk.aD,cG I D y.ba:=htk2;replace hd1:d.Entries.length≤st.ah.length:=hd1;replace hd2:∀e∈d.Entries,mQ (cG I D) 0 e:=hd2;simp only [bK,dd,au,cP,jA,List.take_succ_cons,List.take_zero,List.getD_cons_zero,List.getD_cons_succ,push_cast,simprocAttr];refine bN ab ?_;refine sA ?_;(repeat' (done));refine FI (σ:=List Int) [1,2,4,5,9,10,11,14,15,16,17] (fun _=>[]) (fun B l=>(cP B 4 (eA pre (aj.c {x with ea:=IntKind.i64.wrap (c.aY.ea+1),Task:=default,aD:=tk,dq:=d,cT:=l}) post)).take 5) (fun l=>l.length≤P) ?_ ?_;rotate_left 1
    ·refine eY 4 pre.length 9 42 1 (by simp) rfl (HZ ..) (by unfold AP;rfl) ?_;intro hh2;simp only [set_cons_succ,set_cons_zero,length_cons,length_nil,cons_append,nil_append,zero_add,Nat.reduceAdd,zi,Jt];refine aT ab [1,2,4,5,9,10,11,14,15,16,17] (fun s:Nat×List Int×Nat×aN=>[(18,.int .i64 s.1)]) (fun B s=>cW (cP B 4 (eA pre (AP {x with ea:=IntKind.i64.wrap (c.aY.ea+1),Task:=default,aD:=tk,dq:=d} (.row 5 s.2.2.2 1 0 s.2.2.1)) post)) 5 s.2.2.2 (s.2.1.map (aS .u64))) (fun s=>s.1≤pl.length∧s.2.2.1=s.2.1.length∧s.2.1.length≤s.1) (fun s=>pl.length - s.1) (0,[],0,hh2) ⟨zero_le _,rfl,le_refl _⟩ ?_;rintro ⟨k,m,km,hr⟩ ⟨hk,hkm,hm⟩;replace hk:k≤pl.length:=hk;obtain rfl:km=m.length:=hkm;replace hm:m.length≤k:=hm;have hw2:IntKind.i64.wrap ((k:Int)+1)=((k+1:Nat):Int):=by rw [bu (by omega)];omega
     simp only [hw2,push_cast,simprocAttr];(repeat' (first|with_reducible (first|intro _|apply And.intro)|refine dJ ab 5 [15] [5] [0,1,2,3,4,5,6,7,8,9,10] bZ fun R hR=>?_|refine kh ab 11 ?_|refine kh ab 12 ?_|refine kh ab 13 ?_|refine dR ab [14,15] ?_|(refine hR _ _ ?_;refine sA ?_)|fail))<;>(first|omega|(exact du 5 m (by show m.length≤P;omega) ⟨So,So,So,So,⟨by decide,wY.eA rfl (by rw [Nq]) (gw.AP (jv.row (by decide) rfl rfl rfl))⟩,trivial⟩)|((try simp only [hw2]);exact a7 (k+1,m,m.length,hr) ⟨by show k+1≤_;omega,rfl,le_succ_of_le hm⟩)|((try simp only [hw2]);refine a7 (k+1,m ++ [_],m.length+1,_) ⟨by show k+1≤_;omega,by simp,by simp;omega⟩))
    intro l hl9;replace hl9:l.length≤P:=hl9;simp only [bK,dd,au,cP,jA,List.take_succ_cons,List.take_zero,List.getD_cons_zero,List.getD_cons_succ,push_cast,simprocAttr];(repeat' (done))<;>(skip);simp only [←Du];(try simp only [hw]);refine a7 (hm:=by show post.length < (x :: post).length;simp) (pre ++ [{x with ea:=IntKind.i64.wrap (c.aY.ea+1),Task:=default,aD:=tk,dq:=d,cT:=l}],post) ⟨by simp;omega,by simpa using hA,fun y hy=>?_,fun y hy=>hpost y (List.mem_cons_of_mem _ hy)⟩;rcases List.mem_append.1 hy with hy|hy
    ·exact hpre y hy
    ·rw [List.mem_singleton.1 hy];exact ⟨by show tk.aD.length≤_;omega,htk2,⟨by show d.Entries.length≤_;omega,fun e he=>⟨(hd2 e he).1,(hd2 e he).2.1,(hd2 e he).2.2.1,le_trans (hd2 e he).2.2.2 (zero_le _)⟩⟩,by show l.length≤_;omega,zero_le _,Int.le_refl _⟩
   ·exfalso;have:=‹decide ((pre.length:Int) < _)=false›;simp at this;omega
 rintro l ⟨hll,hlA,hlo⟩;simp only [bK,dd,au,List.getD_cons_zero,List.getD_cons_succ,push_cast,simprocAttr];refine bN ab ?_;refine sA ?_;(repeat' (done))<;>(skip);exact hbad (J:=I) (D':=D) ⟨⟨h.z,h.di,hst,by show 2*st.ah.length≤_;omega,⟨by show nodes.length≤_;omega,(ow hprp).1⟩,hpl2,h.bo,h.bl,h.kl,h.kq,by show l.length≤_;omega,hlo,h.nt,by show wW I c.aY.b_ (l.map (·.bD));rw [hlA];exact h.al,hnd h.nd⟩,hll⟩
end
end
section
attribute [local irreducible] EC EV gW cc cK dT dQ
structure yr (N P S:Nat) (c:ao) (k:Int) (y:ao):Prop where
 dl:k=2→od (N+140) P S c y
 rn:k=1→od (N+2000) (P+500) S c y
 ok:∃I D:Int→Prop,gL I D (N+121*P+2000) (P+500) (S+1) y
theorem od.up {N P S N' P' S':Nat} {c y:ao} (h:od N P S c y) (h1:N≤N') (h2:P≤P') (h3:S≤S'):∃I D:Int→Prop,gL I D N' P' S' y:=by
 obtain ⟨I,D,h⟩:=h;exact ⟨I,D,h.ok.mono h1 h2 h3⟩
theorem Ro.up {N P S N' P' S':Nat} {y:ao} (h:∃I D:Int→Prop,gL I D N P S y) (h1:N≤N') (h2:P≤P') (h3:S≤S'):∃I D:Int→Prop,gL I D N' P' S' y:=by
 obtain ⟨I,D,h⟩:=h;exact ⟨I,D,h.mono h1 h2 h3⟩
theorem yr.of {N P S N' P':Nat} {c y:ao} {k j:Int} (hk:(k == j)=true) (h2:j≠2) (h1:j≠1) (h:od N' P' S c y) (hN:N'≤N+121*P+2000) (hP:P'≤P+500):yr N P S c k y:=by
 have hk:k=j:=by simpa using hk
 exact ⟨fun e=>absurd (hk.symm.trans e) h2,fun e=>absurd (hk.symm.trans e) h1,h.up hN hP (le_succ _)⟩
theorem yr.RQ {N P S N' P' S':Nat} {c y:ao} {k j:Int} (hk:(k == j)=true) (h2:j≠2) (h1:j≠1) (h:∃I D:Int→Prop,gL I D N' P' S' y) (hN:N'≤N+121*P+2000) (hP:P'≤P+500) (hS:S'≤S+1):yr N P S c k y:=by
 have hk:k=j:=by simpa using hk
 exact ⟨fun e=>absurd (hk.symm.trans e) h2,fun e=>absurd (hk.symm.trans e) h1,Ro.up h hN hP hS⟩
theorem yr.R9 {N P S:Nat} {c y:ao} {k:Int} (hk:(k == 2)=true) (h:od (N+140) P S c y):yr N P S c k y:=by
 have hk:k=2:=by simpa using hk
 exact ⟨fun _=>h,fun e=>absurd (hk.symm.trans e) (by decide),h.up (by omega) (by omega) (le_succ _)⟩
theorem yr.RM {N P S:Nat} {c y:ao} {k:Int} (hk:(k == 1)=true) (h:od (N+2000) (P+500) S c y):yr N P S c k y:=by
 have hk:k=1:=by simpa using hk
 exact ⟨fun e=>absurd (hk.symm.trans e) (by decide),fun _=>h,h.up (by omega) (by omega) (le_succ _)⟩
theorem yr.no {I D:Int→Prop} {N P S:Nat} {c:ao} {k:Int} (h:gL I D N P S c):yr N P S c k c:=
 ⟨fun _=>(m4.refl h).ex (by omega) (le_refl _) (le_refl _),fun _=>(m4.refl h).ex (by omega) (by omega) (le_refl _),I,D,h.mono (by omega) (by omega) (le_succ _)⟩
section
variable {I D:Int→Prop} {N P S:Nat} (c:ao) (h:gL I D N P S c) (hS:S≤100) (hN:N+121*P+1000000≤700000000) (hP:P≤1000000)
include h hS hN hP
theorem oK (e:bO) (hpc:e.Program.Code.length≤1000000) (hps:e.Program.Strings.length≤1000000) (hnn:e.bL.length≤1000000):EC prog 44 [.agg c.c,.agg e.c] [] fun r N'=>N'=[]∧∃x:ao×aB,yr N P S c e.aU x.1∧r= .bS [.agg x.1.c,.agg x.2.c]:=by
 have hS1:S≤1000:=by omega
 have hN1:N+1000000≤700000000:=by omega
 have hN2:N+1000000≤800000000:=by omega
 have hP1:P+1000000≤800000000:=by omega
 refine EC.bh ?_;refine nW ab (ca 44) func44 ntmps44 results44 ?_;(repeat' (first|with_reducible (first|intro _|apply And.intro)|refine eK ab ?_|((refine EC.aM (cE _) ?_;rintro hh -))|((refine EC.aM (z6 c h hS1 hN1 hP1 _) ?_;rintro ⟨y,p⟩ hy))|((refine EC.aM (sN c h hS1 hN1 hP1 _ _) ?_;rintro ⟨y,p⟩ hy))|((refine EC.aM (xk c h hS1 hN2 hP1 _ _) ?_;rintro ⟨y,p⟩ hy))|((refine EC.aM (vQ c h hS1 hN2 hP1 _ _ hpc hps) ?_;rintro ⟨y,p⟩ hy))|((refine EC.aM (xn c h hS1 hN2 hP1 _ _) ?_;rintro ⟨y,p⟩ hy))|((refine EC.aM (z7 (Q:=cG I D) c _ _ _ h.nt) ?_;rintro ⟨n,p⟩ hn;have hy:od N P S c {c with bQ:=n}:=⟨I,D,⟨h.Rr hn.1,rfl⟩⟩))|((refine EC.aM (xt c h hS1 hN2 hP1 _) ?_;rintro ⟨y,p⟩ hz))|((refine EC.aM (xo c h hS1 hN2 hP1 _) ?_;rintro ⟨y,p⟩ hz))|((refine EC.aM (vR c h hS hN hP e.bL hnn) ?_;rintro ⟨y,p⟩ hy))|((refine EC.aM (xl c h hS1 hN2 hP1 _) ?_;rintro ⟨y,p⟩ hy))|((refine EC.aM (sM c h hS1 hN1 hP1 _ _) ?_;rintro ⟨y,p⟩ hy))|refine dN ab [2,3] [] [0,1,2,3] bZ fun R hR=>?_|refine dR ab [2,3] ?_|(refine hR _ _ ?_;refine sA ?_)|refine wA ab ?_|fail))<;>(first|(exact ⟨(_,_),yr.R9 ‹_› hy,Lt.t2 (a6.cl rfl) (a6.hp rfl)⟩)|(exact ⟨(_,_),yr.RM ‹_› hy,Lt.t2 (a6.cl rfl) (a6.hp rfl)⟩)|(exact ⟨(_,_),yr.of ‹(e.aU == _)=true› (by decide) (by decide) hy (by omega) (by omega),Lt.t2 (a6.cl rfl) (a6.hp rfl)⟩)|(exact ⟨(_,_),yr.RQ ‹(e.aU == _)=true› (by decide) (by decide) hz (by omega) (by omega) (by omega),Lt.t2 (a6.cl rfl) (a6.hp rfl)⟩)|(exact ⟨(c,_),yr.no h,Lt.t2 (a6.cl rfl) (a6.hp rfl)⟩))
end
end
section
attribute [local irreducible] EC EV gW cc cK dT dQ
attribute [local push_cast] eO dG
theorem od.trans {N P S N' P' S':Nat} {c y z:ao} (h:od N P S c y) (g:od N' P' S' y z):od N' P' S' c z:=by
 obtain ⟨_,_,h⟩:=h;obtain ⟨J,D,g⟩:=g;exact ⟨J,D,g.ok,g.ln.trans h.ln⟩
section
variable {I D:Int→Prop} {N P S:Nat} (c:ao) (h:gL I D N P S c) (hS:S≤100) (hN:N+140*16384+2000*S+121*(P+500*S)+1000000≤700000000) (hP:P+500*S≤1000000)
include h hS hN hP
theorem vS:EC prog 45 [.agg c.c] [] fun r N'=>N'=[]∧∃x:ao×List aB,(od (N+140*16384+2000*S) (P+500*S) S c x.1∧x.2.length≤16384+S)∧r= .bS [.agg x.1.c,bG 47 aB.c default x.2]:=by
 have hln:=h.ln;refine EC.bh ?_;refine EC.iU ab (ca 45) func45 rfl (by simp [ntmps45]) ?_;simp only [ntmps45,results45,fL]
 iterate 3
  (refine bR ab ?_
   generalize hK:i6 prog _ _ _=K0;refine sA ?_;(repeat' (first|with_reducible intro _|refine eK ab ?_|((refine EC.aM (lH (Q:=cG I D) c.bQ h.nt) ?_;rintro l hl))|fail))<;>(skip)
   all_goals try (subst hK;rw [dc]))
 refine cw 4 80 47 rfl ?_;intro hh;refine bR ab ?_;generalize hK:i6 prog _ _ _=K0;refine sA ?_;(repeat' (done));refine aT ab [1,2,5] (fun s:Nat×ao×List aB×Nat×aN=>[(6,.int .i64 s.1),(4,.row 2 s.2.2.2.2 47 0 s.2.2.2.1)]) (fun B s=>cW (cP B 0 [s.2.1.c]) 2 s.2.2.2.2 (s.2.2.1.map aB.c)) (fun s=>s.1≤l.length∧s.2.2.2.1=s.2.2.1.length∧s.2.2.1.length≤s.1∧od (N+140*s.1) P S c s.2.1) (fun s=>l.length - s.1) (0,c,[],0,hh) ⟨zero_le _,rfl,le_refl _,(m4.refl h).ex (by omega) (le_refl _) (le_refl _)⟩ ?_;rintro ⟨i,y,m,km,hr⟩ ⟨hi,hk,hm,hy⟩;replace hi:i≤l.length:=hi;obtain rfl:km=m.length:=hk;replace hm:m.length≤i:=hm;replace hy:od (N+140*i) P S c y:=hy;have hyc:=hy;obtain ⟨J,D',hyo⟩:=hyc;have hw:=wI i;simp only [hw,push_cast,simprocAttr];(repeat' (with_reducible (first|intro _|apply And.intro)))<;>(skip)
 ·refine kz (σ:=(ao×aB)×aN×aN×Bool) [1,2,4,5,6] (fun s=>[(7,.bx (bif s.2.2.2 then 3 else 4) s.2.1 8 0 0),(8,.bx (bif s.2.2.2 then 4 else 3) s.2.2.1 47 0 0)]) (fun B s=>[au B 0,au B 1,au B 2,bif s.2.2.2 then .row s.2.1 37 8 [s.1.1.c] else .row s.2.2.1 80 47 [s.1.2.c],bif s.2.2.2 then .row s.2.2.1 80 47 [s.1.2.c] else .row s.2.1 37 8 [s.1.1.c]]) (fun s=>yr (N+140*i) P S y 2 s.1.1) ?_ ?_;rotate_left 1
  ·refine bN ab ?_;refine sA ?_;(repeat' (first|with_reducible (first|intro _|apply And.intro)|((refine EC.aM (oK y hyo.ok hS (by omega) (by omega) {aU:=2,bW:=(l.getD i default).x0,To:=(l.getD i default).x1,ae:=0,N:=0,Program:=default,bL:=[]} (zero_le _) (zero_le _) (zero_le _)) ?_;rintro ⟨z,p⟩ hz))|refine dM ab 8 [] [0,1,2,3,4,5,6,7,8,9,10,11] bZ fun R hR=>?_|refine mV ab 12 16 17 ?_ ?_ ?_|refine dP ab 4 [13,14,15] ?_|refine bT ab 16 17 ?_ ?_|refine bT ab 12 17 ?_ ?_|refine bT ab 12 16 ?_ ?_|refine dR ab [17,18,19] ?_|refine dR ab [16,18,19] ?_|refine dR ab [13,14,15,17,18,19] ?_|refine dR ab [12,13,14,15,18,19] ?_|refine dR ab [13,14,15,18,19] ?_|refine dR ab [13,14,15,16,18,19] ?_|(refine hR _ _ ?_;refine sA ?_)|fail))<;>(first|(exact du 5 ((z,p),_,_,true) hz ⟨So,So,So,So,So,trivial⟩)|(exact du 5 ((z,p),_,_,false) hz ⟨So,So,So,So,So,trivial⟩)|assumption|omega)
  rintro ⟨⟨z,p⟩,h7,h8,b⟩ hz;replace hz:yr (N+140*i) P S y 2 z:=hz;have hz2:od (N+140*(i+1)) P S c z:=hy.trans (hz.dl rfl)
  cases b
  all_goals simp only [bK,dd,au,cond_true,cond_false,List.getD_cons_zero,List.getD_cons_succ,push_cast,simprocAttr]
  all_goals
   (refine bN ab ?_
    refine sA ?_
    (repeat' (first|with_reducible (first|intro _|apply And.intro)|refine dJ ab 4 [] [0,2] [0,1,2] bZ fun R hR=>?_|refine kh ab 3 ?_|refine kh ab 4 ?_|refine kh ab 5 ?_|refine dR ab [6] ?_|(refine hR _ _ ?_;refine sA ?_)|fail))<;>(first|omega|((try simp only [hw]);refine a7 (i+1,z,m ++ [p],m.length+1,_) ⟨by show i+1≤_;omega,by simp,by simp;omega,hz2⟩)))
 subst hK;rw [dc];have hy1:od (N+140*16384) P S c y:=by
  obtain ⟨J,D',g⟩:=hy;exact ⟨J,D',g.mono (by omega) (le_refl _) (le_refl _)⟩
 have hm1:m.length≤16384:=by omega
 clear hyo hy hw;refine bR ab ?_;generalize hK:i6 prog _ _ _=K0;refine sA ?_;(repeat' (done));refine aT ab [1,2] (fun s:Nat×ao×List aB×Nat×aN=>[(9,.int .i64 s.1),(4,.row 2 s.2.2.2.2 47 0 s.2.2.2.1)]) (fun B s=>cW (cP B 0 [s.2.1.c]) 2 s.2.2.2.2 (s.2.2.1.map aB.c)) (fun s=>s.1≤c.aq.length∧s.2.2.2.1=s.2.2.1.length∧s.2.2.1.length≤16384+s.1∧od (N+140*16384+2000*s.1) (P+500*s.1) S c s.2.1) (fun s=>c.aq.length - s.1) (0,y,m,m.length,hr) ⟨zero_le _,rfl,hm1,hy1⟩ ?_;clear hy1 hm1 hm;rintro ⟨j,y,m,km,hr⟩ ⟨hj,hk,hm,hy⟩;replace hj:j≤c.aq.length:=hj;obtain rfl:km=m.length:=hk;replace hm:m.length≤16384+j:=hm;replace hy:od (N+140*16384+2000*j) (P+500*j) S c y:=hy;have hyc:=hy;obtain ⟨J,D',hyo⟩:=hyc;have hyl:=hyo.ln;have hynl:=hyo.ok.nl.1;have hw:=wI j;have hyn:od (N+140*16384+2000*(j+1)) (P+500*(j+1)) S c y:=by
  obtain ⟨J,D',g⟩:=hy;exact ⟨J,D',g.mono (by omega) (by omega) (le_refl _)⟩
 simp only [hw,push_cast,simprocAttr];(repeat' (first|with_reducible (first|intro _|apply And.intro)|refine EC.use (iu y _ (by omega)) ?_|refine dN ab [] [] [0,1,2,3,4,5,6,7] bZ fun R hR=>?_|refine dR ab [7] ?_|(refine hR _ _ ?_;refine sA ?_)|fail))<;>(first|omega|skip)
 ·refine bN ab ?_;refine sA ?_;(repeat' (with_reducible (first|intro _|apply And.intro)))<;>(first|((try simp only [hw]);exact a7 (j+1,y,m,m.length,hr) ⟨by show j+1≤_;omega,rfl,by show m.length≤_;omega,hyn⟩)|skip);refine kz (σ:=(ao×aB)×aN×aN×Bool) [1,2,4,9] (fun s=>[(10,.bx (bif s.2.2.2 then 3 else 4) s.2.1 8 0 0),(11,.bx (bif s.2.2.2 then 4 else 3) s.2.2.1 47 0 0)]) (fun B s=>[au B 0,au B 1,au B 2,bif s.2.2.2 then .row s.2.1 37 8 [s.1.1.c] else .row s.2.2.1 80 47 [s.1.2.c],bif s.2.2.2 then .row s.2.2.1 80 47 [s.1.2.c] else .row s.2.1 37 8 [s.1.1.c]]) (fun s=>yr (N+140*16384+2000*j) (P+500*j) S y 1 s.1.1) ?_ ?_;rotate_left 1
  ·refine bN ab ?_;refine sA ?_;(repeat' (first|with_reducible (first|intro _|apply And.intro)|((refine EC.aM (oK y hyo.ok hS (by omega) (by omega) {aU:=1,bW:=(y.aq.getD j default).aD.bW,To:=0,ae:=0,N:=0,Program:=default,bL:=[]} (zero_le _) (zero_le _) (zero_le _)) ?_;rintro ⟨z,p⟩ hz))|refine dM ab 8 [] [0,1,2,3,4,5,6,7,8] bZ fun R hR=>?_|refine mV ab 9 13 14 ?_ ?_ ?_|refine dP ab 4 [10,11,12] ?_|refine bT ab 13 14 ?_ ?_|refine bT ab 9 14 ?_ ?_|refine bT ab 9 13 ?_ ?_|refine dR ab [14,15,16] ?_|refine dR ab [13,15,16] ?_|refine dR ab [10,11,12,14,15,16] ?_|refine dR ab [9,10,11,12,15,16] ?_|refine dR ab [10,11,12,15,16] ?_|refine dR ab [10,11,12,13,15,16] ?_|(refine hR _ _ ?_;refine sA ?_)|fail))<;>(first|(exact du 5 ((z,p),_,_,true) hz ⟨So,So,So,So,So,trivial⟩)|(exact du 5 ((z,p),_,_,false) hz ⟨So,So,So,So,So,trivial⟩)|assumption|omega)
  rintro ⟨⟨z,p⟩,h7,h8,b⟩ hz;replace hz:yr (N+140*16384+2000*j) (P+500*j) S y 1 z:=hz;have hz2:od (N+140*16384+2000*(j+1)) (P+500*(j+1)) S c z:=hy.trans (hz.rn rfl)
  cases b
  all_goals simp only [bK,dd,au,cond_true,cond_false,List.getD_cons_zero,List.getD_cons_succ,push_cast,simprocAttr]
  all_goals
   (refine bN ab ?_
    refine sA ?_
    (repeat' (first|with_reducible (first|intro _|apply And.intro)|refine dM ab 6 [0,1,2,3,4,5,6,7,8,9,10,11,12,13] [1] bZ fun R hR=>?_|refine bT ab 0 2 ?_ ?_|refine dC ab 2 ?_|refine bT ab 0 3 ?_ ?_|refine dR ab [3,4,5,6] ?_|refine bT ab 0 4 ?_ ?_|refine dR ab [4,5,6] ?_|refine dC ab 0 ?_|refine dR ab [5,6] ?_|(refine hR _ _ ?_;refine sA ?_)|fail))<;>(first|omega|((try simp only [hw]);refine a7 (j+1,z,m ++ [p],m.length+1,_) ⟨by show j+1≤_;omega,by simp,by simp;omega,hz2⟩)))
 subst hK;rw [dc];have hfin:od (N+140*16384+2000*S) (P+500*S) S c y:=by
  obtain ⟨J,D',g⟩:=hy;exact ⟨J,D',g.mono (by omega) (by omega) (le_refl _)⟩
 refine bN ab ?_;refine sA ?_;(repeat' (done))<;>((exact ⟨(y,m),⟨hfin,by show m.length≤_;omega⟩,Lt.t2 (a6.cl rfl) (a6.row rfl rfl rfl)⟩))
end
end
section
attribute [local irreducible] EC EV gW cc cK dT dA cC
def fB (n:Nat):List Int:=(List.range n).map fun (i:Nat)=>(i:Int)
theorem yS (n:Nat):fB (n+1)=fB n ++ [(n:Int)]:=by simp [fB,List.range_succ]
theorem ka (n:Nat):(fB n).length=n:=by simp [fB]
theorem rI (n:Nat) (hn:n≤1000000):EC prog 73 [.int .i64 (n:Int)] [] fun r N=>N=[]∧r=bG 1 (aS .i64) default (fB n):=by
 refine EC.cQ ?_;refine nW ab (ca 73) func73 ntmps73 results73 ?_;refine cw 3 3 1 rfl ?_;intro hh;refine aT ab [0] (fun s:Nat×List (Int)×Nat×aN=>[(4,.int .i64 s.1),(3,.row 0 s.2.2.2 1 0 s.2.2.1)]) (fun B s=>cW B 0 s.2.2.2 (s.2.1.map (aS .i64))) (fun s=>s.1≤n∧s.2.2.1=s.2.1.length∧(s.2.1=fB s.1)) (fun s=>n - s.1) (0,[],0,hh) ⟨zero_le _,rfl,rfl⟩ ?_;rintro ⟨i,m,km,hr⟩ ⟨hi,hk,hI⟩;replace hi:i≤n:=hi;obtain rfl:km=m.length:=hk;replace hI:m=fB i:=hI;have hw:=wI i;simp only [hw,push_cast,simprocAttr];have hml:m.length=i:=by rw [hI,ka]
 (repeat' (with_reducible (first|intro _|apply And.intro)))<;>(first|omega|((try simp only [hw]);refine a7 (i+1,m ++ [_],m.length+1,_) ⟨by show i+1≤_;omega,by simp,by show m ++ [_]=fB (i+1);rw [hI,yS]⟩)|skip);obtain rfl:i=n:=by have:=‹decide ((i:Int) < _)=false›;simp at this;omega
 rw [←hI];exact Lt.row rfl rfl rfl
def et (l:List Int):List cn:=l.map fun x=>⟨x,1⟩
theorem wQ {l:List Int} {i:Nat} (h:i < l.length):et (l.take (i+1))=et (l.take i) ++ [⟨l.getD i default,1⟩]:=by
 have e:l.getD i default=l[i]:=by simp [getD,h]
 unfold et;rw [e,List.take_succ_eq_append_getElem h,map_append];rfl
theorem pQ (l:List Int):(et l).length=l.length:=by simp [et]
def Cn (x:aO) (a:SV):List SV:=x.c.set 4 a
def Mn:Env:={E with zr:=fun T=>if T=31 then Cn default tY else E.zr T}
theorem ek:cI prog Mn:=⟨ab.ty,fun T h=>by
 simp only [Mn] at h ⊢
 split
 ·rename_i e;subst e;kernel_rfl
 ·rename_i e;simp only [e,if_false] at h;exact ab.zr T h,ab.lv⟩
theorem Hx (T:Nat):Mn.ty T=E.ty T:=rfl
theorem Hy:Mn.kp=E.kp:=rfl
theorem Hw:Mn.zr 31=Cn default tY:=rfl
theorem D_:Mn.zr 125=E.zr 125:=rfl
theorem Jk (x:aO) (a:SV):(Cn x a).length=6:=rfl
theorem Jj (x:aO) (a:SV):(Cn x a).take 6=Cn x a:=rfl
theorem Ji (x:aO) (a:SV) (n:Int):aJ (Cn x a) 0 [.int .i64 n]=Cn {x with ea:=n} a:=rfl
theorem FY (x y:aO) (a b:SV):aJ (Cn x a) 0 (Cn y b)=Cn y b:=rfl
theorem Dk (x:aO) (a:SV):bt (Cn x a)=a.fh:=by
 have h:bt (Cn x a)=(a.fh && true):=rfl;rw [h,Bool.and_true]
def oq (x:aO) (a b:SV):List SV:=(x.c.set 1 a).set 4 b
theorem Jq (x:aO) (b:SV) (i e l n:Nat) (h:aN):aJ (Cn x b) 1 [.row i h e l n]=oq x (.row i h e l n) b:=rfl
theorem Jp (x:aO) (a b:SV) (s:aG):aJ (oq x a b) 2 s.c=oq {x with bz:=s} a b:=rfl
theorem Jn (x:aO) (a b:SV):(oq x a b).length=6:=rfl
theorem Jl (x:aO) (a b:SV):(oq x a b).take 6=oq x a b:=rfl
theorem FZ (x y:aO) (a b c:SV):aJ (Cn x a) 0 (oq y b c)=oq y b c:=rfl
theorem Dm (x:aO) (a b c:SV):(oq x a b).set 4 c=oq x a c:=rfl
theorem Jo (x:aO) (a b d:SV):(oq x a b).getD 4 d=b:=rfl
theorem Jm (x:aO) (a b c:SV):aJ (oq x a b) 4 [c]=oq x a c:=rfl
theorem Dl (x:aO) (a b:SV):bt (oq x a b)=(a.fh && b.fh):=by
 have h:bt (oq x a b)=(a.fh && (b.fh && true)):=rfl;rw [h,Bool.and_true]
theorem gw.oq {m:Nat} {B:List aI} {x:aO} {a b:SV} {l:List Int} {l2:List cn} (h1:jv m B a (bG 1 (aS .i64) default l)) (h2:jv m B b (bG 2 cn.c default l2)):gw m B (oq x a b) (aO.c {x with bL:=l,b_:=l2}):=
 gw.put (gw.put (gw.obj (cs:=x.c) (fun s B=>by rw [aO.fk]) (fun s B=>by rw [aO.fz])) 1 h1 (r:=aO.c {x with bL:=l}) rfl) 4 h2 (r:=aO.c {x with bL:=l,b_:=l2}) rfl
theorem bE.oq {m:Nat} {B:List aI} {x:aO} {a b:SV} {l:List Int} {l2:List cn} (h1:jv m B a (bG 1 (aS .i64) default l)) (h2:jv m B b (bG 2 cn.c default l2)):bE m B (.agg (oq x a b)) (.agg (aO.c {x with bL:=l,b_:=l2})):=
 bE.agg (gw.oq h1 h2).1 (gw.oq h1 h2).2
theorem a6.oq {B:List aI} {x:aO} {a b:SV} {l:List Int} {l2:List cn} (h1:gY B a (Go.Lift.bG 1 (aS .i64) default l)) (h2:gY B b (Go.Lift.bG 2 cn.c default l2)):a6 B (.agg (oq x a b)) (.agg (aO.c {x with bL:=l,b_:=l2})):=
 a6.agg (((eU.obj (cs:=x.c) (fun s B=>by rw [aO.fk]) (fun s B=>by rw [aO.fz])).put 1 h1 (r:=aO.c {x with bL:=l}) rfl).put 4 h2 rfl)
attribute [local push_cast] Hx Hy Hw D_ Jk Jj Ji FY Dk Jq Jp Jn Jl FZ Dm Jo Jm Dl eO dG SV.fh
attribute [local irreducible] Cn oq
end
def IT (n:Nat):List aL:=(fB n).map fun i=>⟨i,0,0⟩
theorem vg {n:Nat} {x:Int}:x∈fB n↔0≤x∧x < n:=by
 unfold fB;rw [List.mem_map]
 constructor
 ·rintro ⟨i,hi,rfl⟩;rw [List.mem_range] at hi;omega
 ·rintro ⟨h1,h2⟩;exact ⟨x.toNat,List.mem_range.2 (by omega),by omega⟩
theorem zC (n:Nat):(fB n).Pairwise (·< ·):=by
 unfold fB;rw [pairwise_map];exact (List.pairwise_lt_range (n:=n)).imp fun h=>by omega
theorem F3 {n:Nat} {x:Int} (h:0≤x∧x < n):Ef (et (fB n)) x=1:=by
 unfold Ef;have hall:∀b∈et (fB n),b.lU=1:=fun b hb=>by
  unfold et at hb;obtain ⟨y,-,rfl⟩:=List.mem_map.1 hb;rfl
 have hmem:(⟨x,1⟩:cn)∈et (fB n):=by
  unfold et;exact List.mem_map.2 ⟨x,vg.2 h,rfl⟩
 cases hf:(et (fB n)).find? (fun b=>b.bW == x) with
 |none=>exact absurd (by simp) (List.find?_eq_none.1 hf _ hmem)
 |some b=>simp [hall b (List.mem_of_find?_eq_some hf)]
theorem FB (n:Nat):Hj (et (fB n)):=by
 refine ⟨?_,fun b hb=>?_⟩
 ·unfold et;rw [pairwise_map];exact zC n
 ·unfold et at hb;obtain ⟨y,-,rfl⟩:=List.mem_map.1 hb;exact ⟨by show (0:Int)≤1;decide,by show (1:Int)≤65536;decide⟩
theorem wW.init {n:Nat} (hn:n≤8):wW (fun x=>x=0) (et (fB n)) (IT n):=by
 have hmem:∀a∈IT n,∃i:Int,(0≤i∧i < n)∧a=⟨i,0,0⟩:=fun a ha=>by
  unfold IT at ha;obtain ⟨i,hi,rfl⟩:=List.mem_map.1 ha;exact ⟨i,vg.1 hi,rfl⟩
 refine ⟨fun a ha=>?_,fun a ha k h1 h2 h3=>?_,?_,fun m b k _ hb hk h3=>?_⟩
 ·obtain ⟨i,hi,rfl⟩:=hmem a ha;refine ⟨⟨⟨hi.1,by show i≤127;omega⟩,⟨by show (0:Int)≤0;decide,by show (0:Int)≤65535;decide⟩,by show (0:Int)≤0;decide,by show (0:Int)≤1099511627775;decide⟩,?_⟩;show (0:Int) < Ef _ i;rw [F3 hi];decide
 ·obtain ⟨i,hi,rfl⟩:=hmem a ha;simp only [wV] at h3;simp only at h1;omega
 ·unfold IT;rw [map_map];have:(fB n).Nodup:=(zC n).imp fun h=>by omega
  rw [List.nodup_iff_pairwise_ne,pairwise_map];exact (zC n).imp fun h e=>by simp at e;omega
 ·simp only [wV] at h3;omega
section
attribute [local irreducible] EC EV gW cc cK dT dQ
attribute [local push_cast] eO dG
theorem yk (h:aN) (d:WK) (c:ao) (hs:c.aY.cX.length≤1000):EC prog 75 [.bx 0 h 2 0 0,.agg c.c] [f' h d.1] fun r N=>∃x:Int×WK,True∧r= .int .u64 x.1∧N=[f' h x.2.1]:=by
 refine EC.cM ?_;refine nW ab (ca 75) func75 ntmps75 results75 ?_;(repeat' (first|with_reducible (first|intro _|apply And.intro)|((refine aE 0 (c8 h _ _ ?_) rfl ?_;(focus (constructor<;>(omega)));rintro ⟨n,d2⟩ hn))|refine dN ab [] [0] [0,1,2,3,4,5,6,7,8,9,10] bZ fun R hR=>?_|refine dR ab [6,7,8,9,10] ?_|(refine hR _ _ ?_;refine sA ?_)|refine wA ab ?_|fail))<;>(first|omega|(exact ⟨(_,_),Lk.int rfl,rfl⟩))
def QX (e:bO):Prop:=e.Program.Code.length≤1000000∧e.Program.Strings.length≤1000000∧e.bL.length≤1000000
theorem yn {I D:Int→Prop} (h:aN) (d:WK) (c:ao) (fl:Bool) (hs:c.aY.cX.length≤1000) (hp:c.aY.cz.length≤1000000000) (hnt:gT (cG I D) c.bQ):EC prog 42 [.bx 0 h 2 0 0,.agg c.c,.bool fl] [f' h d.1] fun r N=>∃x:bO×WK,QX x.1∧r= .agg x.1.c∧N=[f' h x.2.1]:=by
 refine EC.cM ?_;refine EC.iU ab (ca 42) func42 rfl (by simp [ntmps42]) ?_;simp only [ntmps42,results42,fL]
 iterate 3
  (refine bR ab ?_
   generalize hK:i6 prog _ _ _=K0;refine sA ?_;(repeat' (first|with_reducible intro _|refine eK ab ?_|((refine aE 0 (c8 h _ _ ?_) rfl ?_;(focus (constructor<;>(decide)));rintro ⟨v,d2⟩ hv;replace hv:=hv))|fail))<;>(skip)
   all_goals try (subst hK;rw [dc]))
 refine dy (σ:=Int×WK) [0,2,4,6,7,8] (fun s=>[(9,.int .u64 s.1)]) (fun B s=>[f' h s.2.1,au B 1,au B 2]) (fun _=>True) ?_ ?_;rotate_left 1
 ·refine bN ab ?_;refine sA ?_;(repeat' (first|with_reducible (first|intro _|apply And.intro)|((refine aE 0 (c8 h _ _ ?_) rfl ?_;(focus (constructor<;>(omega)));rintro ⟨v,d2⟩ hv;replace hv:=hv))|refine dN ab [] [0] [0,1,2,3,4,5,6,7,8,9] bZ fun R hR=>?_|refine dR ab [6,7,8,9] ?_|(refine hR _ _ ?_;refine sA ?_)|fail))<;>(first|(exact du 3 (_,_) trivial ⟨So,So,So,trivial⟩ (by (repeat (first|exact trivial|refine And.intro (by first|(refine And.intro trivial ?_;first|exact bq.refl _|(simp only [dd,push_cast,simprocAttr];exact bq.refl _))|(simp only [dd,push_cast,simprocAttr];exact jv.low (by decide))|(simp [dd,dE,fu,fw,iT,cf,gl,bc,bq.refl];done)|fail) ?_));done))|omega)
 rintro ⟨p,d3⟩ -;simp only [bK,dd,au,List.getD_cons_zero,List.getD_cons_succ,push_cast,simprocAttr];refine bN ab ?_;refine sA ?_;(repeat' (first|(with_reducible intro hh;first|subst hh|(revert hh;intro _))|with_reducible apply And.intro|refine eK ab ?_|((refine aE 0 (c8 h _ _ ?_) rfl ?_;(focus (constructor<;>(first|decide|omega)));rintro ⟨v,d2⟩ hv;simp only at hv;first|(refine Or.elim (?_:v=0∨v=1) ?_ ?_;(focus omega);all_goals rintro rfl)|(refine Or.elim (?_:v=0∨v=1) ?_ ?_;(focus omega);all_goals rintro rfl)|(refine Or.elim (?_:v=0∨(v=1∨v=2)) ?_ ?_;(focus omega);rintro rfl;rotate_left 1;intro hv3;refine Or.elim hv3 ?_ ?_;rintro rfl;rotate_left 1;rintro rfl)|skip))|((refine EC.aM (lH (Q:=cG I D) c.bQ hnt) ?_;rintro l hl))|((refine aE 0 (n7 h _ fun d names hn=>qv h d names hn) rfl ?_;rintro ⟨pg,d2⟩ hpg))|((refine aE 0 (fP h _) rfl ?_;rintro ⟨nl,d2⟩ hnl))|((refine aE 0 (yk h _ c hs) rfl ?_;rintro ⟨sv,d2⟩ -))|fail))<;>(first|(exact ⟨(_,_),⟨zero_le _,zero_le _,zero_le _⟩,Lk.Cf (gw.obj (fun s B=>by rw [bO.fk]) (fun s B=>by rw [bO.fz])),rfl⟩)|(exact ⟨(_,_),⟨le_trans hpg.1 (by decide),le_trans hpg.2.1 (by decide),zero_le _⟩,Lk.Cf (gw.obj (fun s B=>by rw [bO.fk]) (fun s B=>by rw [bO.fz])),rfl⟩)|(exact ⟨(_,_),⟨zero_le _,zero_le _,by show nl.length≤_;have h4:nl.length≤4:=hnl;omega⟩,Lk.Cf (gw.obj (fun s B=>by rw [bO.fk]) (fun s B=>by rw [bO.fz])),rfl⟩)|omega)
end
section
attribute [local irreducible] EC EV gW cc cK dT dQ
attribute [local push_cast] eO dG
theorem wD {I D:Int→Prop} (c:ao) (hnt:gT (cG I D) c.bQ) (hS:c.aq.length≤1000) (hn:c.aY.bL.length≤1000):EC prog 46 [.agg c.c] [] fun r N=>N=[]∧∃l:List bO,l.length≤1100000∧r=bG 9 bO.c default l:=by
 refine EC.bh ?_;refine nW ab (ca 46) func46 ntmps46 results46 ?_;(repeat' (first|with_reducible intro _|refine eK ab ?_|((refine EC.aM (lH (Q:=cG I D) c.bQ hnt) ?_;rintro l hl))|fail));refine cw 3 101 9 rfl ?_;intro hh;refine aT ab [1,12,13] (fun s:Nat×List bO×Nat×aN=>[(14,.int .i64 s.1),(3,.row 1 s.2.2.2 9 0 s.2.2.1)]) (fun B s=>cW B 1 s.2.2.2 (s.2.1.map bO.c)) (fun s=>s.1≤l.length∧s.2.2.1=s.2.1.length∧s.2.1.length≤s.1) (fun s=>l.length - s.1) (0,[],0,hh) ⟨zero_le _,rfl,le_refl _⟩ ?_;rintro ⟨i,m,km,hr⟩ ⟨hi,hk,hm⟩;replace hi:i≤l.length:=hi;obtain rfl:km=m.length:=hk;replace hm:m.length≤i:=hm;have hw:=wI i;simp only [hw,push_cast,simprocAttr];(repeat' (with_reducible (first|intro _|apply And.intro)))<;>(first|omega|((try simp only [hw]);refine a7 (i+1,m ++ [_],m.length+1,_) ⟨by show i+1≤_;omega,by simp,by simp;omega⟩)|skip);have hm0:m.length≤16384:=by omega
 clear hm hw;refine aT ab [1,28,29] (fun s:Nat×List bO×Nat×aN=>[(30,.int .i64 s.1),(3,.row 1 s.2.2.2 9 0 s.2.2.1)]) (fun B s=>cW B 1 s.2.2.2 (s.2.1.map bO.c)) (fun s=>s.1≤c.aq.length∧s.2.2.1=s.2.1.length∧s.2.1.length≤16384+s.1*1000) (fun s=>c.aq.length - s.1) (0,m,m.length,hr) ⟨zero_le _,rfl,by show m.length≤16384+0*1000;omega⟩ ?_;clear hm0;rintro ⟨j,m,km,hr⟩ ⟨hj,hk,hm⟩;replace hj:j≤c.aq.length:=hj;obtain rfl:km=m.length:=hk;replace hm:m.length≤16384+j*1000:=hm;have hw:=wI j;simp only [hw,push_cast,simprocAttr];(repeat' (with_reducible (first|intro _|apply And.intro)))<;>(first|omega|((try simp only [hw]);exact a7 (j+1,m,m.length,hr) ⟨by show j+1≤_;omega,rfl,by show m.length≤16384+(j+1)*1000;omega⟩)|(exact ⟨m,by omega,Lt.row rfl rfl rfl⟩)|skip);refine aT ab [1,7,28,29,30,42,43] (fun s:Nat×List bO×Nat×aN=>[(44,.int .i64 s.1),(3,.row 1 s.2.2.2 9 0 s.2.2.1)]) (fun B s=>cW B 1 s.2.2.2 (s.2.1.map bO.c)) (fun s=>s.1≤c.aY.bL.length∧s.2.2.1=s.2.1.length∧s.2.1.length≤16384+j*1000+s.1) (fun s=>c.aY.bL.length - s.1) (0,m,m.length,hr) ⟨zero_le _,rfl,hm⟩ ?_;clear hm;rintro ⟨k,m,km,hr⟩ ⟨hkk,hk,hm⟩;replace hkk:k≤c.aY.bL.length:=hkk;obtain rfl:km=m.length:=hk;replace hm:m.length≤16384+j*1000+k:=hm;have hw2:IntKind.i64.wrap ((k:Int)+1)=((k+1:Nat):Int):=by rw [bu (by omega)];omega
 simp only [hw2,push_cast,simprocAttr];(repeat' (with_reducible (first|intro _|apply And.intro)))<;>(first|omega|((try simp only [hw2]);first|refine a7 (k+1,m ++ [_],m.length+1,_) ⟨by show k+1≤_;omega,by simp,by simp;omega⟩|exact a7 (k+1,m,m.length,hr) ⟨by show k+1≤_;omega,rfl,by show m.length≤_;omega⟩)|((try simp only [hw]);exact a7 (j+1,m,m.length,hr) ⟨by show j+1≤_;omega,rfl,by show m.length≤16384+(j+1)*1000;omega⟩))
end
section
attribute [local irreducible] EC EV gW
structure Ib (s:List UInt8):Prop where
 l2:2≤s.length
 l3:s.length≤100
 h0:(s.getD 0 0).toNat=47
 hn:(s.getD (s.length - 1) 0).toNat≠47
 hc:∀i,i < s.length→1≤i→(97≤(s.getD i 0).toNat∧(s.getD i 0).toNat≤122)∨(48≤(s.getD i 0).toNat∧(s.getD i 0).toNat≤57)
abbrev iD:List UInt8:=[47,100,101,118,48]
abbrev lY:List UInt8:=[47,100,101,118,49]
theorem CM:Ib iD:=⟨by decide,by decide,by decide,by decide,by decide⟩
theorem GA:Ib lY:=⟨by decide,by decide,by decide,by decide,by decide⟩
def uN (x:Int):af:={(default:af) with ID:=x,aU:=9}
def qS (ns:List a8):af:={(default:af) with ID:=1,aU:=10,cN:=ns}
def tU (x y:Int):aG:=⟨if x < y then [qS [⟨iD,9,[x]⟩,⟨lY,9,[y]⟩],uN x,uN y] else [qS [⟨iD,9,[x]⟩,⟨lY,9,[y]⟩],uN y,uN x]⟩
theorem qY (x y:Int):(tU x y).ah.length=3:=by unfold tU;split<;>rfl
theorem zz {I D:Int→Prop} {x:Int} (h0:I 0) (hx:I x):cG I D (uN x):=kV h0 (by show (9:Int)≠1;decide) hx rfl (zero_le _) rfl rfl rfl rfl
theorem K7 {I D:Int→Prop} {ns:List a8} (h0:I 0) (h1:I 1) (hl:ns.length≤1000000) (hn:∀n∈ns,EP I n):cG I D (qS ns):=by
 have h:cG I D (qS []):=kV h0 (by show (10:Int)≠1;decide) h1 rfl (zero_le _) rfl rfl rfl rfl;exact sD h (by show (10:Int)≠1;decide) hl hn
theorem Gc {I D:Int→Prop} {x y:Int} (h0:I 0) (h1:I 1) (hx:I x) (hy:I y):ja I D (tU x y):=by
 have hr:cG I D (qS [⟨iD,9,[x]⟩,⟨lY,9,[y]⟩]):=K7 h0 h1 (le_of_ble_eq_true rfl) fun n hn=>by
  simp only [mem_cons,not_mem_nil,or_false] at hn;rcases hn with rfl|rfl
  ·exact ⟨⟨le_of_ble_eq_true rfl,le_of_ble_eq_true rfl⟩,le_of_ble_eq_true rfl,fun i hi=>by rw [List.mem_singleton.1 hi];exact hx⟩
  ·exact ⟨⟨le_of_ble_eq_true rfl,le_of_ble_eq_true rfl⟩,le_of_ble_eq_true rfl,fun i hi=>by rw [List.mem_singleton.1 hi];exact hy⟩
 intro o ho;unfold tU at ho
 split at ho
 all_goals
  simp only [mem_cons,not_mem_nil,or_false] at ho;rcases ho with rfl|rfl|rfl
 ·exact hr
 ·exact zz h0 hx
 ·exact zz h0 hy
 ·exact hr
 ·exact zz h0 hy
 ·exact zz h0 hx
theorem KQ {x y:Int} (hx:2≤x) (hy:2≤y) (hxy:x≠y):ij (tU x y):=by
 unfold ij tU
 split
 all_goals
  simp [qS,uN];omega
theorem wq (s:List UInt8) (hs:Ib s):EC prog 237 [.str s] [] fun r N=>N=[]∧r= .bool true:=by
 obtain ⟨l2,l3,h0,hn,hc⟩:=hs;have hw0:IntKind.i64.wrap ((s.length:Int) - 1)=((s.length - 1:Nat):Int):=by rw [bu (by omega)];omega
 refine EC.cQ ?_;refine nW ab (ca 237) func237 ntmps237 results237 ?_;simp only [hw0,push_cast,simprocAttr];(repeat' (with_reducible (first|intro _|apply And.intro)))<;>(first|(exfalso;have hz:=‹_=true›;simp at hz;simp at h0 hn;omega;done)|((try simp only [hw0]);omega)|skip);refine aT ab [0] (fun i:Nat=>[(3,.int .i64 i)]) (fun B _=>B) (fun i=>1≤i∧i≤s.length) (fun i=>s.length - i) 1 ⟨by decide,by omega⟩ ?_;rintro i ⟨hi1,hi2⟩;replace hi1:1≤i:=hi1;replace hi2:i≤s.length:=hi2;have hw:=wI i;have hw2:IntKind.i64.wrap ((i:Int) - 1)=((i - 1:Nat):Int):=by rw [bu (by omega)];omega
 have hci:=hc i;simp only [hw,hw2,push_cast,simprocAttr];(repeat' (with_reducible (first|intro _|apply And.intro)))<;>(first|omega|((try simp only [hw,hw2]);exact a7 (i+1) ⟨by show 1≤i+1;omega,by show i+1≤s.length;omega⟩)|(exact Lt.bool rfl)|(exfalso;have hci:=hci (by omega) hi1;have hz:=‹_=true›;simp at hz;simp at hci;omega;done)|(show (_:Bool)=true;first|(simp_all;done)|grind))
theorem gH (p:List UInt8) (x:Int) (hp:Ib p) (hx:x≠0):EC prog 173 [.agg (a8.mk p 9 [x]).c] [] fun r N=>N=[]∧r= .bool true:=by
 refine EC.cQ ?_;refine nW ab (ca 173) func173 ntmps173 results173 ?_;(repeat' (with_reducible intro _));refine bV ab [1,29,30] 31 1 (fun i=>True) trivial (by omega) ?_;intro i hI hi hw;simp only [hw,push_cast,simprocAttr];rcases (by omega:i=0∨i=1) with rfl|rfl
 all_goals simp only [push_cast,simprocAttr]
 ·(repeat' (with_reducible (first|intro _|apply And.intro)))<;>(first|((try simp only [hw]);exact cO trivial)|(exfalso;have hz:=‹_=true›;simp at hz;omega;done))
 ·(repeat' (first|refine eK ab ?_|refine EC.use (wq p hp) ?_|fail))<;>((exact Lt.bool rfl))
theorem kJ (ns:List a8) (hl:ns.length≤2) (hasc:∀i,0 < i→i < ns.length→Op.bytesLess (ns.getD (i - 1) default).Path (ns.getD i default).Path=true) (hn:∀n∈ns,EC prog 173 [.agg n.c] [] fun r N=>N=[]∧r= .bool true):EC prog 172 [.agg (qS ns).c] [] fun r N=>N=[]∧r= .bool true:=by
 refine EC.cQ ?_;unfold qS;refine nW ab (ca 172) func172 ntmps172 results172 ?_;(repeat' (with_reducible (first|intro _|apply And.intro)))<;>(first|(exfalso;simp_all;omega;done)|skip);rotate_left 1;refine bV ab [1,20,21] 22 ns.length (fun i=>True) trivial (by omega) ?_;intro i hI hi hw;simp only [hw,push_cast,simprocAttr];have hni:i < ns.length→_:=fun h=>hn _ (bk h);have hi0:0 < (i:Int)→IntKind.i64.wrap ((i:Int) - 1)=((i - 1:Nat):Int):=fun h=>by rw [bu (by omega)];omega
 (repeat' (first|with_reducible (first|intro _|apply And.intro)|refine eK ab ?_|refine EC.use (hni (by omega)) ?_|((refine EC.args (.cons (bq.agg (af.Rw (v:=[]) (eD.refl _) cB)) .nil) ?_;refine EC.use (cZ _) ?_))|refine dN ab [] [] [0,1,2,3,4,5,6,7,8,9,10,11,12,13,14,15,16,17,18] bZ fun R hR=>?_|refine dR ab [2,3,4,5,6,7,8,9,10,11,12,13,14,15,16,17,18] ?_|(refine hR _ _ ?_;refine sA ?_)|refine wA ab ?_|fail))<;>(first|((try simp only [hw]);exact cO trivial)|(exfalso;have hz:=‹_=true›;simp only [Bool.and_eq_true,decide_eq_true_eq,Bool.not_eq_true'] at hz;rw [hi0 hz.1,Int.toNat_natCast,hasc i (by omega) (by omega)] at hz;exact absurd hz.2 (by decide))|(refine Lt.bool ?_;decide +revert)|(rw [hi0 (by omega)];omega)|omega)
theorem o0 (ns:List a8) (p:List UInt8) (hl:ns.length≤2) (hv:EC prog 172 [.agg (qS ns).c] [] fun r N=>N=[]∧r= .bool true) (hno:∀n∈ns,n.Path≠p):EC prog 174 [.agg (qS ns).c,.str p] [] fun r N=>N=[]∧r= .bS [.agg (default:a8).c,.bool false]:=by
 refine EC.cQ ?_;unfold qS at hv ⊢;refine nW ab (ca 174) func174 ntmps174 results174 ?_;(repeat' (first|with_reducible intro _|refine eK ab ?_|refine EC.use (hv) ?_|fail));refine bV ab [1,4,13,14] 15 ns.length (fun i=>True) trivial (by omega) ?_;intro i hI hi hw;simp only [hw,push_cast,simprocAttr];have hni:i < ns.length→_:=fun h=>hno _ (bk h);(repeat' (with_reducible (first|intro _|apply And.intro)))<;>(first|((try simp only [hw]);exact cO trivial)|(exact Lt.t2 (a6.Ce rfl) a6.bool)|(exfalso;have hz:=‹_=true›;simp at hz;exact hni (by omega) hz)|omega)
theorem O3:Op.bytesLess iD lY=true:=by decide
attribute [local push_cast] O3
theorem sX (x:Int):EC prog 175 [bG 3 a8.c default [],.agg (a8.mk iD 9 [x]).c] [] fun r N=>N=[]∧r=bG 3 a8.c default ([] ++ [(a8.mk iD 9 [x])]):=by
 have hn:m_ (a8.mk iD 9 [x]):=⟨le_of_ble_eq_true rfl,le_of_ble_eq_true rfl⟩;have h1:m_ (a8.mk iD 9 [x]):=⟨le_of_ble_eq_true rfl,le_of_ble_eq_true rfl⟩;refine EC.cQ ?_;refine nW ab (ca 175) func175 ntmps175 results175 ?_;(repeat' (with_reducible intro _));refine cw 5 198 3 rfl ?_;intro hh;refine aT ab [0,3,8,9] (fun s:Nat×aN=>[(10,.int .i64 s.1),(5,.row 1 s.2 3 0 s.1)]) (fun B s=>cW B 1 s.2 (([]:List a8).take s.1 |>.map a8.c)) (fun s=>s.1≤0) (fun s=>0 - s.1) (0,hh) (zero_le _) ?_;rintro ⟨i,hr⟩ hi;replace hi:i≤0:=hi;obtain rfl:i=0:=by omega
 simp only [List.take_nil,map_nil,push_cast,simprocAttr];(repeat' (first|with_reducible intro _|refine eK ab ?_|refine EC.use (da _ hn) ?_|fail))<;>((exact Lt.row (cells:=a8.c) (d:=default) (l:=[a8.mk iD 9 [x]]) rfl rfl rfl))
theorem sW (x y:Int):EC prog 175 [bG 3 a8.c default [a8.mk iD 9 [x]],.agg (a8.mk lY 9 [y]).c] [] fun r N=>N=[]∧r=bG 3 a8.c default ([a8.mk iD 9 [x]] ++ [(a8.mk lY 9 [y])]):=by
 have hn:m_ (a8.mk lY 9 [y]):=⟨le_of_ble_eq_true rfl,le_of_ble_eq_true rfl⟩;have h1:m_ (a8.mk iD 9 [x]):=⟨le_of_ble_eq_true rfl,le_of_ble_eq_true rfl⟩;refine EC.cQ ?_;refine nW ab (ca 175) func175 ntmps175 results175 ?_;(repeat' (with_reducible intro _));refine cw 5 198 3 rfl ?_;intro hh;refine aT ab [0,3,8,9] (fun s:Nat×aN=>[(10,.int .i64 s.1),(5,.row 1 s.2 3 0 s.1)]) (fun B s=>cW B 1 s.2 (([a8.mk iD 9 [x]]:List a8).take s.1 |>.map a8.c)) (fun s=>s.1≤1) (fun s=>1 - s.1) (0,hh) (zero_le _) ?_;rintro ⟨i,hr⟩ hi;replace hi:i≤1:=hi;rcases (by omega:i=0∨i=1) with rfl|rfl
 ·simp only [List.take_zero,map_nil,push_cast,simprocAttr];(repeat' (first|with_reducible intro _|refine eK ab ?_|refine EC.use (da _ h1) ?_|refine dN ab [] [] [0,1,2,3,4,5,6,7,8,9,10,11,12,13,14,15,16,17,18,19,20,21] bZ fun R hR=>?_|(refine hR _ _ ?_;refine sA ?_)|refine wA ab ?_|fail))<;>((exact a7 (1,_) (le_refl _)))
 ·simp only [List.take_succ_cons,List.take_zero,map_cons,map_nil,push_cast,simprocAttr];(repeat' (first|with_reducible intro _|refine eK ab ?_|refine EC.use (da _ hn) ?_|fail))<;>((exact Lt.row (cells:=a8.c) (d:=default) (l:=[a8.mk iD 9 [x],a8.mk lY 9 [y]]) rfl rfl rfl))
theorem Fp:EC prog 172 [.agg (qS []).c] [] fun r N=>N=[]∧r= .bool true:=kJ [] (zero_le _) (fun i _ h=>absurd h (Nat.not_lt_zero i)) (fun n hn=>(nomatch hn))
theorem Fo (x:Int) (hx:x≠0):EC prog 172 [.agg (qS [⟨iD,9,[x]⟩]).c] [] fun r N=>N=[]∧r= .bool true:=kJ _ (le_of_ble_eq_true rfl) (fun i h1 h2=>by simp at h2;omega) (fun n hn=>by rw [List.mem_singleton.1 hn];exact gH _ _ CM hx)
theorem Fm (x y:Int) (hx:x≠0) (hy:y≠0):EC prog 172 [.agg (qS [⟨iD,9,[x]⟩,⟨lY,9,[y]⟩]).c] [] fun r N=>N=[]∧r= .bool true:=kJ _ (le_of_ble_eq_true rfl) (fun i h1 h2=>by
  obtain rfl:i=1:=by simp at h2;omega
  exact O3) (fun n hn=>by
  simp only [mem_cons,not_mem_nil,or_false] at hn;rcases hn with rfl|rfl
  ·exact gH _ _ CM hx
  ·exact gH _ _ GA hy)
theorem ye (x:Int) (hx:x≠0):EC prog 115 [.agg (qS []).c,.agg (a8.mk iD 9 [x]).c] [] fun r N=>N=[]∧r= .bS [.agg (qS [⟨iD,9,[x]⟩]).c,.int .i64 0]:=by
 have hv:=Fp;have hf:=o0 [] iD (zero_le _) hv (fun n hn=>(nomatch hn));refine EC.cQ ?_;unfold qS at hv hf ⊢;refine nW ab (ca 115) func115 ntmps115 results115 ?_;(repeat' (first|with_reducible intro _|refine eK ab ?_|refine EC.use (hv) ?_|refine EC.use (gH iD x CM hx) ?_|refine EC.use (hf) ?_|refine EC.use (sX x) ?_|fail))<;>((exact Lt.t2 (a6.agg ((eU.O _).put 35 gY.sl rfl)) (a6.jC rfl)))
theorem yd (x y:Int) (hx:x≠0) (hy:y≠0):EC prog 115 [.agg (qS [⟨iD,9,[x]⟩]).c,.agg (a8.mk lY 9 [y]).c] [] fun r N=>N=[]∧r= .bS [.agg (qS [⟨iD,9,[x]⟩,⟨lY,9,[y]⟩]).c,.int .i64 0]:=by
 have hv:=Fo x hx;have hf:=o0 [⟨iD,9,[x]⟩] lY (le_of_ble_eq_true rfl) hv (fun n hn=>by rw [List.mem_singleton.1 hn];show iD≠lY;decide);refine EC.cQ ?_;unfold qS at hv hf ⊢;refine nW ab (ca 115) func115 ntmps115 results115 ?_;(repeat' (first|with_reducible intro _|refine eK ab ?_|refine EC.use (hv) ?_|refine EC.use (gH lY y GA hy) ?_|refine EC.use (hf) ?_|refine EC.use (sW x y) ?_|fail))<;>((exact Lt.t2 (a6.agg ((eU.O _).put 35 gY.sl rfl)) (a6.jC rfl)))
def Ek (x y:Int) (i:Nat):aG:=if i=0 then default else if i=1 then ⟨[uN x]⟩ else ⟨if x < y then [uN x,uN y] else [uN y,uN x]⟩
def RK (x y:Int) (i:Nat):af:=if i=0 then qS [] else if i=1 then qS [⟨iD,9,[x]⟩] else qS [⟨iD,9,[x]⟩,⟨lY,9,[y]⟩]
theorem Nw {x y:Int} (hx:2≤x):cK (Ek x y 0) (uN x)=(Ek x y 1,0):=by
 have h0:(x == 0)=false:=by simp;omega
 simp [cK,Ek,mr,uN,h0];rfl
theorem Nv {x y:Int} (hx:2≤x) (hy:2≤y) (hxy:x≠y):cK (Ek x y 1) (uN y)=(Ek x y 2,0):=by
 have h0:(y == 0)=false:=by simp;omega
 have h1:(x == y)=false:=by simpa using hxy
 rcases Int.lt_or_gt_of_ne hxy with h|h
 ·simp [cK,Ek,mr,uN,h0,h1,h]
 ·have h2:¬x < y:=by omega
  simp [cK,Ek,mr,uN,h0,h1,h2]
theorem Nu {x y:Int} (hx:2≤x) (hy:2≤y) (hxy:x≠y):cK (Ek x y 2) (qS [⟨iD,9,[x]⟩,⟨lY,9,[y]⟩])=(tU x y,0):=by
 have a1:(x == 1)=false:=by simp;omega
 have a2:(y == 1)=false:=by simp;omega
 have a3:¬x < 1:=by omega
 have a4:¬y < 1:=by omega
 rcases Int.lt_or_gt_of_ne hxy with h|h
 ·simp [cK,Ek,tU,mr,uN,qS,h,a1,a2,a3]
 ·have h2:¬x < y:=by omega
  simp [cK,Ek,tU,mr,uN,qS,h2,a1,a2,a4]
theorem v9 (paths:List (List UInt8)) (ids:List Int) (ro:Nat→af) (st:Nat→aG) (hpl:paths.length=2) (hil:ids.length=2) (hro:ro 0={(default:af) with ID:=1,aU:=10}) (hst:st 0=default) (hsl:∀i,(st i).ah.length≤10)
  (hadd:∀i,i < 2→EC prog 115 [.agg (ro i).c,.agg (a8.mk (paths.getD i default) 9 [ids.getD i default]).c] [] fun r N=>N=[]∧r= .bS [.agg (ro (i+1)).c,.int .i64 0])
  (hput:∀i,i < 2→cK (st i) {(default:af) with ID:=ids.getD i default,aU:=9}=(st (i+1),0))
  (hid:∀i,i < 2→(ids.getD i default == 0)=false∧(ids.getD i default == 1)=false∧decide (ids.getD i default∈ids.take i)=false)
  (w:aG) (hw0:cK (st 2) (ro 2)=(w,0)):
  EC prog 69 [bG 1 jz default paths,bG 1 (aS .u64) default ids] [] fun r N=>N=[]∧r= .bS [.agg w.c,.int .i64 0]:=by
 refine EC.cQ ?_;refine nW ab (ca 69) func69 ntmps69 results69 ?_;have hw1:IntKind.i64.wrap (paths.length:Int)=paths.length:=bu (by omega);have hw2:IntKind.i64.wrap (ids.length:Int)=ids.length:=bu (by omega);(repeat' (first|with_reducible (first|intro _|apply And.intro)|refine eK ab ?_|refine EC.use (Al) ?_|fail))<;>(first|(exfalso;have hz:=‹_=true›;simp at hz;omega;done)|skip);refine aT ab [0,1,4,5,6,7,20,21] (fun i:Nat=>[(22,.int .i64 i)]) (fun B i=>cP (cP B 1 [(ro i).c]) 2 [(st i).c]) (fun i=>i≤paths.length) (fun i=>paths.length - i) 0 (zero_le _) ?_ (hb:=by rw [hro,hst];rfl);intro i hi2;have hsl2:(st i).ah.length≤1000000000:=le_trans (hsl i) (by decide);have hw:=wI i;simp only [hw,push_cast,simprocAttr];refine ⟨fun hc=>?_,fun hc=>?_⟩;rotate_left 1
 ·obtain rfl:i=2:=by simp at hc;omega
  (repeat' (first|refine eK ab ?_|refine EC.use (ee (st 2) (ro 2) hsl2) ?_|fail))<;>((rw [hw0];exact Lt.t2 (a6.FD rfl) (a6.jC rfl)))
 have hlt:i < ids.length:=by simp at hc;omega
 refine ⟨⟨by omega,by omega⟩,?_⟩;have hsub:=lz (fl:=false) (e:=1) (c:=aS .u64) (d:=default) (Nat.le_of_lt hlt);have hHas:∀x:Int,EC prog 114 [SV.sl false 1 i (sub (cA (aS IntKind.u64) default ids) ids.length 0 i),.int .u64 x] [] fun r B=>B=[]∧r= .bool (decide (x∈ids.take i)):=fun x=>by
  rw [hsub];exact ec (ids.take i) x (by simp;omega)
 obtain ⟨hi0,hi1,him⟩:=hid i (by omega);refine dB (σ:=Bool) [0,1,4,5,6,7,8,9,20,21,22] (fun b=>[(48,.bool b)]) (fun B _=>B) (fun b=>b=false) ?_ ?_;rotate_left 1
 ·(repeat' (first|with_reducible (first|intro _|apply And.intro)|refine EC.use (hHas _) ?_|refine dN ab [] [] [0,1,2,3,4,5,6,7,8,9,10,11,12,13,14,15,16,17,18,19,20,21] bZ fun R hR=>?_|refine dR ab [21] ?_|(refine hR _ _ ?_;refine sA ?_)|fail))<;>(first|omega|(refine gg _ ?_;(show (_:Bool)=false);(simp only [hi0,hi1,him,Bool.or_false,Bool.or_self];done))|(exfalso;simp_all;done))
 rintro b rfl;simp only [bK,dd,push_cast,simprocAttr];(repeat' (first|refine wA ab ?_|fail));refine dB (σ:=Bool×aN) [0,1,4,5,6,7,8,9,20,21,22] (fun s=>[(10,.bx (bif s.1 then 3 else 4) s.2 36 0 0),(11,.int .i64 0)]) (fun B s=>B ++ (bif s.1 then [.row s.2 76 36 [(ro (i+1)).c]] else [.gone,.row s.2 76 36 [(ro (i+1)).c]])) (fun s=>True) ?_ ?_;rotate_left 1
 ·(repeat' (first|with_reducible (first|intro _|apply And.intro)|(refine EC.JF 3 rfl ?_)|(refine EC.JF 4 rfl ?_)|refine EC.use (hadd i (by omega)) ?_|refine dM ab 11 [0,1,2,3,4,5,6,7,8,9,10,11,12,13] [1,2,3,4] bZ fun R hR=>?_|refine mV ab 0 5 12 ?_ ?_ ?_|refine bT ab 5 12 ?_ ?_|refine mV ab 0 6 12 ?_ ?_ ?_|refine bT ab 0 5 ?_ ?_|refine bT ab 6 12 ?_ ?_|refine dC ab 5 ?_|refine dP ab 8 [7] ?_|refine bT ab 0 12 ?_ ?_|refine bT ab 0 6 ?_ ?_|refine dP ab 7 [7] ?_|refine bT ab 8 12 ?_ ?_|refine dR ab [6,7,8,9,10,11,13,14] ?_|refine dR ab [9,10,11,13,14] ?_|refine dC ab 0 ?_|refine dR ab [9,10,11,12,13,14] ?_|refine dR ab [8,9,10,11,13,14] ?_|(refine hR _ _ ?_;refine sA ?_)|fail))<;>(first|omega|(exact gg (false,_) trivial)|(exact gg (true,_) trivial))
 rintro ⟨s1,h3⟩ -;simp only [bK,dd,push_cast,simprocAttr];have hpi:=hput i (by omega)
 cases s1
 all_goals
  simp only [cond_true,cond_false,cons_append,nil_append,push_cast,simprocAttr];(repeat' (first|with_reducible apply And.intro|refine EC.use (Ad _) ?_|refine EC.use (ee (st i) _ hsl2) ?_|refine dM ab 8 [0,1,2,3,4,5,6,7,8,9,10,11,12,13] [1,2,3] bZ fun R hR=>?_|refine bT ab 0 4 ?_ ?_|refine dC ab 4 ?_|refine bT ab 0 5 ?_ ?_|refine dR ab [5,6,7,8,9,10] ?_|refine dR ab [6,7,8,9,10] ?_|refine dR ab [7,8,9,10] ?_|refine dC ab 0 ?_|(refine hR _ _ ?_;refine sA ?_)|refine wA ab ?_|fail))<;>(first|omega|skip)
 all_goals
  (try simp only [hw,hpi]);exact a7 (i+1) (by show i+1≤_;omega)
theorem H0 (x y:Int) (i:Nat):(Ek x y i).ah.length≤10:=by
 unfold Ek
 split
 ·exact zero_le _
 ·split
  ·exact le_of_ble_eq_true rfl
  ·split<;>exact le_of_ble_eq_true rfl
theorem v8 (x y:Int) (hx:2≤x) (hy:2≤y) (hxy:x≠y):EC prog 69 [bG 1 jz default [iD,lY],bG 1 (aS .u64) default [x,y]] [] fun r N=>N=[]∧r= .bS [.agg (tU x y).c,.int .i64 0]:=by
 have c:∀i,i < 2→i=0∨i=1:=fun i h=>by omega
 refine v9 [iD,lY] [x,y] (RK x y) (Ek x y) rfl rfl rfl rfl (H0 x y) (fun i h=>?_) (fun i h=>?_) (fun i h=>?_) _ (Nu hx hy hxy)
 ·rcases c i h with rfl|rfl
  ·exact ye x (by omega)
  ·exact yd x y (by omega) (by omega)
 ·rcases c i h with rfl|rfl
  ·exact Nw hx
  ·exact Nv hx hy hxy
 ·rcases c i h with rfl|rfl
  ·refine ⟨?_,?_,?_⟩<;>simp [getD]<;>omega
  ·refine ⟨?_,?_,?_⟩<;>simp [getD]<;>omega
theorem xP (ns:List a8) (hv:EC prog 172 [.agg (qS ns).c] [] fun r N=>N=[]∧r= .bool true):EC prog 239 [.agg (qS ns).c] [] fun r N=>N=[]∧r= .bool true:=by
 refine EC.cQ ?_;unfold qS at hv ⊢;refine nW ab (ca 239) func239 ntmps239 results239 ?_;(repeat' (first|with_reducible intro _|refine eK ab ?_|refine EC.use (hv) ?_|fail))<;>((exact Lt.bool rfl))
theorem jW (x:Int) (hx:x≠0):EC prog 239 [.agg (uN x).c] [] fun r N=>N=[]∧r= .bool true:=by
 have hd:wL (uN x)=true:=by
  unfold wL uN;have h0:(x == 0)=false:=by simpa using hx
  simp [h0];rfl
 have hv:=jj (uN x);rw [hd] at hv;refine EC.cQ ?_;unfold uN at hv ⊢;refine nW ab (ca 239) func239 ntmps239 results239 ?_;(repeat' (first|with_reducible intro _|refine eK ab ?_|refine EC.use (hv) ?_|fail))<;>((exact Lt.bool rfl))
end
section
attribute [local irreducible] EC EV gW cc cK dT dA cC
theorem uq (s:aG) (hl:s.ah.length≤1000) (hasc:∀i,0 < i→i < s.ah.length→(s.ah.getD (i - 1) default).ID < (s.ah.getD i default).ID) (hv:∀o∈s.ah,EC prog 239 [.agg o.c] [] fun r N=>N=[]∧r= .bool true):EC prog 178 [.agg s.c] [] fun r N=>N=[]∧r= .bool true:=by
 refine EC.cQ ?_;refine nW ab (ca 178) func178 ntmps178 results178 ?_;(repeat' (with_reducible intro _));refine bV ab [1,6,7] 8 s.ah.length (fun i=>True) trivial (by omega) ?_;intro i hI hi hw;simp only [hw,push_cast,simprocAttr];have hi0:0 < (i:Int)→IntKind.i64.wrap ((i:Int) - 1)=((i - 1:Nat):Int):=fun h=>by rw [bu (by omega)];omega
 have hmem:i < s.ah.length→_:=fun h=>hv _ (bk h);(repeat' (first|with_reducible (first|intro _|apply And.intro)|refine EC.use (hmem (by omega)) ?_|refine dN ab [] [] [0,1,2,3,4,5,6,7,8,9,10,11,12,13,14,15,16,17,18] bZ fun R hR=>?_|refine dR ab [2,3,4,5,6,7,8,9,10,11,12,13,14,15,16,17,18] ?_|(refine hR _ _ ?_;refine sA ?_)|refine wA ab ?_|fail))<;>(first|((try simp only [hw]);exact cO trivial)|(exact Lt.bool rfl)|(exfalso;have hz:=‹_=true›;simp only [Bool.and_eq_true,decide_eq_true_eq,Bool.not_eq_true',decide_eq_false_iff_not] at hz;rw [hi0 hz.1,Int.toNat_natCast] at hz;have:=hasc i (by omega) (by omega);omega)|(rw [hi0 (by omega)];omega)|omega)
theorem HY {x y:Int} (hx:2≤x) (hy:2≤y) (hxy:x≠y):∀i,0 < i→i < (tU x y).ah.length→((tU x y).ah.getD (i - 1) default).ID < ((tU x y).ah.getD i default).ID:=by
 intro i h1 h2;rw [qY] at h2;have:i=1∨i=2:=by omega
 unfold tU;rcases this with rfl|rfl
 all_goals
  split
  all_goals
   simp [qS,uN,getD];omega
theorem uo (x y:Int) (hx:2≤x) (hy:2≤y) (hxy:x≠y):EC prog 178 [.agg (tU x y).c] [] fun r N=>N=[]∧r= .bool true:=
 uq _ (by rw [qY];decide) (HY hx hy hxy) fun o ho=>by
  have hr:=xP _ (Fm x y (by omega) (by omega));unfold tU at ho
  split at ho
  all_goals
   simp only [mem_cons,not_mem_nil,or_false] at ho;rcases ho with rfl|rfl|rfl
  ·exact hr
  ·exact jW x (by omega)
  ·exact jW y (by omega)
  ·exact hr
  ·exact jW y (by omega)
  ·exact jW x (by omega)
theorem Ex {n:Nat} (h1:1≤n) (h8:n≤8):ib (fB n)=true:=by
 have:∀n:Fin 9,1≤n.1→ib (fB n.1)=true:=by decide
 exact this ⟨n,by omega⟩ h1
theorem wR {n i:Nat} (h:i < n):(et (fB n)).getD i default=⟨(i:Int),1⟩:=by
 simp [et,fB,getD,h]
theorem ug (n:Nat) (s:aG) (h1:1≤n) (h8:n≤8) (hs:EC prog 178 [.agg s.c] [] fun r N=>N=[]∧r= .bool true):EC prog 122 [.agg (aO.mk 1 (fB n) s [] (et (fB n)) []).c] [] fun r N=>N=[]∧r= .bool true:=by
 have hpr:=nZ (fB n) (by rw [ka];omega);rw [Ex h1 h8] at hpr;have hbl:(et (fB n)).length=n:=by rw [pQ,ka]
 refine EC.cQ ?_;refine nW ab (ca 122) func122 ntmps122 results122 ?_;(repeat' (first|with_reducible intro _|refine eK ab ?_|refine EC.use (hpr) ?_|refine EC.use (hs) ?_|fail))<;>(skip);refine bV ab [1] 3 0 (fun i=>True) trivial (by omega) ?_;intro i hI hi hw;simp only [hw,push_cast,simprocAttr];obtain rfl:i=0:=by omega
 (repeat' (first|with_reducible (first|intro _|apply And.intro)|refine dN ab [] [] [0,1,2,3,4,5,6,7,8,9,10,11,12,13,14,15,16,17,18,19,20,21,22,23,24,25,26,27,28] bZ fun R hR=>?_|(refine hR _ _ ?_;refine sA ?_)|refine wA ab ?_|contradiction))<;>(skip);refine bV ab [1] 5 n (fun _=>True) trivial (by omega) ?_;intro j hJ hj hw2;have hi0:0 < (j:Int)→IntKind.i64.wrap ((j:Int) - 1)=((j - 1:Nat):Int):=fun h=>by rw [bu (by omega)];omega
 have hg:j < n→_:=fun h=>wR h;simp only [hw2,hbl,push_cast,simprocAttr];(repeat' (first|with_reducible (first|intro _|apply And.intro)|refine dN ab [] [] [0,1,2,3,4,5,6,7,8,9,10,11,12,13,14,15,16,17,18,19,20,21,22,23,24,25,26,27,28,29,30,31,32,33] bZ fun R hR=>?_|(refine hR _ _ ?_;refine sA ?_)|refine wA ab ?_|fail))<;>(first|((try simp only [hw2]);exact cO trivial)|(have hz:=‹(_ && decide (0 < (j:Int)))=true›;simp only [Bool.and_eq_true,decide_eq_true_eq] at hz;first|exact hz.1|omega|(rw [hi0 hz.2];omega))|omega|(show (_:Bool)=true;first|(simp_all;done)|grind)|skip)
 ·exfalso;have hz:=‹_=true›;rcases Nat.eq_zero_or_pos j with h|h
  ·subst h;rw [hg (by omega)] at hz;simp at hz
  ·rw [hi0 (by omega),Int.toNat_natCast,hg (by omega),wR (by omega)] at hz;simp at hz;omega
 refine bV ab [1] 7 0 (fun _=>True) trivial (by omega) ?_;intro k hK hk hw3;obtain rfl:k=0:=by omega
 refine sA ?_;(repeat' (done))<;>((exact Lt.bool rfl))
attribute [local push_cast] Hx Hy Hw D_ Jk Jj Ji FY Dk Jq Jp Jn Jl FZ Dm Jo Jm Dl eO dG SV.fh
attribute [local irreducible] Cn oq
theorem xy (nodes:List Int) (s:aG) (hn1:nodes.length≤1000) (hs:s.ah.length≤800000000) (hV:EC prog 122 [.agg (aO.mk 1 nodes s [] (et nodes) []).c] [] fun r N=>N=[]∧r= .bool true):EC prog 72 [bG 1 (aS .i64) default nodes,.agg s.c] [] fun r N=>N=[]∧r= .bS [.agg (aO.mk 1 nodes s [] (et nodes) []).c,.int .i64 0]:=by
 refine EC.cQ ?_;refine EC.iU ek (ca 72) func72 rfl (by simp [ntmps72]) ?_;simp only [ntmps72,results72,fL];refine bR ek ?_;generalize hK:i6 prog _ _ _=K0;refine sA ?_;(repeat' (with_reducible intro _))<;>(skip)
 all_goals try (subst hK;rw [dc])
 refine dy (σ:=aN×aN×Bool) [0,4,5] (fun h=>[(6,.bx (bif h.2.2 then 2 else 3) h.1 6 0 0)]) (fun B h=>[au B 0,au B 1,bif h.2.2 then .row h.1 31 6 [oq (⟨1,[],s,[],[],[]⟩:aO) (.row 3 h.2.1 1 0 nodes.length) tY] else .row h.2.1 3 1 (nodes.map (aS .i64)),bif h.2.2 then .row h.2.1 3 1 (nodes.map (aS .i64)) else .row h.1 31 6 [oq (⟨1,[],s,[],[],[]⟩:aO) (.row 2 h.2.1 1 0 nodes.length) tY]]) (fun _=>True) ?_ ?_;rotate_left 1
 ·refine bN ek ?_;refine sA ?_;(repeat' (first|with_reducible (first|intro _|apply And.intro)|refine dM ek 5 [] [1,3] bZ fun R hR=>?_|refine bT ek 0 5 ?_ ?_|refine bT ek 2 5 ?_ ?_|refine dR ek [0,2,4,6] ?_|refine dR ek [4,5,6] ?_|refine dR ek [2,4,6] ?_|(refine hR _ _ ?_;refine sA ?_)|fail))<;>(first|(exact du 4 (_,_,false) trivial ⟨So,So,So,So,trivial⟩)|(exact du 4 (_,_,true) trivial ⟨So,So,So,So,trivial⟩)|rfl|omega)
 rintro ⟨h6,hn,b⟩ -
 cases b
 all_goals simp only [bK,dd,au,cond_true,cond_false,List.getD_cons_zero,List.getD_cons_succ,push_cast,simprocAttr]
 ·refine eY 3 0 4 125 2 (by simp) rfl rfl (by unfold oq;rfl) ?_;intro hh;simp only [set_cons_succ,set_cons_zero,length_cons,length_nil,cons_append,nil_append,zero_add,Nat.reduceAdd,Dm];refine bR ek ?_;generalize hK:i6 prog _ _ _=K0;refine sA ?_;(repeat' (done));refine aT ek [0,4,5,6] (fun x:Nat×List cn×Nat×aN=>[(7,.int .i64 x.1)]) (fun B x=>cW (cP B 3 [oq (⟨1,[],s,[],[],[]⟩:aO) (.row 2 hn 1 0 nodes.length) (.row 4 x.2.2.2 2 0 x.2.2.1)]) 4 x.2.2.2 (x.2.1.map cn.c)) (fun x=>x.1≤nodes.length∧x.2.2.1=x.2.1.length∧x.2.1=et (nodes.take x.1)) (fun x=>nodes.length - x.1) (0,[],0,hh) ⟨zero_le _,rfl,rfl⟩ ?_;rintro ⟨i,m,km,hr⟩ ⟨hi,hk,hm⟩;replace hi:i≤nodes.length:=hi;obtain rfl:km=m.length:=hk;replace hm:m=et (nodes.take i):=hm;have hml:m.length=i:=by rw [hm,pQ];simp;omega
  have hw:=wI i;simp only [hw,push_cast,simprocAttr];(repeat' (first|with_reducible (first|intro _|apply And.intro)|refine dJ ek 6 [10] [4] [0,1,2,3,4] bZ fun R hR=>?_|refine kh ek 5 ?_|refine jP ek 4 [6] ?_|refine kh ek 7 ?_|refine kh ek 8 ?_|refine dR ek [9,10] ?_|(refine hR _ _ ?_;refine sA ?_)|fail))<;>(first|omega|((try simp only [hw]);refine a7 (i+1,m ++ [_],m.length+1,_) ⟨by show i+1≤_;omega,by simp,by show m ++ [_]=et (nodes.take (i+1));rw [wQ (by omega),hm]⟩)|skip);subst hK;rw [dc];have hmf:m=et nodes:=by
   have:i=nodes.length:=by have:=‹decide ((i:Int) < _)=false›;simp at this;omega
   rw [hm,this,List.take_length]
  subst hmf;refine bN ek ?_;refine sA ?_;(repeat' (first|refine eK ek ?_|((refine EC.t6 hV (d_.two (bE.oq (jv.row (by decide) rfl rfl rfl) (jv.row (by decide) rfl rfl rfl)) .nil) (by rintro _ rfl;rfl) ?_;rintro _ rfl))|fail))<;>(skip);exact Lt.t2 (a6.oq (x:=⟨1,[],s,[],[],[]⟩) (l:=nodes) (l2:=et nodes) (gY.row rfl rfl rfl) (gY.row rfl rfl rfl)) a6.int
 ·refine eY 2 0 4 125 2 (by simp) rfl rfl (by unfold oq;rfl) ?_;intro hh;simp only [set_cons_succ,set_cons_zero,length_cons,length_nil,cons_append,nil_append,zero_add,Nat.reduceAdd,Dm];refine bR ek ?_;generalize hK:i6 prog _ _ _=K0;refine sA ?_;(repeat' (done));refine aT ek [0,4,5,6] (fun x:Nat×List cn×Nat×aN=>[(7,.int .i64 x.1)]) (fun B x=>cW (cP B 2 [oq (⟨1,[],s,[],[],[]⟩:aO) (.row 3 hn 1 0 nodes.length) (.row 4 x.2.2.2 2 0 x.2.2.1)]) 4 x.2.2.2 (x.2.1.map cn.c)) (fun x=>x.1≤nodes.length∧x.2.2.1=x.2.1.length∧x.2.1=et (nodes.take x.1)) (fun x=>nodes.length - x.1) (0,[],0,hh) ⟨zero_le _,rfl,rfl⟩ ?_;rintro ⟨i,m,km,hr⟩ ⟨hi,hk,hm⟩;replace hi:i≤nodes.length:=hi;obtain rfl:km=m.length:=hk;replace hm:m=et (nodes.take i):=hm;have hml:m.length=i:=by rw [hm,pQ];simp;omega
  have hw:=wI i;simp only [hw,push_cast,simprocAttr];(repeat' (first|with_reducible (first|intro _|apply And.intro)|refine dJ ek 6 [10] [4] [0,1,2,3,4] bZ fun R hR=>?_|refine kh ek 5 ?_|refine jP ek 4 [6] ?_|refine kh ek 7 ?_|refine kh ek 8 ?_|refine dR ek [9,10] ?_|(refine hR _ _ ?_;refine sA ?_)|fail))<;>(first|omega|((try simp only [hw]);refine a7 (i+1,m ++ [_],m.length+1,_) ⟨by show i+1≤_;omega,by simp,by show m ++ [_]=et (nodes.take (i+1));rw [wQ (by omega),hm]⟩)|skip);subst hK;rw [dc];have hmf:m=et nodes:=by
   have:i=nodes.length:=by have:=‹decide ((i:Int) < _)=false›;simp at this;omega
   rw [hm,this,List.take_length]
  subst hmf;refine bN ek ?_;refine sA ?_;(repeat' (first|refine eK ek ?_|((refine EC.t6 hV (d_.two (bE.oq (jv.row (by decide) rfl rfl rfl) (jv.row (by decide) rfl rfl rfl)) .nil) (by rintro _ rfl;rfl) ?_;rintro _ rfl))|fail))<;>(skip);exact Lt.t2 (a6.oq (x:=⟨1,[],s,[],[],[]⟩) (l:=nodes) (l2:=et nodes) (gY.row rfl rfl rfl) (gY.row rfl rfl rfl)) a6.int
theorem xx (n:Nat) (h1:1≤n) (h8:n≤8) (x y:Int) (hx:2≤x) (hy:2≤y) (hxy:x≠y):EC prog 72 [bG 1 (aS .i64) default (fB n),.agg (tU x y).c] [] fun r N=>N=[]∧r= .bS [.agg (aO.mk 1 (fB n) (tU x y) [] (et (fB n)) []).c,.int .i64 0]:=
 xy _ _ (by rw [ka];omega) (by rw [qY];decide) (ug n _ h1 h8 (uo x y hx hy hxy))
end
section
attribute [local irreducible] EC EV gW cc cK dT dQ dA cC
theorem DE {n:Nat} (h:n≤7):oC n 0=(⟨n,0,0⟩,0):=by
 unfold oC;rw [if_neg (by simp;omega)];rfl
theorem vV (n:Nat) (hn:n≤7):EC prog 67 [.int .i64 (n:Int),.int .i64 0,.int .i64 1] [] fun r N=>N=[]∧r= .bS [.agg (oB n 0 1).c,.int .i64 0]:=by
 have e:=DE hn;refine EC.cQ ?_;refine nW ab (ca 67) func67 ntmps67 results67 ?_;(repeat' (first|with_reducible (first|intro _|apply And.intro)|refine eK ab ?_|refine EC.use (mE _ _) ?_|fail))<;>(first|(exact Lt.t2 (a6.n_ rfl) a6.int)|(exfalso;simp_all;done)|(exfalso;simp_all;omega))
def Ej (n:Nat):List aj:=(fB n).map fun i=>oB i 0 1
theorem Gf (n:Nat):Ej (n+1)=Ej n ++ [oB n 0 1]:=by unfold Ej;rw [yS,map_append];rfl
theorem Dx (n:Nat):(Ej n).length=n:=by unfold Ej;rw [List.length_map,ka]
theorem KS {n:Nat} (h:n≤8):(Ej n).map (·.bD)=IT n:=by
 unfold Ej IT;rw [map_map];refine List.map_congr_left fun x hx=>?_;obtain ⟨h1,h2⟩:=vg.1 hx;obtain ⟨k,rfl⟩:=Int.eq_ofNat_of_zero_le h1;show (oC (k:Int) 0).1=_;rw [DE (by omega)]
theorem KR {n:Nat} {Q:af→Prop} {N:Nat} {s:aj} (h:s∈Ej n):jB Q N s:=by
 unfold Ej at h;obtain ⟨x,-,rfl⟩:=List.mem_map.1 h;exact ⟨zero_le _,fun y hy=>(nomatch hy),⟨zero_le _,fun y hy=>(nomatch hy)⟩,zero_le _,zero_le _,Int.le_refl _⟩
theorem Bp {a:aL} {n:Int} (h:ER a) (hn:0≤n∧n≤64) (hs:a.bP+n≤1099511627775):dQ a n=(ik a n.toNat,{a with bP:=a.bP+n},0):=by
 obtain ⟨h1,h2,h3⟩:=h;have e:oC a.bW a.fR=({(default:aL) with bW:=a.bW,fR:=a.fR},0):=by
  unfold oC;rw [if_neg (by simp;omega)]
 unfold dQ;rw [e,if_neg (by simp;omega),if_neg (by simp;omega),if_neg (by simp;omega)]
structure JA (n j:Nat) (I:Int→Prop) (l:List aj) (ids:List Int):Prop where
 i0:I 0
 i1:I 1
 ln:l.length=n
 al:wW I (et (fB n)) (l.map (·.bD))
 sr:∀a∈l.map (·.bD),a.bP≤1+(j:Int)
 st:∀s∈l,∀(Q:af→Prop) (N:Nat),jB Q N s
 il:ids.length=j
 ii:∀y∈ids,I y∧2≤y
 nd:ids.Nodup
theorem JA.cut {n j:Nat} {I:Int→Prop} {l:List aj} {ids:List Int} (h:JA n j I l ids) (hn:1≤n):∃pre x post,l=pre ++ x :: post∧pre.length=j%n:=by
 have hlt:j%n < l.length:=by rw [h.ln];exact Nat.mod_lt _ (by omega)
 refine ⟨l.take (j%n),l[j%n],l.drop (j%n+1),?_,by simp;omega⟩;rw [←List.drop_eq_getElem_cons hlt,List.take_append_drop]
theorem H4 {α β:Type} (f:α→β) (pre post:List α) (x y:α):(map f (pre ++ x :: post)).set pre.length (f y)=map f (pre ++ y :: post):=by simp
theorem JA.next {n j:Nat} {I:Int→Prop} {pre post:List aj} {x:aj} {ids ids0:List Int} {a0:aL} {e0:Int} (h:JA n j I (pre ++ x :: post) ids) (hj:j≤1000) (hx:(ids0,a0,e0)=dQ x.bD 1):
  e0=0∧∃y,ids0=[y]∧∃J,JA n (j+1) J (pre ++ {x with bD:=a0} :: post) (ids ++ [y]):=by
 have hmem:x.bD∈(pre ++ x :: post).map (·.bD):=List.mem_map.2 ⟨x,by simp,rfl⟩;have hok:=(h.al.ok _ hmem).1;have hsr:=h.sr _ hmem;rw [Bp hok (by decide) (by omega)] at hx;simp only [Prod.mk.injEq] at hx;obtain ⟨rfl,rfl,rfl⟩:=hx;have hk:pre.length < ((pre ++ x :: post).map (·.bD)).length:=by simp
 have hgd:((pre ++ x :: post).map (·.bD)).getD pre.length default=x.bD:=by simp [getD]
 have hg:=h.al.grow hk 1 (u:=1) (by decide) (by rw [hgd];omega);have hnew:=h.al.new hmem 1 (by decide) (by omega);rw [hgd,H4 (·.bD) pre post x {x with bD:={x.bD with bP:=x.bD.bP+1}}] at hg;have hid:ik x.bD (1:Int).toNat=[wV x.bD.bW x.bD.fR (x.bD.bP+0+1)]:=by simp [ik]
 rw [hid];have hidn:ik x.bD 1=[wV x.bD.bW x.bD.fR (x.bD.bP+0+1)]:=hid;rw [hidn] at hg hnew;generalize hy:wV x.bD.bW x.bD.fR (x.bD.bP+0+1)=y at *;have hyI:¬I y:=hnew.nf y (List.mem_singleton.2 rfl);have hy2:2≤y:=by
  have h0:y≠0:=fun e=>hyI (e▸h.i0);have h1:y≠1:=fun e=>hyI (e▸h.i1);have:0≤y:=by rw [←hy];unfold wV;have:=hok;unfold ER at this;omega
  omega
 refine ⟨rfl,y,rfl,jt I [y] 1,⟨.inl h.i0,.inl h.i1,by have:=h.ln;simpa using this,hg,fun a ha=>?_,fun s hs=>?_,by simp [h.il],fun z hz=>?_,?_⟩⟩
 ·rw [map_append,map_cons,List.mem_append,mem_cons] at ha;rcases ha with ha|rfl|ha
  ·have:=h.sr a (by rw [map_append];exact List.mem_append.2 (.inl ha));omega
  ·show x.bD.bP+1≤_;omega
  ·have:=h.sr a (by rw [map_append,map_cons];exact List.mem_append.2 (.inr (List.mem_cons_of_mem _ ha)));omega
 ·intro Q N;rw [List.mem_append,mem_cons] at hs;rcases hs with hs|rfl|hs
  ·exact h.st s (List.mem_append.2 (.inl hs)) Q N
  ·have:=h.st x (by simp) Q N;exact ⟨this.tl,this.tq,this.dr,this.hl,this.nl,this.pn⟩
  ·exact h.st s (List.mem_append.2 (.inr (List.mem_cons_of_mem _ hs))) Q N
 ·rcases List.mem_append.1 hz with hz|hz
  ·exact ⟨.inl (h.ii z hz).1,(h.ii z hz).2⟩
  ·rw [List.mem_singleton.1 hz];exact ⟨.inr (by simp),hy2⟩
 ·rw [List.nodup_append];refine ⟨h.nd,by simp,fun a ha b hb=>?_⟩;rw [List.mem_singleton.1 hb];exact fun e=>hyI (e▸(h.ii a ha).1)
theorem Ou (i:Nat) {x:aj} {post:List aj} {ids0:List Int} {a0:aL} {e0:Int} (hx:(ids0,a0,e0)=dQ x.bD 1) (hm:x :: post=Ej i) (h1:1≤i) (h8:i≤8):∃I,JA i 0 I ({x with bD:=a0} :: post) []:=by
 have hal:=KS h8;rw [←hm] at hal;have hxa:x.bD=⟨0,0,0⟩:=by
  obtain ⟨k,rfl⟩:∃k,i=k+1:=⟨i - 1,by omega⟩;have:=congrArg List.head? hal;simpa [IT,fB,List.range_succ_eq_map] using this
 have hin0:=wW.init h8;rw [←hal] at hin0;rw [hxa,Bp ⟨by decide,by decide,by decide,by decide⟩ (by decide) (by decide)] at hx;simp only [Prod.mk.injEq] at hx;obtain ⟨-,rfl,-⟩:=hx;have hgd:((x :: post).map (·.bD)).getD 0 default=⟨0,0,0⟩:=by simp [getD,hxa]
 have hg:=hin0.grow (k:=0) (by simp) 1 (u:=1) (by decide) (by rw [hgd];decide);rw [hgd] at hg;refine ⟨jt (fun x=>x=0) (ik ⟨0,0,0⟩ 1) 1,⟨Or.inl rfl,Or.inr (by decide),by rw [←Dx i,←hm];rfl,by simpa using hg,fun a ha=>?_,fun s hs=>?_,rfl,fun y hy=>(nomatch hy),List.nodup_nil⟩⟩
 ·rw [map_cons,mem_cons] at ha;rcases ha with rfl|ha
  ·show (0:Int)+1≤1+((0:Nat):Int);decide
  ·have:a∈IT i:=by rw [←hal,map_cons];exact List.mem_cons_of_mem _ ha
   unfold IT at this;obtain ⟨z,-,rfl⟩:=List.mem_map.1 this;show (0:Int)≤_;decide
 ·intro Q N;rw [mem_cons] at hs;have hq:∀s∈x :: post,jB Q N s:=fun s hs=>KR (hm▸hs);rcases hs with rfl|hs
  ·have:=hq x (by simp);exact ⟨this.tl,this.tq,this.dr,this.hl,this.nl,this.pn⟩
  ·exact hq s (List.mem_cons_of_mem _ hs)
theorem Ng {Q:af→Prop} {t t0:a9} {e:Int} (h:(e=0→yA Q 1 t0 t)∧(e≠0→t=default)) (hl:t0.aD.length≤0):t.aD.length≤1∧∀y∈t.aD,Q y.ba:=by
 by_cases he:e=0
 ·have:=h.1 he;exact ⟨by have:=this.ln;omega,this.q⟩
 ·rw [h.2 he];exact ⟨zero_le _,fun y hy=>(nomatch hy)⟩
def k_ (x:ao) (a:SV):List SV:=x.c.set 6 a
def HI:Env:={E with zr:=fun T=>if T=37 then k_ default tY else E.zr T}
theorem eM:cI prog HI:=⟨ab.ty,fun T h=>by
 simp only [HI] at h ⊢
 split
 ·rename_i e;subst e;kernel_rfl
 ·rename_i e;simp only [e,if_false] at h;exact ab.zr T h,ab.lv⟩
theorem Ge (x:List SV) (post:List aj):(eA [] x post).getD 0 []=x:=rfl
theorem Gd (x y:List SV) (post:List aj):(eA [] x post).set 0 y=eA [] y post:=rfl
theorem L6 (T:Nat):HI.ty T=E.ty T:=rfl
theorem L7:HI.kp=E.kp:=rfl
theorem L5:HI.zr 37=k_ default tY:=rfl
theorem Jb:HI.zr 143=E.zr 143:=rfl
theorem I':HI.zr 42=E.zr 42:=rfl
theorem Jd:HI.zr 132=E.zr 132:=rfl
theorem Ja:HI.zr 26=E.zr 26:=rfl
theorem Jc:HI.zr 76=E.zr 76:=rfl
theorem LA (x:ao) (a:SV):(k_ x a).length=8:=rfl
theorem Ly (x:ao) (a:SV):(k_ x a).take 8=k_ x a:=rfl
theorem LB (x:ao) (a d:SV):(k_ x a).getD 6 d=a:=rfl
theorem Lz (x:ao) (a b:SV):aJ (k_ x a) 6 [b]=k_ x b:=rfl
theorem Hf (x:ao) (a b:SV):(k_ x a).set 6 b=k_ x b:=rfl
theorem Lx (x:ao) (a:SV) (v:aO):aJ (k_ x a) 0 v.c=k_ {x with aY:=v} a:=rfl
theorem IJ (x y:ao) (a b:SV):aJ (k_ x a) 0 (k_ y b)=k_ y b:=rfl
theorem He (x:ao) (a:SV):bt (k_ x a)=a.fh:=by
 have h:bt (k_ x a)=(a.fh && true):=rfl;rw [h,Bool.and_true]
theorem a6.k_ {B:List aI} {x:ao} {a:SV} {l:List aj} (h1:gY B a (Go.Lift.bG 15 aj.c default l)):a6 B (.agg (k_ x a)) (.agg (ao.c {x with aq:=l})):=
 a6.agg ((eU.obj (cs:=x.c) (fun s B=>by rw [ao.fk]) (fun s B=>by rw [ao.fz])).put 6 h1 (r:=ao.c {x with aq:=l}) rfl)
attribute [local push_cast] Gt L6 L7 L5 Jb I' Jd Ja Jc LA Ly LB Lz Hf Lx IJ He eO dG SV.fh Dw zi Dv Ge Gd
attribute [local irreducible] k_ eA
set_option maxHeartbeats 20000000 in
theorem z8 (n:Nat) (h1:1≤n) (h8:n≤8):EC prog 40 [.int .i64 (n:Int),bG 1 jz default [iD,lY]] [] fun r N=>N=[]∧∃x:ao×Int,(∃I D,gL I D 100 0 8 x.1)∧r= .bS [.agg x.1.c,.int .i64 x.2]:=by
 obtain ⟨paths,hpe⟩:∃paths:List (List UInt8),paths=[iD,lY]:=⟨_,rfl⟩;have hp:paths.length=2:=by rw [hpe];rfl
 rw [←hpe];refine EC.bh ?_;refine EC.iU eM (ca 40) func40 rfl (by simp [ntmps40]) ?_;simp only [ntmps40,results40,fL]
 iterate 4
  (refine bR eM ?_
   generalize hK:i6 prog _ _ _=K0;refine sA ?_;(repeat' (with_reducible (first|intro _|apply And.intro)))<;>(first|(exfalso;have hz:=‹(_ || _)=true›;simp at hz;omega;done)|skip)
   all_goals try (subst hK;rw [dc]))
 refine eY 1 0 6 143 15 (by simp) rfl rfl (by unfold k_;rfl) ?_;intro hh;simp only [set_cons_succ,set_cons_zero,length_cons,length_nil,cons_append,nil_append,zero_add,Nat.reduceAdd,Hf];refine aT eM [0,1,4,6] (fun x:Nat×List aj×Nat×aN=>[(7,.int .i64 x.1)]) (fun B x=>cW (cP B 1 [k_ default (.row 2 x.2.2.2 15 0 x.2.2.1)]) 2 x.2.2.2 (x.2.1.map aj.c)) (fun x=>x.1≤n∧x.2.2.1=x.2.1.length∧x.2.1=Ej x.1) (fun x=>n - x.1) (0,[],0,hh) ⟨zero_le _,rfl,rfl⟩ ?_;rintro ⟨i,m,km,hr⟩ ⟨hi,hk,hm⟩;replace hi:i≤n:=hi;obtain rfl:km=m.length:=hk;replace hm:m=Ej i:=hm;have hml:m.length=i:=by rw [hm,Dx]
 have hw:=wI i;simp only [hw,push_cast,simprocAttr];(repeat' (first|with_reducible (first|intro _|apply And.intro)|refine eK eM ?_|((refine EC.use (vV i (by omega)) ?_))|fail))<;>(first|omega|((try simp only [hw]);refine a7 (i+1,m ++ [_],m.length+1,_) ⟨by show i+1≤_;omega,by simp,by show m ++ [_]=Ej (i+1);rw [Gf,hm]⟩)|skip);subst hK;rw [dc];have hin:i=n:=by have hz:=‹decide ((i:Int) < _)=false›;simp at hz;omega
 subst hin;obtain ⟨x,post0,rfl⟩:∃x post0,m=x :: post0:=by
  cases m with
  |nil=>simp at hml;omega
  |cons x post0=>exact ⟨x,post0,rfl⟩
 have hl0:post0.length+1=i:=by simpa using hml
 have hrow:map aj.c (x :: post0)=eA [] x.c post0:=by unfold eA;rfl
 simp only [hrow]
 iterate 3
  (refine bR eM ?_
   generalize hK:i6 prog _ _ _=K0;refine sA ?_;(repeat' (first|with_reducible (first|intro _|apply And.intro)|refine eK eM ?_|((refine EC.aM (f_ _ 1 (by decide)) ?_;rintro ⟨ids0,a0,e0⟩ hx0))|fail))<;>(first|omega|skip)
   all_goals try (subst hK;rw [dc]))
 obtain ⟨I0,hI⟩:=Ou i hx0 hm h1 h8;have hrow2:∀y:aj,eA [] y.c post0=map aj.c (y :: post0):=fun y=>by unfold eA;rfl
 simp only [hrow2];refine cw 13 42 1 rfl ?_;intro hh2;refine bR eM ?_;generalize hK:i6 prog _ _ _=K0;refine sA ?_;(repeat' (done));refine aT eM [0,1,4,6] (fun s:Nat×List aj×List Int×Nat×aN=>[(14,.int .i64 s.1),(13,.row 4 s.2.2.2.2 1 0 s.2.2.2.1)]) (fun B s=>cW (cP B 2 (s.2.1.map aj.c)) 4 s.2.2.2.2 (s.2.2.1.map (aS .u64))) (fun s=>s.1≤paths.length∧s.2.2.2.1=s.2.2.1.length∧∃I,JA i s.1 I s.2.1 s.2.2.1) (fun s=>paths.length - s.1) (0,{x with bD:=a0} :: post0,[],0,hh2) ⟨zero_le _,rfl,I0,hI⟩ ?_;rintro ⟨j,l,ids,kd,hd⟩ ⟨hj,hk,I,hn⟩;replace hj:j≤paths.length:=hj;obtain rfl:kd=ids.length:=hk;replace hn:JA i j I l ids:=hn;have hw:=wI j;obtain ⟨pre,x,post,rfl,hpl⟩:∃pre x post,l=pre ++ x :: post∧pre.length=j%i:=hn.cut (by omega);have hrm:Int.tmod (j:Int) (i:Int)=(pre.length:Int):=by rw [hpl];rfl
 simp only [cP,jA,uF,hw,push_cast,simprocAttr];have hnx:∀{ids0:List Int} {a0:aL} {e0:Int},(ids0,a0,e0)=dQ x.bD 1→_:=fun hx=>hn.next (by omega) hx;have hil:=hn.il;have hpi:pre.length < i:=by rw [hpl];exact Nat.mod_lt _ (by omega)
 (repeat' (first|with_reducible (first|intro _|apply And.intro)|refine dN eM [] [] [0,1,2,3,4,5,6] bZ fun R hR=>?_|(refine hR _ _ ?_;refine sA ?_)|fail))<;>(first|omega|skip)
 ·simp only [hrm,Int.toNat_natCast,push_cast,simprocAttr];refine bN eM ?_;refine sA ?_;(repeat' (first|with_reducible (first|intro _|apply And.intro)|refine eK eM ?_|((refine EC.aM (f_ _ 1 (by decide)) ?_;rintro ⟨ids0,a1,e0⟩ hx0;obtain ⟨rfl,y,rfl,J,hJ⟩:=hnx hx0))|fail))<;>(first|omega|((try simp only [hw,←uF]);refine a7 (j+1,_,ids ++ [y],ids.length+1,_) ⟨by show j+1≤_;omega,by simp,J,hJ⟩))
 have hjp:j=2:=by have hz:=‹decide ((j:Int) < _)=false›;simp at hz;omega
 obtain ⟨u,v,rfl⟩:∃u v,ids=[u,v]:=by
  have:ids.length=2:=by omega
  match ids,this with
  |[u,v],_=>exact ⟨u,v,rfl⟩
 obtain ⟨hu,hu2⟩:=hn.ii u (by simp);obtain ⟨hv,hv2⟩:=hn.ii v (by simp);have huv:u≠v:=by have:=hn.nd;simp at this;exact this
 subst hK;rw [dc];simp only [hpe]
 iterate 3
  (refine bR eM ?_
   generalize hK:i6 prog _ _ _=K0;refine sA ?_;(repeat' (first|with_reducible intro _|refine eK eM ?_|((refine EC.mu 4 (.cons trivial (bq.refl _) (d_.mi (cells:=aS .u64) (d:=default) (l:=[u,v]) (le_refl _) rfl rfl rfl .nil)) ?_;refine EC.use (v8 u v hu2 hv2 huv) ?_))|refine EC.use (cL (tU u v) 1 (by rw [qY];decide)) ?_|fail))<;>(skip)
   all_goals try (subst hK;rw [dc]))
 obtain ⟨x0,rest,hL⟩:∃x0 rest,pre ++ x :: post=x0 :: rest:=by
  cases pre with
  |nil=>exact ⟨_,_,rfl⟩
  |cons a pre=>exact ⟨_,_,rfl⟩
 have hr3:eA pre x.c post=eA [] x0.c rest:=by rw [←uF,hL];unfold eA;rfl
 have hlen:rest.length=post0.length:=by have h1:=hn.ln;rw [hL] at h1;simp at h1;omega
 rw [hL] at hn;simp only [hr3];have h0o:cG I (fun _=>False) default:=fT hn.i0;have hx0:=hn.st x0 (by simp) (cG I fun _=>False) 0;have hroot:cG I (fun _=>False) (cc (tU u v) 1).1:=(Gc hn.i0 hn.i1 hu hv).get hn.i0;refine dy (σ:=a9) [0,4,6,19] (fun _=>[]) (fun B t=>(cP B 2 (eA [] (aj.c {x0 with aD:=t}) rest)).take 5) (fun t=>t.aD.length≤1∧∀y∈t.aD,cG I (fun _=>False) y.ba) ?_ ?_;rotate_left 1
 ·clear hnx hn hL hr3 hrow2 hrow hI hml hm hl0 hrm hpl hpi hj hil hu2 hv2 huv hpe hp h1 h8 hi hjp;have htl0:=hx0.tl;have htq0:=hx0.tq;clear hx0;refine bN eM ?_;refine sA ?_;(repeat' (first|with_reducible apply And.intro|((refine EC.aM (mB (Q:=cG I fun _=>False) x0.aD (by omega) htq0 h0o _ hroot) ?_;rintro ⟨t,e1⟩ ht;have htt:=Ng ht htl0))|refine dM eM 8 [2] [0,1,2,3,4,5,7] bZ fun R hR=>?_|refine dC eM 6 ?_|refine dR eM [8,9,10,11,12,13,14] ?_|refine dR eM [9,10,11,12,13,14] ?_|(refine hR _ _ ?_;refine sA ?_)|fail))<;>(first|(exact du 5 t htt ⟨So,So,So,So,So,trivial⟩)|omega)
 rintro t ⟨ht1,ht2⟩;replace ht1:t.aD.length≤1:=ht1;replace ht2:∀y∈t.aD,cG I (fun _=>False) y.ba:=ht2;simp only [bK,dd,au,cP,jA,List.take_succ_cons,List.take_zero,List.getD_cons_zero,List.getD_cons_succ,push_cast,simprocAttr];have hfin:gL I (fun _=>False) 100 0 8 ⟨⟨1,fB i,tU u v,[],et (fB i),[]⟩,{x0 with aD:=t} :: rest,default⟩:=by
  refine ⟨hn.i0,fun y hy=>hy.elim,Gc hn.i0 hn.i1 hu hv,by show 2*(tU u v).ah.length≤100;rw [qY];decide,⟨by show (fB i).length≤1000;rw [ka];omega,by show 1≤(fB i).length;rw [ka];omega⟩,le_refl _,FB i,by show (et (fB i)).length≤8;rw [pQ,ka];omega,zero_le _,fun y hy=>(nomatch hy),by have:=hn.ln;simp at this;show rest.length+1≤8;omega,fun y hy=>?_,⟨zero_le _,fun y hy=>(nomatch hy)⟩,by have:=hn.al;simpa using this,KQ hu2 hv2 huv⟩;rcases List.mem_cons.1 hy with rfl|hy
  ·have:=hn.st x0 (by simp) (cG I fun _=>False) 100;exact ⟨by show t.aD.length≤100;omega,ht2,this.dr,this.hl,this.nl,this.pn⟩
  ·exact hn.st y (List.mem_cons_of_mem _ hy) _ _
 have hlr:rest.length+1=post0.length+1:=by omega
 refine dy (σ:=Unit) [0,4,6] (fun _=>[(20,.int .i64 0)]) (fun B _=>(cP B 1 [k_ (⟨⟨1,fB i,tU u v,[],et (fB i),[]⟩,[],default⟩:ao) (.row 2 hr 15 0 (post0.length+1))]).take 3) (fun _=>True) ?_ ?_;rotate_left 1
 ·refine bN eM ?_;refine sA ?_;(repeat' (first|((refine EC.use (rI i (by omega)) ?_))|((refine EC.use (xx i h1 h8 u v hu2 hv2 huv) ?_))|refine dM eM 9 [0,1,2,3,4,5,6,7,8,9,10,11,12,13] [0] bZ fun R hR=>?_|refine bT eM 1 2 ?_ ?_|refine dC eM 2 ?_|refine dR eM [1,3,4,5,6,7,8,9] ?_|refine dR eM [3,4,5,6,7,8,9] ?_|refine dR eM [4,5,6,7,8,9] ?_|(refine hR _ _ ?_;refine sA ?_)|fail))<;>((exact du 3 () trivial ⟨So,So,So,trivial⟩))
 rintro - -;simp only [bK,dd,au,cP,jA,List.take_succ_cons,List.take_zero,List.getD_cons_zero,List.getD_cons_succ,push_cast,simprocAttr];refine bN eM ?_;refine sA ?_;(repeat' (done));exact ⟨(⟨⟨1,fB i,tU u v,[],et (fB i),[]⟩,{x0 with aD:=t} :: rest,default⟩,0),⟨I,fun _=>False,hfin⟩,Lt.t2 (a6.k_ (x:=⟨⟨1,fB i,tU u v,[],et (fB i),[]⟩,[],default⟩) (l:={x0 with aD:=t} :: rest) (gY.row rfl (by unfold eA;rfl) (by simp;omega))) a6.int⟩
end
section
attribute [local irreducible] EC EV gW cc cK dT dQ
attribute [local push_cast] eO dG
def NW:Nat→Nat
 |0=>100
 |k+1=>NW k+2057000*k+2400000
theorem JO {k:Nat} (h:k≤23):NW k≤580000000:=by
 have:∀k:Fin 24,NW k.1≤580000000:=by decide +kernel
 exact this ⟨k,by omega⟩
theorem Pa (k:Nat):NW (k+1)=NW k+2057000*k+2400000:=rfl
def AQ (k:Nat) (y:ao):Prop:=∃I D:Int→Prop,gL I D (NW k) (17000*k) (8+k) y
theorem AQ.zero {c:ao} (h:∃I D,gL I D 100 0 8 c):AQ 0 c:=h
attribute [local irreducible] NW
theorem AQ.done {k:Nat} {y z:ao} {j:Int} {I D:Int→Prop} (hk:k≤22) (hz:yr (NW k) (17000*k) (8+k) y j z):∃I D:Int→Prop,gL I D (NW k+121*(17000*k)+2000) (17000*k+500) (8+k+1) z:=hz.ok
theorem AQ.of {k:Nat} {z:ao} (hk:k≤22) (hz:∃I D:Int→Prop,gL I D (NW k+121*(17000*k)+2000) (17000*k+500) (8+k+1) z):AQ (k+1) z:=Ro.up hz (by rw [Pa];omega) (by omega) (by omega)
theorem AQ.rd {k:Nat} {z u:ao} (hk:k≤22) (hu:od (NW k+121*(17000*k)+2000+140*16384+2000*(8+k+1)) (17000*k+500+500*(8+k+1)) (8+k+1) z u):AQ (k+1) u:=hu.up (by rw [Pa];omega) (by omega) (by omega)
theorem bE.NB {α:Type} {m:Nat} {B:List aI} {i E e n:Nat} {h:aN} {xs:List (List SV)} {cells:α→List SV} {d:α} {l:List α} (hm:m≤i) (hB:au B i= .row h E e xs) (hx:xs=l.map cells) (hn:n=l.length):bE m B (.row i h e 0 n) (bG e cells d l):=by
 subst hx hn;have hsel:bc m i=true:=by simpa [bc] using hm
 refine ⟨?_,?_⟩
 ·simp [fw,cf,hsel,hB]
 ·simp only [iT,gl,hsel,hB];exact bq.sl (fun h=>h) (.inr rfl) fun k hk=>by simp [getD,hk,cA]
theorem yl (h:aN) (d:WK) (n:Nat) (fl:Bool) (hn:n≤23):EC prog 10 [.bx 0 h 2 0 0,.int .i64 (n:Int),.bool fl] [f' h d.1] fun r N=>∃x:(ao×ao×List bO×List aB)×WK,(AQ n x.1.2.1∧x.1.2.2.1.length≤30000000∧x.1.2.2.2.length≤400000)∧r= .bS [.agg x.1.1.c,.agg x.1.2.1.c,bG 9 bO.c default x.1.2.2.1,bG 47 aB.c default x.1.2.2.2]∧N=[f' h x.2.1]:=by
 refine EC.cM ?_;refine EC.iU ab (ca 10) func10 rfl (by simp [ntmps10]) ?_;simp only [ntmps10,results10,fL]
 iterate 5
  (refine bR ab ?_
   generalize hK:i6 prog _ _ _=K0;refine sA ?_;(repeat' (first|with_reducible intro _|refine eK ab ?_|((refine aE 0 (js h _ _ _ ?_) rfl ?_;(focus (refine ⟨?_,?_,?_⟩<;>decide));rintro ⟨n1,d1⟩ ⟨hn1,hn2⟩;obtain ⟨m1,rfl⟩:=Int.eq_ofNat_of_zero_le (Int.le_trans (by decide:(0:Int)≤1) hn1);replace hn1:(1:Int)≤(m1:Int):=hn1;replace hn2:(m1:Int)≤3:=hn2))|((refine EC.mu 3 (.cons trivial (bq.refl _) (d_.mi (cells:=jz) (d:=default) (l:=[iD,lY]) (le_refl _) rfl rfl rfl .nil)) ?_;refine EC.aM (z8 m1 (by omega) (by omega)) ?_;rintro ⟨c0,e0⟩ hc0;replace hc0:∃I D,gL I D 100 0 8 c0:=hc0))|fail))<;>(skip)
   all_goals try (subst hK;rw [dc]))
 refine cw 13 101 9 rfl ?_;intro hh1;refine cw 14 80 47 rfl ?_;intro hh2;refine bR ab ?_;generalize hK:i6 prog _ _ _=K0;refine sA ?_;(repeat' (done));refine aT ab [0,1,2,6,7,10,12] (fun s:Nat×ao×(List bO×Nat×aN)×(List aB×Nat×aN)×WK=>[(15,.int .i64 s.1),(13,.row 5 s.2.2.1.2.2 9 0 s.2.2.1.2.1),(14,.row 6 s.2.2.2.1.2.2 47 0 s.2.2.2.1.2.1)]) (fun B s=>cW (cW (cP (cP B 0 [s.2.2.2.2.1.c]) 4 [s.2.1.c]) 5 s.2.2.1.2.2 (s.2.2.1.1.map bO.c)) 6 s.2.2.2.1.2.2 (s.2.2.2.1.1.map aB.c)) (fun s=>s.1≤n∧s.2.2.1.2.1=s.2.2.1.1.length∧s.2.2.2.1.2.1=s.2.2.2.1.1.length∧AQ s.1 s.2.1∧s.2.2.1.1.length≤1200000*s.1∧s.2.2.2.1.1.length≤17000*s.1) (fun s=>n - s.1) (0,c0,([],0,hh1),([],0,hh2),d1) ⟨zero_le _,rfl,rfl,AQ.zero hc0,le_refl _,le_refl _⟩ ?_;rintro ⟨k,y,⟨ev,ke,he⟩,⟨m,km,hm⟩,d2⟩ ⟨hk,hke,hkm,hy,hev,hml⟩;replace hk:k≤n:=hk;obtain rfl:ke=ev.length:=hke;obtain rfl:km=m.length:=hkm;replace hy:AQ k y:=hy;replace hev:ev.length≤1200000*k:=hev;replace hml:m.length≤17000*k:=hml;have hw:=wI k;have hyc:=hy;obtain ⟨I,D,hyo⟩:=hyc;have hNk:k < n→NW k≤580000000:=fun h=>JO (by omega);simp only [hw,push_cast,simprocAttr];have hkl:=hyo.kl;have hpl:=hyo.pl;have hsl:=hyo.ln;have hdo:∀e:bO,QX e→k < n→EC prog 44 [.agg y.c,.agg e.c] [] fun r N'=>N'=[]∧∃x:ao×aB,(∃I D:Int→Prop,gL I D (NW k+121*(17000*k)+2000) (17000*k+500) (8+k+1) x.1)∧r= .bS [.agg x.1.c,.agg x.2.c]:=fun e he hkn=>by
  have:=hNk hkn;exact (oK y hyo (by omega) (by omega) (by omega) e he.1 he.2.1 he.2.2).mono fun r N ⟨h1,x,h2,h3⟩=>⟨h1,x,h2.ok,h3⟩
 have hro:∀{J D2:Int→Prop} {z:ao},gL J D2 (NW k+121*(17000*k)+2000) (17000*k+500) (8+k+1) z→k < n→EC prog 45 [.agg z.c] [] fun r N'=>N'=[]∧∃x:ao×List aB,(AQ (k+1) x.1∧x.2.length≤16484)∧r= .bS [.agg x.1.c,bG 47 aB.c default x.2]:=fun {J D2 z} hz hkn=>by
  have:=hNk hkn;exact (vS z hz (by omega) (by omega) (by omega)).mono fun r N ⟨h1,x,h2,h3⟩=>⟨h1,x,⟨AQ.rd (by omega) h2.1,by omega⟩,h3⟩
 have hrs:∀{J D2:Int→Prop} {z:ao},gL J D2 (NW k+121*(17000*k)+2000) (17000*k+500) (8+k+1) z→k < n→EC prog 46 [.agg z.c] [] fun r N=>N=[]∧∃l:List bO,l.length≤1100000∧r=bG 9 bO.c default l:=fun {J D2 z} hz hkn=>wD z hz.nt (by have:=hz.ln;omega) hz.nl.1;(repeat' (first|with_reducible (first|intro _|apply And.intro)|refine eK ab ?_|((refine aE 0 (yn (I:=I) (D:=D) h _ y fl (by omega) (by omega) hyo.nt) rfl ?_;rintro ⟨e,d3⟩ he2;replace he2:QX e:=he2))|((refine aE 0 (c8 h _ _ ?_) rfl ?_;(focus (constructor<;>decide));rintro ⟨v,d4⟩ hv))|((refine aE 0 (n7 h _ fun d names hn=>qv h d names hn) rfl ?_;rintro ⟨pg,d5⟩ hpg))|((refine EC.aM (hdo e he2 (by omega)) ?_;rintro ⟨z,hp⟩ hz;obtain ⟨J,D2,hzo⟩:=hz))|((refine EC.aM (hdo {aU:=4,bW:=v,To:=0,ae:=0,N:=0,Program:=pg,bL:=[]} ⟨le_trans hpg.1 (by decide),le_trans hpg.2.1 (by decide),zero_le _⟩ (by omega)) ?_;rintro ⟨z,hp⟩ hz;obtain ⟨J,D2,hzo⟩:=hz))|fail))<;>(skip)
 ·generalize bO.mk 4 v _ _ _ pg _=e1;have hkn:k < n:=by omega
  refine kz (σ:=aN×aN) [0,1,2,6,7,10,12,15] (fun s=>[(13,.row 5 s.1 9 0 (ev.length+1)),(14,.row 6 s.2 47 0 (m.length+1))]) (fun B s=>(cW (cW (cP B 4 [z.c]) 5 s.1 ((ev ++ [e1]).map bO.c)) 6 s.2 ((m ++ [hp]).map aB.c)).take 7) (fun _=>True) ?_ ?_;rotate_left 1
  ·refine bN ab ?_;refine sA ?_;(repeat' (first|with_reducible (first|intro _|apply And.intro)|refine dJ ab 7 [] [4,5,6] [0,1,2,5,6] bZ fun R hR=>?_|refine Mg ab 3 7 ?_ ?_|refine Mg ab 4 7 ?_ ?_|refine kh ab 3 ?_|refine kh ab 7 ?_|refine kh ab 4 ?_|refine kh ab 8 ?_|refine kh ab 9 ?_|refine dR ab [10,11] ?_|(refine hR _ _ ?_;refine sA ?_)|fail))<;>(first|(exact du 7 (_,_) trivial ⟨So,So,So,So,So,So,So,trivial⟩)|omega)
  rintro ⟨g1,g2⟩ -;simp only [bK,dd,au,cP,jA,cW,List.take_succ_cons,List.take_zero,List.getD_cons_zero,List.getD_cons_succ,push_cast,simprocAttr];obtain ⟨ev1,hev1,hl1⟩:∃ev1,ev1=ev ++ [e1]∧ev1.length=ev.length+1:=⟨_,rfl,by simp⟩;obtain ⟨m1,hm1,hl2⟩:∃m1,m1=m ++ [hp]∧m1.length=m.length+1:=⟨_,rfl,by simp⟩;simp only [←hev1,←hm1,←hl1,←hl2];refine bN ab ?_;refine sA ?_;(repeat' (first|with_reducible (first|intro _|apply And.intro)|refine eK ab ?_|((refine aE 0 (c8 h _ _ ?_) rfl ?_;(focus (constructor<;>decide));rintro ⟨v2,d6⟩ hv2))|((refine EC.aM (hro hzo hkn) ?_;rintro ⟨u,ls⟩ hu;obtain ⟨hu1,hu2⟩:=hu;simp only at hu1 hu2))|((refine EC.aM (hrs hzo hkn) ?_;rintro rl hrl))|refine dJ ab 3 [] [4,6] [0,1,2] bZ fun R hR=>?_|refine kh ab 3 ?_|refine kh ab 4 ?_|refine dR ab [5] ?_|(refine hR _ _ ?_;refine sA ?_)|fail))<;>(first|omega|((try simp only [hw]);exact a7 (k+1,z,(ev1,ev1.length,g1),(m1,m1.length,g2),_) ⟨by show k+1≤_;omega,rfl,rfl,AQ.of (by omega) ⟨J,D2,hzo⟩,by show ev1.length≤_;omega,by show m1.length≤_;omega⟩)|((try simp only [hw,←map_append]);exact a7 (k+1,u,(ev1 ++ rl,ev1.length+rl.length,_),(m1 ++ ls,m1.length+ls.length,_),_) ⟨by show k+1≤_;omega,by simp,by simp,hu1,by show (ev1 ++ rl).length≤_;simp;omega,by show (m1 ++ ls).length≤_;simp;omega⟩))
 ·have hkn:k < n:=by omega
  refine kz (σ:=aN×aN) [0,1,2,6,7,10,12,15] (fun s=>[(13,.row 5 s.1 9 0 (ev.length+1)),(14,.row 6 s.2 47 0 (m.length+1))]) (fun B s=>(cW (cW (cP B 4 [z.c]) 5 s.1 ((ev ++ [e]).map bO.c)) 6 s.2 ((m ++ [hp]).map aB.c)).take 7) (fun _=>True) ?_ ?_;rotate_left 1
  ·refine bN ab ?_;refine sA ?_;(repeat' (first|with_reducible (first|intro _|apply And.intro)|refine dJ ab 7 [] [4,5,6] [0,1,2,5,6] bZ fun R hR=>?_|refine Mg ab 3 7 ?_ ?_|refine Mg ab 4 7 ?_ ?_|refine kh ab 3 ?_|refine kh ab 7 ?_|refine kh ab 4 ?_|refine kh ab 8 ?_|refine kh ab 9 ?_|refine dR ab [10,11] ?_|(refine hR _ _ ?_;refine sA ?_)|fail))<;>(first|(exact du 7 (_,_) trivial ⟨So,So,So,So,So,So,So,trivial⟩)|omega)
  rintro ⟨g1,g2⟩ -;simp only [bK,dd,au,cP,jA,cW,List.take_succ_cons,List.take_zero,List.getD_cons_zero,List.getD_cons_succ,push_cast,simprocAttr];obtain ⟨ev1,hev1,hl1⟩:∃ev1,ev1=ev ++ [e]∧ev1.length=ev.length+1:=⟨_,rfl,by simp⟩;obtain ⟨m1,hm1,hl2⟩:∃m1,m1=m ++ [hp]∧m1.length=m.length+1:=⟨_,rfl,by simp⟩;simp only [←hev1,←hm1,←hl1,←hl2];refine bN ab ?_;refine sA ?_;(repeat' (first|with_reducible (first|intro _|apply And.intro)|refine eK ab ?_|((refine aE 0 (c8 h _ _ ?_) rfl ?_;(focus (constructor<;>decide));rintro ⟨v2,d6⟩ hv2))|((refine EC.aM (hro hzo hkn) ?_;rintro ⟨u,ls⟩ hu;obtain ⟨hu1,hu2⟩:=hu;simp only at hu1 hu2))|((refine EC.aM (hrs hzo hkn) ?_;rintro rl hrl))|refine dJ ab 3 [] [4,6] [0,1,2] bZ fun R hR=>?_|refine kh ab 3 ?_|refine kh ab 4 ?_|refine dR ab [5] ?_|(refine hR _ _ ?_;refine sA ?_)|fail))<;>(first|omega|((try simp only [hw]);exact a7 (k+1,z,(ev1,ev1.length,g1),(m1,m1.length,g2),_) ⟨by show k+1≤_;omega,rfl,rfl,AQ.of (by omega) ⟨J,D2,hzo⟩,by show ev1.length≤_;omega,by show m1.length≤_;omega⟩)|((try simp only [hw,←map_append]);exact a7 (k+1,u,(ev1 ++ rl,ev1.length+rl.length,_),(m1 ++ ls,m1.length+ls.length,_),_) ⟨by show k+1≤_;omega,by simp,by simp,hu1,by show (ev1 ++ rl).length≤_;simp;omega,by show (m1 ++ ls).length≤_;simp;omega⟩))
 obtain rfl:k=n:=by have hz:=‹decide ((k:Int) < _)=false›;simp at hz;omega
 subst hK;rw [dc];refine bN ab ?_;refine sA ?_;(repeat' (first|refine dJ ab 4 [] [1,2] [0,1,2,3] bZ fun R hR=>?_|refine kh ab 4 ?_|refine kh ab 5 ?_|refine dR ab [6,7] ?_|(refine hR _ _ ?_;refine sA ?_)|refine wA ab ?_|fail))<;>(skip);have hkev:ev.length≤30000000:=by omega
 have hkml:m.length≤400000:=by omega
 (try refine gx ab ?_);(try simp only [iO,push_cast,simprocAttr]);exact ⟨((c0,y,ev,m),d2),⟨hy,hkev,hkml⟩,Lk.t4 (bE.obj (fun s B=>by rw [ao.fk]) (fun s B=>by rw [ao.fz])) (bE.obj (fun s B=>by rw [ao.fk]) (fun s B=>by rw [ao.fz])) (bE.NB (by decide) rfl rfl rfl) (bE.NB (by decide) rfl rfl rfl),rfl⟩
theorem kK (h:aN) (d:WK) (fl:Bool):EC prog 23 [.bx 0 h 2 0 0,.bool fl] [f' h d.1] fun r N=>∃x:ao×WK,(∃n,n≤23∧AQ n x.1)∧r= .agg x.1.c∧N=[f' h x.2.1]:=by
 refine EC.cM ?_;refine nW ab (ca 23) func23 ntmps23 results23 ?_;(repeat' (first|with_reducible intro _|refine eK ab ?_|((refine aE 0 (c8 h _ _ ?_) rfl ?_;(focus (constructor<;>decide));rintro ⟨n,d1⟩ ⟨hn1,hn2⟩;obtain ⟨m1,rfl⟩:=Int.eq_ofNat_of_zero_le hn1;replace hn2:(m1:Int) < 24:=hn2))|((refine aE 0 (yl h _ m1 fl (by omega)) rfl ?_;rintro ⟨⟨c0,y,ev,did⟩,d2⟩ ⟨hy,-,-⟩;replace hy:AQ m1 y:=hy))|fail))<;>((exact ⟨(y,d2),⟨m1,by omega,hy⟩,Lk.Cf (gw.obj (fun s B=>by rw [ao.fk]) (fun s B=>by rw [ao.fz])),rfl⟩))
end
end Go.Proofs.YteejbbfaphcgiaaGreat
