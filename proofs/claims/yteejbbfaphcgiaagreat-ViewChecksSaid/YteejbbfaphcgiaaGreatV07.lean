/- Part 7. -/
import Derived.Test.YteejbbfaphcgiaaGreatV06
namespace Go.Proofs.YteejbbfaphcgiaaGreat
open Go.Lift _root_.Go.Proofs.Tryz
set_option linter.unusedSimpArgs false
set_option linter.unusedVariables false
set_option maxHeartbeats 2000000
set_option maxRecDepth 10000
open List (replicate map getD range take)
open Nat (le_refl zero_le le_trans)
theorem Sp (x:a8×Bool) (d:SV):(EW x).getD 1 d= .int .i64 (if x.2 then x.1.aU else 0):=by
 rcases x with ⟨⟨p,k,l⟩,b⟩
 cases b<;>rfl
attribute [push_cast] Sp
section
variable {I D:Int→Prop} {L:Nat} {m:aF}
theorem K_ (hm:db I D L m) {m1:aF} (hx:m1=m∨∃o,cG (jm I m) D o∧o.aU≠1∧m1=dX m o):db I D (L+1) m1∧m1.fresh=m.fresh∧m1.out=m.out∧jm I m1=jm I m:=by
 rcases hx with rfl|⟨o,ho,hk,rfl⟩
 ·exact ⟨hm.le (Nat.le_succ _),rfl,rfl,rfl⟩
 ·exact ⟨hm.put ho,rfl,rfl,rfl⟩
theorem cY.mk'' {m1:aF} {L':Nat} (h:db I D L' m1) (hf:m1.fresh=m.fresh) (ho:m1.out=m.out):cY I D L' m m1:=⟨h,hf,ho⟩
theorem Bm {id:Int} (h0:I 0) (hi:I id):cG I D {(default:af) with ID:=id,aU:=2,fF:=replicate 16 0}:=
 kV h0 (by show (2:Int)≠1;decide) hi rfl (by show (replicate 16 (0:Int)).length≤_;simp) rfl rfl rfl rfl
theorem dj.ed {m1 m2:aF} {L' L2:Nat} (h1:db I D L m1) (h2:cY I D L' m1 m2) (hf:m1.fresh=m.fresh) (hw:m1.out.dF=m.out.dF) {ids:List Int} (hids:∀y∈ids,jm I m1 y) (he:((jE m1.o.ae.aQ ids).2.2 !=0)=false) (hl:L'≤L2):
  dj I D L2 m {m2 with o:={m2.o with ae:={m2.o.ae with aQ:=(jE m1.o.ae.aQ ids).1}}}:=by
 obtain ⟨e1,e2⟩:=Hk he;rw [e1];refine dj.mk' ((h2.ok.ed e2 fun p hp=>?_).le hl) (h2.2.1.trans hf) (by show m2.out.dF=_;rw [h2.2.2];exact hw) (le_refl _);rw [h2.JE];rcases List.mem_append.1 hp with hp|hp
 ·exact h1.ob.kn.2.2.1 p hp
 ·obtain ⟨y,hy,rfl⟩:=List.mem_map.1 hp;exact hids y hy
attribute [local irreducible] EC EV cc cK dT dX dj cY cU j6 kP gj
theorem BP (h:aN) (m:aF) (a:a_) (hm:db I D L m) (hL:L≤700000) (hu:m.out.Used=0) (hf:1≤a.eT.x1∧a.eT.x1≤16→a.eT.x1.toNat≤m.fresh.length):EC prog 270 [.bx 0 h 41 0 0,.agg a.c] [b7 h m] fun r N=>∃x:(Int×Int)×aF,dj I D (L+60) m x.2∧r= .bS [.int .i64 x.1.1,.int .i64 x.1.2]∧N=[b7 h x.2]:=by
 refine EC.cM ?_;refine nW ab (ca 270) func270 ntmps270 results270 ?_;have hl:=hm.sl (by omega);have hfl:=hm.fl;(repeat' (first|(with_reducible intro hh;first|subst hh|(revert hh;intro _))|with_reducible apply And.intro|refine eK ab ?_|refine aX 0 (nE h m _ hm.ob.sm.1.2.2.1) rfl ?_|(refine aE 0 (zO h m _ hm.st hm.j0 hl) rfl ?_;rintro ⟨⟨_,_⟩,_⟩ ⟨_,rfl⟩)|fail))
 all_goals try exact ⟨((0,_),_),dj.of (cY.refl hm (le_refl _)) (by omega),Lk.t2 (bE.int rfl) (bE.int rfl),rfl⟩
 ·rename_i fr1 g1 g2 n fr2 hn g3 g4;have hn0:=hn.2 rfl;simp only at hn0;subst hn0;have h1:0≤a.eT.x1∧a.eT.x1≤16:=by simp at g2;omega
  replace hf:a.eT.x1.toNat≤m.fresh.length:=by
   by_cases h5:1≤a.eT.x1
   ·exact hf ⟨h5,h1.2⟩
   ·omega
  refine aT ab [0,3,6,8,9] (fun x:Nat×aF×List Int×aN×aN×Int=>[(10,.int .i64 x.1)]) (fun B x=>if x.1=0 then B else cP (cP B 0 [x.2.1.c]) 2 [[.str [],.int .i64 0,.row 4 x.2.2.2.1 1 0 x.2.2.1.length]] ++ [.row x.2.2.2.2.1 42 1 [[.int .u64 x.2.2.2.2.2]],.row x.2.2.2.1 42 1 (x.2.2.1.map (aS .u64))])
   (fun x=>(x.1:Int)≤a.eT.x1∧x.2.2.1.length=x.1∧(x.1=0→x.2.1=m)∧db I D L x.2.1∧x.2.1.fresh=m.fresh∧x.2.1.out.dF=m.out.dF∧x.2.1.out.Used=x.1∧∀y∈x.2.2.1,jm I x.2.1 y) (fun x=>a.eT.x1.toNat - x.1) (0,m,[],h,h,0) ⟨h1.1,rfl,fun _=>rfl,hm,rfl,rfl,hu,by simp⟩ ?_
  rintro ⟨i,m1,ids,hr,hs,x0⟩ ⟨hi,hln,hi0,hm1,hfr,hwt,hus,hids⟩;simp only at hi hln hi0 hm1 hfr hwt hus hids;have hw:=wI i;have hl1:=hm1.sl (by omega)
  cases i with
  |zero=>
   have e0:=hi0 rfl;subst e0;simp only [if_true,hw,push_cast,simprocAttr,show EW (default,false)=rZ from rfl,rZ];refine ⟨fun hc=>?_,fun hc=>?_⟩
   ·have hu1:m1.out.Used < m1.fresh.length:=by omega
    have htk:=hm1.take hu1;have hid:=hm1.taken hu1;(repeat' (first|with_reducible intro _|refine aX 0 (gm h m1 ⟨by omega,hu1⟩ (by omega)) rfl ?_|refine dM ab 6 [0,1,2,3,4,5,6,7,8,9,10,11,12,13] [0,2] bZ fun R hR=>?_|refine bT ab 1 3 ?_ ?_|refine dR ab [3,4,5,6,7] ?_|refine dR ab [4,5,6,7] ?_|refine bT ab 1 4 ?_ ?_|refine dC ab 1 ?_|refine dR ab [5,6,7] ?_|(refine hR _ _ ?_;refine sA ?_)|fail))
    all_goals try omega
    all_goals
     rename_i r1 r2;have hI:∀r1 r2:aN,(fun x:Nat×aF×List Int×aN×aN×Int=>(x.1:Int)≤a.eT.x1∧x.2.2.1.length=x.1∧(x.1=0→x.2.1=m1)∧db I D L x.2.1∧x.2.1.fresh=m1.fresh∧x.2.1.out.dF=m1.out.dF∧x.2.1.out.Used=x.1∧∀y∈x.2.2.1,jm I x.2.1 y) (1,cU m1,[m1.fresh.getD m1.out.Used.toNat default],r2,r1,m1.fresh.getD m1.out.Used.toNat default):=by
      intro r1 r2;refine ⟨by show ((1:Nat):Int)≤_;omega,rfl,fun e=>absurd e (Nat.succ_ne_zero 0),htk,ly m1,gB m1,by show (cU m1).out.Used=_;rw [uZ,hu];rfl,fun y hy=>?_⟩;rw [List.mem_singleton.1 hy];exact hid
     simp only [Rq];exact a7 (1,cU m1,[m1.fresh.getD m1.out.Used.toNat default],r2,r1,m1.fresh.getD m1.out.Used.toNat default) (hI r1 r2) (by show a.eT.x1.toNat - 1 < a.eT.x1.toNat - 0;omega) (hb:=rfl)
   ·have h5:¬0 < a.eT.x1:=by simpa using hc
    have h6:a.eT.x1≠0:=by simpa using g3
    omega
  |succ i=>
   simp only [Nat.succ_ne_zero,if_false,hw,push_cast,simprocAttr];refine ⟨fun hc=>?_,fun hc=>?_⟩
   ·have hu1:m1.out.Used < m1.fresh.length:=by rw [hfr];omega
    have htk:=hm1.take hu1;have hid:=hm1.taken hu1;have hfl1:=hm1.fl;(repeat' (first|with_reducible (first|intro _|apply And.intro)|refine aX 0 (gm h m1 ⟨by omega,hu1⟩ (by omega)) rfl ?_|refine dM ab 6 [0,1,2,3,4,5,6,7,8,9,10,11,12,13] [0,2] bZ fun R hR=>?_|refine bT ab 1 3 ?_ ?_|refine dR ab [3,4,5,6,7] ?_|refine dR ab [4,5,6,7] ?_|refine bT ab 1 4 ?_ ?_|refine dC ab 1 ?_|refine dR ab [5,6,7] ?_|(refine hR _ _ ?_;refine sA ?_)|fail))
    all_goals try omega
    all_goals
     rename_i r1 r2;have hw2:IntKind.i64.wrap ((i:Int)+1+1)=(i:Int)+2:=by rw [bu (by omega)];omega
     simp only [Rq,hw2];have hI:(fun x:Nat×aF×List Int×aN×aN×Int=>(x.1:Int)≤a.eT.x1∧x.2.2.1.length=x.1∧(x.1=0→x.2.1=m)∧db I D L x.2.1∧x.2.1.fresh=m.fresh∧x.2.1.out.dF=m.out.dF∧x.2.1.out.Used=x.1∧∀y∈x.2.2.1,jm I x.2.1 y) (i+2,cU m1,ids ++ [m1.fresh.getD m1.out.Used.toNat default],r2,hs,x0):=by
      refine ⟨by show ((i+2:Nat):Int)≤_;omega,by simp [hln],fun e=>absurd e (Nat.succ_ne_zero _),htk,(ly m1).trans hfr,(gB m1).trans hwt,by show (cU m1).out.Used=_;rw [uZ,hus];rfl,fun y hy=>?_⟩;rcases List.mem_append.1 hy with hy|hy
      ·exact Iu (by omega) (hids y hy)
      ·rw [List.mem_singleton.1 hy];exact hid
     exact a7 (i+2,cU m1,ids ++ [m1.fresh.getD m1.out.Used.toNat default],r2,hs,x0) hI (by show a.eT.x1.toNat - (i+2) < a.eT.x1.toNat - (i+1);omega)
   ·have hul:ids.length≤16:=by omega
    have hn1:1≤ids.length:=by omega
    have hB:au [b7 h m1,aI.row (fr1 0) 294 8 [a.c],aI.row (fr2 3) 198 3 [[SV.str [],SV.int IntKind.i64 0,SV.row 4 hr 1 0 ids.length]],aI.row hs 42 1 [[SV.int IntKind.u64 x0]],aI.row hr 42 1 (map (aS IntKind.u64) ids)] 4=aI.row hr 42 1 (map (aS IntKind.u64) ids):=rfl;refine I1 3 2 (ys:=[[.str [],.int .i64 0,bG 1 (aS .u64) default ids]]) (by decide) rfl (Ml.one (by simp) ⟨trivial,trivial,by simp only [cf,bc,hB];simp,trivial⟩ ?_) [(0,.bx 0 h 41 0 0),(3,.bx 1 (fr1 0) 8 0 0),(6,.str (j6 m a.eT.x0).1),(8,.bx 2 (fr2 3) 3 0 0),(9,.bool false)] ?_ ?_
    ·refine .cons (bq.refl _) (.cons (bq.refl _) (.cons ?_ .nil));simp only [gl,bc,hB];exact bq.sl (fun h=>h) (.inr rfl) fun k hk=>by simp [getD,hk,cA]
    ·simp [Ed,dd,dE,fw,cf,fu,iT,gl,bc,bq.refl]
    clear hB hc hus hw hi hln hi0;simp only [List.take_succ_cons,List.take_zero,List.set_cons_zero,List.set_cons_succ];have hpl1:=hm1.ob.sm.1.2.2.2.1;(repeat' (first|with_reducible (first|intro _|apply And.intro)|refine EC.use (n6 m1.o.ae.aQ ids hpl1 (by omega)) ?_|refine dN ab [] [] [0,1,2,3,4,5,6,7,8,9,10,11,12,13,14,15] bZ fun R hR=>?_|refine dR ab [9,10,11,12,13,14,15] ?_|(refine hR _ _ ?_;refine sA ?_)|refine wA ab ?_|fail))<;>(first|(exact ⟨((0,_),_),dj.mk' hm1 hfr hwt (by omega),Lk.t2 (bE.int rfl) (bE.int rfl),rfl⟩)|skip);rename_i ge;have htl:(j6 m a.eT.x0).1.length≤1000000:=lf hm;refine EC.r_ ab 0 (nF (I:=jm I m1) h m1 _ 2 ids hm1.st hm1.j0 hl1 htl (by omega) hids) rfl (by (repeat (first|exact eD.nil|refine eD.cons (bq.refl _) ?_))) ?_;rintro ⟨e2,m2⟩ hx;obtain ⟨hm2,fr4,us1,je⟩:=K_ hm1 hx;simp only at hm2 fr4 us1 je;have hk2:cY I D (L+1) m1 m2:=cY.mk'' hm2 fr4 us1;have hl2:=hm2.sl (by omega);refine sA ?_;(repeat' (with_reducible (first|intro _|apply And.intro)))<;>(first|(exact ⟨((0,_),_),dj.mk' hm2 (fr4.trans hfr) (by rw [us1];exact hwt) (by omega),Lk.t2 (bE.int rfl) (bE.int rfl),rfl⟩)|skip);refine aT ab [0,11,12,100,101] (fun x:Nat×aF=>[(102,.int .i64 x.1)]) (fun B x=>cP B 0 [x.2.c]) (fun x=>x.1≤ids.length∧cY I D (L+1+x.1) m1 x.2) (fun x=>ids.length - x.1) (0,m2) ⟨zero_le _,hk2⟩ ?_;rintro ⟨j,m3⟩ ⟨hj,hk3⟩;replace hj:j≤ids.length:=hj;replace hk3:cY I D (L+1+j) m1 m3:=hk3;have hm3:=hk3.ok;have hl3:m3.s.ah.length≤1000000000:=hm3.sl (by omega);have hw:=wI j;simp only [hw,push_cast,simprocAttr];refine ⟨fun hc=>⟨⟨by omega,hc⟩,?_⟩,fun hc=>?_⟩
    ·have hy:jm I m1 (ids.getD j default):=hids _ (bk (by omega));(repeat' (first|refine eK ab ?_|refine EC.use (qs _) ?_|refine aX 0 (cJ h m3 _ hl3) rfl ?_|fail))<;>((simp only [hw];exact a7 (j+1,dX m3 _) ⟨by show j+1≤_;omega,hk3.tW (by show L+1+j+1≤L+1+(j+1);omega) (Bm hm1.j0 hy)⟩))
    ·(repeat' (done))<;>((exact ⟨((_,(0:Int)),{m3 with o:={m3.o with ae:={m3.o.ae with aQ:=(jE m1.o.ae.aQ ids).1}}}),dj.ed hm1 hk3 hfr hwt hids ge (by omega),Lk.t2 (bE.int rfl) (bE.int rfl),rfl⟩))
 ·rename_i n b hn _ _ _ hb;have hbt:b=true:=by simpa using hb
  subst hbt;obtain ⟨p,k,ids⟩:=n;have hN:=hn.1 rfl;have hids:∀y∈ids,jm I m y:=hN.2.2;have hil:ids.length≤1000000:=hN.1.1;have hpl:=hm.ob.sm.1.2.2.2.1;simp only [EW,if_true];(repeat' (first|with_reducible (first|intro _|apply And.intro)|refine EC.use (n6 m.o.ae.aQ ids hpl hil) ?_|refine dN ab [] [] [0,1,2,3,4,5,6,7,8,9,10,11,12,13,14,15] bZ fun R hR=>?_|refine dR ab [9,10,11,12,13,14,15] ?_|(refine hR _ _ ?_;refine sA ?_)|refine wA ab ?_|fail))
  all_goals try exact ⟨((0,_),_),dj.of (cY.refl hm (le_refl _)) (by omega),Lk.t2 (bE.int rfl) (bE.int rfl),rfl⟩
  exact ⟨((_,(0:Int)),{m with o:={m.o with ae:={m.o.ae with aQ:=(jE m.o.ae.aQ ids).1}}}),dj.ed hm (cY.refl hm (le_refl _)) rfl rfl hids ‹_› (by omega),Lk.t2 (bE.int rfl) (bE.int rfl),rfl⟩
end
section
variable {I D:Int→Prop} {L:Nat} {m:aF}
theorem iE {t:List aK} {i:Int} (h:((d8 t i).2 !=0)=false):(d8 t i).1∈t∧0≤i∧i < t.length:=by
 unfold d8 at h ⊢
 split
 ·rename_i g;rw [if_pos g] at h;simp at h
 ·rename_i g;have g':0≤i∧i < t.length:=by
   simp at g;omega
  exact ⟨bk (by omega),g'⟩
theorem cY.clear (hm:db I D L m) {i:Int}:cY I D L m {m with o:={m.o with ae:={m.o.ae with aH:=(gh m.o.ae.aH i).1}}}:=⟨hm.clear,rfl,rfl⟩
theorem cY.PY (hm:db I D L m) {n:Nat} {s:aK} (hs:j8 s=true) (h0:s.aU≠0) (h1:s.aU≠1):cY I D L m {m with o:={m.o with ae:={m.o.ae with aH:=m.o.ae.aH.set n s}}}:=⟨hm.set hs h0 h1,rfl,rfl⟩
theorem dj.trans {m1 m2:aF} {L1 L2:Nat} (h1:cY I D L1 m m1) (h2:dj I D L2 m1 m2):dj I D L2 m m2:=by
 obtain ⟨D',h3,h4,h5,h6⟩:=h2;exact ⟨D',h3,h1.2.1▸h4,h5.trans h1.2.1,h6.trans (by rw [h1.2.2])⟩
theorem El {t e:Int} (h:t≠0) (he:e=0∨e=1):j8 {(default:aK) with aU:=4,Target:=t,End:=e}=true:=by
 rcases he with rfl|rfl<;>simp [j8,h]<;>rfl
theorem cY.off (h:db I D L m) {d n:Int} (hd:D d):cY I D (L+1) m (dX m {(cc m.s d).1 with Offset:=n}):=cY.put h (h.off hd)
theorem dj.target (hm:db I D L m) {y:af} {e:Int} {L':Nat} (hy:e=0→cG (jm I m) D y) (hl:L+1≤L'):dj I D L' m (if e=0 then dX m y else m):=by
 split
 ·rename_i g;exact dj.of (cY.put hm (hy g)) hl
 ·exact dj.of (cY.refl hm (le_refl _)) (by omega)
theorem BQ (h:aN) (m:aF) (s:aK) (hl:m.s.ah.length≤1000000000):EC prog 310 [.bx 0 h 41 0 0,.agg s.c] [b7 h m] fun r N=>∃x:Int×aF,jG m s=x.2∧r= .int .i64 x.1∧N=[b7 h x.2]:=
 (vN h m s hl).mono fun r N ⟨x,h1,h2,h3⟩=>⟨x,h1.symm,h2,h3⟩
attribute [push_cast] Rk A5 H9 KW HA NL
attribute [local irreducible] EC EV cc cK dT dX dj cY cU j6 kP gj ko d8 gh jG iJ nM eV fj o8
theorem zM (h:aN) (m:aF) (a:a_) (hn:a.Number=8) (hm:db I D L m) (hL:L≤700000):EC prog 274 [.bx 0 h 41 0 0,.agg a.c] [b7 h m] fun r N=>∃x:(Int×Int)×aF,dj I D (L+60) m x.2∧r= .bS [.int .i64 x.1.1,.int .i64 x.1.2]∧N=[b7 h x.2]:=by
 obtain ⟨ak,aa,ar,av,an,ag⟩:=a;simp only at hn;subst hn;refine EC.cM ?_;refine nW ab (ca 274) func274 ntmps274 results274 ?_;have hl:=hm.sl (by omega);have hfl:=hm.fl;have htl:m.o.ae.aH.length≤1000000:=hm.ob.sm.1.2.2.2.2;intro fr;refine dB (σ:=aN) [0,3,4,5] (fun s=>[(6,.bx 2 s 4 0 0),(7,.int .i64 (d8 m.o.ae.aH ag.x0).2)]) (fun B s=>B ++ [.row s 298 4 [(d8 m.o.ae.aH ag.x0).1.c]]) (fun _=>True) ?_ ?_;rotate_left 1
 ·(repeat' (first|with_reducible intro _|refine EC.use (dI m.o.ae.aH _ htl) ?_|refine dM ab 9 [0,1,2,3,4,5,6,7,8,9,10,11,12,13] [0,1,2,3,4,6,7] bZ fun R hR=>?_|refine mV ab 5 8 13 ?_ ?_ ?_|refine bT ab 8 13 ?_ ?_|refine bT ab 5 13 ?_ ?_|refine bT ab 5 8 ?_ ?_|refine bT ab 9 13 ?_ ?_|refine dC ab 8 ?_|refine dC ab 5 ?_|refine dR ab [10,11,12,13,14,15] ?_|refine dR ab [9,10,11,12,14,15] ?_|refine dR ab [10,11,12,14,15] ?_|(refine hR _ _ ?_;refine sA ?_)|fail))<;>((exact gg _ trivial))
 rintro h1 -;simp only [bK,dd,push_cast,simprocAttr];have hg:=@iE m.o.ae.aH ag.x0;generalize d8 m.o.ae.aH ag.x0=q at hg;obtain ⟨s,e⟩:=q;(repeat' (first|with_reducible (first|intro _|apply And.intro)|refine wA ab ?_|fail))<;>(first|(exact ⟨((_,_),_),dj.of (cY.refl hm (le_refl _)) (by omega),Lk.t2 (bE.int rfl) (bE.int rfl),rfl⟩)|skip);rename_i he fr2;obtain ⟨hsm,hx0⟩:=hg he;replace hsm:s∈m.o.ae.aH:=hsm;have hd:s.aU=1→D s.bn:=hm.DU hsm;refine aT ab [0,3,4,5,6,7,56,57] (fun i:Nat=>[(58,.int .i64 i)]) (fun B _=>B) (fun i=>i=0) (fun i=>1 - i) 0 rfl ?_;rintro i hi;replace hi:i=0:=hi;subst hi;simp only [Int.ofNat_zero,push_cast,simprocAttr];have hk:=cY.drop hm s;refine EC.uV ab 0 (vP h m s hl) rfl (by (repeat (first|exact eD.nil|refine eD.cons (bq.refl _) ?_))) ?_;generalize ko m s=m1 at hk;have hm1:=hk.ok;have htl1:m1.o.ae.aH.length≤1000000:=hm1.ob.sm.1.2.2.2.2;refine sA ?_;(repeat' (first|refine EC.use (wo m1.o.ae.aH _ htl1) ?_|refine dM ab 11 [0,1,2,3,4,5,6,7,8,9,10,11,12,13] [0,1,2,3,4,5,7,8] bZ fun R hR=>?_|refine bT ab 6 9 ?_ ?_|refine dC ab 9 ?_|refine dC ab 6 ?_|refine dR ab [10,11,12,13,14,15,16,17,18] ?_|refine dR ab [11,12,13,14,15,16,17,18] ?_|(refine hR _ _ ?_;refine sA ?_)|refine wA ab ?_|fail))<;>((exact ⟨((_,_),{m1 with o:={m1.o with ae:={m1.o.ae with aH:=(gh m1.o.ae.aH ag.x0).1}}}),dj.of (hk.trans (cY.clear hm1)) (by omega),Lk.t2 (bE.int rfl) (bE.int rfl),rfl⟩))
theorem zK (h:aN) (m:aF) (a:a_) (hn:a.Number=9) (hm:db I D L m) (hL:L≤700000):EC prog 274 [.bx 0 h 41 0 0,.agg a.c] [b7 h m] fun r N=>∃x:(Int×Int)×aF,dj I D (L+60) m x.2∧r= .bS [.int .i64 x.1.1,.int .i64 x.1.2]∧N=[b7 h x.2]:=by
 obtain ⟨ak,aa,ar,av,an,ag⟩:=a;simp only at hn;subst hn;refine EC.cM ?_;refine nW ab (ca 274) func274 ntmps274 results274 ?_;have hl:=hm.sl (by omega);have hfl:=hm.fl;have htl:m.o.ae.aH.length≤1000000:=hm.ob.sm.1.2.2.2.2;intro fr;refine dB (σ:=aN) [0,3,4,5] (fun s=>[(6,.bx 2 s 4 0 0),(7,.int .i64 (d8 m.o.ae.aH ag.x0).2)]) (fun B s=>B ++ [.row s 298 4 [(d8 m.o.ae.aH ag.x0).1.c]]) (fun _=>True) ?_ ?_;rotate_left 1
 ·(repeat' (first|with_reducible intro _|refine EC.use (dI m.o.ae.aH _ htl) ?_|refine dM ab 9 [0,1,2,3,4,5,6,7,8,9,10,11,12,13] [0,1,2,3,4,6,7] bZ fun R hR=>?_|refine mV ab 5 8 13 ?_ ?_ ?_|refine bT ab 8 13 ?_ ?_|refine bT ab 5 13 ?_ ?_|refine bT ab 5 8 ?_ ?_|refine bT ab 9 13 ?_ ?_|refine dC ab 8 ?_|refine dC ab 5 ?_|refine dR ab [10,11,12,13,14,15] ?_|refine dR ab [9,10,11,12,14,15] ?_|refine dR ab [10,11,12,14,15] ?_|(refine hR _ _ ?_;refine sA ?_)|fail))<;>((exact gg _ trivial))
 rintro h1 -;simp only [bK,dd,push_cast,simprocAttr];have hg:=@iE m.o.ae.aH ag.x0;generalize d8 m.o.ae.aH ag.x0=q at hg;obtain ⟨s,e⟩:=q;(repeat' (first|with_reducible (first|intro _|apply And.intro)|refine wA ab ?_|fail))<;>(first|(exact ⟨((_,_),_),dj.of (cY.refl hm (le_refl _)) (by omega),Lk.t2 (bE.int rfl) (bE.int rfl),rfl⟩)|skip);rename_i he fr2;obtain ⟨hsm,hx0⟩:=hg he;replace hsm:s∈m.o.ae.aH:=hsm;have hd:s.aU=1→D s.bn:=hm.DU hsm;refine aT ab [0,3,4,5,6,7,56,57] (fun i:Nat=>[(58,.int .i64 i)]) (fun B _=>B) (fun i=>i=0) (fun i=>1 - i) 0 rfl ?_;rintro i hi;replace hi:i=0:=hi;subst hi;simp only [Int.ofNat_zero,push_cast,simprocAttr];(repeat' (first|refine eK ab ?_|(refine aE 0 (C5 h m s hm (by omega) hd) rfl ?_;rintro ⟨_,_,_⟩ _)|fail))<;>((refine ⟨((_,_),_),?_,Lk.t2 (bE.int rfl) (bE.int rfl),rfl⟩;exact dj.of ‹cY I D (L+1) m _› (by omega)))
theorem xi (h:aN) (m:aF) (a:a_) (hn:a.Number=10) (hm:db I D L m) (hL:L≤700000):EC prog 274 [.bx 0 h 41 0 0,.agg a.c] [b7 h m] fun r N=>∃x:(Int×Int)×aF,dj I D (L+60) m x.2∧r= .bS [.int .i64 x.1.1,.int .i64 x.1.2]∧N=[b7 h x.2]:=by
 obtain ⟨ak,aa,ar,av,an,ag⟩:=a;simp only at hn;subst hn;refine EC.cM ?_;refine nW ab (ca 274) func274 ntmps274 results274 ?_;have hl:=hm.sl (by omega);have hfl:=hm.fl;have htl:m.o.ae.aH.length≤1000000:=hm.ob.sm.1.2.2.2.2;intro fr;refine dB (σ:=aN) [0,3,4,5] (fun s=>[(6,.bx 2 s 4 0 0),(7,.int .i64 (d8 m.o.ae.aH ag.x0).2)]) (fun B s=>B ++ [.row s 298 4 [(d8 m.o.ae.aH ag.x0).1.c]]) (fun _=>True) ?_ ?_;rotate_left 1
 ·(repeat' (first|with_reducible intro _|refine EC.use (dI m.o.ae.aH _ htl) ?_|refine dM ab 9 [0,1,2,3,4,5,6,7,8,9,10,11,12,13] [0,1,2,3,4,6,7] bZ fun R hR=>?_|refine mV ab 5 8 13 ?_ ?_ ?_|refine bT ab 8 13 ?_ ?_|refine bT ab 5 13 ?_ ?_|refine bT ab 5 8 ?_ ?_|refine bT ab 9 13 ?_ ?_|refine dC ab 8 ?_|refine dC ab 5 ?_|refine dR ab [10,11,12,13,14,15] ?_|refine dR ab [9,10,11,12,14,15] ?_|refine dR ab [10,11,12,14,15] ?_|(refine hR _ _ ?_;refine sA ?_)|fail))<;>((exact gg _ trivial))
 rintro h1 -;simp only [bK,dd,push_cast,simprocAttr];have hg:=@iE m.o.ae.aH ag.x0;generalize d8 m.o.ae.aH ag.x0=q at hg;obtain ⟨s,e⟩:=q;(repeat' (first|with_reducible (first|intro _|apply And.intro)|refine wA ab ?_|fail))<;>(first|(exact ⟨((_,_),_),dj.of (cY.refl hm (le_refl _)) (by omega),Lk.t2 (bE.int rfl) (bE.int rfl),rfl⟩)|skip);rename_i he fr2;obtain ⟨hsm,hx0⟩:=hg he;replace hsm:s∈m.o.ae.aH:=hsm;have hd:s.aU=1→D s.bn:=hm.DU hsm;refine aT ab [0,3,4,5,6,7,56,57] (fun i:Nat=>[(58,.int .i64 i)]) (fun B _=>B) (fun i=>i=0) (fun i=>1 - i) 0 rfl ?_;rintro i hi;replace hi:i=0:=hi;subst hi;simp only [Int.ofNat_zero,push_cast,simprocAttr];(repeat' (first|refine eK ab ?_|(refine aE 0 (BO h m s _ hm (by omega) hd) rfl ?_;rintro ⟨_,_,_⟩ _)|fail))<;>((refine ⟨((_,_),_),?_,Lk.t2 (bE.int rfl) (bE.int rfl),rfl⟩;exact dj.of ‹cY I D (L+2) m _› (by omega)))
theorem xh (h:aN) (m:aF) (a:a_) (hn:a.Number=11) (hm:db I D L m) (hL:L≤700000):EC prog 274 [.bx 0 h 41 0 0,.agg a.c] [b7 h m] fun r N=>∃x:(Int×Int)×aF,dj I D (L+60) m x.2∧r= .bS [.int .i64 x.1.1,.int .i64 x.1.2]∧N=[b7 h x.2]:=by
 obtain ⟨ak,aa,ar,av,an,ag⟩:=a;simp only at hn;subst hn;refine EC.cM ?_;refine nW ab (ca 274) func274 ntmps274 results274 ?_;have hl:=hm.sl (by omega);have hfl:=hm.fl;have htl:m.o.ae.aH.length≤1000000:=hm.ob.sm.1.2.2.2.2;intro fr;refine dB (σ:=aN) [0,3,4,5] (fun s=>[(6,.bx 2 s 4 0 0),(7,.int .i64 (d8 m.o.ae.aH ag.x0).2)]) (fun B s=>B ++ [.row s 298 4 [(d8 m.o.ae.aH ag.x0).1.c]]) (fun _=>True) ?_ ?_;rotate_left 1
 ·(repeat' (first|with_reducible intro _|refine EC.use (dI m.o.ae.aH _ htl) ?_|refine dM ab 9 [0,1,2,3,4,5,6,7,8,9,10,11,12,13] [0,1,2,3,4,6,7] bZ fun R hR=>?_|refine mV ab 5 8 13 ?_ ?_ ?_|refine bT ab 8 13 ?_ ?_|refine bT ab 5 13 ?_ ?_|refine bT ab 5 8 ?_ ?_|refine bT ab 9 13 ?_ ?_|refine dC ab 8 ?_|refine dC ab 5 ?_|refine dR ab [10,11,12,13,14,15] ?_|refine dR ab [9,10,11,12,14,15] ?_|refine dR ab [10,11,12,14,15] ?_|(refine hR _ _ ?_;refine sA ?_)|fail))<;>((exact gg _ trivial))
 rintro h1 -;simp only [bK,dd,push_cast,simprocAttr];have hg:=@iE m.o.ae.aH ag.x0;generalize d8 m.o.ae.aH ag.x0=q at hg;obtain ⟨s,e⟩:=q;(repeat' (first|with_reducible (first|intro _|apply And.intro)|refine wA ab ?_|fail))<;>(first|(exact ⟨((_,_),_),dj.of (cY.refl hm (le_refl _)) (by omega),Lk.t2 (bE.int rfl) (bE.int rfl),rfl⟩)|skip);rename_i he fr3 fr2;obtain ⟨hsm,hx0⟩:=hg he;replace hsm:s∈m.o.ae.aH:=hsm;have hd:s.aU=1→D s.bn:=hm.DU hsm;refine aT ab [0,3,4,5,6,7,56,57] (fun i:Nat=>[(58,.int .i64 i)]) (fun B _=>B) (fun i=>i≤1∧(i=1→s.aU=1)) (fun i=>1 - i) 0 ⟨zero_le _,by simp⟩ ?_;rintro i ⟨hi,hk1⟩;replace hi:i≤1:=hi;have hcase:i=0∨i=1:=by omega
 rcases hcase with rfl|rfl
 ·simp only [Int.ofNat_zero,push_cast,simprocAttr];(repeat' (with_reducible (first|intro _|apply And.intro)))<;>(first|(exact ⟨((0,_),_),dj.of (cY.refl hm (le_refl _)) (by omega),Lk.t2 (bE.int rfl) (bE.int rfl),rfl⟩)|skip);rename_i hkk;exact a7 1 ⟨le_refl _,fun _=>by simpa using hkk⟩
 replace hk1:=hk1 rfl;clear hi;simp only [Int.ofNat_one,push_cast,simprocAttr];(repeat' (first|with_reducible (first|intro _|apply And.intro)|refine eK ab ?_|refine aX 0 (dH h m _ hl) rfl ?_|refine aX 0 (cJ h m _ hl) rfl ?_|fail))<;>(first|(exact ⟨((0,_),_),dj.of (cY.refl hm (le_refl _)) (by omega),Lk.t2 (bE.int rfl) (bE.int rfl),rfl⟩)|(exact ⟨((0,_),_),dj.of (cY.off hm (hd hk1)) (by omega),Lk.t2 (bE.int rfl) (bE.int rfl),rfl⟩))
theorem xf (h:aN) (m:aF) (a:a_) (hn:a.Number=12) (hm:db I D L m) (hL:L≤700000):EC prog 274 [.bx 0 h 41 0 0,.agg a.c] [b7 h m] fun r N=>∃x:(Int×Int)×aF,dj I D (L+60) m x.2∧r= .bS [.int .i64 x.1.1,.int .i64 x.1.2]∧N=[b7 h x.2]:=by
 obtain ⟨ak,aa,ar,av,an,ag⟩:=a;simp only at hn;subst hn;refine EC.cM ?_;refine nW ab (ca 274) func274 ntmps274 results274 ?_;have hl:=hm.sl (by omega);have hfl:=hm.fl;have htl:m.o.ae.aH.length≤1000000:=hm.ob.sm.1.2.2.2.2;intro fr;refine dB (σ:=aN) [0,3,4,5] (fun s=>[(6,.bx 2 s 4 0 0),(7,.int .i64 (d8 m.o.ae.aH ag.x0).2)]) (fun B s=>B ++ [.row s 298 4 [(d8 m.o.ae.aH ag.x0).1.c]]) (fun _=>True) ?_ ?_;rotate_left 1
 ·(repeat' (first|with_reducible intro _|refine EC.use (dI m.o.ae.aH _ htl) ?_|refine dM ab 9 [0,1,2,3,4,5,6,7,8,9,10,11,12,13] [0,1,2,3,4,6,7] bZ fun R hR=>?_|refine mV ab 5 8 13 ?_ ?_ ?_|refine bT ab 8 13 ?_ ?_|refine bT ab 5 13 ?_ ?_|refine bT ab 5 8 ?_ ?_|refine bT ab 9 13 ?_ ?_|refine dC ab 8 ?_|refine dC ab 5 ?_|refine dR ab [10,11,12,13,14,15] ?_|refine dR ab [9,10,11,12,14,15] ?_|refine dR ab [10,11,12,14,15] ?_|(refine hR _ _ ?_;refine sA ?_)|fail))<;>((exact gg _ trivial))
 rintro h1 -;simp only [bK,dd,push_cast,simprocAttr];have hg:=@iE m.o.ae.aH ag.x0;generalize d8 m.o.ae.aH ag.x0=q at hg;obtain ⟨s,e⟩:=q;(repeat' (first|with_reducible (first|intro _|apply And.intro)|refine wA ab ?_|fail))<;>(first|(exact ⟨((_,_),_),dj.of (cY.refl hm (le_refl _)) (by omega),Lk.t2 (bE.int rfl) (bE.int rfl),rfl⟩)|skip);rename_i he fr2;obtain ⟨hsm,hx0⟩:=hg he;replace hsm:s∈m.o.ae.aH:=hsm;have hd:s.aU=1→D s.bn:=hm.DU hsm;refine aT ab [0,3,4,5,6,7,56,57] (fun i:Nat=>[(58,.int .i64 i)]) (fun B _=>B) (fun i=>i=0) (fun i=>1 - i) 0 rfl ?_;rintro i hi;replace hi:i=0:=hi;subst hi;simp only [Int.ofNat_zero,push_cast,simprocAttr];have hk:=cY.hold hm s;have hm1:=hk.ok;have htl1:(jG m s).o.ae.aH.length≤1000000:=hm1.ob.sm.1.2.2.2.2;have ho:(jG m s).o=m.o:=(vv m s).1;(repeat' (first|(with_reducible intro hh;first|subst hh|(revert hh;intro _))|with_reducible apply And.intro|refine eK ab ?_|(refine aE 0 (ki h m _ htl) rfl ?_;rintro ⟨_,_⟩ rfl)|(refine aE 0 (BQ h m s hl) rfl ?_;rintro ⟨_,_⟩ rfl)|(refine aE 0 (fb h (jG m s) s htl1) rfl ?_;rintro ⟨_,_⟩ rfl)|fail))<;>(first|(exact ⟨((0,_),_),dj.of (cY.refl hm (le_refl _)) (by omega),Lk.t2 (bE.int rfl) (bE.int rfl),rfl⟩)|(exact ⟨((0,_),_),dj.of hk (by omega),Lk.t2 (bE.int rfl) (bE.int rfl),rfl⟩)|(exact ⟨((_,_),_),dj.of (hk.trans (cY.slot hm1 hd)) (by omega),Lk.t2 (bE.int rfl) (bE.int rfl),rfl⟩))
theorem xe (h:aN) (m:aF) (a:a_) (hn:a.Number=14) (hm:db I D L m) (hL:L≤700000):EC prog 274 [.bx 0 h 41 0 0,.agg a.c] [b7 h m] fun r N=>∃x:(Int×Int)×aF,dj I D (L+60) m x.2∧r= .bS [.int .i64 x.1.1,.int .i64 x.1.2]∧N=[b7 h x.2]:=by
 obtain ⟨ak,aa,ar,av,an,ag⟩:=a;simp only at hn;subst hn;refine EC.cM ?_;refine nW ab (ca 274) func274 ntmps274 results274 ?_;have hl:=hm.sl (by omega);have hfl:=hm.fl;have htl:m.o.ae.aH.length≤1000000:=hm.ob.sm.1.2.2.2.2;intro fr;refine dB (σ:=aN) [0,3,4,5] (fun s=>[(6,.bx 2 s 4 0 0),(7,.int .i64 (d8 m.o.ae.aH ag.x0).2)]) (fun B s=>B ++ [.row s 298 4 [(d8 m.o.ae.aH ag.x0).1.c]]) (fun _=>True) ?_ ?_;rotate_left 1
 ·(repeat' (first|with_reducible intro _|refine EC.use (dI m.o.ae.aH _ htl) ?_|refine dM ab 9 [0,1,2,3,4,5,6,7,8,9,10,11,12,13] [0,1,2,3,4,6,7] bZ fun R hR=>?_|refine mV ab 5 8 13 ?_ ?_ ?_|refine bT ab 8 13 ?_ ?_|refine bT ab 5 13 ?_ ?_|refine bT ab 5 8 ?_ ?_|refine bT ab 9 13 ?_ ?_|refine dC ab 8 ?_|refine dC ab 5 ?_|refine dR ab [10,11,12,13,14,15] ?_|refine dR ab [9,10,11,12,14,15] ?_|refine dR ab [10,11,12,14,15] ?_|(refine hR _ _ ?_;refine sA ?_)|fail))<;>((exact gg _ trivial))
 rintro h1 -;simp only [bK,dd,push_cast,simprocAttr];have hg:=@iE m.o.ae.aH ag.x0;generalize d8 m.o.ae.aH ag.x0=q at hg;obtain ⟨s,e⟩:=q;(repeat' (first|with_reducible (first|intro _|apply And.intro)|refine wA ab ?_|fail))<;>(first|(exact ⟨((_,_),_),dj.of (cY.refl hm (le_refl _)) (by omega),Lk.t2 (bE.int rfl) (bE.int rfl),rfl⟩)|skip);rename_i he fr3 fr2;obtain ⟨hsm,hx0⟩:=hg he;replace hsm:s∈m.o.ae.aH:=hsm;have hd:s.aU=1→D s.bn:=hm.DU hsm;refine aT ab [0,3,4,5,6,7,56,57] (fun i:Nat=>[(58,.int .i64 i)]) (fun B _=>B) (fun i=>i≤1∧(i=1→s.aU=7)) (fun i=>1 - i) 0 ⟨zero_le _,by simp⟩ ?_;rintro i ⟨hi,hk1⟩;replace hi:i≤1:=hi;have hcase:i=0∨i=1:=by omega
 rcases hcase with rfl|rfl
 ·simp only [Int.ofNat_zero,push_cast,simprocAttr];(repeat' (with_reducible (first|intro _|apply And.intro)))<;>(first|(exact ⟨((0,_),_),dj.of (cY.refl hm (le_refl _)) (by omega),Lk.t2 (bE.int rfl) (bE.int rfl),rfl⟩)|skip);rename_i hkk;exact a7 1 ⟨le_refl _,fun _=>by simpa using hkk⟩
 replace hk1:=hk1 rfl;clear hi;simp only [Int.ofNat_one,push_cast,simprocAttr];(repeat' (first|refine eK ab ?_|refine aX 0 (dH h m _ hl) rfl ?_|refine EC.use (xV _) ?_|refine aX 0 (rF h m _ _ hl) rfl ?_|fail))<;>((exact ⟨((0,_),_),dj.target hm (Bj (hm.get _)) (by omega),Lk.t2 (bE.int rfl) (bE.int rfl),rfl⟩))
theorem xd (h:aN) (m:aF) (a:a_) (hn:a.Number=15) (hm:db I D L m) (hL:L≤700000):EC prog 274 [.bx 0 h 41 0 0,.agg a.c] [b7 h m] fun r N=>∃x:(Int×Int)×aF,dj I D (L+60) m x.2∧r= .bS [.int .i64 x.1.1,.int .i64 x.1.2]∧N=[b7 h x.2]:=by
 obtain ⟨ak,aa,ar,av,an,ag⟩:=a;simp only at hn;subst hn;refine EC.cM ?_;refine nW ab (ca 274) func274 ntmps274 results274 ?_;have hl:=hm.sl (by omega);have hfl:=hm.fl;have htl:m.o.ae.aH.length≤1000000:=hm.ob.sm.1.2.2.2.2;intro fr;refine dB (σ:=aN) [0,3,4,5] (fun s=>[(6,.bx 2 s 4 0 0),(7,.int .i64 (d8 m.o.ae.aH ag.x0).2)]) (fun B s=>B ++ [.row s 298 4 [(d8 m.o.ae.aH ag.x0).1.c]]) (fun _=>True) ?_ ?_;rotate_left 1
 ·(repeat' (first|with_reducible intro _|refine EC.use (dI m.o.ae.aH _ htl) ?_|refine dM ab 9 [0,1,2,3,4,5,6,7,8,9,10,11,12,13] [0,1,2,3,4,6,7] bZ fun R hR=>?_|refine mV ab 5 8 13 ?_ ?_ ?_|refine bT ab 8 13 ?_ ?_|refine bT ab 5 13 ?_ ?_|refine bT ab 5 8 ?_ ?_|refine bT ab 9 13 ?_ ?_|refine dC ab 8 ?_|refine dC ab 5 ?_|refine dR ab [10,11,12,13,14,15] ?_|refine dR ab [9,10,11,12,14,15] ?_|refine dR ab [10,11,12,14,15] ?_|(refine hR _ _ ?_;refine sA ?_)|fail))<;>((exact gg _ trivial))
 rintro h1 -;simp only [bK,dd,push_cast,simprocAttr];have hg:=@iE m.o.ae.aH ag.x0;generalize d8 m.o.ae.aH ag.x0=q at hg;obtain ⟨s,e⟩:=q;(repeat' (first|with_reducible (first|intro _|apply And.intro)|refine wA ab ?_|fail))<;>(first|(exact ⟨((_,_),_),dj.of (cY.refl hm (le_refl _)) (by omega),Lk.t2 (bE.int rfl) (bE.int rfl),rfl⟩)|skip);rename_i he fr3 fr2;obtain ⟨hsm,hx0⟩:=hg he;replace hsm:s∈m.o.ae.aH:=hsm;have hd:s.aU=1→D s.bn:=hm.DU hsm;refine aT ab [0,3,4,5,6,7,56,57] (fun i:Nat=>[(58,.int .i64 i)]) (fun B _=>B) (fun i=>i≤1∧(i=1→s.aU=7)) (fun i=>1 - i) 0 ⟨zero_le _,by simp⟩ ?_;rintro i ⟨hi,hk1⟩;replace hi:i≤1:=hi;have hcase:i=0∨i=1:=by omega
 rcases hcase with rfl|rfl
 ·simp only [Int.ofNat_zero,push_cast,simprocAttr];(repeat' (with_reducible (first|intro _|apply And.intro)))<;>(first|(exact ⟨((0,_),_),dj.of (cY.refl hm (le_refl _)) (by omega),Lk.t2 (bE.int rfl) (bE.int rfl),rfl⟩)|skip);rename_i hkk;exact a7 1 ⟨le_refl _,fun _=>by simpa using hkk⟩
 replace hk1:=hk1 rfl;clear hi;simp only [Int.ofNat_one,push_cast,simprocAttr];(repeat' (first|refine eK ab ?_|refine aX 0 (dH h m _ hl) rfl ?_|refine EC.use (B6 _) ?_|refine aX 0 (rF h m _ _ hl) rfl ?_|fail))<;>((exact ⟨((0,_),_),dj.target hm (EM (hm.get _)) (by omega),Lk.t2 (bE.int rfl) (bE.int rfl),rfl⟩))
theorem xc (h:aN) (m:aF) (a:a_) (hn:a.Number=18) (hm:db I D L m) (hL:L≤700000) (hu:m.out.Used=0) (hf:1≤m.fresh.length):EC prog 274 [.bx 0 h 41 0 0,.agg a.c] [b7 h m] fun r N=>∃x:(Int×Int)×aF,dj I D (L+60) m x.2∧r= .bS [.int .i64 x.1.1,.int .i64 x.1.2]∧N=[b7 h x.2]:=by
 obtain ⟨ak,aa,ar,av,an,ag⟩:=a;simp only at hn;subst hn;refine EC.cM ?_;refine nW ab (ca 274) func274 ntmps274 results274 ?_;have hl:=hm.sl (by omega);have hfl:=hm.fl;have htl:m.o.ae.aH.length≤1000000:=hm.ob.sm.1.2.2.2.2;intro fr;refine dB (σ:=aN) [0,3,4,5] (fun s=>[(6,.bx 2 s 4 0 0),(7,.int .i64 (d8 m.o.ae.aH ag.x0).2)]) (fun B s=>B ++ [.row s 298 4 [(d8 m.o.ae.aH ag.x0).1.c]]) (fun _=>True) ?_ ?_;rotate_left 1
 ·(repeat' (first|with_reducible intro _|refine EC.use (dI m.o.ae.aH _ htl) ?_|refine dM ab 9 [0,1,2,3,4,5,6,7,8,9,10,11,12,13] [0,1,2,3,4,6,7] bZ fun R hR=>?_|refine mV ab 5 8 13 ?_ ?_ ?_|refine bT ab 8 13 ?_ ?_|refine bT ab 5 13 ?_ ?_|refine bT ab 5 8 ?_ ?_|refine bT ab 9 13 ?_ ?_|refine dC ab 8 ?_|refine dC ab 5 ?_|refine dR ab [10,11,12,13,14,15] ?_|refine dR ab [9,10,11,12,14,15] ?_|refine dR ab [10,11,12,14,15] ?_|(refine hR _ _ ?_;refine sA ?_)|fail))<;>((exact gg _ trivial))
 rintro h1 -;simp only [bK,dd,push_cast,simprocAttr];have hg:=@iE m.o.ae.aH ag.x0;generalize d8 m.o.ae.aH ag.x0=q at hg;obtain ⟨s,e⟩:=q;(repeat' (first|with_reducible (first|intro _|apply And.intro)|refine wA ab ?_|fail))<;>(first|(exact ⟨((_,_),_),dj.of (cY.refl hm (le_refl _)) (by omega),Lk.t2 (bE.int rfl) (bE.int rfl),rfl⟩)|skip);rename_i he fr3 fr2;obtain ⟨hsm,hx0⟩:=hg he;replace hsm:s∈m.o.ae.aH:=hsm;have hd:s.aU=1→D s.bn:=hm.DU hsm;refine aT ab [0,3,4,5,6,7,56,57] (fun i:Nat=>[(58,.int .i64 i)]) (fun B _=>B) (fun i=>i≤1∧(i=1→s.aU=6)) (fun i=>1 - i) 0 ⟨zero_le _,by simp⟩ ?_;rintro i ⟨hi,hk1⟩;replace hi:i≤1:=hi;have hcase:i=0∨i=1:=by omega
 rcases hcase with rfl|rfl
 ·simp only [Int.ofNat_zero,push_cast,simprocAttr];(repeat' (with_reducible (first|intro _|apply And.intro)))<;>(first|(exact ⟨((0,_),_),dj.of (cY.refl hm (le_refl _)) (by omega),Lk.t2 (bE.int rfl) (bE.int rfl),rfl⟩)|skip);rename_i hkk;exact a7 1 ⟨le_refl _,fun _=>by simpa using hkk⟩
 replace hk1:=hk1 rfl;clear hi;simp only [Int.ofNat_one,push_cast,simprocAttr];have hu1:m.out.Used < m.fresh.length:=by omega
 have htk:=hm.take hu1;have hid:=hm.taken hu1;have hnz:=hm.Cw hu1;(repeat' (first|with_reducible intro _|refine eK ab ?_|refine aX 0 (gm h m ⟨by omega,hu1⟩ (by omega)) rfl ?_|refine EC.use (Ai _) ?_|fail));generalize m.fresh.getD m.out.Used.toNat default=id at hid hnz;rename_i fr4;have hlt:=htk.sl (by omega);have hpc:=@zv (jm I (cU m)) D (cc (cU m).s s.Target).1 id (htk.get _);have hpe:=xX (cc (cU m).s s.Target).1 id (htk.get _).sm;generalize eV (cc (cU m).s s.Target).1 id=pc at hpc hpe;obtain ⟨po,pe⟩:=pc;refine dB (σ:=aN) [0,3,4,5,6,13] (fun s=>[(14,.bx 6 s 36 0 0),(15,.int .i64 pe)]) (fun B s=>B ++ [.row s 76 36 [po.c]]) (fun _=>True) ?_ ?_;rotate_left 1
 ·(repeat' (first|with_reducible intro _|refine aX 0 (dH h (cU m) _ hlt) rfl ?_|refine EC.use (hpe) ?_|refine dM ab 8 [0] [0,1,2,4,5] bZ fun R hR=>?_|refine bT ab 3 10 ?_ ?_|refine bT ab 6 10 ?_ ?_|refine dR ab [3,6,7,8,9,11,12] ?_|refine dR ab [6,7,8,9,11,12] ?_|refine dR ab [7,8,9,11,12] ?_|refine dR ab [7,8,9,10,11,12] ?_|(refine hR _ _ ?_;refine sA ?_)|fail))<;>((exact gg _ trivial))
 rintro h6 -;simp only [bK,dd,push_cast,simprocAttr];(repeat' (first|with_reducible (first|intro _|apply And.intro)|refine wA ab ?_|fail))<;>(first|(exact ⟨((0,_),_),dj.mk' htk (ly m) (gB m) (by omega),Lk.t2 (bE.int rfl) (bE.int rfl),rfl⟩)|skip);rename_i hpe0;have hk2:cY I D (L+1) (cU m) (dX (cU m) po):=cY.put htk (hpc (lq hpe0));refine EC.uV ab 0 (cJ h (cU m) po hlt) rfl (by (repeat (first|exact eD.nil|refine eD.cons (bq.refl _) ?_))) ?_;have ho2:(dX (cU m) po).o=m.o:=(qC _ _).trans (zh m);generalize dX (cU m) po=m2 at hk2 ho2;refine sA ?_;have hk3:cY I D (L+2) (cU m) (dX m2 {(default:af) with ID:=id,aU:=7,Ends:=⟨1,1⟩}):=hk2.tW (by omega) (kV htk.j0 (by show (7:Int)≠1;decide) hid rfl (zero_le _) rfl rfl rfl rfl);(repeat' (first|refine eK ab ?_|refine aX 0 (cJ h m2 _ (hk2.ok.sl (by omega))) rfl ?_|fail));have ho3:(dX m2 {(default:af) with ID:=id,aU:=7,Ends:=⟨1,1⟩}).o=m.o:=(qC _ _).trans ho2;generalize dX m2 _=m3 at hk3 ho3;have hm3:=hk3.ok;have hn3:0≤ag.x0∧ag.x0 < m3.o.ae.aH.length:=by rw [ho3];exact hx0
 (repeat' (first|refine eK ab ?_|refine aX 0 (Fq h m3 _ _ hm3.ob.sm.1.2.2.2.2 hn3) rfl ?_|fail))<;>((exact ⟨((0,_),{m3 with o:={m3.o with ae:={m3.o.ae with aH:=m3.o.ae.aH.set ag.x0.toNat {(default:aK) with aU:=4,Target:=id,End:=1}}}}),dj.mk' (L:=L+2) (cY.PY hm3 (El hnz (.inr rfl)) (by show (4:Int)≠0;decide) (by show (4:Int)≠1;decide)).ok (hk3.same.1.trans (ly m)) (by show m3.out.dF=_;rw [hk3.same.2];exact gB m) (by omega),Lk.t2 (bE.int rfl) (bE.int rfl),rfl⟩))
theorem w_ (h:aN) (m:aF) (a:a_) (hn:a.Number=19) (hm:db I D L m) (hL:L≤700000):EC prog 274 [.bx 0 h 41 0 0,.agg a.c] [b7 h m] fun r N=>∃x:(Int×Int)×aF,dj I D (L+60) m x.2∧r= .bS [.int .i64 x.1.1,.int .i64 x.1.2]∧N=[b7 h x.2]:=by
 obtain ⟨ak,aa,ar,av,an,ag⟩:=a;simp only at hn;subst hn;refine EC.cM ?_;refine nW ab (ca 274) func274 ntmps274 results274 ?_;have hl:=hm.sl (by omega);have hfl:=hm.fl;have htl:m.o.ae.aH.length≤1000000:=hm.ob.sm.1.2.2.2.2;intro fr;refine dB (σ:=aN) [0,3,4,5] (fun s=>[(6,.bx 2 s 4 0 0),(7,.int .i64 (d8 m.o.ae.aH ag.x0).2)]) (fun B s=>B ++ [.row s 298 4 [(d8 m.o.ae.aH ag.x0).1.c]]) (fun _=>True) ?_ ?_;rotate_left 1
 ·(repeat' (first|with_reducible intro _|refine EC.use (dI m.o.ae.aH _ htl) ?_|refine dM ab 9 [0,1,2,3,4,5,6,7,8,9,10,11,12,13] [0,1,2,3,4,6,7] bZ fun R hR=>?_|refine mV ab 5 8 13 ?_ ?_ ?_|refine bT ab 8 13 ?_ ?_|refine bT ab 5 13 ?_ ?_|refine bT ab 5 8 ?_ ?_|refine bT ab 9 13 ?_ ?_|refine dC ab 8 ?_|refine dC ab 5 ?_|refine dR ab [10,11,12,13,14,15] ?_|refine dR ab [9,10,11,12,14,15] ?_|refine dR ab [10,11,12,14,15] ?_|(refine hR _ _ ?_;refine sA ?_)|fail))<;>((exact gg _ trivial))
 rintro h1 -;simp only [bK,dd,push_cast,simprocAttr];have hg:=@iE m.o.ae.aH ag.x0;generalize d8 m.o.ae.aH ag.x0=q at hg;obtain ⟨s,e⟩:=q;(repeat' (first|with_reducible (first|intro _|apply And.intro)|refine wA ab ?_|fail))<;>(first|(exact ⟨((_,_),_),dj.of (cY.refl hm (le_refl _)) (by omega),Lk.t2 (bE.int rfl) (bE.int rfl),rfl⟩)|skip);rename_i he fr3 fr2;obtain ⟨hsm,hx0⟩:=hg he;replace hsm:s∈m.o.ae.aH:=hsm;have hd:s.aU=1→D s.bn:=hm.DU hsm;refine aT ab [0,3,4,5,6,7,56,57] (fun i:Nat=>[(58,.int .i64 i)]) (fun B _=>B) (fun i=>i≤1∧(i=1→s.aU=5)) (fun i=>1 - i) 0 ⟨zero_le _,by simp⟩ ?_;rintro i ⟨hi,hk1⟩;replace hi:i≤1:=hi;have hcase:i=0∨i=1:=by omega
 rcases hcase with rfl|rfl
 ·simp only [Int.ofNat_zero,push_cast,simprocAttr];(repeat' (with_reducible (first|intro _|apply And.intro)))<;>(first|(exact ⟨((0,_),_),dj.of (cY.refl hm (le_refl _)) (by omega),Lk.t2 (bE.int rfl) (bE.int rfl),rfl⟩)|skip);rename_i hkk;exact a7 1 ⟨le_refl _,fun _=>by simpa using hkk⟩
 replace hk1:=hk1 rfl;clear hi;simp only [Int.ofNat_one,push_cast,simprocAttr];have ht1:∀o:af,(dX m o).o.ae.aH.length≤1000000:=fun o=>by rw [qC];exact htl
 (repeat' (first|(with_reducible intro hh;first|subst hh|(revert hh;intro _))|with_reducible apply And.intro|refine eK ab ?_|(refine aE 0 (ki h m _ htl) rfl ?_;rintro ⟨_,_⟩ rfl)|refine aX 0 (dH h m _ hl) rfl ?_|refine EC.use (ux _ (hm.get _).sm) ?_|refine aX 0 (cJ h m _ hl) rfl ?_|(refine aE 0 (fb h (dX m _) _ (ht1 _)) rfl ?_;rintro ⟨_,_⟩ rfl)|fail))<;>(first|(exact ⟨((0,_),_),dj.of (cY.refl hm (le_refl _)) (by omega),Lk.t2 (bE.int rfl) (bE.int rfl),rfl⟩)|skip);rename_i g0 _ _;have hk1:cY I D (L+1) m (dX m (fj (cc m.s s.Target).1).2.1):=cY.put hm (zu (hm.get _) (lq ‹((fj _).2.2 !=0)=false›));exact ⟨((_,(0:Int)),_),dj.of (hk1.trans (cY.slot hk1.ok (fun e=>absurd e (by show (4:Int)≠1;decide)))) (by omega),Lk.t2 (bE.int rfl) (bE.int rfl),rfl⟩
theorem w9 (h:aN) (m:aF) (a:a_) (hn:a.Number=20) (hm:db I D L m) (hL:L≤700000):EC prog 274 [.bx 0 h 41 0 0,.agg a.c] [b7 h m] fun r N=>∃x:(Int×Int)×aF,dj I D (L+60) m x.2∧r= .bS [.int .i64 x.1.1,.int .i64 x.1.2]∧N=[b7 h x.2]:=by
 obtain ⟨ak,aa,ar,av,an,ag⟩:=a;simp only at hn;subst hn;refine EC.cM ?_;refine nW ab (ca 274) func274 ntmps274 results274 ?_;have hl:=hm.sl (by omega);have hfl:=hm.fl;have htl:m.o.ae.aH.length≤1000000:=hm.ob.sm.1.2.2.2.2;intro fr;refine dB (σ:=aN) [0,3,4,5] (fun s=>[(6,.bx 2 s 4 0 0),(7,.int .i64 (d8 m.o.ae.aH ag.x0).2)]) (fun B s=>B ++ [.row s 298 4 [(d8 m.o.ae.aH ag.x0).1.c]]) (fun _=>True) ?_ ?_;rotate_left 1
 ·(repeat' (first|with_reducible intro _|refine EC.use (dI m.o.ae.aH _ htl) ?_|refine dM ab 9 [0,1,2,3,4,5,6,7,8,9,10,11,12,13] [0,1,2,3,4,6,7] bZ fun R hR=>?_|refine mV ab 5 8 13 ?_ ?_ ?_|refine bT ab 8 13 ?_ ?_|refine bT ab 5 13 ?_ ?_|refine bT ab 5 8 ?_ ?_|refine bT ab 9 13 ?_ ?_|refine dC ab 8 ?_|refine dC ab 5 ?_|refine dR ab [10,11,12,13,14,15] ?_|refine dR ab [9,10,11,12,14,15] ?_|refine dR ab [10,11,12,14,15] ?_|(refine hR _ _ ?_;refine sA ?_)|fail))<;>((exact gg _ trivial))
 rintro h1 -;simp only [bK,dd,push_cast,simprocAttr];have hg:=@iE m.o.ae.aH ag.x0;generalize d8 m.o.ae.aH ag.x0=q at hg;obtain ⟨s,e⟩:=q;(repeat' (first|with_reducible (first|intro _|apply And.intro)|refine wA ab ?_|fail))<;>(first|(exact ⟨((_,_),_),dj.of (cY.refl hm (le_refl _)) (by omega),Lk.t2 (bE.int rfl) (bE.int rfl),rfl⟩)|skip);rename_i he fr3 fr2;obtain ⟨hsm,hx0⟩:=hg he;replace hsm:s∈m.o.ae.aH:=hsm;have hd:s.aU=1→D s.bn:=hm.DU hsm;refine aT ab [0,3,4,5,6,7,56,57] (fun i:Nat=>[(58,.int .i64 i)]) (fun B _=>B) (fun i=>i≤1∧(i=1→s.aU=8)) (fun i=>1 - i) 0 ⟨zero_le _,by simp⟩ ?_;rintro i ⟨hi,hk1⟩;replace hi:i≤1:=hi;have hcase:i=0∨i=1:=by omega
 rcases hcase with rfl|rfl
 ·simp only [Int.ofNat_zero,push_cast,simprocAttr];(repeat' (with_reducible (first|intro _|apply And.intro)))<;>(first|(exact ⟨((0,_),_),dj.of (cY.refl hm (le_refl _)) (by omega),Lk.t2 (bE.int rfl) (bE.int rfl),rfl⟩)|skip);rename_i hkk;exact a7 1 ⟨le_refl _,fun _=>by simpa using hkk⟩
 replace hk1:=hk1 rfl;clear hi;simp only [Int.ofNat_one,push_cast,simprocAttr];(repeat' (first|with_reducible (first|intro _|apply And.intro)|refine eK ab ?_|refine aX 0 (dH h m _ hl) rfl ?_|refine EC.use (B5 _ _) ?_|refine aX 0 (cJ h m _ hl) rfl ?_|refine dM ab 10 [0] [0,1,2,4,5,6] bZ fun R hR=>?_|refine bT ab 3 12 ?_ ?_|refine bT ab 7 12 ?_ ?_|refine dR ab [3,7,8,9,10,11,13,14,15] ?_|refine dR ab [7,8,9,10,11,13,14,15] ?_|refine dR ab [8,9,10,11,13,14,15] ?_|refine dR ab [8,9,10,11,12,13,14,15] ?_|(refine hR _ _ ?_;refine sA ?_)|refine wA ab ?_|fail))<;>(first|(exact ⟨((_,_),_),dj.of (cY.put hm (EN (hm.get _) (eq_of_beq ‹_›))) (by omega),Lk.t2 (bE.int rfl) (bE.int rfl),rfl⟩)|(exact ⟨((_,_),_),dj.of (cY.refl hm (le_refl _)) (by omega),Lk.t2 (bE.int rfl) (bE.int rfl),rfl⟩))
end
section
variable {I D:Int→Prop} {L:Nat} {m:aF}
theorem dj.refl (hm:db I D L m) {L':Nat} (hl:L≤L'):dj I D L' m m:=dj.of (cY.refl hm (le_refl _)) hl
theorem cY.take (hm:db I D L m):cY I D L m {m with o:={m.o with ae:={m.o.ae with cy:=0}}}:=cY.HC hm (GF hm.ob) (le_refl _)
theorem cY.O7 (hm:db I D L m) {n:Int} (h2:(mH m.o.ae n).2.2=0):cY I D L m {m with o:={m.o with ae:=(mH m.o.ae n).2.1}}:=cY.HC hm (CO hm.ob h2) (le_refl _)
attribute [push_cast] PZ A'
attribute [local irreducible] EC EV cc cK dT dX dj cY cU j6 kP gj mH
theorem B3 (h:aN) (m:aF) (a:a_) (hn:a.Number=2) (hm:db I D L m) (hL:L≤700000):EC prog 199 [.bx 0 h 41 0 0,.agg a.c] [b7 h m] fun r N=>∃x:(Int×Int×Bool×Int)×aF,dj I D (L+60) m x.2∧r= .bS [.int .i64 x.1.1,.int .i64 x.1.2.1,.bool x.1.2.2.1,.int .i64 x.1.2.2.2]∧N=[b7 h x.2]:=by
 obtain ⟨ak,aa,ar,av,an,ag⟩:=a;simp only at hn;subst hn;refine EC.cM ?_;refine nW ab (ca 199) func199 ntmps199 results199 ?_;have hl:=hm.sl (by omega);have hfl:=hm.fl;have htl:m.o.ae.aH.length≤1000000:=hm.ob.sm.1.2.2.2.2;(repeat' (with_reducible intro _))<;>((exact ⟨((_,_,_,_),_),dj.refl hm (by omega),Lk.t4 (bE.int rfl) (bE.int rfl) (bE.bool rfl) (bE.int rfl),rfl⟩))
theorem BZ (h:aN) (m:aF) (a:a_) (hn:a.Number=3) (hm:db I D L m) (hL:L≤700000) (hu:m.out.Used=0) (hf:m.fresh.length=1+(cC m.o.ae.aQ).length):EC prog 199 [.bx 0 h 41 0 0,.agg a.c] [b7 h m] fun r N=>∃x:(Int×Int×Bool×Int)×aF,dj I D (L+60) m x.2∧r= .bS [.int .i64 x.1.1,.int .i64 x.1.2.1,.bool x.1.2.2.1,.int .i64 x.1.2.2.2]∧N=[b7 h x.2]:=by
 obtain ⟨ak,aa,ar,av,an,ag⟩:=a;simp only at hn;subst hn;refine EC.cM ?_;refine nW ab (ca 199) func199 ntmps199 results199 ?_;have hl:=hm.sl (by omega);have hfl:=hm.fl;have htl:m.o.ae.aH.length≤1000000:=hm.ob.sm.1.2.2.2.2;have hF:=C8 h m hm (show L≤800000 by omega) hu hf;(repeat' (first|with_reducible intro _|refine eK ab ?_|(refine aE 0 (hF) rfl ?_;rintro ⟨_,_,_⟩ _)|fail))<;>((exact ⟨((_,_,_,_),_),‹dj I D (L+60) m _›,Lk.t4 (bE.int rfl) (bE.int rfl) (bE.bool rfl) (bE.int rfl),rfl⟩))
theorem BY (h:aN) (m:aF) (a:a_) (hn:a.Number=4) (hm:db I D L m) (hL:L≤700000):EC prog 199 [.bx 0 h 41 0 0,.agg a.c] [b7 h m] fun r N=>∃x:(Int×Int×Bool×Int)×aF,dj I D (L+60) m x.2∧r= .bS [.int .i64 x.1.1,.int .i64 x.1.2.1,.bool x.1.2.2.1,.int .i64 x.1.2.2.2]∧N=[b7 h x.2]:=by
 obtain ⟨ak,aa,ar,av,an,ag⟩:=a;simp only at hn;subst hn;refine EC.cM ?_;refine nW ab (ca 199) func199 ntmps199 results199 ?_;have hl:=hm.sl (by omega);have hfl:=hm.fl;have htl:m.o.ae.aH.length≤1000000:=hm.ob.sm.1.2.2.2.2;(repeat' (first|with_reducible intro _|refine eK ab ?_|(refine aE 0 (C2 h m hm (by omega)) rfl ?_;rintro ⟨_,_,_,_⟩ _)|fail))<;>((exact ⟨((_,_,_,_),_),‹dj I D (L+60) m _›,Lk.t4 (bE.int rfl) (bE.int rfl) (bE.bool rfl) (bE.int rfl),rfl⟩))
theorem BW (h:aN) (m:aF) (a:a_) (hn:a.Number=5) (hm:db I D L m) (hL:L≤700000):EC prog 199 [.bx 0 h 41 0 0,.agg a.c] [b7 h m] fun r N=>∃x:(Int×Int×Bool×Int)×aF,dj I D (L+60) m x.2∧r= .bS [.int .i64 x.1.1,.int .i64 x.1.2.1,.bool x.1.2.2.1,.int .i64 x.1.2.2.2]∧N=[b7 h x.2]:=by
 obtain ⟨ak,aa,ar,av,an,ag⟩:=a;simp only at hn;subst hn;refine EC.cM ?_;refine nW ab (ca 199) func199 ntmps199 results199 ?_;have hl:=hm.sl (by omega);have hfl:=hm.fl;have htl:m.o.ae.aH.length≤1000000:=hm.ob.sm.1.2.2.2.2;(repeat' (first|with_reducible intro _|refine eK ab ?_|(refine aE 0 (C7 h m _ hm (by omega)) rfl ?_;rintro ⟨_,_⟩ _)|fail))<;>((exact ⟨((_,_,_,_),_),dj.of ‹cY I D (L+1) m _› (by omega),Lk.t4 (bE.int rfl) (bE.int rfl) (bE.bool rfl) (bE.int rfl),rfl⟩))
theorem BV (h:aN) (m:aF) (a:a_) (hn:a.Number=6) (hm:db I D L m) (hL:L≤700000):EC prog 199 [.bx 0 h 41 0 0,.agg a.c] [b7 h m] fun r N=>∃x:(Int×Int×Bool×Int)×aF,dj I D (L+60) m x.2∧r= .bS [.int .i64 x.1.1,.int .i64 x.1.2.1,.bool x.1.2.2.1,.int .i64 x.1.2.2.2]∧N=[b7 h x.2]:=by
 obtain ⟨ak,aa,ar,av,an,ag⟩:=a;simp only at hn;subst hn;refine EC.cM ?_;refine nW ab (ca 199) func199 ntmps199 results199 ?_;have hl:=hm.sl (by omega);have hfl:=hm.fl;have htl:m.o.ae.aH.length≤1000000:=hm.ob.sm.1.2.2.2.2;(repeat' (first|with_reducible intro _|refine eK ab ?_|refine EC.use (xU _) ?_|fail))<;>((exact ⟨((_,_,_,_),{m with o:={m.o with ae:={m.o.ae with cy:=0}}}),dj.of (cY.take hm) (by omega),Lk.t4 (bE.int rfl) (bE.int rfl) (bE.bool rfl) (bE.int rfl),rfl⟩))
theorem BU (h:aN) (m:aF) (a:a_) (hn:a.Number=7) (hm:db I D L m) (hL:L≤700000) (hu:m.out.Used=0) (hf:(if a.eT.x1=1 then 2 else 1)≤m.fresh.length):EC prog 199 [.bx 0 h 41 0 0,.agg a.c] [b7 h m] fun r N=>∃x:(Int×Int×Bool×Int)×aF,dj I D (L+60) m x.2∧r= .bS [.int .i64 x.1.1,.int .i64 x.1.2.1,.bool x.1.2.2.1,.int .i64 x.1.2.2.2]∧N=[b7 h x.2]:=by
 obtain ⟨ak,aa,ar,av,an,ag⟩:=a;simp only at hn;subst hn;refine EC.cM ?_;refine nW ab (ca 199) func199 ntmps199 results199 ?_;have hl:=hm.sl (by omega);have hfl:=hm.fl;have htl:m.o.ae.aH.length≤1000000:=hm.ob.sm.1.2.2.2.2;(repeat' (first|with_reducible intro _|refine eK ab ?_|(refine aE 0 (C6 h m _ hm hL hu hf) rfl ?_;rintro ⟨_,_,_⟩ _)|fail))<;>((exact ⟨((_,_,_,_),_),‹dj I D (L+60) m _›,Lk.t4 (bE.int rfl) (bE.int rfl) (bE.bool rfl) (bE.int rfl),rfl⟩))
theorem BT (h:aN) (m:aF) (a:a_) (hn:a.Number=8) (hm:db I D L m) (hL:L≤700000):EC prog 199 [.bx 0 h 41 0 0,.agg a.c] [b7 h m] fun r N=>∃x:(Int×Int×Bool×Int)×aF,dj I D (L+60) m x.2∧r= .bS [.int .i64 x.1.1,.int .i64 x.1.2.1,.bool x.1.2.2.1,.int .i64 x.1.2.2.2]∧N=[b7 h x.2]:=by
 obtain ⟨ak,aa,ar,av,an,ag⟩:=a;simp only at hn;subst hn;refine EC.cM ?_;refine nW ab (ca 199) func199 ntmps199 results199 ?_;have hl:=hm.sl (by omega);have hfl:=hm.fl;have htl:m.o.ae.aH.length≤1000000:=hm.ob.sm.1.2.2.2.2;(repeat' (first|with_reducible intro _|refine eK ab ?_|(refine aE 0 (zM h m _ rfl hm (by omega)) rfl ?_;rintro ⟨_,_,_⟩ _)|fail))<;>((exact ⟨((_,_,_,_),_),‹dj I D (L+60) m _›,Lk.t4 (bE.int rfl) (bE.int rfl) (bE.bool rfl) (bE.int rfl),rfl⟩))
theorem BS (h:aN) (m:aF) (a:a_) (hn:a.Number=9) (hm:db I D L m) (hL:L≤700000):EC prog 199 [.bx 0 h 41 0 0,.agg a.c] [b7 h m] fun r N=>∃x:(Int×Int×Bool×Int)×aF,dj I D (L+60) m x.2∧r= .bS [.int .i64 x.1.1,.int .i64 x.1.2.1,.bool x.1.2.2.1,.int .i64 x.1.2.2.2]∧N=[b7 h x.2]:=by
 obtain ⟨ak,aa,ar,av,an,ag⟩:=a;simp only at hn;subst hn;refine EC.cM ?_;refine nW ab (ca 199) func199 ntmps199 results199 ?_;have hl:=hm.sl (by omega);have hfl:=hm.fl;have htl:m.o.ae.aH.length≤1000000:=hm.ob.sm.1.2.2.2.2;(repeat' (first|with_reducible intro _|refine eK ab ?_|(refine aE 0 (zK h m _ rfl hm (by omega)) rfl ?_;rintro ⟨_,_,_⟩ _)|fail))<;>((exact ⟨((_,_,_,_),_),‹dj I D (L+60) m _›,Lk.t4 (bE.int rfl) (bE.int rfl) (bE.bool rfl) (bE.int rfl),rfl⟩))
theorem z5 (h:aN) (m:aF) (a:a_) (hn:a.Number=10) (hm:db I D L m) (hL:L≤700000):EC prog 199 [.bx 0 h 41 0 0,.agg a.c] [b7 h m] fun r N=>∃x:(Int×Int×Bool×Int)×aF,dj I D (L+60) m x.2∧r= .bS [.int .i64 x.1.1,.int .i64 x.1.2.1,.bool x.1.2.2.1,.int .i64 x.1.2.2.2]∧N=[b7 h x.2]:=by
 obtain ⟨ak,aa,ar,av,an,ag⟩:=a;simp only at hn;subst hn;refine EC.cM ?_;refine nW ab (ca 199) func199 ntmps199 results199 ?_;have hl:=hm.sl (by omega);have hfl:=hm.fl;have htl:m.o.ae.aH.length≤1000000:=hm.ob.sm.1.2.2.2.2;(repeat' (first|with_reducible intro _|refine eK ab ?_|(refine aE 0 (xi h m _ rfl hm (by omega)) rfl ?_;rintro ⟨_,_,_⟩ _)|fail))<;>((exact ⟨((_,_,_,_),_),‹dj I D (L+60) m _›,Lk.t4 (bE.int rfl) (bE.int rfl) (bE.bool rfl) (bE.int rfl),rfl⟩))
theorem z4 (h:aN) (m:aF) (a:a_) (hn:a.Number=11) (hm:db I D L m) (hL:L≤700000):EC prog 199 [.bx 0 h 41 0 0,.agg a.c] [b7 h m] fun r N=>∃x:(Int×Int×Bool×Int)×aF,dj I D (L+60) m x.2∧r= .bS [.int .i64 x.1.1,.int .i64 x.1.2.1,.bool x.1.2.2.1,.int .i64 x.1.2.2.2]∧N=[b7 h x.2]:=by
 obtain ⟨ak,aa,ar,av,an,ag⟩:=a;simp only at hn;subst hn;refine EC.cM ?_;refine nW ab (ca 199) func199 ntmps199 results199 ?_;have hl:=hm.sl (by omega);have hfl:=hm.fl;have htl:m.o.ae.aH.length≤1000000:=hm.ob.sm.1.2.2.2.2;(repeat' (first|with_reducible intro _|refine eK ab ?_|(refine aE 0 (xh h m _ rfl hm (by omega)) rfl ?_;rintro ⟨_,_,_⟩ _)|fail))<;>((exact ⟨((_,_,_,_),_),‹dj I D (L+60) m _›,Lk.t4 (bE.int rfl) (bE.int rfl) (bE.bool rfl) (bE.int rfl),rfl⟩))
theorem z3 (h:aN) (m:aF) (a:a_) (hn:a.Number=12) (hm:db I D L m) (hL:L≤700000):EC prog 199 [.bx 0 h 41 0 0,.agg a.c] [b7 h m] fun r N=>∃x:(Int×Int×Bool×Int)×aF,dj I D (L+60) m x.2∧r= .bS [.int .i64 x.1.1,.int .i64 x.1.2.1,.bool x.1.2.2.1,.int .i64 x.1.2.2.2]∧N=[b7 h x.2]:=by
 obtain ⟨ak,aa,ar,av,an,ag⟩:=a;simp only at hn;subst hn;refine EC.cM ?_;refine nW ab (ca 199) func199 ntmps199 results199 ?_;have hl:=hm.sl (by omega);have hfl:=hm.fl;have htl:m.o.ae.aH.length≤1000000:=hm.ob.sm.1.2.2.2.2;(repeat' (first|with_reducible intro _|refine eK ab ?_|(refine aE 0 (xf h m _ rfl hm (by omega)) rfl ?_;rintro ⟨_,_,_⟩ _)|fail))<;>((exact ⟨((_,_,_,_),_),‹dj I D (L+60) m _›,Lk.t4 (bE.int rfl) (bE.int rfl) (bE.bool rfl) (bE.int rfl),rfl⟩))
theorem z1 (h:aN) (m:aF) (a:a_) (hn:a.Number=13) (hm:db I D L m) (hL:L≤700000) (hu:m.out.Used=0) (hf:1≤m.fresh.length):EC prog 199 [.bx 0 h 41 0 0,.agg a.c] [b7 h m] fun r N=>∃x:(Int×Int×Bool×Int)×aF,dj I D (L+60) m x.2∧r= .bS [.int .i64 x.1.1,.int .i64 x.1.2.1,.bool x.1.2.2.1,.int .i64 x.1.2.2.2]∧N=[b7 h x.2]:=by
 obtain ⟨ak,aa,ar,av,an,ag⟩:=a;simp only at hn;subst hn;refine EC.cM ?_;refine nW ab (ca 199) func199 ntmps199 results199 ?_;have hl:=hm.sl (by omega);have hfl:=hm.fl;have htl:m.o.ae.aH.length≤1000000:=hm.ob.sm.1.2.2.2.2;have hu1:m.out.Used < m.fresh.length:=by omega
 have htk:=hm.take hu1;have hid:=hm.taken hu1;(repeat' (first|(with_reducible intro hh;first|subst hh|(revert hh;intro _))|with_reducible apply And.intro|refine eK ab ?_|(refine aE 0 (ki h m _ htl) rfl ?_;rintro ⟨_,_⟩ rfl)|refine aX 0 (gm h m ⟨by omega,hu1⟩ (by omega)) rfl ?_|refine EC.use (Aj _) ?_|refine aX 0 (cJ h (cU m) _ (htk.sl (by omega))) rfl ?_|fail))<;>(first|(exact ⟨((_,_,_,_),_),dj.refl hm (by omega),Lk.t4 (bE.int rfl) (bE.int rfl) (bE.bool rfl) (bE.int rfl),rfl⟩)|skip);generalize m.fresh.getD m.out.Used.toNat default=id at hid;have hk1:db I D (L+1) (dX (cU m) {(default:af) with ID:=id,aU:=5,br:=1,ef:=1}):=htk.put (kV htk.j0 (by show (5:Int)≠1;decide) hid rfl (zero_le _) rfl rfl rfl rfl);have hf1:(dX (cU m) {(default:af) with ID:=id,aU:=5,br:=1,ef:=1}).fresh=m.fresh:=DC _ _;have hw1:(dX (cU m) {(default:af) with ID:=id,aU:=5,br:=1,ef:=1}).out.dF=m.out.dF:=by rw [mM];exact gB m
 generalize dX (cU m) _=m1 at hk1 hf1 hw1;have hk2:cY I D (L+1) m1 (kP m1 {(default:aK) with aU:=2,Target:=id}):=cY.slot hk1 (fun e=>absurd e (by show (2:Int)≠1;decide));have hk3:cY I D (L+1) (kP m1 {(default:aK) with aU:=2,Target:=id}) (kP (kP m1 {(default:aK) with aU:=2,Target:=id}) {(default:aK) with aU:=3,Target:=id}):=cY.slot hk2.ok (fun e=>absurd e (by show (3:Int)≠1;decide));(repeat' (first|refine eK ab ?_|(refine aE 0 (fb h m1 _ hk1.ob.sm.1.2.2.2.2) rfl ?_;rintro ⟨_,_⟩ rfl)|(refine aE 0 (fb h (kP m1 _) _ hk2.ok.ob.sm.1.2.2.2.2) rfl ?_;rintro ⟨_,_⟩ rfl)|fail))<;>((exact ⟨((_,_,_,(0:Int)),_),dj.mk' (hk2.trans hk3).ok ((hk2.trans hk3).same.1.trans hf1) (by rw [(hk2.trans hk3).same.2];exact hw1) (by omega),Lk.t4 (bE.int rfl) (bE.int rfl) (bE.bool rfl) (bE.int rfl),rfl⟩))
theorem zZ (h:aN) (m:aF) (a:a_) (hn:a.Number=14) (hm:db I D L m) (hL:L≤700000):EC prog 199 [.bx 0 h 41 0 0,.agg a.c] [b7 h m] fun r N=>∃x:(Int×Int×Bool×Int)×aF,dj I D (L+60) m x.2∧r= .bS [.int .i64 x.1.1,.int .i64 x.1.2.1,.bool x.1.2.2.1,.int .i64 x.1.2.2.2]∧N=[b7 h x.2]:=by
 obtain ⟨ak,aa,ar,av,an,ag⟩:=a;simp only at hn;subst hn;refine EC.cM ?_;refine nW ab (ca 199) func199 ntmps199 results199 ?_;have hl:=hm.sl (by omega);have hfl:=hm.fl;have htl:m.o.ae.aH.length≤1000000:=hm.ob.sm.1.2.2.2.2;(repeat' (first|with_reducible intro _|refine eK ab ?_|(refine aE 0 (xe h m _ rfl hm (by omega)) rfl ?_;rintro ⟨_,_,_⟩ _)|fail))<;>((exact ⟨((_,_,_,_),_),‹dj I D (L+60) m _›,Lk.t4 (bE.int rfl) (bE.int rfl) (bE.bool rfl) (bE.int rfl),rfl⟩))
theorem zY (h:aN) (m:aF) (a:a_) (hn:a.Number=15) (hm:db I D L m) (hL:L≤700000):EC prog 199 [.bx 0 h 41 0 0,.agg a.c] [b7 h m] fun r N=>∃x:(Int×Int×Bool×Int)×aF,dj I D (L+60) m x.2∧r= .bS [.int .i64 x.1.1,.int .i64 x.1.2.1,.bool x.1.2.2.1,.int .i64 x.1.2.2.2]∧N=[b7 h x.2]:=by
 obtain ⟨ak,aa,ar,av,an,ag⟩:=a;simp only at hn;subst hn;refine EC.cM ?_;refine nW ab (ca 199) func199 ntmps199 results199 ?_;have hl:=hm.sl (by omega);have hfl:=hm.fl;have htl:m.o.ae.aH.length≤1000000:=hm.ob.sm.1.2.2.2.2;(repeat' (first|with_reducible intro _|refine eK ab ?_|(refine aE 0 (xd h m _ rfl hm (by omega)) rfl ?_;rintro ⟨_,_,_⟩ _)|fail))<;>((exact ⟨((_,_,_,_),_),‹dj I D (L+60) m _›,Lk.t4 (bE.int rfl) (bE.int rfl) (bE.bool rfl) (bE.int rfl),rfl⟩))
theorem zX (h:aN) (m:aF) (a:a_) (hn:a.Number=16) (hm:db I D L m) (hL:L≤700000) (hu:m.out.Used=0) (hf:1≤a.eT.x1∧a.eT.x1≤16→a.eT.x1.toNat≤m.fresh.length):EC prog 199 [.bx 0 h 41 0 0,.agg a.c] [b7 h m] fun r N=>∃x:(Int×Int×Bool×Int)×aF,dj I D (L+60) m x.2∧r= .bS [.int .i64 x.1.1,.int .i64 x.1.2.1,.bool x.1.2.2.1,.int .i64 x.1.2.2.2]∧N=[b7 h x.2]:=by
 obtain ⟨ak,aa,ar,av,an,ag⟩:=a;simp only at hn;subst hn;refine EC.cM ?_;refine nW ab (ca 199) func199 ntmps199 results199 ?_;have hl:=hm.sl (by omega);have hfl:=hm.fl;have htl:m.o.ae.aH.length≤1000000:=hm.ob.sm.1.2.2.2.2;(repeat' (first|with_reducible intro _|refine eK ab ?_|(refine aE 0 (BP h m _ hm hL hu hf) rfl ?_;rintro ⟨_,_,_⟩ _)|fail))<;>((exact ⟨((_,_,_,_),_),‹dj I D (L+60) m _›,Lk.t4 (bE.int rfl) (bE.int rfl) (bE.bool rfl) (bE.int rfl),rfl⟩))
theorem zW (h:aN) (m:aF) (a:a_) (hn:a.Number=17) (hm:db I D L m) (hL:L≤700000) (hu:m.out.Used=0) (hf:1≤m.fresh.length):EC prog 199 [.bx 0 h 41 0 0,.agg a.c] [b7 h m] fun r N=>∃x:(Int×Int×Bool×Int)×aF,dj I D (L+60) m x.2∧r= .bS [.int .i64 x.1.1,.int .i64 x.1.2.1,.bool x.1.2.2.1,.int .i64 x.1.2.2.2]∧N=[b7 h x.2]:=by
 obtain ⟨ak,aa,ar,av,an,ag⟩:=a;simp only at hn;subst hn;refine EC.cM ?_;refine nW ab (ca 199) func199 ntmps199 results199 ?_;have hl:=hm.sl (by omega);have hfl:=hm.fl;have htl:m.o.ae.aH.length≤1000000:=hm.ob.sm.1.2.2.2.2;(repeat' (first|with_reducible intro _|refine eK ab ?_|(refine aE 0 (tJ h m _ hm hL hu hf) rfl ?_;rintro ⟨_,_,_⟩ _)|fail))<;>((exact ⟨((_,_,_,_),_),‹dj I D (L+60) m _›,Lk.t4 (bE.int rfl) (bE.int rfl) (bE.bool rfl) (bE.int rfl),rfl⟩))
theorem zV (h:aN) (m:aF) (a:a_) (hn:a.Number=18) (hm:db I D L m) (hL:L≤700000) (hu:m.out.Used=0) (hf:1≤m.fresh.length):EC prog 199 [.bx 0 h 41 0 0,.agg a.c] [b7 h m] fun r N=>∃x:(Int×Int×Bool×Int)×aF,dj I D (L+60) m x.2∧r= .bS [.int .i64 x.1.1,.int .i64 x.1.2.1,.bool x.1.2.2.1,.int .i64 x.1.2.2.2]∧N=[b7 h x.2]:=by
 obtain ⟨ak,aa,ar,av,an,ag⟩:=a;simp only at hn;subst hn;refine EC.cM ?_;refine nW ab (ca 199) func199 ntmps199 results199 ?_;have hl:=hm.sl (by omega);have hfl:=hm.fl;have htl:m.o.ae.aH.length≤1000000:=hm.ob.sm.1.2.2.2.2;(repeat' (first|with_reducible intro _|refine eK ab ?_|(refine aE 0 (xc h m _ rfl hm (by omega) hu hf) rfl ?_;rintro ⟨_,_,_⟩ _)|fail))<;>((exact ⟨((_,_,_,_),_),‹dj I D (L+60) m _›,Lk.t4 (bE.int rfl) (bE.int rfl) (bE.bool rfl) (bE.int rfl),rfl⟩))
theorem zU (h:aN) (m:aF) (a:a_) (hn:a.Number=19) (hm:db I D L m) (hL:L≤700000):EC prog 199 [.bx 0 h 41 0 0,.agg a.c] [b7 h m] fun r N=>∃x:(Int×Int×Bool×Int)×aF,dj I D (L+60) m x.2∧r= .bS [.int .i64 x.1.1,.int .i64 x.1.2.1,.bool x.1.2.2.1,.int .i64 x.1.2.2.2]∧N=[b7 h x.2]:=by
 obtain ⟨ak,aa,ar,av,an,ag⟩:=a;simp only at hn;subst hn;refine EC.cM ?_;refine nW ab (ca 199) func199 ntmps199 results199 ?_;have hl:=hm.sl (by omega);have hfl:=hm.fl;have htl:m.o.ae.aH.length≤1000000:=hm.ob.sm.1.2.2.2.2;(repeat' (first|with_reducible intro _|refine eK ab ?_|(refine aE 0 (w_ h m _ rfl hm (by omega)) rfl ?_;rintro ⟨_,_,_⟩ _)|fail))<;>((exact ⟨((_,_,_,_),_),‹dj I D (L+60) m _›,Lk.t4 (bE.int rfl) (bE.int rfl) (bE.bool rfl) (bE.int rfl),rfl⟩))
theorem zT (h:aN) (m:aF) (a:a_) (hn:a.Number=20) (hm:db I D L m) (hL:L≤700000):EC prog 199 [.bx 0 h 41 0 0,.agg a.c] [b7 h m] fun r N=>∃x:(Int×Int×Bool×Int)×aF,dj I D (L+60) m x.2∧r= .bS [.int .i64 x.1.1,.int .i64 x.1.2.1,.bool x.1.2.2.1,.int .i64 x.1.2.2.2]∧N=[b7 h x.2]:=by
 obtain ⟨ak,aa,ar,av,an,ag⟩:=a;simp only at hn;subst hn;refine EC.cM ?_;refine nW ab (ca 199) func199 ntmps199 results199 ?_;have hl:=hm.sl (by omega);have hfl:=hm.fl;have htl:m.o.ae.aH.length≤1000000:=hm.ob.sm.1.2.2.2.2;(repeat' (first|with_reducible intro _|refine eK ab ?_|(refine aE 0 (w9 h m _ rfl hm (by omega)) rfl ?_;rintro ⟨_,_,_⟩ _)|fail))<;>((exact ⟨((_,_,_,_),_),‹dj I D (L+60) m _›,Lk.t4 (bE.int rfl) (bE.int rfl) (bE.bool rfl) (bE.int rfl),rfl⟩))
theorem zS (h:aN) (m:aF) (a:a_) (hn:a.Number=21) (hm:db I D L m) (hL:L≤700000):EC prog 199 [.bx 0 h 41 0 0,.agg a.c] [b7 h m] fun r N=>∃x:(Int×Int×Bool×Int)×aF,dj I D (L+60) m x.2∧r= .bS [.int .i64 x.1.1,.int .i64 x.1.2.1,.bool x.1.2.2.1,.int .i64 x.1.2.2.2]∧N=[b7 h x.2]:=by
 obtain ⟨ak,aa,ar,av,an,ag⟩:=a;simp only at hn;subst hn;refine EC.cM ?_;refine nW ab (ca 199) func199 ntmps199 results199 ?_;have hl:=hm.sl (by omega);have hfl:=hm.fl;have htl:m.o.ae.aH.length≤1000000:=hm.ob.sm.1.2.2.2.2;(repeat' (first|with_reducible (first|intro _|apply And.intro)|refine EC.use (Ag _ _) ?_|refine dM ab 10 [0,1,2,3,4,5,6,7,8,9,10,11,12,13] [0,1,2,3,5,6] bZ fun R hR=>?_|refine bT ab 4 7 ?_ ?_|refine dC ab 7 ?_|refine dC ab 4 ?_|refine dR ab [8,9,10,11,12,13,14,15] ?_|refine dR ab [9,10,11,12,13,14,15] ?_|(refine hR _ _ ?_;refine sA ?_)|refine wA ab ?_|fail))<;>(first|(exact ⟨((_,_,_,_),{m with o:={m.o with ae:=(mH m.o.ae ag.x0).2.1}}),dj.of (cY.O7 hm (eq_of_beq ‹_›)) (by omega),Lk.t4 (bE.int rfl) (bE.int rfl) (bE.bool rfl) (bE.int rfl),rfl⟩)|(exact ⟨((_,_,_,_),_),dj.refl hm (by omega),Lk.t4 (bE.int rfl) (bE.int rfl) (bE.bool rfl) (bE.int rfl),rfl⟩))
theorem zR (h:aN) (m:aF) (a:a_) (hn:a.Number=22) (hm:db I D L m) (hL:L≤700000):EC prog 199 [.bx 0 h 41 0 0,.agg a.c] [b7 h m] fun r N=>∃x:(Int×Int×Bool×Int)×aF,dj I D (L+60) m x.2∧r= .bS [.int .i64 x.1.1,.int .i64 x.1.2.1,.bool x.1.2.2.1,.int .i64 x.1.2.2.2]∧N=[b7 h x.2]:=by
 obtain ⟨ak,aa,ar,av,an,ag⟩:=a;simp only at hn;subst hn;refine EC.cM ?_;refine nW ab (ca 199) func199 ntmps199 results199 ?_;have hl:=hm.sl (by omega);have hfl:=hm.fl;have htl:m.o.ae.aH.length≤1000000:=hm.ob.sm.1.2.2.2.2;(repeat' (with_reducible intro _))<;>((exact ⟨((_,_,_,_),_),dj.refl hm (by omega),Lk.t4 (bE.int rfl) (bE.int rfl) (bE.bool rfl) (bE.int rfl),rfl⟩))
theorem zQ (h:aN) (m:aF) (a:a_) (hn:a.Number=23) (hm:db I D L m) (hL:L≤700000) (hu:m.out.Used=0) (hf:1≤m.fresh.length):EC prog 199 [.bx 0 h 41 0 0,.agg a.c] [b7 h m] fun r N=>∃x:(Int×Int×Bool×Int)×aF,dj I D (L+60) m x.2∧r= .bS [.int .i64 x.1.1,.int .i64 x.1.2.1,.bool x.1.2.2.1,.int .i64 x.1.2.2.2]∧N=[b7 h x.2]:=by
 obtain ⟨ak,aa,ar,av,an,ag⟩:=a;simp only at hn;subst hn;refine EC.cM ?_;refine nW ab (ca 199) func199 ntmps199 results199 ?_;have hl:=hm.sl (by omega);have hfl:=hm.fl;have htl:m.o.ae.aH.length≤1000000:=hm.ob.sm.1.2.2.2.2;(repeat' (first|with_reducible intro _|refine eK ab ?_|(refine aE 0 (tJ h m _ hm hL hu hf) rfl ?_;rintro ⟨_,_,_⟩ _)|fail))<;>((exact ⟨((_,_,_,_),_),‹dj I D (L+60) m _›,Lk.t4 (bE.int rfl) (bE.int rfl) (bE.bool rfl) (bE.int rfl),rfl⟩))
theorem zP (h:aN) (m:aF) (a:a_) (hn:a.Number=24) (hm:db I D L m) (hL:L≤700000):EC prog 199 [.bx 0 h 41 0 0,.agg a.c] [b7 h m] fun r N=>∃x:(Int×Int×Bool×Int)×aF,dj I D (L+60) m x.2∧r= .bS [.int .i64 x.1.1,.int .i64 x.1.2.1,.bool x.1.2.2.1,.int .i64 x.1.2.2.2]∧N=[b7 h x.2]:=by
 obtain ⟨ak,aa,ar,av,an,ag⟩:=a;simp only at hn;subst hn;refine EC.cM ?_;refine nW ab (ca 199) func199 ntmps199 results199 ?_;have hl:=hm.sl (by omega);have hfl:=hm.fl;have htl:m.o.ae.aH.length≤1000000:=hm.ob.sm.1.2.2.2.2;(repeat' (first|with_reducible intro _|refine eK ab ?_|(refine aE 0 (zN h m _ hm (by omega)) rfl ?_;rintro ⟨_,_⟩ _)|fail))<;>((exact ⟨((_,_,_,_),_),dj.of ‹cY I D (L+1) m _› (by omega),Lk.t4 (bE.int rfl) (bE.int rfl) (bE.bool rfl) (bE.int rfl),rfl⟩))
end
section
variable {I D:Int→Prop} {L:Nat} {m:aF}
def Hm (a:a_):Prop:=(a.aU=0∨a.aU=1∨a.aU=2∨a.aU=3∨a.aU=4)∧-9223372036854775808≤a.iN∧a.iN≤9223372036854775807
theorem Ch:Hm default:=⟨.inl rfl,by decide,by decide⟩
theorem Dg:Hm p7:=⟨.inr (.inr (.inr (.inr rfl))),by decide,by decide⟩
theorem Ct (c:cb) (x:bp):Hm (mf c x).2:=by
 generalize h:mf c x=q;unfold mf at h
 repeat' split at h
 all_goals subst h
 all_goals first|exact Dg|exact Ch
theorem EY (c:cb) (x:bp):Hm (gD c x).2:=by
 generalize h:gD c x=q;unfold gD at h
 repeat' split at h
 all_goals subst h
 all_goals first|exact Ct _ _|exact Dg|exact Ch|exact ⟨.inr (.inl rfl),zF _⟩|exact ⟨.inr (.inr (.inl rfl)),zF _⟩|exact ⟨.inr (.inr (.inr (.inl rfl))),by show (-9223372036854775808:Int)≤0∧(0:Int)≤9223372036854775807;decide⟩
theorem yT (c:cb) (p:aP):Hm (oA c p).2:=by
 unfold oA
 split
 ·exact Dg
 ·exact EY _ _
structure rS (m:aF) (a:a_):Prop where
 fk:a.Number=3→m.fresh.length=1+(cC m.o.ae.aQ).length
 op:a.Number=7→(if a.eT.x1=1 then 2 else 1)≤m.fresh.length
 mp:a.Number=16→1≤a.eT.x1∧a.eT.x1≤16→a.eT.x1.toNat≤m.fresh.length
 one:a.Number=13∨a.Number=17∨a.Number=18∨a.Number=23→1≤m.fresh.length
theorem rS.of {m:aF} {o:af} (ho:m.o=o) (h1:gW o=true) (h2:o.ae.State=1) (h3:(yw o).aU=3) (hl:(m.fresh.length:Int)=iC o):rS m (yw o):=by
 subst ho;have e:iC m.o=oF m.o (yw m.o):=by unfold iC;rw [if_neg];simp [h1,h2]
 rw [e] at hl;generalize yw m.o=a at h3 hl;unfold oF at hl;rw [if_neg (by simp [h3])] at hl;refine ⟨fun h=>?_,fun h=>?_,fun h h4=>?_,fun h=>?_⟩
 ·rw [if_pos (by simp [h])] at hl;omega
 ·rw [if_neg (by simp [h]),if_pos (by simp [h])] at hl;by_cases h5:a.eT.x1=1
  ·rw [if_pos h5];rw [if_pos (by simp [h5])] at hl;omega
  ·rw [if_neg h5];rw [if_neg (by simp [h5])] at hl;omega
 ·rw [if_neg (by simp [h]),if_neg (by simp [h]),if_neg (by simp [h]),if_pos (by simp [h]),if_pos (by simp [h4])] at hl;omega
 ·rw [if_neg (by simp;omega),if_neg (by simp;omega),if_pos (by simp;omega)] at hl;omega
attribute [local irreducible] EC EV cc cK dT dX dj cY cU j6 kP gj
theorem C9 (h:aN) (m:aF) (a:a_) (hm:db I D L m) (hL:L≤700000) (hu:m.out.Used=0) (hp:rS m a):EC prog 199 [.bx 0 h 41 0 0,.agg a.c] [b7 h m] fun r N=>∃x:(Int×Int×Bool×Int)×aF,dj I D (L+60) m x.2∧r= .bS [.int .i64 x.1.1,.int .i64 x.1.2.1,.bool x.1.2.2.1,.int .i64 x.1.2.2.2]∧N=[b7 h x.2]:=by
 by_cases h2:a.Number=2
 ·exact B3 h m a h2 hm hL
 by_cases h3:a.Number=3
 ·exact BZ h m a h3 hm hL hu (hp.fk h3)
 by_cases h4:a.Number=4
 ·exact BY h m a h4 hm hL
 by_cases h5:a.Number=5
 ·exact BW h m a h5 hm hL
 by_cases h6:a.Number=6
 ·exact BV h m a h6 hm hL
 by_cases h7:a.Number=7
 ·exact BU h m a h7 hm hL hu (hp.op h7)
 by_cases h8:a.Number=8
 ·exact BT h m a h8 hm hL
 by_cases h9:a.Number=9
 ·exact BS h m a h9 hm hL
 by_cases h10:a.Number=10
 ·exact z5 h m a h10 hm hL
 by_cases h11:a.Number=11
 ·exact z4 h m a h11 hm hL
 by_cases h12:a.Number=12
 ·exact z3 h m a h12 hm hL
 by_cases h13:a.Number=13
 ·exact z1 h m a h13 hm hL hu (hp.one (by omega))
 by_cases h14:a.Number=14
 ·exact zZ h m a h14 hm hL
 by_cases h15:a.Number=15
 ·exact zY h m a h15 hm hL
 by_cases h16:a.Number=16
 ·exact zX h m a h16 hm hL hu (hp.mp h16)
 by_cases h17:a.Number=17
 ·exact zW h m a h17 hm hL hu (hp.one (by omega))
 by_cases h18:a.Number=18
 ·exact zV h m a h18 hm hL hu (hp.one (by omega))
 by_cases h19:a.Number=19
 ·exact zU h m a h19 hm hL
 by_cases h20:a.Number=20
 ·exact zT h m a h20 hm hL
 by_cases h21:a.Number=21
 ·exact zS h m a h21 hm hL
 by_cases h22:a.Number=22
 ·exact zR h m a h22 hm hL
 by_cases h23:a.Number=23
 ·exact zQ h m a h23 hm hL hu (hp.one (by omega))
 by_cases h24:a.Number=24
 ·exact zP h m a h24 hm hL
 refine EC.cM ?_;refine nW ab (ca 199) func199 ntmps199 results199 ?_;have e2:(a.Number == 2)=false:=by simpa using h2
 have e3:(a.Number == 3)=false:=by simpa using h3
 have e4:(a.Number == 4)=false:=by simpa using h4
 have e5:(a.Number == 5)=false:=by simpa using h5
 have e6:(a.Number == 6)=false:=by simpa using h6
 have e7:(a.Number == 7)=false:=by simpa using h7
 have e8:(a.Number == 8)=false:=by simpa using h8
 have e9:(a.Number == 9)=false:=by simpa using h9
 have e10:(a.Number == 10)=false:=by simpa using h10
 have e11:(a.Number == 11)=false:=by simpa using h11
 have e12:(a.Number == 12)=false:=by simpa using h12
 have e13:(a.Number == 13)=false:=by simpa using h13
 have e14:(a.Number == 14)=false:=by simpa using h14
 have e15:(a.Number == 15)=false:=by simpa using h15
 have e16:(a.Number == 16)=false:=by simpa using h16
 have e17:(a.Number == 17)=false:=by simpa using h17
 have e18:(a.Number == 18)=false:=by simpa using h18
 have e19:(a.Number == 19)=false:=by simpa using h19
 have e20:(a.Number == 20)=false:=by simpa using h20
 have e21:(a.Number == 21)=false:=by simpa using h21
 have e22:(a.Number == 22)=false:=by simpa using h22
 have e23:(a.Number == 23)=false:=by simpa using h23
 have e24:(a.Number == 24)=false:=by simpa using h24
 simp only [e2,e3,e4,e5,e6,e7,e8,e9,e10,e11,e12,e13,e14,e15,e16,e17,e18,e19,e20,e21,e22,e23,e24,push_cast,simprocAttr];intro fr;exact ⟨((_,_,_,_),_),dj.refl hm (by omega),Lk.t4 (bE.int rfl) (bE.int rfl) (bE.bool rfl) (bE.int rfl),rfl⟩
theorem oW (s:aG) (l:List Int) (hs:s.ah.length≤1000000000) (hl:l.length≤1000000):EC prog 195 [.agg s.c,bG 1 (aS .u64) default l] [] fun r N=>N=[]∧∃b:Bool,True∧r= .bool b:=by
 refine EC.bh ?_;refine nW ab (ca 195) func195 ntmps195 results195 ?_;intro fr;refine aT ab [1,2,9,10] (fun i:Nat=>[(11,.int .i64 i)]) (fun B _=>B) (fun i=>i≤l.length) (fun i=>l.length - i) 0 (zero_le _) ?_;rintro i hi;replace hi:i≤l.length:=hi;have hw:=wI i;simp only [hw,push_cast,simprocAttr];have hHas:∀x:Int,EC prog 114 [SV.sl false 1 i (sub (cA (aS IntKind.u64) default l) l.length 0 i),.int .u64 x] [] fun r B=>B=[]∧r= .bool (decide (x∈l.take i)):=fun x=>by
  rw [lz (fl:=false) (e:=1) (c:=aS .u64) (d:=default) hi];exact ec (l.take i) x (by simp;omega)
 (repeat' (first|with_reducible (first|intro _|apply And.intro)|refine eK ab ?_|refine EC.use (cL s _ hs) ?_|refine EC.use (hHas _) ?_|fail))<;>(first|omega|(exact ⟨_,Lt.bool rfl⟩)|(simp only [hw];exact a7 (i+1) (by show i+1≤_;omega))|(exfalso;simp_all;done))
theorem lI (s:aG) (id:Int) (hs:s.ah.length≤1000000000):EC prog 194 [.agg s.c,.int .u64 id] [] fun r N=>N=[]∧∃x:af×Int,(x.2=0→x.1=(cc s id).1∧x.1.aU=1∧x.1.ae.State≠3)∧r= .bS [.agg x.1.c,.int .i64 x.2]:=by
 refine EC.bh ?_;refine nW ab (ca 194) func194 ntmps194 results194 ?_;(repeat' (first|with_reducible (first|intro _|apply And.intro)|refine eK ab ?_|refine EC.use (cL s id hs) ?_|fail))<;>(first|(exact ⟨(default,6),⟨fun e=>by simp at e,Lt.t2 (a6.tf rfl) (a6.jC rfl)⟩⟩)|(exact ⟨(default,8),⟨fun e=>by simp at e,Lt.t2 (a6.tf rfl) (a6.jC rfl)⟩⟩)|skip)
 ·simp_all
 rename_i g1 g2;exact ⟨((cc s id).1,0),fun _=>⟨rfl,by simp at g1;exact g1.2,by simpa using g2⟩,Lt.t2 (a6.tf rfl) (a6.jC rfl)⟩
end
section
variable {I D:Int→Prop} {L:Nat} {m:aF}
def jt (I:Int→Prop) (ids:List Int) (u:Int) (x:Int):Prop:=I x∨x∈ids.take u.toNat
structure gi (I D:Int→Prop) (L:Nat) (ids:List Int) (s:aG) (out:bY):Prop where
 us:0≤out.Used∧out.Used≤ids.length
 ex:∃D':Int→Prop,kY D D' ids∧ja (jt I ids out.Used) D' s∧∀y,D' y→jt I ids out.Used y
 ln:s.ah.length≤L+61
structure iR (I:Int→Prop) (ids:List Int):Prop where
 ln:ids.length≤64
 nz:∀x∈ids,x≠0
 nf:∀x∈ids,¬I x
 nd:ids.Nodup
theorem iR.take {I:Int→Prop} {ids:List Int} (h:iR I ids) (k:Nat):iR I (ids.take k):=
 ⟨by have:=h.ln;simp;omega,fun x hx=>h.nz x (List.mem_of_mem_take hx),fun x hx=>h.nf x (List.mem_of_mem_take hx),h.nd.sublist (List.take_sublist _ _)⟩
def stM (s:aG) (o:af) (l:List Int):aF:=⟨s,o,l,default⟩
theorem Bv {s:aG} {o:af} {l:List Int}:jm I (stM s o l)=I:=by
 funext x
 unfold jm stM;simp only [show (default:bY).Used.toNat=0 from rfl,List.take_zero,List.not_mem_nil,or_false]
theorem db.start {s:aG} {o:af} {l:List Int} (h0:I 0) (hs:ja I D s) (hl:s.ah.length≤L) (ho:pB I D o) (hi:iR I l) (hd:∀x,D x→I x):db I D L (stM s o l):=
 ⟨h0,by rw [Bv];exact hs,hl,by rw [Bv];exact ho,⟨Int.le_refl _,Int.natCast_nonneg _⟩,hi.ln,hi.nz,hi.nf,hi.nd,fun x hx=>by rw [Bv];exact hd x hx⟩
theorem gi.ofM {ids:List Int} {k:Nat} {m:aF} {L':Nat} (h:db I D L' m) (hf:m.fresh=ids.take k) (hl:L'≤L+61) {D0:Int→Prop} (hd:kY D0 D ids):gi I D0 L ids m.s m.out:=by
 have hu:=h.us;rw [hf] at hu;have hu2:m.out.Used≤ids.length∧m.out.Used.toNat≤k:=by simp at hu;omega
 have e:jt I ids m.out.Used=jm I m:=by
  funext x
  unfold jt jm;rw [hf,List.take_take,Nat.min_eq_left hu2.2]
 refine ⟨⟨hu.1,hu2.1⟩,⟨D,hd,by rw [e];exact h.st,by rw [e];exact h.dk⟩,le_trans h.ln hl⟩
theorem gi.PG {ids:List Int} {s:aG} {o:af} {l:List Int} {m:aF} (h:qL I D (L+60) (stM s o l) m) (hd:∀y,D y→I y):gi I D L ids m.s m.out:=by
 have hu:m.out.Used=0:=h.us;have e:jt I ids m.out.Used=I:=by
  funext x
  unfold jt;rw [hu];simp
 refine ⟨by rw [hu];exact ⟨Int.le_refl _,Int.natCast_nonneg _⟩,⟨D,kY.refl,?_,by rw [e];exact hd⟩,le_trans h.ln (by omega)⟩;have h1:=h.st;rw [Bv] at h1;rw [e];exact h1
theorem gi.wait {ids:List Int} {s:aG} (hs:ja I D s) (hl:s.ah.length≤L) (hd:∀y,D y→I y) {out:bY} (hu:out.Used=0):gi I D L ids s out:=by
 have e:jt I ids out.Used=I:=by
  funext x
  unfold jt;rw [hu];simp
 exact ⟨by rw [hu];exact ⟨Int.le_refl _,Int.natCast_nonneg _⟩,⟨D,kY.refl,by rw [e];exact hs,by rw [e];exact hd⟩,by omega⟩
theorem a6.FD {B:List aI} {x y:aG} (h:x=y):a6 B (.agg x.c) (.agg y.c):=by subst h;exact a6.agg (eU.obj (cs:=x.c) (fun s B=>by rw [aG.fk]) (fun s B=>by rw [aG.fz]))
theorem dj.elim {m1:aF} (h:dj I D L m m1):∃D',db I D' L m1∧kY D D' m.fresh∧m1.fresh=m.fresh∧m1.out.dF=m.out.dF:=h
attribute [local irreducible] EC EV cc cK dT dX dj cY cU j6 kP gj iC oA
set_option maxHeartbeats 4000000 in
theorem qk (s:aG) (id:Int) (ids:List Int) (h0:I 0) (hs:ja I D s) (hl:s.ah.length≤L) (hL:L≤600000) (hi:iR I ids) (hd:∀x,D x→I x):EC prog 131 [.agg s.c,.int .u64 id,bG 1 (aS .u64) default ids] [] fun r N=>N=[]∧∃x:aG×bY×Int,(x.2.2=0→gi I D L ids x.1 x.2.1)∧r= .bS [.agg x.1.c,.agg x.2.1.c,.int .i64 x.2.2]:=by
 refine EC.bh ?_;refine nW ab (ca 131) func131 ntmps131 results131 ?_;have hsl:s.ah.length≤1000000000:=by omega
 have hil:=hi.ln;(repeat' (first|with_reducible (first|intro _|apply And.intro)|refine eK ab ?_|(refine EC.aM (lI s id hsl) ?_;rintro ⟨_,_⟩ _)|fail))
 ·rename_i o e hx fr1 he;refine ⟨(default,default,e),fun e0=>?_,Lt.t3 (a6.agg (eU.pl rfl)) (a6.fS rfl rfl) (a6.jC rfl)⟩;simp_all
 rename_i o e hx fr1 he;obtain ⟨ho1,hk,hst⟩:=hx (by simpa using he);simp only at ho1 hk hst;have ho:cG I D o:=by rw [ho1];exact hs.get h0
 have hpr:=ho.pr hk;have hP:pB I D o:=⟨ho,rV.of hpr hst⟩;have hfr:=y1 o;have hFr:=oX o ho.sm ho.pd;have hact:=fun m:aF=>rS.of (m:=m) (o:=o);generalize hn:iC o=n at hfr hFr hact;obtain ⟨k,rfl⟩:=Int.eq_ofNat_of_zero_le hfr.1;have hw1:IntKind.i64.wrap (ids.length:Int)=ids.length:=bu (by omega);have bF:∀(c:Int) (B:List aI),c≠0→∃x:aG×bY×Int,(x.2.2=0→gi I D L ids x.1 x.2.1)∧Lt B (SV.bS [SV.agg (default:aG).c,SV.agg (default:bY).c,SV.int IntKind.i64 c]) (SV.bS [SV.agg x.1.c,SV.agg x.2.1.c,SV.int IntKind.i64 x.2.2]):=fun c B hc=>
  ⟨(default,default,c),fun e0=>absurd e0 hc,Lt.t3 (a6.agg (eU.pl rfl)) (a6.fS rfl rfl) (a6.jC rfl)⟩
 (repeat' (first|with_reducible (first|intro _|apply And.intro)|refine eK ab ?_|refine EC.use (hFr) ?_|fail))<;>(first|(exact bF 2 _ (by decide))|skip);rename_i hlt;have hkl:k≤ids.length:=by simp at hlt;omega
 have htn:(k:Int).toNat=k:=Int.toNat_natCast k;have hsub:=lz (fl:=false) (e:=1) (c:=aS .u64) (d:=default) hkl;have hFs:EC prog 195 [.agg s.c,SV.sl false 1 k (sub (cA (aS IntKind.u64) default ids) ids.length 0 k)] [] fun r N=>N=[]∧∃b:Bool,True∧r= .bool b:=by
  rw [hsub];exact oW s (ids.take k) hsl (by simp;omega)
 have hm0:=db.start (L:=L) (l:=ids.take k) h0 hs hl hP (hi.take k) hd;have hm0f:(stM s o (ids.take k)).fresh=ids.take k:=rfl;have hm0l:(ids.take k).length=k:=by simp;omega
 refine dB (σ:=Bool) [2,3,6,7,9,11] (fun b=>[(43,.bool !b)]) (fun B _=>B) (fun _=>True) ?_ ?_;rotate_left 1
 ·(repeat' (first|with_reducible apply And.intro|(refine EC.aM (hFs) ?_;rintro _ _)|refine dN ab [] [] [0,1,2,3,4,5] bZ fun R hR=>?_|refine dR ab [5] ?_|(refine hR _ _ ?_;refine sA ?_)|fail))<;>(first|omega|(exact gg _ trivial))
 rintro b -;simp only [bK,dd,push_cast,simprocAttr];(repeat' (first|(with_reducible intro hh;first|subst hh|(revert hh;intro _))|with_reducible apply And.intro|refine wA ab ?_|fail))<;>(first|(exact bF 15 _ (by decide))|skip);refine dB (σ:=aN) [2,3,6,7,9,11] (fun r=>[(12,.bx 4 r 41 0 0)]) (fun B r=>B ++ [.row r 307 41 [(stM s o (ids.take k)).c]]) (fun _=>True) ?_ ?_;rotate_left 1
 ·(repeat' (first|with_reducible (first|intro _|apply And.intro)|refine dM ab 5 [0,1,2,3,4,5,6,7,8,9,10,11,12,13] [2,3,4] bZ fun R hR=>?_|refine bT ab 0 1 ?_ ?_|refine dC ab 1 ?_|refine dC ab 0 ?_|refine dR ab [5,6,7] ?_|(refine hR _ _ ?_;refine sA ?_)|fail))<;>(first|omega|(refine gg (B':=_) _ trivial (hb:=?_);rw [hsub];rfl))
 rintro h4 -;simp only [bK,dd,push_cast,simprocAttr];generalize hm:stM s o (ids.take k)=m0 at hm0 hm0f;have hmo:m0.o=o:=by rw [←hm];rfl
 have fin:∀(m:aF) (B:List aI),gi I D L ids m.s m.out→∃x:aG×bY×Int,(x.2.2=0→gi I D L ids x.1 x.2.1)∧Lt B (SV.bS [SV.agg m.s.c,SV.agg m.out.c,SV.int IntKind.i64 0]) (SV.bS [SV.agg x.1.c,SV.agg x.2.1.c,SV.int IntKind.i64 x.2.2]):=fun m B hc=>
  ⟨(m.s,m.out,0),fun _=>hc,Lt.t3 (a6.FD rfl) (a6.fS rfl rfl) (a6.jC rfl)⟩
 have he0:∀m1,qL I D (L+60) m0 m1→gi I D L ids m1.s m1.out:=fun m1 h=>by rw [←hm] at h;exact gi.PG h hd
 (repeat' (first|with_reducible (first|intro _|apply And.intro)|refine wA ab ?_|fail))
 ·(repeat' (first|refine eK ab ?_|(refine aE 4 (pM h4 m0 _ hm0 (by omega)) rfl ?_;rintro ⟨_,_⟩ _)|refine dM ab 5 [0,1,2,3,4,5,6,7,8,9,10,11,12,13] [0,1,2,4,5,6] bZ fun R hR=>?_|refine bT ab 3 7 ?_ ?_|refine bT ab 7 8 ?_ ?_|refine dC ab 3 ?_|refine dR ab [8,9,10] ?_|refine dC ab 7 ?_|refine dR ab [9,10] ?_|(refine hR _ _ ?_;refine sA ?_)|refine wA ab ?_|fail))<;>((exact fin _ _ (he0 _ ‹_›)))
 rename_i h2;have h1:o.ae.State=1:=by have:=hP.lv.st;simp at h2;omega
 have hact2:=yT o.ae.d9 o.ae.Program;have hact3:(oA o.ae.d9 o.ae.Program).2=yw o:=rfl;have hNx:=jY o.ae.d9 o.ae.Program;generalize oA o.ae.d9 o.ae.Program=q at hact2 hact3 hNx;obtain ⟨c,a⟩:=q;simp only at hact3;have hcpu:∀m1 {L'} {D'} (c:cb),db I D' L' m1→L'≤L+60→m1.fresh=(ids.take k).take (m1.fresh.length)∨m1.fresh=ids.take k→kY D D' ids→gi I D L ids (dX {m1 with o:={m1.o with ae:={m1.o.ae with d9:=c}}} {m1.o with ae:={m1.o.ae with d9:=c}}).s (dX {m1 with o:={m1.o with ae:={m1.o.ae with d9:=c}}} {m1.o with ae:={m1.o.ae with d9:=c}}).out:=fun m1 L' D' c h1 hl1 hf1 hd1=>by
  have h2:=(cY.refl h1 (le_refl _)).Rd c;rcases hf1 with hf1|hf1
  ·exact gi.ofM (k:=min m1.fresh.length k) h2.ok (h2.same.1.trans (by rw [←List.take_take];exact hf1)) (by omega) hd1
  ·exact gi.ofM (k:=k) h2.ok (h2.same.1.trans hf1) (by omega) hd1
 obtain ⟨ak,aa,ar,av,an,ag⟩:=a;obtain ⟨hak,haa⟩:=hact2;replace hak:ak=0∨ak=1∨ak=2∨ak=3∨ak=4:=hak;have hl0:m0.s.ah.length≤1000000000:=hm0.sl (by omega);have hu0:m0.out.Used=0:=by rw [←hm];rfl
 rcases hak with rfl|rfl|rfl|rfl|rfl
 ·(repeat' (first|with_reducible intro _|refine eK ab ?_|refine EC.use (hNx) ?_|refine aX 4 (cJ h4 _ _ (by exact hl0)) rfl ?_|refine dM ab 5 [0,1,2,3,4,5,6,7,8,9,10,11,12,13] [0,1,2,4,5,6] bZ fun R hR=>?_|refine bT ab 3 7 ?_ ?_|refine bT ab 7 8 ?_ ?_|refine dC ab 3 ?_|refine dR ab [8,9,10] ?_|refine dC ab 7 ?_|refine dR ab [9,10] ?_|(refine hR _ _ ?_;refine sA ?_)|refine wA ab ?_|fail))<;>((exact fin _ _ (hcpu m0 c hm0 (by omega) (.inr hm0f) kY.refl)))
 ·(repeat' (first|with_reducible intro _|refine eK ab ?_|refine EC.use (hNx) ?_|(refine aE 4 (rG h4 m0 _ _ hm0 (by omega) haa) rfl ?_;rintro ⟨_,_⟩ _)|refine dM ab 5 [0,1,2,3,4,5,6,7,8,9,10,11,12,13] [0,1,2,4,5,6] bZ fun R hR=>?_|refine bT ab 3 7 ?_ ?_|refine bT ab 7 8 ?_ ?_|refine dC ab 3 ?_|refine dR ab [8,9,10] ?_|refine dC ab 7 ?_|refine dR ab [9,10] ?_|(refine hR _ _ ?_;refine sA ?_)|refine wA ab ?_|fail))<;>((exact fin _ _ (he0 _ ‹_›)))
 ·(repeat' (first|with_reducible intro _|refine eK ab ?_|refine EC.use (hNx) ?_|(refine aE 4 (rG h4 m0 _ _ hm0 (by omega) haa) rfl ?_;rintro ⟨_,_⟩ _)|refine dM ab 5 [0,1,2,3,4,5,6,7,8,9,10,11,12,13] [0,1,2,4,5,6] bZ fun R hR=>?_|refine bT ab 3 7 ?_ ?_|refine bT ab 7 8 ?_ ?_|refine dC ab 3 ?_|refine dR ab [8,9,10] ?_|refine dC ab 7 ?_|refine dR ab [9,10] ?_|(refine hR _ _ ?_;refine sA ?_)|refine wA ab ?_|fail))<;>((exact fin _ _ (he0 _ ‹_›)))
 rotate_left 1
 ·(repeat' (first|with_reducible intro _|refine eK ab ?_|refine EC.use (hNx) ?_|(refine aE 4 (pM h4 m0 _ hm0 (by omega)) rfl ?_;rintro ⟨_,_⟩ _)|refine dM ab 5 [0,1,2,3,4,5,6,7,8,9,10,11,12,13] [0,1,2,4,5,6] bZ fun R hR=>?_|refine bT ab 3 7 ?_ ?_|refine bT ab 7 8 ?_ ?_|refine dC ab 3 ?_|refine dR ab [8,9,10] ?_|refine dC ab 7 ?_|refine dR ab [9,10] ?_|(refine hR _ _ ?_;refine sA ?_)|refine wA ab ?_|fail))<;>((exact fin _ _ (he0 _ ‹_›)))
 have hpre:rS m0 ⟨3,aa,ar,av,an,ag⟩:=by
  have:=hact m0 hmo hpr h1 (by rw [←hact3]) (by rw [hm0f,hm0l]);rw [←hact3] at this;exact this
 (repeat' (first|with_reducible (first|intro _|apply And.intro)|refine eK ab ?_|refine EC.use (hNx) ?_|(refine aE 4 (pM h4 m0 _ hm0 (by omega)) rfl ?_;rintro ⟨_,_⟩ _)|refine dM ab 5 [0,1,2,3,4,5,6,7,8,9,10,11,12,13] [0,1,2,4,5,6] bZ fun R hR=>?_|refine bT ab 3 7 ?_ ?_|refine bT ab 7 8 ?_ ?_|refine dC ab 3 ?_|refine dR ab [8,9,10] ?_|refine dC ab 7 ?_|refine dR ab [9,10] ?_|(refine hR _ _ ?_;refine sA ?_)|refine wA ab ?_|fail))<;>(first|(exact fin _ _ (he0 _ ‹_›))|skip);refine EC.r_ ab 4 (C9 h4 m0 _ hm0 (by omega) hu0 hpre) rfl (by (repeat (first|exact eD.nil|refine eD.cons (bq.refl _) ?_|refine eD.cons bq.bx ?_))) ?_;rintro ⟨⟨r0,r1,two,e⟩,m2⟩ hx2;obtain ⟨D',hm2,hd2,hf2,-⟩:∃D',db I D' (L+60) m2∧kY D D' m0.fresh∧m2.fresh=m0.fresh∧m2.out.dF=m0.out.dF:=dj.elim hx2;have hl2:m2.s.ah.length≤1000000000:=hm2.sl (by omega);have hE:db I D L (stM s o []):=db.start h0 hs hl hP ⟨zero_le _,fun x hx=>(nomatch hx),fun x hx=>(nomatch hx),List.nodup_nil⟩ hd;refine sA ?_;(repeat' (first|(with_reducible intro hh;first|subst hh|(revert hh;intro _))|with_reducible apply And.intro|refine eK ab ?_|refine EC.use (me _ _) ?_|refine EC.use (qO _ _ _) ?_|refine aX 4 (cJ h4 _ _ (by exact hl2)) rfl ?_|refine aX 7 (cJ _ _ _ (by exact hsl)) rfl ?_|refine dM ab 5 [0,1,2,3,4,5,6,7,8,9,10,11,12,13] [0,1,2,4,5,6] bZ fun R hR=>?_|refine bT ab 3 7 ?_ ?_|refine bT ab 7 8 ?_ ?_|refine dC ab 3 ?_|refine dR ab [8,9,10] ?_|refine dC ab 7 ?_|refine dR ab [9,10] ?_|(refine hR _ _ ?_;refine sA ?_)|refine wA ab ?_|fail))<;>(first|(exact ⟨(s,{(default:bY) with dF:=true},0),fun _=>gi.wait hs hl hd rfl,Lt.t3 (a6.FD rfl) (a6.fS rfl rfl) (a6.jC rfl)⟩)|(exact fin _ _ (hcpu m2 _ hm2 (le_refl _) (.inr (hf2.trans hm0f)) (hd2.mono fun y hy=>by rw [hm0f] at hy;exact List.mem_of_mem_take hy)))|(exact fin _ _ (hcpu (stM s o []) _ hE (by omega) (.inl rfl) kY.refl)))
end
section
variable {I D:Int→Prop} {L:Nat}
attribute [push_cast] P8
inductive Mk (sel:Nat→Bool) (B:List aI):List SV→List SV→Prop where
 |nil:Mk sel B [] []
 |cons {s s':SV} {l l':List SV} (hk:dE sel B s) (h:bq (fu sel B s) s') (hr:Mk sel B l l'):Mk sel B (s :: l) (s' :: l')
theorem Mk.spec {sel:Nat→Bool} {B:List aI} {l l':List SV} (h:Mk sel B l l'):l.length=l'.length∧∀(i:Nat) (c:SV),l'[i]?=some c→∃d,l[i]?=some d∧dE sel B d∧bq (fu sel B d) c:=by
 induction h with
 |nil=>exact ⟨rfl,fun i c h=>by simp at h⟩
 |cons hk h _ ih=>
  refine ⟨by simp [ih.1],fun i c hc=>?_⟩
  cases i with
  |zero=>simp at hc;subst hc;exact ⟨_,rfl,hk,h⟩
  |succ i=>simpa using ih.2 i c (by simpa using hc)
theorem EC.JG {P:Program} {f:Nat} {args args':List SV} {B:List aI} {Q:SV→List aI→Prop} (i:Nat) (hi:i < B.length) (ha:Mk (fun j=>j == i) B args args') (h:EC P f args' (B.set i .gone) Q):EC P f args B Q:=by
 have hb:∀j,au (B.set i .gone) j=if (fun j=>j == i) j then .gone else au B j:=fun j=>by rw [eo hi];simp [beq_iff_eq]
 refine ⟨h.1,fun X w vs hs hd=>?_⟩;have hsp:=ha.spec;refine (h.2 (dz X B (fun j=>j == i)) w vs (hs.dY hb) ⟨by rw [hd.1,hsp.1],fun k c hc=>?_⟩).mono ?_
 ·obtain ⟨d,h1,h2,h3⟩:=hsp.2 k c hc;exact h3 _ _ _ (eR hs (hd.2 k d h1) h2)
 ·rintro e w' ⟨v,r,X',B',he,hq,h1,h2,h3⟩;exact ⟨v,r,X',B',he,hq,h1,h2,(Ext.dY hb).trans h3⟩
theorem EC.JF {P:Program} {f:Nat} {B:List aI} {Q:SV→List aI→Prop} (i:Nat) {o:af} {p:List UInt8} {k x:Int} {h:aN} {E:Nat} (hB:au B i= .row h E 1 [[.int .u64 x]]) (hc:EC P f [.agg o.c,.agg (a8.mk p k [x]).c] (B.set i .gone) Q):EC P f [.agg o.c,.agg [.str p,.int .i64 k,.row i h 1 0 1]] B Q:=by
 refine EC.JG i (fp hB) (.cons ?_ ?_ (.cons ?_ ?_ .nil)) hc
 ·simp only [dE,fw];rw [af.fk];trivial
 ·simp only [fu,iT];rw [af.fz];exact bq.refl _
 ·simp [dE,fw,bC,cf,hB]
 ·simp only [fu,iT,ew,gl,beq_self_eq_true,hB];refine bq.agg (.cons (bq.refl _) (.cons (bq.refl _) (.cons ?_ .nil)));refine bq.sl (fun h=>h) (.inr rfl) fun j hj=>?_;have:j=0:=by omega
  subst this;rfl
theorem GI {p:aP} {ids:List Int} (hi:iR I ids) (hd:∀x,D x→I x) (hn:1≤ids.length) (hc:p.Code.length≤1000000) (hp:p.Strings.length≤1000000):(sG (ids.getD 0 default) p (ids.drop 1)).2=0→cG (fun y=>I y∨y∈ids) D (sG (ids.getD 0 default) p (ids.drop 1)).1:=by
 have hid:ids.getD 0 default∈ids:=bk (by omega);have htl:∀x∈ids.drop 1,x∈ids:=fun x hx=>List.mem_of_mem_drop hx;generalize ids.getD 0 default=id0 at hid;generalize ids.drop 1=tl at htl;intro h;unfold sG at h ⊢
 split
 ·rename_i g;rw [if_pos g] at h;simp at h
 rename_i g;rw [if_neg g] at h
 split
 ·rename_i g2;rw [if_pos g2] at h;simp at h
 rename_i g2;rw [if_neg g2] at h
 split
 ·rename_i g3;rw [if_pos g3] at h;simp at h
 rename_i g3;have hv:gW (mO id0 p (tl.map fun x=>{(default:ay) with ID:=x}))=true:=by simpa using g3
 have hl:rV (mO id0 p (tl.map fun x=>{(default:ay) with ID:=x})):=rV.of hv (by show (1:Int)≠3;decide);have hsk:kC (tl.map fun x=>{(default:ay) with ID:=x})=true:=hl.sp;have hsp:=i_ (l:=tl.map fun x=>{(default:ay) with ID:=x}) (by rw [hsk];rfl);refine ⟨⟨⟨zero_le _,hc,hp,by show (tl.map _).length≤_;omega,zero_le _⟩,zero_le _,zero_le _,zero_le _,zero_le _,zero_le _,zero_le _,fun n hn=>(nomatch hn)⟩,mP,fun _=>hv,⟨.inr hid,fun c hc=>(nomatch hc),fun q hq=>?_,fun n hn=>(nomatch hn)⟩,fun n hn=>(nomatch hn),fun _=>⟨fun hd'=>hi.nf _ hid (hd _ hd'),fun s hs=>(nomatch hs)⟩⟩;obtain ⟨y,hy,rfl⟩:=List.mem_map.1 (show q∈tl.map fun x=>{(default:ay) with ID:=x} from hq);exact .inr (htl _ hy)
attribute [local irreducible] EC EV cc cK dT j3 sG
theorem xL (s:aG) (id n:Int) (h0:I 0) (hs:ja I D s) (hl:s.ah.length≤L) (hL:L≤900000):EC prog 147 [.agg s.c,.int .u64 id,.int .i64 n] [] fun r N=>N=[]∧∃x:aG×Int,(x.2=0→ja I D x.1∧x.1.ah.length≤L+1)∧r= .bS [.agg x.1.c,.int .i64 x.2]:=by
 refine EC.bh ?_;refine nW ab (ca 147) func147 ntmps147 results147 ?_;have hsl:s.ah.length≤1000000000:=by omega
 have bF:∀(c:Int) (B:List aI),c≠0→∃x:aG×Int,(x.2=0→ja I D x.1∧x.1.ah.length≤L+1)∧Lt B (SV.bS [SV.agg (default:aG).c,SV.int IntKind.i64 c]) (SV.bS [SV.agg x.1.c,SV.int IntKind.i64 x.2]):=fun c B hc=>
  ⟨(default,c),fun e0=>absurd e0 hc,Lt.t2 (a6.agg (eU.pl rfl)) (a6.jC rfl)⟩
 (repeat' (first|with_reducible (first|intro _|apply And.intro)|refine eK ab ?_|(refine EC.aM (lI s id hsl) ?_;rintro ⟨_,_⟩ _)|fail))
 ·rename_i o e hx fr1 he;exact bF e _ (by simpa using he)
 rename_i o e hx fr1 he;obtain ⟨ho1,hk,hst⟩:=hx (by simpa using he);simp only at ho1 hk hst;have ho:cG I D o:=by rw [ho1];exact hs.get h0
 have hP:pB I D o:=⟨ho,rV.of (ho.pr hk) hst⟩;have hpt:=@Bi I D o n hP;have hal:=xT o.ae n;generalize j3 o.ae n=q at hpt hal;obtain ⟨p,e2⟩:=q;(repeat' (first|with_reducible (first|intro _|apply And.intro)|refine eK ab ?_|refine EC.use (hal) ?_|refine EC.use (ee s {o with ae:=p} hsl) ?_|fail))
 ·rename_i he2;exact bF e2 _ (by simpa using he2)
 rename_i he2;have h2:=hpt (by simpa using he2);exact ⟨((cK s {o with ae:=p}).1,0),fun _=>⟨hs.put h2.tocG,le_trans (iG _ _) (by omega)⟩,Lt.t2 (a6.FD rfl) (a6.jC rfl)⟩
theorem v7 (s:aG) (p:aP) (ids:List Int) (h0:I 0) (hs:ja I D s) (hl:s.ah.length≤L) (hL:L≤600000) (hc:p.Code.length≤1000000) (hp:p.Strings.length≤1000000) (hi:iR I ids) (hd:∀x,D x→I x):EC prog 149 [.agg s.c,.agg p.c,bG 1 (aS .u64) default ids] [] fun r N=>N=[]∧∃x:aG×Int,(x.2=0→ja (fun y=>I y∨y∈ids) D x.1∧x.1.ah.length≤L+65)∧r= .bS [.agg x.1.c,.int .i64 x.2]:=by
 refine EC.bh ?_;refine nW ab (ca 149) func149 ntmps149 results149 ?_;have hsl:s.ah.length≤1000000000:=by omega
 have hil:=hi.ln;have bF:∀(c:Int) (B:List aI),c≠0→∃x:aG×Int,(x.2=0→ja (fun y=>I y∨y∈ids) D x.1∧x.1.ah.length≤L+65)∧Lt B (SV.bS [SV.agg (default:aG).c,SV.int IntKind.i64 c]) (SV.bS [SV.agg x.1.c,SV.int IntKind.i64 x.2]):=fun c B hc=>
  ⟨(default,c),fun e0=>absurd e0 hc,Lt.t2 (a6.agg (eU.pl rfl)) (a6.jC rfl)⟩
 (repeat' (first|(with_reducible intro hh;first|subst hh|(revert hh;intro _))|with_reducible apply And.intro|refine eK ab ?_|(refine EC.aM (oW s ids hsl (by omega)) ?_;rintro _ _)|fail))<;>(first|(exact bF 15 _ (by decide))|(exact bF 2 _ (by decide))|skip);rename_i hne;have hn1:1≤ids.length:=by simp at hne;cases ids with
  |nil=>simp at hne
  |cons a l=>simp
 have hNw:=Ae (ids.getD 0 default) p (ids.drop 1) hc hp (by simp;omega);rw [show bG 1 (aS .u64) default (ids.drop 1)= .sl false 1 (ids.length - 1) (cA (aS .u64) default (ids.drop 1)) by rw [←List.length_drop];rfl] at hNw;have hok:=@GI I D p ids hi hd hn1 hc hp;generalize sG (ids.getD 0 default) p (ids.drop 1)=q at hNw hok;obtain ⟨o,e⟩:=q;refine dB (σ:=aN) [2,3,6,7] (fun r=>[(8,.bx 3 r 36 0 0),(9,.int .i64 e)]) (fun B r=>B ++ [.row r 76 36 [o.c]]) (fun _=>True) ?_ ?_;rotate_left 1
 ·(repeat' (first|with_reducible (first|intro _|apply And.intro)|refine EC.use (hNw) ?_|refine dM ab 9 [0,1,2,3,4,5,6,7,8,9,10,11,12,13] [0,1,4,5] bZ fun R hR=>?_|refine mV ab 2 3 10 ?_ ?_ ?_|refine bT ab 3 10 ?_ ?_|refine bT ab 2 10 ?_ ?_|refine bT ab 2 3 ?_ ?_|refine bT ab 6 10 ?_ ?_|refine dC ab 3 ?_|refine dC ab 2 ?_|refine dR ab [7,8,9,10,11,12] ?_|refine dR ab [6,7,8,9,11,12] ?_|refine dR ab [7,8,9,11,12] ?_|(refine hR _ _ ?_;refine sA ?_)|fail))<;>(first|omega|(exact gg _ trivial))
 rintro h3 -;simp only [bK,dd,push_cast,simprocAttr];(repeat' (first|with_reducible (first|intro _|apply And.intro)|refine eK ab ?_|refine EC.use (ee s o hsl) ?_|refine wA ab ?_|fail))<;>(first|assumption|skip)
 ·rename_i he;exact bF e _ (by simpa using he)
 rename_i he;have ho:=hok (by simpa using he);have hs1:ja (fun y=>I y∨y∈ids) D s:=hs.mono fun _ h=> .inl h;refine aT ab [0,2,3,6,7,42,43] (fun x:Nat×aG=>[(44,.int .i64 x.1)]) (fun B x=>cP B 0 [x.2.c]) (fun x=>x.1≤ids.length - 1∧ja (fun y=>I y∨y∈ids) D x.2∧x.2.ah.length≤L+1+x.1) (fun x=>ids.length - 1 - x.1) (0,(cK s o).1) ⟨zero_le _,hs1.put ho,le_trans (iG _ _) (by show _≤L+1+0;omega)⟩ ?_;rintro ⟨i,s2⟩ ⟨hi2,hs2,hl2⟩;replace hi2:i≤ids.length - 1:=hi2;replace hl2:s2.ah.length≤L+1+i:=hl2;replace hs2:ja (fun y=>I y∨y∈ids) D s2:=hs2;have hsl2:s2.ah.length≤1000000000:=by omega
 have hw:=wI i;simp only [hw,push_cast,simprocAttr];(repeat' (first|with_reducible (first|intro _|apply And.intro)|refine EC.use (qs _) ?_|refine EC.use (ee s2 _ hsl2) ?_|refine dM ab 7 [0,1,2,3,4,5,6,7,8,9,10,11,12,13] [1] bZ fun R hR=>?_|refine bT ab 0 2 ?_ ?_|refine dR ab [2,3,4,5,6,7] ?_|refine dR ab [3,4,5,6,7] ?_|refine dR ab [4,5,6,7] ?_|refine dC ab 0 ?_|(refine hR _ _ ?_;refine sA ?_)|fail))<;>(first|omega|(exact ⟨(s2,0),fun _=>⟨hs2,(by show s2.ah.length≤L+65;omega)⟩,Lt.t2 (a6.FD rfl) (a6.jC rfl)⟩)|skip)
 all_goals
  (try simp only [hw]);exact a7 (i+1,(cK s2 {(default:af) with ID:=ids.getD (1+i) default,aU:=2,fF:=replicate 16 0}).1) ⟨by show i+1≤_;omega,hs2.put (Bm (.inl h0) (.inr (bk (by omega)))),le_trans (iG _ _) (by show _≤L+1+(i+1);omega)⟩
end
section
variable {P:Program} {E:Env} {n:Nat} {k:Kn} {t:aV} {B:List aI}
theorem EC.iU (hE:cI P E) {f:FuncId} {fn:Func} {c:Code} {args:List SV} {B:List aI} {Q:SV→List aI→Prop} (hc:fK P f=true) (hf:P.funcs[f]?=some fn) (hb:fn.body=some c) (hn:args.length≤fn.ntmps)
  (h:EV P fn.ntmps c (fL 0 args) B (Mi (wZ E fn.results.toList Q)).f):EC P f args B Q:=EC.enter hE hc hf hb hn h
theorem bR (hE:cI P E) {x y:Code} (h:wl P E n x (i6 P n y k) t B):EV P n (.seq x y) t B k.f:=
 ph fun K hK=>(fU hE x _ t B h).mono fun e t' B' hq=>by
  cases e<;>try exact hq
  exact hK _ _ hq
theorem Ci {σ:Type} (live:List Nat) (V:σ→aV) (R:List aI→σ→List aI) (Inv:σ→Prop) {x y:Code}
  (hrest:∀s,Inv s→EV P n y (V s ++ bK t live) (R B s) k.f) (h:EV P n x t B (Cp (MT V (R B) Inv (bK t live)) k).f):EV P n (.seq x y) t B k.f:=
 ph fun K hK=>(dB (k:=k) live V R Inv hrest h).mono fun e t' B' hq=>by
  cases e<;>try exact hq
  exact hK _ _ hq
theorem bN (hE:cI P E) {x:Code} (h:wl P E n x k t B):EV P n x t B k.f:=fU hE _ _ _ _ h
end
section
theorem Lk.row {α:Type} {m:Nat} {B:List aI} {i e n E:Nat} {h:aN} {xs:List (List SV)} {cells:α→List SV} {d:α} {l:List α} (hm:m≤i) (hB:au B i= .row h E e xs) (hx:xs=l.map cells) (hn:n=l.length):Lk m B (.row i h e 0 n) (bG e cells d l):=by
 subst hx hn;have hsel:bc m i=true:=by simpa [bc] using hm
 refine ⟨?_,?_⟩
 ·simp only [dE,fw,cf,hsel,hB];exact ⟨trivial,trivial,by simp⟩
 ·simp only [fu,iT,gl,hsel,hB];exact bq.sl (fun h=>h) (.inr rfl) fun k hk=>by simp [getD,hk,cA]
attribute [local irreducible] EC EV
end
section
attribute [local irreducible] EC EV
def PN (d:fe):Prop:=d.L.length≤9223372036854775807∧0≤d.At∧d.At≤d.L.length
abbrev WK:={d:fe // PN d}
abbrev f' (h:aN) (d:fe):aI:= .row h 110 2 [d.c]
def GQ (v n:Int):Int:=if decide (v.tmod n < 0)=true then IntKind.i64.wrap (v.tmod n+n) else v.tmod n
theorem Ir {v n:Int} (hn:1≤n) (h2:n≤4611686018427387904):0≤GQ v n∧GQ v n < n:=by
 have h1:v.tmod n < n:=Int.tmod_lt_of_pos v (by omega);have h3:-n < v.tmod n:=by
  have:=Int.lt_tmod_of_pos v (b:=n) (by omega);omega
 unfold GQ
 split
 ·rename_i g;simp at g;rw [bu (by omega)];omega
 ·rename_i g;simp at g;omega
theorem tN (v n:Int) (hn:1≤n) (h2:n≤4611686018427387904):EC prog 20 [.int .i64 v,.int .i64 n] [] fun r N=>N=[]∧r= .int .i64 (GQ v n):=by
 have h1:v.tmod n < n:=Int.tmod_lt_of_pos v (by omega);have h3:-n < v.tmod n:=by
  have:=Int.lt_tmod_of_pos v (b:=n) (by omega);omega
 have hw:IntKind.i64.wrap (v.tmod n)=v.tmod n:=bu (by omega);refine EC.cQ ?_;refine nW ab (ca 20) func20 ntmps20 results20 ?_;(repeat' (with_reducible (first|intro _|apply And.intro)))<;>(first|omega|(refine Lt.int (if_pos ?_).symm;first|assumption|(exact decide_eq_true (by assumption)))|(refine Lt.int (if_neg ?_).symm;(simp_all;done)))
theorem B7 (l:List Int):EC prog 11 [bG 1 (aS .i64) default l] [] fun r N=>∃h,r= .bx 0 h 2 0 0∧N=[f' h ⟨l,0⟩]:=by
 refine EC.close 1 ?_;refine nW ab (ca 11) func11 ntmps11 results11 ?_;(repeat' (first|with_reducible (first|intro _|apply And.intro)|exact trivial))<;>((exact ⟨_,rfl,rfl⟩))
theorem Ar (h:aN) (d:fe):EC prog 53 [.bx 0 h 2 0 0] [f' h d] fun r N=>r= .bool (decide (d.At < d.L.length))∧N=[f' h d]:=by
 refine EC.mono (Q:=fun r N=>∃x:fe,x=d∧r= .bool (decide (d.At < d.L.length))∧N=[f' h x]) (EC.cM ?_) (fun r N ⟨x,h1,h2,h3⟩=>⟨h2,h1▸h3⟩);refine nW ab (ca 53) func53 ntmps53 results53 ?_;(repeat' (first|refine dN ab [] [] [0,1,2,3,4,5,6,7,8,9,10] bZ fun R hR=>?_|(refine hR _ _ ?_;refine sA ?_)|refine wA ab ?_|fail))<;>((exact ⟨d,rfl,Lk.bool rfl,rfl⟩))
theorem Aq (h:aN) (d:WK) (n:Int) (hn:1≤n) (h2:n≤4611686018427387904):EC prog 25 [.bx 0 h 2 0 0,.int .i64 n] [f' h d.1] fun r N=>∃x:Int×WK,(0≤x.1∧x.1 < n)∧r= .int .i64 x.1∧N=[f' h x.2.1]:=by
 obtain ⟨⟨L,a⟩,hd1,hd2,hd3⟩:=d;replace hd1:L.length≤9223372036854775807:=hd1;replace hd2:0≤a:=hd2;replace hd3:a≤L.length:=hd3;refine EC.cM ?_;refine nW ab (ca 25) func25 ntmps25 results25 ?_;have hr:=fun v=>Ir (v:=v) hn h2;(repeat' (first|with_reducible (first|intro _|apply And.intro)|refine eK ab ?_|refine aX 0 (Ar h _) rfl ?_|refine EC.use (tN _ n hn h2) ?_|refine dN ab [] [] [0,1,2,3,4,5,6,7,8,9,10,11,12,13] bZ fun R hR=>?_|refine dR ab [13] ?_|(refine hR _ _ ?_;refine sA ?_)|refine wA ab ?_|fail))<;>(first|(exact ⟨(0,⟨⟨L,a⟩,hd1,hd2,hd3⟩),⟨Int.le_refl _,by show (0:Int) < n;omega⟩,Lk.int rfl,rfl⟩)|skip)
 all_goals
  have hlt:a < L.length:=by simpa using ‹(!decide (a < (L.length:Int)))=false›
  have hw:IntKind.i64.wrap (a+1)=a+1:=bu (by omega);have hw2:IntKind.i64.wrap (a+1 - 1)=a:=by rw [bu (by omega)];omega
  first
   |(rw [hw,hw2];exact ⟨(GQ _ n,⟨⟨L,a+1⟩,hd1,by show 0≤a+1;omega,by show a+1≤L.length;omega⟩),hr _,Lk.int rfl,rfl⟩)
   |(rw [hw,hw2];omega)
   |omega
theorem c8 (h:aN) (d:WK) (n:Int) (hn:1≤n∧n≤4611686018427387904):EC prog 25 [.bx 0 h 2 0 0,.int .i64 n] [f' h d.1] fun r N=>∃x:Int×WK,(0≤x.1∧x.1 < n)∧r= .int .i64 x.1∧N=[f' h x.2.1]:=Aq h d n hn.1 hn.2
theorem Lt.ins {B:List aI} {x y:bp} (h:x=y):Lt B (.agg x.c) (.agg y.c):=by subst h;exact Lt.agg (eU.obj (cs:=x.c) (fun s B=>by rw [bp.fk]) (fun s B=>by rw [bp.fz]))
theorem ym (h:aN) (d:WK) (lo hi:Int) (h1:lo≤hi) (h2:-1000000000≤lo) (h3:hi≤1000000000):EC prog 41 [.bx 0 h 2 0 0,.int .i64 lo,.int .i64 hi] [f' h d.1] fun r N=>∃x:Int×WK,(lo≤x.1∧x.1≤hi)∧r= .int .i64 x.1∧N=[f' h x.2.1]:=by
 refine EC.cM ?_;refine nW ab (ca 41) func41 ntmps41 results41 ?_;have hw:IntKind.i64.wrap (hi - lo)=hi - lo:=bu (by omega);have hw2:IntKind.i64.wrap (hi - lo+1)=hi - lo+1:=bu (by omega);(repeat' (first|refine eK ab ?_|((refine aE 0 (c8 h d _ ?_) rfl ?_;(focus ((try simp only [hw,hw2]);constructor<;>omega));rintro ⟨v,d2⟩ ⟨hv1,hv2⟩))|fail))
 all_goals
  (try simp only [hw,hw2] at *);have hw3:IntKind.i64.wrap (lo+v)=lo+v:=bu (by omega);exact ⟨(lo+v,d2),⟨by show lo≤lo+v;omega,by show lo+v≤hi;omega⟩,by rw [hw3];exact Lk.int rfl,rfl⟩
theorem js (h:aN) (d:WK) (lo hi:Int) (hl:lo≤hi∧-1000000000≤lo∧hi≤1000000000):EC prog 41 [.bx 0 h 2 0 0,.int .i64 lo,.int .i64 hi] [f' h d.1] fun r N=>∃x:Int×WK,(lo≤x.1∧x.1≤hi)∧r= .int .i64 x.1∧N=[f' h x.2.1]:=ym h d lo hi hl.1 hl.2.1 hl.2.2
theorem rN (a:Int):EC prog 76 [.int .i64 a] [] fun r N=>N=[]∧∃x:bp,True∧r= .agg x.c:=by
 refine EC.bh ?_;refine nW ab (ca 76) func76 ntmps76 results76 ?_;(repeat' (with_reducible intro _))<;>((exact ⟨_,Lt.ins rfl⟩))
theorem Ao (a b:Int):EC prog 77 [.int .i64 a,.int .i64 b] [] fun r N=>N=[]∧∃x:bp,True∧r= .agg x.c:=by
 refine EC.bh ?_;refine nW ab (ca 77) func77 ntmps77 results77 ?_;(repeat' (with_reducible intro _))<;>((exact ⟨_,Lt.ins rfl⟩))
theorem o4 (a b:Int):EC prog 78 [.int .i64 a,.int .i64 b] [] fun r N=>N=[]∧∃x:bp,True∧r= .agg x.c:=by
 refine EC.bh ?_;refine nW ab (ca 78) func78 ntmps78 results78 ?_;(repeat' (with_reducible intro _))<;>((exact ⟨_,Lt.ins rfl⟩))
theorem tL (a b:Int):EC prog 79 [.int .i64 a,.int .i64 b] [] fun r N=>N=[]∧∃x:bp,True∧r= .agg x.c:=by
 refine EC.bh ?_;refine nW ab (ca 79) func79 ntmps79 results79 ?_;(repeat' (with_reducible intro _))<;>((exact ⟨_,Lt.ins rfl⟩))
theorem tM (a b c:Int):EC prog 80 [.int .i64 a,.int .i64 b,.int .i64 c] [] fun r N=>N=[]∧∃x:bp,True∧r= .agg x.c:=by
 refine EC.bh ?_;refine nW ab (ca 80) func80 ntmps80 results80 ?_;(repeat' (with_reducible intro _))<;>((exact ⟨_,Lt.ins rfl⟩))
theorem Ap (a:Int):EC prog 81 [.int .i64 a] [] fun r N=>N=[]∧∃x:bp,True∧r= .agg x.c:=by
 refine EC.bh ?_;refine nW ab (ca 81) func81 ntmps81 results81 ?_;(repeat' (with_reducible intro _))<;>((exact ⟨_,Lt.ins rfl⟩))
theorem rM (a b c:Int):EC prog 82 [.int .i64 a,.int .i64 b,.int .i64 c] [] fun r N=>N=[]∧∃x:bp,True∧r= .agg x.c:=by
 refine EC.bh ?_;refine nW ab (ca 82) func82 ntmps82 results82 ?_;(repeat' (with_reducible intro _))<;>((exact ⟨_,Lt.ins rfl⟩))
theorem qu (a b c:Int):EC prog 83 [.int .i64 a,.int .i64 b,.int .i64 c] [] fun r N=>N=[]∧∃x:bp,True∧r= .agg x.c:=by
 refine EC.bh ?_;refine nW ab (ca 83) func83 ntmps83 results83 ?_;(repeat' (with_reducible intro _))<;>((exact ⟨_,Lt.ins rfl⟩))
end
def gw (m:Nat) (B:List aI) (cs ds:List SV):Prop:=bC (bc m) B cs∧eD (ew (bc m) B cs) ds
def JP (m:Nat) (B:List aI) (xs ys:List (List SV)):Prop:=xs.length=ys.length∧∀(k:Nat) (cs ds:List SV),xs[k]?=some cs→ys[k]?=some ds→(∀k1 k2 a v,cs≠[.int k1 a,.int k2 v])∧gw m B cs ds
def wY (m:Nat) (B:List aI) (o o':aI):Prop:=o'=o∨o'= .gone∨∃h E e xs ys,o= .row h E e xs∧o'= .row h E e ys∧JP m B xs ys
def Hz (m:Nat) (B:List aI):Nat→List aI→Prop
 |_,[]=>True
 |j,o :: R=>(j < m∧wY m B (au B j) o)∧Hz m B (j+1) R
theorem Dy {m:Nat} {B:List aI}:∀{R:List aI} {j:Nat},Hz m B j R→∀i,i < R.length→j+i < m∧wY m B (au B (j+i)) (au R i)
 |[],_,_,i,hi=>by cases hi
 |o :: R,j,h,0,_=>by simpa [au] using h.1
 |o :: R,j,h,i+1,hi=>by
  have:=Dy h.2 i (by simpa using hi);rw [show j+1+i=j+(i+1) by omega] at this;simpa [au] using this
theorem Ny {m j:Nat} {X:Nat→Prop} {w:World} {B:List aI} (hs:Sat X w B) {h:aN} {E e:Nat} {xs ys:List (List SV)} (hB:au B j= .row h E e xs) (hf:JP m B xs ys):aI.ok (dz X B (bc m)) w (.row h E e ys):=by
 have hok:=hs.ok j;rw [hB] at hok
 cases h with
 |void a=>
  simp only [aI.ok] at hok ⊢;subst hok;exact List.length_eq_zero_iff.1 hf.1.symm
 |mp b=>
  obtain ⟨arr,clock,h1,h2⟩:=hok
  cases xs with
  |nil=>rw [List.length_eq_zero_iff.1 hf.1.symm];exact ⟨arr,clock,h1,h2⟩
  |cons x xs=>
   exfalso
   cases ys with
   |nil=>simp [JP] at hf
   |cons y ys=>
    have:=(hf.2 0 x y rfl rfl).1
    cases hl:arr.toList with
    |nil=>rw [hl] at h2;exact h2
    |cons m ms=>
     rw [hl] at h2;obtain ⟨⟨k1,k2,a,v,_,_,_,_,rfl⟩,_⟩:=h2;exact this _ _ _ _ rfl
 | «at» b cap=>
  obtain ⟨vs,k1,k2,k3,k4,k5⟩:=hok;have hget:∀{k:Nat} {ds:List SV},ys[k]?=some ds→∃cs,xs[k]?=some cs∧bC (bc m) B cs∧eD (ew (bc m) B cs) ds:=fun {k ds} hy=>by
   have hk:k < ys.length:=(List.getElem?_eq_some_iff.1 hy).1;have hx:xs[k]?=some (xs[k]'(by rw [hf.1];exact hk)):=List.getElem?_eq_getElem (by rw [hf.1];exact hk);exact ⟨_,hx,(hf.2 k _ _ hx hy).2⟩
  refine ⟨vs,k1,k2,by rw [←hf.1];exact k3,fun k ds hy=>?_,fun k j ds c hy hc=>?_⟩
  ·obtain ⟨cs,h1,h2,h3⟩:=hget hy;rw [←k4 k cs h1,←(fv hs h2).1];exact h3.spec.1.symm
  ·obtain ⟨cs,h1,h2,h3⟩:=hget hy;obtain ⟨d,h4,h5⟩:=h3.spec.2 j c hc;have hjl:j < cs.length:=by
    have:=(List.getElem?_eq_some_iff.1 h4).1
    rwa [(fv hs h2).1] at this
   let ws:Array Value:=((range cs.length).map fun j=>vs.getD (k*e+j) undef).toArray
   have hws:∀j,j < cs.length→ws.getD j undef=vs.getD (k*e+j) undef:=fun j hj=>by
    simp [ws,Array.getD,hj]
   have h6:=(fv hs h2).2 ws (fun i a ha=>by
    have hi:i < cs.length:=(List.getElem?_eq_some_iff.1 ha).1
    rw [hws i hi];exact k5 k i cs a h1 ha) j d h4
   rw [hws j hjl] at h6;exact h5 _ _ _ h6
theorem Eo {m:Nat} {B:List aI} {o o':aI} (h:wY m B o o'):∀b,b∈o'.blocks→b∈o.blocks:=by
 rcases h with rfl|rfl|⟨h,E,e,xs,ys,rfl,rfl,-⟩
 ·exact fun b hb=>hb
 ·intro b hb;simp [aI.blocks] at hb
 ·cases h<;>exact fun b hb=>hb
theorem Gl {m:Nat} {X:Nat→Prop} {w:World} {B R:List aI} (hs:Sat X w B) (hr:Hz m B 0 R):Sat (dz X B (bc m)) w R∧Ext X w B (dz X B (bc m)) w R:=by
 have hb:∀i,au (B.take m) i=if bc m i then .gone else au B i:=fun i=>by
  rw [eQ];by_cases hi:i < m
  ·have:bc m i=false:=by simp [bc];omega
   simp [hi,this]
  ·have:bc m i=true:=by simp [bc];omega
   simp [hi,this]
 have hs1:=hs.dY hb;have hx1:=Ext.dY (X:=X) (w:=w) hb;have hR:∀i,au R i= .gone∨(i < m∧wY m B (au B i) (au R i)):=fun i=>by
  by_cases hi:i < R.length
  ·have:=Dy hr i hi;rw [Nat.zero_add] at this;exact .inr this
  ·left;simp [au,List.getElem?_eq_none (Nat.le_of_not_lt hi)]
 have sub:∀i b,b∈(au R i).blocks→b∈(au (B.take m) i).blocks:=fun i b h=>by
  rcases hR i with h1|⟨h1,h2⟩
  ·rw [h1] at h;simp [aI.blocks] at h
  ·rw [eQ,if_pos h1];exact Eo h2 b h
 refine ⟨⟨fun i j b h1 h2=>hs1.inj i j b (sub i b h1) (sub j b h2),fun i b h1=>hs1.lt i b (sub i b h1),hs1.xg,fun b hx ⟨i,hi⟩=>hs1.apart b hx ⟨i,sub i b hi⟩,fun i=>?_⟩,⟨rfl,rfl,rfl,le_refl _,fun _ _ _=>rfl,hx1.AS,hx1.pT,fun b ⟨i,hi⟩=>hx1.own b ⟨i,sub i b hi⟩⟩⟩;rcases hR i with h1|⟨h1,h2⟩
 ·rw [h1];trivial
 ·rcases h2 with h2|h2|⟨h,E,e,xs,ys,h2,h3,h4⟩
  ·have:=hs1.ok i;rw [eQ,if_pos h1] at this;rw [h2];exact this
  ·rw [h2];trivial
  ·rw [h3];exact Ny hs h2 h4
theorem wS {P:Program} {n:Nat} {c:Code} {t:aV} {B:List aI} {Q Q':gX} (h:EV P n c t B Q) (hq:∀e t B,Q e t B→Q' e t B∨∃m t' R,Ed m B t t'∧Hz m B 0 R∧Q' e t' R):EV P n c t B Q':=by
 intro X0 w0 B0 X w a he hs;refine wp_mono (h X0 w0 B0 X w a he hs) fun e a' w' hg=>?_;obtain ⟨X1,t1,B1,h1,h2,h3⟩:=hg;rcases hq e t1 B1 h1 with h4|⟨m,t',R,h4,h5,h6⟩
 ·exact ⟨X1,t1,B1,h4,h2,h3⟩
 ·obtain ⟨k1,k2⟩:=Gl h2.sat h5;refine ⟨dz X1 B1 (bc m),t',R,h6,⟨h2.defers,k1,h2.den.1,fun i=>?_⟩,h3.trans k2⟩;rcases qU h4 i with h7|⟨h7,h8⟩
  ·rw [h7];exact .any _
  ·exact h8 _ _ _ (eR h2.sat (h2.den.2 i) h7)
theorem IX {P:Program} {n:Nat} {c:Code} {t:aV} {B:List aI} {Q:gX} (m:Nat) (t':aV) (R:List aI) (ht:Ed m B t t') (hr:Hz m B 0 R) (h:EV P n c t' R Q):EV P n c t B Q:=by
 intro X0 w0 B0 X w a he hs;obtain ⟨k1,k2⟩:=Gl hs.sat hr;refine h X0 w0 B0 _ w a (he.trans k2) ⟨hs.defers,k1,hs.den.1,fun i=>?_⟩;rcases qU ht i with h7|⟨h7,h8⟩
 ·rw [h7];exact .any _
 ·exact h8 _ _ _ (eR hs.sat (hs.den.2 i) h7)
section
variable {P:Program} {E:Env} {n:Nat} {k:Kn} {t:aV} {B:List aI}
def LN {σ:Type} (V:σ→aV) (R:σ→List aI) (Inv:σ→Prop) (live:aV) (t':aV) (B':List aI):Prop:=
 ∃s m,Inv s∧Ed m B' t' (V s ++ live)∧Hz m B' 0 (R s)
theorem kz {σ:Type} (live:List Nat) (V:σ→aV) (R:List aI→σ→List aI) (Inv:σ→Prop) {c y:Code}
  (hrest:∀s,Inv s→EV P n y (V s ++ bK t live) (R B s) k.f) (h:EV P n c t B (Cp (LN V (R B) Inv (bK t live)) k).f)
  (hk:∀s,kA (V s ++ bK t live) (V s ++ bK t live):=by intro s;first|(simp [kA,dd,bK];done)|fail):EV P n c t B (i6 P n y k).f:=
 pj live V R Inv (fun s hs t' B' hw hb=>pf hw hb (hrest s hs)) (by
  refine wS h fun e t' B' hq=>?_
  cases e<;>try exact .inl hq
  obtain ⟨s',m,h1,h3,h4⟩:=hq
  exact .inr ⟨m,_,_,h3,h4,s',h1,hk s',List.take_length⟩)
theorem dy {σ:Type} (live:List Nat) (V:σ→aV) (R:List aI→σ→List aI) (Inv:σ→Prop) {x y:Code}
  (hrest:∀s,Inv s→EV P n y (V s ++ bK t live) (R B s) k.f) (h:EV P n x t B (Cp (LN V (R B) Inv (bK t live)) k).f)
  (hk:∀s,kA (V s ++ bK t live) (V s ++ bK t live):=by intro s;first|(simp [kA,dd,bK];done)|fail):EV P n (.seq x y) t B k.f:=
 ph fun K hK=>(kz (k:=k) live V R Inv hrest h hk).mono fun e t' B' hq=>by
  cases e<;>try exact hq
  exact hK _ _ hq
end
theorem gw.obj {m:Nat} {B:List aI} {cs:List SV} (hfk:∀sel B,bC sel B cs=True) (hfz:∀sel B,ew sel B cs=cs):gw m B cs cs:=⟨by rw [hfk];trivial,by rw [hfz];exact eD.refl _⟩
def jv (m:Nat) (B:List aI) (s s':SV):Prop:=cf (bc m) B s∧bq (gl (bc m) B s) s'
theorem gw.put {m:Nat} {B:List aI} {cs ds r:List SV} {s s':SV} (h:gw m B cs ds) (o:Nat) (hs:jv m B s s') (he:aJ ds o [s']=r):gw m B (aJ cs o [s]) r:=by
 refine ⟨lj _ _ _ _ _ h.1 ⟨hs.1,trivial⟩,?_⟩;rw [mS];exact eD.put h.2 o hs.2 he
theorem gw.tW {m:Nat} {B:List aI} {cs ds xs ys r:List SV} (h:gw m B cs ds) (o:Nat) (hs:gw m B xs ys) (he:aJ ds o ys=r):gw m B (aJ cs o xs) r:=by
 refine ⟨lj _ _ _ _ _ h.1 hs.1,?_⟩;rw [mS];exact h.2.tW o hs.2 he
theorem gw.nil {m:Nat} {B:List aI}:gw m B [] []:=⟨trivial,.nil⟩
theorem gw.cons {m:Nat} {B:List aI} {s s':SV} {r r':List SV} (h:jv m B s s') (hr:gw m B r r'):gw m B (s :: r) (s' :: r'):=⟨⟨h.1,hr.1⟩,.cons h.2 hr.2⟩
theorem jv.row {α:Type} {m:Nat} {B:List aI} {i E e n:Nat} {h:aN} {xs:List (List SV)} {cells:α→List SV} {d:α} {l:List α} (hm:m≤i) (hB:au B i= .row h E e xs) (hx:xs=l.map cells) (hn:n=l.length):jv m B (.row i h e 0 n) (bG e cells d l):=by
 subst hx hn;have hsel:bc m i=true:=by simpa [bc] using hm
 refine ⟨?_,?_⟩
 ·simp [cf,hsel,hB]
 ·simp only [gl,hsel,hB];exact bq.sl (fun h=>h) (.inr rfl) fun k hk=>by simp [getD,hk,cA]
theorem jv.low {m:Nat} {B:List aI} {i e lo n:Nat} {h:aN} (hm:i < m):jv m B (.row i h e lo n) (.row i h e lo n):=by
 have hsel:bc m i=false:=by simp [bc];omega
 exact ⟨by simp [cf,hsel],by simp only [gl,hsel];exact bq.refl _⟩
theorem jv.nil {α:Type} {m:Nat} {B:List aI} {e e':Nat} {fl:Bool} {cells:α→List SV} {d:α} {f:Nat→List SV}:jv m B (.sl fl e' 0 f) (bG e cells d []):=⟨trivial,cB⟩
theorem jv.sl {m:Nat} {B:List aI} {e n:Nat} {fl:Bool} {f:Nat→List SV}:jv m B (.sl fl e n f) (.sl fl e n f):=⟨trivial,bq.refl _⟩
theorem jv.int {m:Nat} {B:List aI} {k:IntKind} {n:Int}:jv m B (.int k n) (.int k n):=⟨trivial,bq.refl _⟩
theorem jv.bool {m:Nat} {B:List aI} {b:Bool}:jv m B (.bool b) (.bool b):=⟨trivial,bq.refl _⟩
theorem wY.id {m:Nat} {B:List aI} {o o':aI} (h:o'=o):wY m B o o':= .inl h
theorem c_ {m j:Nat} {B:List aI} {o o2:aI} (d:j < m:=by decide) (h:o2=o:=by exact rfl):j < m∧wY m B o o2:=⟨d,.inl h⟩
theorem wY.one {m:Nat} {B:List aI} {o:aI} {h:aN} {E e:Nat} {cs ds:List SV} (ho:o= .row h E e [cs]) (h2:∀k1 k2 a v,cs≠[.int k1 a,.int k2 v]) (hf:gw m B cs ds):wY m B o (.row h E e [ds]):=
 .inr (.inr ⟨h,E,e,[cs],[ds],ho,rfl,rfl,fun k a b ha hb=>by
  cases k with
  |zero=>simp at ha hb;subst ha hb;exact ⟨h2,hf⟩
  |succ k=>simp at ha⟩)
theorem wY.EI {m:Nat} {B:List aI} {o:aI} {h:aN} {E e:Nat} {cs ds:List SV} (ho:o= .row h E e [cs]) (h2:cs.length≠2) (hf:gw m B cs ds):wY m B o (.row h E e [ds]):=
 wY.one ho (fun k1 k2 a v e=>h2 (by rw [e];rfl)) hf
theorem Pb.row {α:Type} {m:Nat} {B:List aI} {i E e n:Nat} {h:aN} {xs:List (List SV)} {cells:α→List SV} {d:α} {l:List α} (hm:m≤i) (hB:au B i= .row h E e xs) (hx:xs=l.map cells) (hn:n=l.length):dE (bc m) B (.row i h e 0 n)∧bq (fu (bc m) B (.row i h e 0 n)) (bG e cells d l):=jv.row hm hB hx hn
theorem du {σ:Type} {V:σ→aV} {R:σ→List aI} {Inv:σ→Prop} {live:aV} {t':aV} {B':List aI} (m:Nat) (s':σ) (hI:Inv s') (hr:Hz m B' 0 (R s'))
  (hw:Ed m B' t' (V s' ++ live):=by first|(simp [Ed,dd,dE,fu,fw,iT,cf,gl,bc,bq.refl];done)|((repeat (done));done)|fail):LN V R Inv live t' B':=⟨s',m,hI,hw,hr⟩
def yx (t:aV) (B:List aI) (t1:aV) (B1:List aI):Prop:=∀(X:Nat→Prop) (w:World) (n:Nat) (a:Act),St X w B t n a→∃X',St X' w B1 t1 n a∧Ext X w B X' w B1
theorem yx.refl {t:aV} {B:List aI}:yx t B t B:=fun X w n a h=>⟨X,h,Ext.refl _ _ _⟩
theorem yx.trans {t t1 t2:aV} {B B1 B2:List aI} (h:yx t B t1 B1) (k:yx t1 B1 t2 B2):yx t B t2 B2:=fun X w n a hs=>by
 obtain ⟨X1,h1,h2⟩:=h X w n a hs;obtain ⟨X2,h3,h4⟩:=k X1 w n a h1;exact ⟨X2,h3,h2.trans h4⟩
theorem yx.mv {t:aV} {B:List aI} (d i j:Nat) {h:aN} {e lo n:Nat} (hd:dd t d= .row i h e lo n) (hij:i≠j) (hi:i < B.length) (hj:j < B.length):yx t B ((d,.row j h e lo n) :: t) ((B.set j (au B i)).set i .gone):=fun X w k a hs=>by
 have hl:j < (B.set j (au B i)).length:=by simpa using hj
 have hl2:i < (B.set j (au B i)).length:=by simpa using hi
 have hg:∀x,au ((B.set j (au B i)).set i .gone) x=if x=i then .gone else if x=j then au B i else au B x:=fun x=>by
  rw [eo hl2]
  split
  ·rfl
  ·rw [eo hj]
 have src:∀x b,b∈(au ((B.set j (au B i)).set i .gone) x).blocks→(x=j∧b∈(au B i).blocks)∨(x≠j∧x≠i∧b∈(au B x).blocks):=fun x b hb=>by
  rw [hg] at hb
  split at hb
  ·simp [aI.blocks] at hb
  ·split at hb
   ·exact .inl ⟨‹_›,hb⟩
   ·exact .inr ⟨‹_›,‹_›,hb⟩
 have hown:∀b,hU ((B.set j (au B i)).set i .gone) b→hU B b:=fun b ⟨x,hx⟩=>by
  rcases src x b hx with ⟨-,h⟩|⟨-,-,h⟩
  ·exact ⟨i,h⟩
  ·exact ⟨x,h⟩
 refine ⟨X,⟨hs.defers,⟨fun x y b hx hy=>?_,fun x b hx=>?_,hs.sat.xg,fun b hb ho=>hs.sat.apart b hb (hown b ho),fun x=>?_⟩,hs.den.1,fun x=>?_⟩,⟨rfl,rfl,rfl,le_refl _,fun _ _ _=>rfl,fun _ h=>h,fun _ h=> .inl h,fun b hb=> .inl (hown b hb)⟩⟩
 ·rcases src x b hx with ⟨h1,h2⟩|⟨h1,h2,h3⟩<;>rcases src y b hy with ⟨k1,k2⟩|⟨k1,k2,k3⟩
  ·exact h1.trans k1.symm
  ·exact absurd (hs.sat.inj _ _ b h2 k3) (fun e=>k2 e.symm)
  ·exact absurd (hs.sat.inj _ _ b h3 k2) h2
  ·exact hs.sat.inj _ _ b h3 k3
 ·rcases src x b hx with ⟨h1,h2⟩|⟨h1,h2,h3⟩
  ·exact hs.sat.lt _ _ h2
  ·exact hs.sat.lt _ _ h3
 ·rw [hg]
  split
  ·trivial
  ·split
   ·exact hs.sat.ok i
   ·exact hs.sat.ok x
 ·by_cases hx:d=x
  ·subst hx;have h1:=hs.den.2 d;rw [hd] at h1;simp only [dd,if_true];generalize a.tmps.getD d undef=v at h1 ⊢
   cases h1 with
   |dh i a esz lo=>exact .dh _ _ _ _
   |rowAt i b cap esz n h=>exact .rowAt _ _ _ _ _ h
   |kS i b cap esz lo n c hn h=>exact .kS _ _ _ _ _ _ _ hn h
   |hO i b cap esz lo c a=>exact .hO _ _ _ _ _ _ _
  ·have h1:=hs.den.2 x;have:dd ((d,.row j h e lo n) :: t) x=dd t x:=if_neg (fun e:x=d=>hx e.symm);rw [this];exact h1
theorem LP {P:Program} {n:Nat} {c:Code} {t t1:aV} {B B1:List aI} {Q:gX} (h:yx t B t1 B1) (k:EV P n c t1 B1 Q):EV P n c t B Q:=fun X0 w0 B0 X w a he hs=>by
 obtain ⟨X',h1,h2⟩:=h X w n a hs;exact k X0 w0 B0 X' w a (he.trans h2) h1
theorem Ho {P:Program} {n:Nat} {c:Code} {t:aV} {B:List aI} {Q Q':gX} (h:EV P n c t B Q) (hq:∀e t B,Q e t B→Q' e t B∨∃t1 B1,yx t B t1 B1∧Q' e t1 B1):EV P n c t B Q':=by
 intro X0 w0 B0 X w a he hs;refine wp_mono (h X0 w0 B0 X w a he hs) fun e a' w' hg=>?_;obtain ⟨X1,t1,B1,h1,h2,h3⟩:=hg;rcases hq e t1 B1 h1 with h4|⟨t2,B2,h4,h5⟩
 ·exact ⟨X1,t1,B1,h4,h2,h3⟩
 ·obtain ⟨X',k1,k2⟩:=h4 _ _ _ _ h2;exact ⟨X',t2,B2,h5,k1,h3.trans k2⟩
section
variable {P:Program} {E:Env} {n:Nat} {k:Kn} {t:aV} {B:List aI}
def Se {σ:Type} (V:σ→aV) (R:σ→List aI) (Inv:σ→Prop) (μ:σ→Nat) (live:aV) (s:σ) (t':aV) (B':List aI):Prop:=
 ∃t1 B1,yx t' B' t1 B1∧NX V R Inv μ live s t1 B1
theorem Cj (hE:cI P E) {σ:Type} (live:List Nat) (V:σ→aV) (R:List aI→σ→List aI) (Inv:σ→Prop) (μ:σ→Nat) (s0:σ) {c:Code} (h0:Inv s0)
  (round:∀s,Inv s→wl P E n c (Cp (Se V (R B) Inv μ (bK t live) s) k) (V s ++ bK t live) (R B s)) (hw:kA t (V s0):=by first|exact ⟨rfl,trivial⟩|(simp [kA,dd];done)|(repeat (done)))
  (hb:R B s0=B:=by first|rfl|(simp [cP,cW,jA];done)):EV P n (.loop c) t B k.f:=
 jx live V R Inv μ s0 h0 hw hb fun s hs=>Ho (fU hE c _ _ _ (round s hs)) fun e t' B' h=>by
  cases e<;>try exact .inl h
  obtain ⟨t1,B1,h1,h2⟩:=h;exact .inr ⟨t1,B1,h1,h2⟩
end
theorem EC.zH {P:Program} {f:Nat} {args:List SV} {α:Type} {cells:α→List SV} {C:List α→Prop} {E e:Nat} (h:EC P f args [] fun r B'=>∃l:List α,C l∧∃hh n xs Bs,B'= .row hh E e xs :: Bs∧xs=l.map cells∧n=l.length∧r= .row 0 hh e 0 n):
  EC P f args [] fun r N=>∃s:List α×aN,C s.1∧r= .row 0 s.2 e 0 s.1.length∧N=[.row s.2 E e (s.1.map cells)]:=
 EC.close 1 (h.mono (by rintro r B' ⟨l,hc,hh,n,xs,Bs,rfl,rfl,rfl,rfl⟩;exact ⟨trivial,(l,hh),hc,rfl,rfl⟩))
def eE {α:Type} (d:α) (l:List α) (lo m:Nat):List α:=(range m).map fun k=>l.getD (lo+k) d
theorem bM {α:Type} (d:α) (l:List α) (lo m:Nat):(eE d l lo m).length=m:=by simp [eE]
theorem eu {α:Type} (c:α→List SV) (d:α) (l:List α) (lo m:Nat):sub (cA c d l) l.length lo m=cA c d (eE d l lo m):=by
 funext k
 unfold sub cA eE;by_cases h:k < m
 ·simp [h,getD]
 ·simp [h,getD]
theorem gS {α:Type} (c:α→List SV) (d:α) (l:List α) (lo m:Nat):map (cA c d (eE d l lo m)) (range m)=(eE d l lo m).map c:=by
 conv=>lhs;rw [show m=(eE d l lo m).length from (bM d l lo m).symm]
 rw [show (eE d l lo (eE d l lo m).length)=eE d l lo m by rw [bM]];exact zm c d _
theorem iX {α:Type} [Inhabited α] (c:α→List SV) (m:List α) (x:{i:Nat // i < m.length}):(map c m).getD x.1 []=c (m.getD x.1 default):=by simp [getD,x.2]
theorem l5 {α:Type} (m:List α) (x:{i:Nat // i < m.length}):(x.1 < m.length)=True:=by simp [x.2]
theorem j7 {α:Type} (m:List α) (x:{i:Nat // i < m.length}):((x.1:Int) < (m.length:Int))=True:=by simp [x.2]
theorem l6 {α:Type} (m:List α) (x:{i:Nat // i < m.length}):(0≤(x.1:Int))=True:=by simp
section
attribute [local irreducible] EC EV PN
inductive n9 {α:Type} (c:α→List SV):List (List SV)→List α→Prop where
 |nil:n9 c [] []
 |cons {x:α} {xs:List (List SV)} {l:List α} (h:n9 c xs l):n9 c (c x :: xs) (x :: l)
theorem n9.eq {α:Type} {c:α→List SV} {xs:List (List SV)} {l:List α} (h:n9 c xs l):xs=l.map c:=by
 induction h with
 |nil=>rfl
 |cons _ ih=>rw [ih];rfl
theorem jv.mi {α:Type} {m:Nat} {B:List aI} {i E e n:Nat} {h:aN} {xs:List (List SV)} {cells:α→List SV} {d:α} {l:List α} (hm:m≤i) (hB:au B i= .row h E e xs) (hx:n9 cells xs l) (hn:n=xs.length):jv m B (.row i h e 0 n) (bG e cells d l):=
 jv.row hm hB hx.eq (by rw [hn,hx.eq];simp)
theorem Lk.Cf {m:Nat} {B:List aI} {cs ds:List SV} (h:gw m B cs ds):Lk m B (.agg cs) (.agg ds):=by
 refine ⟨?_,?_⟩
 ·simp only [dE,fw];exact h.1
 ·simp only [fu,iT];exact bq.agg h.2
theorem RN (l:aP) (k:Nat) (s:List SV):take 3 (aJ l.c k s)=aJ l.c k s:=List.take_of_length_le (by rw [cd];exact le_refl _)
theorem RO (x y:aP) (k:Nat) (s:List SV):aJ x.c 0 (aJ y.c k s)=aJ y.c k s:=by
 have h:(aJ y.c k s).length=3:=by rw [cd];rfl
 match hp:aJ y.c k s,h with
 |[a,b,c],_=>rfl
theorem Qq (x y:aP) (k j:Nat) (s r:List SV):aJ x.c 0 (aJ (aJ y.c k s) j r)=aJ (aJ y.c k s) j r:=by
 have h:(aJ (aJ y.c k s) j r).length=3:=by rw [cd,cd];rfl
 match hp:aJ (aJ y.c k s) j r,h with
 |[a,b,c],_=>rfl
theorem Qp (l:aP) (k j:Nat) (s r:List SV):take 3 (aJ (aJ l.c k s) j r)=aJ (aJ l.c k s) j r:=List.take_of_length_le (by rw [cd,cd];exact le_refl _)
attribute [local push_cast] RN RO Qq Qp
abbrev Ez (p:aP):Prop:=p.Code.length≤100∧p.Strings.length≤8∧0≤p.aQ∧p.aQ < 3
theorem Gg {α:Type} {B:List aI} {i e n E:Nat} {h:aN} {cells:α→List SV} {d:α} {l:List α} (hB:au B i= .row h E e (l.map cells)) (hn:n=l.length):bq (fu (fun j=>j == i) B (.row i h e 0 n)) (bG e cells d l):=by
 subst hn;simp only [fu,iT,gl,beq_self_eq_true,hB];exact bq.sl (fun h=>h) (.inr rfl) fun k hk=>by simp [getD,hk,cA]
theorem IA {h hh:aN} {d2:WK} {B:List aI} {i n E:Nat} {xs:List (List SV)} {l:List bp} {x:aP} (hB:au B i= .row hh E 4 xs) (hi:1≤i) (hM:n9 bp.c xs l) (hn:n=xs.length) (hl:l.length≤100) (hx:x.Strings.length≤8∧0≤x.aQ∧x.aQ < 3):
  ∃y:aP×WK,Ez y.1∧Lk 1 B (.agg (aJ x.c 0 [.row i hh 4 0 n])) (.agg y.1.c)∧[f' h d2.1]=[f' h y.2.1]:=
 ⟨({x with Code:=l},d2),⟨hl,hx⟩,Lk.Cf (gw.put (gw.obj (fun s B=>by rw [aP.fk]) (fun s B=>by rw [aP.fz])) 0 (jv.mi hi hB hM hn) rfl),rfl⟩
theorem G9 {h hh h2:aN} {d2:WK} {B:List aI} {i j n k E F:Nat} {xs ys:List (List SV)} {l:List bp} {t:List (List UInt8)} {x:aP} (hB:au B i= .row hh E 4 xs) (hC:au B j= .row h2 F 1 ys) (hi:1≤i) (hj:1≤j) (ht:ys=t.map jz) (hk:k=t.length) (ht8:t.length≤8) (hM:n9 bp.c xs l) (hn:n=xs.length) (hl:l.length≤100) (hx:0≤x.aQ∧x.aQ < 3):
  ∃y:aP×WK,Ez y.1∧Lk 1 B (.agg (aJ (aJ x.c 1 [.row j h2 1 0 k]) 0 [.row i hh 4 0 n])) (.agg y.1.c)∧[f' h d2.1]=[f' h y.2.1]:=
 ⟨({x with Code:=l,Strings:=t},d2),⟨hl,ht8,hx⟩,Lk.Cf (gw.put (gw.put (gw.obj (fun s B=>by rw [aP.fk]) (fun s B=>by rw [aP.fz])) 1 (jv.row hj hC ht hk) rfl) 0 (jv.mi hi hB hM hn) rfl),rfl⟩
def QO:List (List UInt8):=[[47,100,101,118,48],[47,115,104,109],[47,115,101,109],[47,102],[47,112],[47,100,101,118,49]]
theorem n7 (h:aN) (d:WK) (hLoose:∀(d:WK) (names:List (List UInt8)),names.length=6→EC prog 84 [.bx 0 h 2 0 0,bG 1 jz default names] [f' h d.1] fun r N=>∃x:aP×WK,Ez x.1∧r= .agg x.1.c∧N=[f' h x.2.1]):EC prog 43 [.bx 0 h 2 0 0] [f' h d.1] fun r N=>∃x:aP×WK,Ez x.1∧r= .agg x.1.c∧N=[f' h x.2.1]:=by
 refine EC.cM ?_;refine nW ab (ca 43) func43 ntmps43 results43 ?_;(repeat' (first|with_reducible (first|intro _|apply And.intro)|refine eK ab ?_|((refine aE 0 (c8 h _ _ ?_) rfl ?_;(focus ((constructor<;>decide)));rintro ⟨v,d2⟩ hv))|((refine EC.JG 2 (by simp) (.cons (by simp [dE,fw,cf]) (bq.refl (.bx 0 h 2 0 0)) (.cons (by simp [dE,fw,cf,au]) (Gg (cells:=jz) (d:=default) (l:=QO) rfl rfl) .nil)) ?_;refine aE 0 (hLoose d2 QO rfl) rfl ?_;rintro ⟨pg,d3⟩ hpg))|(refine EC.aM (rN _) ?_;rintro _ _)|(refine EC.aM (Ao _ _) ?_;rintro _ _)|(refine EC.aM (o4 _ _) ?_;rintro _ _)|(refine EC.aM (tL _ _) ?_;rintro _ _)|(refine EC.aM (tM _ _ _) ?_;rintro _ _)|(refine EC.aM (Ap _) ?_;rintro _ _)|(refine EC.aM (rM _ _ _) ?_;rintro _ _)|(refine EC.aM (qu _ _ _) ?_;rintro _ _)|fail))<;>(first|(exact IA rfl (by decide) (by repeat first|exact n9.nil|apply n9.cons) rfl (by simp) (by refine ⟨zero_le _,?_,?_⟩<;>decide))|(exact G9 (t:=QO) rfl rfl (by decide) (by decide) rfl rfl (by decide) (by repeat first|exact n9.nil|apply n9.cons) rfl (by simp) (by decide))|(exact ⟨_,‹Ez _›,Lk.Cf (gw.obj (fun s B=>by rw [aP.fk]) (fun s B=>by rw [aP.fz])),rfl⟩))
end
end Go.Proofs.YteejbbfaphcgiaaGreat
