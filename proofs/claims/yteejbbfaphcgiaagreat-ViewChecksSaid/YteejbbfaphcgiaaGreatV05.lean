/- Part 5. -/
import Derived.Test.YteejbbfaphcgiaaGreatV03
import Derived.Test.YteejbbfaphcgiaaGreatV04
namespace Go.Proofs.YteejbbfaphcgiaaGreat
open Go.Lift _root_.Go.Proofs.Tryz
set_option linter.unusedSimpArgs false
set_option linter.unusedVariables false
set_option maxRecDepth 10000
open List (replicate range take drop getD take_length all_eq_true mem_range map)
open Nat (zero_le le_refl)
theorem qs (id:Int):EC prog 215 [.int .u64 id] [] fun r N=>N=[]∧r= .agg (af.c {(default:af) with ID:=id,aU:=2,fF:=replicate 16 0}):=by
 refine EC.fin (nA ab (ca 215) func215 ntmps215 results215 ?_)
 repeat first|refine ai ?_|refine aw ab fun fr=>⟨?_⟩
 (try refine sC ?_);refine ⟨lj _ _ _ _ _ (by rw [af.fk];trivial) ⟨⟨rfl,rfl,by simp⟩,trivial⟩,?_⟩;simp only [fu,iT,mS];refine sF ?_;exact bq.agg (eD.put (eD.refl _) 23 (show bq _ (bG 1 (aS .i64) default (replicate 16 0)) from Gh (xs:=(replicate 16 0).map (aS .i64)) rfl rfl) (af.Qv _ _))
def gV (o:af) (w v:Int):af×Int:=if ((ic o w).2 !=0)=true then (default,(ic o w).2) else ({o with fF:=o.fF.set w.toNat v},0)
def fY (o:af) (id:Int):af×Int:=if (!iQ o || id == 0)=true then (default,1) else ({o with ID:=id},0)
def H_ (x:af×Int):SV:= .bS [.agg x.1.c,.int .i64 x.2]
theorem CN {o:af} {w:Int} (h:((ic o w).2 !=0)=false):iQ o=true∧0≤w∧w < 16:=by
 unfold ic at h
 split at h
 ·simp at h
 ·split at h
  ·simp at h
  ·rename_i h1 h2;simp at h1 h2;exact ⟨h1,by omega,by omega⟩
theorem An (o:af) (w v:Int) (ho:cS o):EC prog 260 [.agg o.c,.int .i64 w,.int .i64 v] [] fun r B=>B=[]∧r=H_ (gV o w v):=by
 refine EC.fin (nA ab (ca 260) func260 ntmps260 results260 ?_);have c:=rL o w ho;simp only [Me] at c
 repeat first|refine ai ?_|refine aw ab fun fr=>⟨?_⟩
 (try refine aw ab fun fr=>⟨?_⟩);(refine EC.use (c) ?_;(try simp only [hg]);refine gA ab fun fr=>⟨?_⟩)
 repeat first|refine ai ?_|refine aw ab fun fr=>⟨?_⟩
 (apply az;exact rfl;all_goals intro h)
 ·repeat first|refine ai ?_|refine aw ab fun fr=>⟨?_⟩
  ((try refine sC ?_);refine sF ?_;refine bq.of_eq ?_;(simp only [gV,h,if_true,H_]))
 obtain ⟨h1,h2,h3⟩:=CN h;have hl:=qE h1
 repeat first|refine ai ?_|refine aw ab fun fr=>⟨?_⟩
 (try refine sC ?_);rw [show H_ (gV o w v)= .bS [.agg (af.c {o with fF:=o.fF.set w.toNat v}),.int .i64 0] by
  simp only [gV,h,Bool.false_eq_true,if_false,H_]]
 exact hY (.agg ((eU.O _).put 23 (gY.row (cells:=aS .i64) (d:=default) rfl (by simp) (by simp)) (af.Qv _ _))) .int
theorem yh (o:af) (id:Int) (ho:cS o):EC prog 311 [.agg o.c,.int .u64 id] [] fun r B=>B=[]∧r=H_ (fY o id):=by
 refine EC.fin (nA ab (ca 311) func311 ntmps311 results311 ?_)
 repeat first|refine ai ?_|refine aw ab fun fr=>⟨?_⟩
 (try refine aw ab fun fr=>⟨?_⟩);(refine EC.use (jr o ho) ?_;(try simp only [hg]);refine gA ab fun fr=>⟨?_⟩);(repeat (done));(apply az;exact rfl;all_goals intro h)
 ·repeat first|refine ai ?_|refine aw ab fun fr=>⟨?_⟩
  ((try refine sC ?_);refine sF ?_;refine bq.of_eq ?_;(simp only [fY,h,if_true,H_]))
 have hl:=qE (o:=o) (by simp at h;exact h.1)
 repeat first|refine ai ?_|refine aw ab fun fr=>⟨?_⟩
 (try refine sC ?_);rw [show H_ (fY o id)= .bS [.agg (af.c {o with ID:=id}),.int .i64 0] by
  simp only [fY,h,Bool.false_eq_true,if_false,H_]]
 exact hY (.agg ((eU.O _).put 23 (gY.row (cells:=aS .i64) (d:=default) rfl rfl rfl) (af.Qv _ _))) .int
def oI (o:af):Bool:=o.aU == 3 && !(o.ID == 0) && decide ((o.Data.length:Int)≤4096) && eB o 8
theorem Fj (o:af):eB o 8=ia {o with Data:=[]}:=by
 have h1:b6 .andNot .i64 1 8=1:=by decide
 have h2:b6 .andNot .i64 2 8=2:=by decide
 have h3:b6 .andNot .i64 4 8=4:=by decide
 have h4:b6 .andNot .i64 8 8=0:=by decide
 have h5:b6 .andNot .i64 16 8=16:=by decide
 have h6:b6 .andNot .i64 32 8=32:=by decide
 have h7:b6 .andNot .i64 64 8=64:=by decide
 have h8:b6 .andNot .i64 128 8=128:=by decide
 have h9:b6 .andNot .i64 256 8=256:=by decide
 have h10:b6 .andNot .i64 512 8=512:=by decide
 have h11:b6 .andNot .i64 1024 8=1024:=by decide
 have h12:b6 .andNot .i64 2048 8=2048:=by decide
 have h13:b6 .andNot .i64 4096 8=4096:=by decide
 apply Bool.eq_iff_iff.2;simp [eB,okB,ia,h1,h2,h3,h4,h5,h6,h7,h8,h9,h10,h11,h12,h13]
 constructor<;>(intro h;simp [h])
def qF (o:af):Bool:=o.aU == 4 && !(o.ID == 0) && !(o.Target == 0) && decide (1≤o.Refs) && decide (0≤o.Offset) && decide (o.Offset≤1073741824) && eB o 49
theorem EH (o:af):eB o 49=ia {o with Refs:=0,Target:=0,Offset:=0}:=by
 have h1:b6 .andNot .i64 1 49=0:=by decide
 have h2:b6 .andNot .i64 2 49=2:=by decide
 have h3:b6 .andNot .i64 4 49=4:=by decide
 have h4:b6 .andNot .i64 8 49=8:=by decide
 have h5:b6 .andNot .i64 16 49=0:=by decide
 have h6:b6 .andNot .i64 32 49=0:=by decide
 have h7:b6 .andNot .i64 64 49=64:=by decide
 have h8:b6 .andNot .i64 128 49=128:=by decide
 have h9:b6 .andNot .i64 256 49=256:=by decide
 have h10:b6 .andNot .i64 512 49=512:=by decide
 have h11:b6 .andNot .i64 1024 49=1024:=by decide
 have h12:b6 .andNot .i64 2048 49=2048:=by decide
 have h13:b6 .andNot .i64 4096 49=4096:=by decide
 apply Bool.eq_iff_iff.2;simp [eB,okB,ia,h1,h2,h3,h4,h5,h6,h7,h8,h9,h10,h11,h12,h13]
 constructor<;>(intro h;simp [h])
theorem jq (o:af) (ho:cS o):EC prog 292 [.agg o.c] [] fun r B=>B=[]∧r= .bool (oI o):=by
 refine EC.fin (nA ab (ca 292) func292 ntmps292 results292 ?_)
 repeat first|refine ai ?_|refine aw ab fun fr=>⟨?_⟩
 (try refine aw ab fun fr=>⟨?_⟩);refine ⟨fun hg=>?_,fun hg=>?_⟩
 ·(refine EC.F0 (cZ {o with Data:=[]}) (.cons (bq.agg (eD.put (eD.refl _) 24 cB (af.N1 _ _))) .nil) ?_;(try simp only [hg]);refine gA ab fun fr=>⟨?_⟩);(repeat (refine ai ?_));((try refine sC ?_);refine sF ?_;refine bq.of_eq ?_;(simp only [oI,←bne_eq,hg,Fj];(try rfl)))
 ·((try simp only [hg]);refine gA ab fun fr=>⟨?_⟩);(repeat (refine ai ?_));((try refine sC ?_);refine sF ?_;refine bq.of_eq ?_;(simp only [oI,←bne_eq,hg];(try rfl)))
theorem lM (o:af):EC prog 293 [.agg o.c] [] fun r B=>B=[]∧r= .bool (qF o):=by
 refine EC.fin (nA ab (ca 293) func293 ntmps293 results293 ?_)
 repeat first|refine ai ?_|refine aw ab fun fr=>⟨?_⟩
 (try refine aw ab fun fr=>⟨?_⟩);refine ⟨fun hg=>?_,fun hg=>?_⟩
 ·(refine EC.use (cZ {o with Refs:=0,Target:=0,Offset:=0}) ?_;(try simp only [hg]);refine gA ab fun fr=>⟨?_⟩);(repeat (refine ai ?_));((try refine sC ?_);refine sF ?_;refine bq.of_eq ?_;(simp only [qF,←bne_eq,hg,EH];(try rfl)))
 ·((try simp only [hg]);refine gA ab fun fr=>⟨?_⟩);(repeat (refine ai ?_));((try refine sC ?_);refine sF ?_;refine bq.of_eq ?_;(simp only [qF,←bne_eq,hg];(try rfl)))
def jc (o:af) (k:Int):Int×Bool×Int:=
 if (!oI o)=true then (0,false,1) else if decide (k < 0)=true then (0,false,2) else if decide ((o.Data.length:Int)≤k)=true then (0,false,0) else (o.Data.getD k.toNat default,true,0)
def Md (x:Int×Bool×Int):SV:= .bS [.int .u8 x.1,.bool x.2.1,.int .i64 x.2.2]
theorem yf (o:af) (k:Int) (ho:cS o):EC prog 347 [.agg o.c,.int .i64 k] [] fun r B=>B=[]∧r=Md (jc o k):=by
 refine EC.fin (nA ab (ca 347) func347 ntmps347 results347 ?_)
 repeat first|refine ai ?_|refine aw ab fun fr=>⟨?_⟩
 (try refine aw ab fun fr=>⟨?_⟩);(refine EC.use (jq o ho) ?_;(try simp only [hg]);refine gA ab fun fr=>⟨?_⟩);(repeat (done));(apply az;exact rfl;all_goals intro h)
 ·repeat first|refine ai ?_|refine aw ab fun fr=>⟨?_⟩
  ((try refine sC ?_);refine sF ?_;refine bq.of_eq ?_;(simp only [jc,h,if_true,Md]))
 have h0:=h;clear h
 repeat first|refine ai ?_|refine aw ab fun fr=>⟨?_⟩
 (apply az;exact rfl;all_goals intro h)
 ·repeat first|refine ai ?_|refine aw ab fun fr=>⟨?_⟩
  ((try refine sC ?_);refine sF ?_;refine bq.of_eq ?_;(simp only [jc,h0,h,if_true,if_false,Bool.false_eq_true,Md]))
 have h1:=h;clear h
 repeat first|refine ai ?_|refine aw ab fun fr=>⟨?_⟩
 (apply az;exact rfl;all_goals intro h)
 ·repeat first|refine ai ?_|refine aw ab fun fr=>⟨?_⟩
  ((try refine sC ?_);refine sF ?_;refine bq.of_eq ?_;(simp only [jc,h0,h1,h,if_true,if_false,Bool.false_eq_true,Md]))
 ·have h3:0≤k∧k < o.Data.length:=by simp at h h1;omega
  repeat first|refine ai ?_|refine aw ab fun fr=>⟨?_⟩
  ((try refine sC ?_);refine sF ?_;refine bq.of_eq ?_;(simp only [jc,h0,h1,h,if_true,if_false,Bool.false_eq_true,Md]))
def ME (D:List Int) (k:Nat) (c:Int):List Int:=(D ++ replicate (k+1 - D.length) 0).set k c
def fg (o:af) (k c:Int):af×Int:=
 if (!oI o)=true then (default,1) else if decide (k < 0)=true then (default,2) else if decide (4096≤k)=true then (default,9) else ({o with Data:=ME o.Data k.toNat c},0)
theorem vI {o:af} (h:(!oI o)=false):o.Data.length≤4096:=by
 simp [oI] at h;omega
theorem Gq (D:List Int) (j:Nat):(D ++ replicate j 0) ++ [0]=D ++ replicate (j+1) 0:=by
 rw [List.append_assoc,List.replicate_succ']
def K1 (x:af×Int):SV:= .bS [.agg x.1.c,.int .i64 x.2]
theorem wv (o:af) (k c:Int) (ho:cS o):EC prog 350 [.agg o.c,.int .i64 k,.int .u8 c] [] fun r B=>B=[]∧r=K1 (fg o k c):=by
 refine EC.fin (nA ab (ca 350) func350 ntmps350 results350 ?_)
 repeat first|refine ai ?_|refine aw ab fun fr=>⟨?_⟩
 (try refine aw ab fun fr=>⟨?_⟩);(refine EC.use (jq o ho) ?_;(try simp only [hg]);refine gA ab fun fr=>⟨?_⟩);(repeat (done));(apply az;exact rfl;all_goals intro h)
 ·repeat first|refine ai ?_|refine aw ab fun fr=>⟨?_⟩
  ((try refine sC ?_);refine sF ?_;refine bq.of_eq ?_;(simp only [fg,h,if_true,K1]))
 have h0:=h;clear h;have hl:=vI h0
 repeat first|refine ai ?_|refine aw ab fun fr=>⟨?_⟩
 (apply az;exact rfl;all_goals intro h)
 ·repeat first|refine ai ?_|refine aw ab fun fr=>⟨?_⟩
  ((try refine sC ?_);refine sF ?_;refine bq.of_eq ?_;(simp only [fg,h0,h,if_true,if_false,Bool.false_eq_true,K1]))
 have h1:=h;clear h
 repeat first|refine ai ?_|refine aw ab fun fr=>⟨?_⟩
 (apply az;exact rfl;all_goals intro h)
 ·repeat first|refine ai ?_|refine aw ab fun fr=>⟨?_⟩
  ((try refine sC ?_);refine sF ?_;refine bq.of_eq ?_;(simp only [fg,h0,h1,h,if_true,if_false,Bool.false_eq_true,K1]))
 have h2:=h;clear h;have hk:0≤k∧k < 4096:=by simp at h1 h2;omega
 obtain ⟨kn,rfl⟩:=Int.eq_ofNat_of_zero_le hk.1;(repeat (first|refine Gb ?_|refine aw ab fun fr=>⟨?_⟩));generalize fr 2=hz;refine lV ?_;refine jx [1,2,3,6,7] (fun s:Nat×aN=>[]) (fun B s=>cW (cP B 0 [aJ o.c 24 [.row 2 s.2 1 0 (o.Data ++ replicate s.1 0).length]]) 2 s.2 ((o.Data ++ replicate s.1 0).map (aS .u8))) (fun s=>s.1=0∨o.Data.length+s.1≤kn+1) (fun s=>kn+1 - (o.Data.length+s.1)) (0,hz) (.inl rfl) trivial (by simp [cW,cP,jA]) ?_;rintro ⟨j,hh⟩ hj;dsimp only at hj;obtain ⟨m,hm,hml⟩:∃m,o.Data ++ replicate j 0=m∧m.length=o.Data.length+j:=⟨_,rfl,by simp⟩;have hml2:m.length≤5000:=by omega
 refine sK ?_;simp only [hm]
 repeat first|refine ai ?_|refine aw ab fun fr=>⟨?_⟩
 (apply az;exact rfl;all_goals intro h)
 ·have hlt:m.length≤kn:=by simp at h;omega
  clear h;(repeat (refine Gb ?_));refine lV ?_;(try refine aw ab fun fr=>⟨?_⟩);generalize fr 3=hy;have e:m ++ [0]=o.Data ++ replicate (j+1) 0:=by rw [←hm,Gq]
  have e2:m.length+1=(o.Data ++ replicate (j+1) 0).length:=by simp [hml];omega
  simp only [e,e2];((try refine sT ?_));(repeat (done));((try refine sT ?_);first|refine ra ((j+1,hy)) ?_ ?_|refine q' ((j+1,hy)) ?_ ?_)
  ·right;dsimp only;omega
  ·dsimp only;omega
 ·have hge:kn < m.length:=by simp at h;omega
  clear h;have hje:j=kn+1 - o.Data.length:=by omega
  repeat first|refine ai ?_|refine aw ab fun fr=>⟨?_⟩
  (try refine sC ?_);rw [show K1 (fg o (kn:Int) c)= .bS [.agg (af.c {o with Data:=m.set kn c}),.int .i64 0] by
   simp only [fg,h0,h1,h2,if_false,Bool.false_eq_true,K1,ME,Int.toNat_natCast,←hje,hm]]
  exact hY (.agg ((eU.O _).put 24 (gY.row (cells:=aS .u8) (d:=default) rfl (by simp) (by simp)) (af.N1 _ _))) .int
def nn (o:af):Bool:=o.aU == 5 && !(o.ID == 0) && decide (0≤o.br) && decide (o.br≤1073741824) && decide (0≤o.ef) && decide (o.ef≤1073741824) && decide (0 < IntKind.i64.wrap (o.br+o.ef)) && decide ((o.Data.length:Int)≤64) && eB o 200
theorem EE (o:af):eB o 200=ia {o with br:=0,ef:=0,Data:=[]}:=by
 have h1:b6 .andNot .i64 1 200=1:=by decide
 have h2:b6 .andNot .i64 2 200=2:=by decide
 have h3:b6 .andNot .i64 4 200=4:=by decide
 have h4:b6 .andNot .i64 8 200=0:=by decide
 have h5:b6 .andNot .i64 16 200=16:=by decide
 have h6:b6 .andNot .i64 32 200=32:=by decide
 have h7:b6 .andNot .i64 64 200=0:=by decide
 have h8:b6 .andNot .i64 128 200=0:=by decide
 have h9:b6 .andNot .i64 256 200=256:=by decide
 have h10:b6 .andNot .i64 512 200=512:=by decide
 have h11:b6 .andNot .i64 1024 200=1024:=by decide
 have h12:b6 .andNot .i64 2048 200=2048:=by decide
 have h13:b6 .andNot .i64 4096 200=4096:=by decide
 apply Bool.eq_iff_iff.2;simp [eB,okB,ia,h1,h2,h3,h4,h5,h6,h7,h8,h9,h10,h11,h12,h13]
 constructor<;>(intro h;simp [h])
theorem jl (o:af) (ho:cS o):EC prog 294 [.agg o.c] [] fun r B=>B=[]∧r= .bool (nn o):=by
 refine EC.fin (nA ab (ca 294) func294 ntmps294 results294 ?_)
 repeat first|refine ai ?_|refine aw ab fun fr=>⟨?_⟩
 (try refine aw ab fun fr=>⟨?_⟩);refine ⟨fun hg=>?_,fun hg=>?_⟩
 ·(refine EC.F0 (cZ {o with br:=0,ef:=0,Data:=[]}) (.cons (bq.agg (eD.put (eD.refl _) 24 cB (af.N1 _ _))) .nil) ?_;(try simp only [hg]);refine gA ab fun fr=>⟨?_⟩);(repeat (refine ai ?_));((try refine sC ?_);refine sF ?_;refine bq.of_eq ?_;(simp only [nn,←bne_eq,hg,EE];(try rfl)))
 ·((try simp only [hg]);refine gA ab fun fr=>⟨?_⟩);(repeat (refine ai ?_));((try refine sC ?_);refine sF ?_;refine bq.of_eq ?_;(simp only [nn,←bne_eq,hg];(try rfl)))
def fW (o:af):Int×af×Int:=
 if (!nn o)=true then (0,default,1) else if ((o.Data.length:Int) == 0 && decide (0 < o.ef))=true then (0,default,12) else if ((o.Data.length:Int) == 0)=true then (-1,o,0)
 else (IntKind.i64.wrap (o.Data.getD 0 default),{o with Data:=o.Data.drop 1},0)
def ff (o:af) (c:Int):af×Int:=
 if (!nn o)=true then (default,1) else if (o.br == 0)=true then (default,13) else if ((o.Data.length:Int) == 64)=true then (default,12) else ({o with Data:=o.Data ++ [c]},0)
def KX (x:Int×af×Int):SV:= .bS [.int .i64 x.1,.agg x.2.1.c,.int .i64 x.2.2]
def KY (x:af×Int):SV:= .bS [.agg x.1.c,.int .i64 x.2]
theorem qD {o:af} (h:(!nn o)=false):o.Data.length≤64:=by
 simp [nn] at h;omega
theorem xY (o:af) (ho:cS o):EC prog 348 [.agg o.c] [] fun r B=>B=[]∧r=KX (fW o):=by
 refine EC.fin (nA ab (ca 348) func348 ntmps348 results348 ?_)
 repeat first|refine ai ?_|refine aw ab fun fr=>⟨?_⟩
 (try refine aw ab fun fr=>⟨?_⟩);(refine EC.use (jl o ho) ?_;(try simp only [hg]);refine gA ab fun fr=>⟨?_⟩);(repeat (done));(apply az;exact rfl;all_goals intro h)
 ·repeat first|refine ai ?_|refine aw ab fun fr=>⟨?_⟩
  ((try refine sC ?_);refine sF ?_;refine bq.of_eq ?_;(simp only [fW,h,if_true,KX]))
 have h0:=h;clear h;have hl:=qD h0
 repeat first|refine ai ?_|refine aw ab fun fr=>⟨?_⟩
 (apply az;exact rfl;all_goals intro h)
 ·repeat first|refine ai ?_|refine aw ab fun fr=>⟨?_⟩
  ((try refine sC ?_);refine sF ?_;refine bq.of_eq ?_;(simp only [fW,h0,h,if_true,if_false,Bool.false_eq_true,KX]))
 have h1:=h;clear h
 repeat first|refine ai ?_|refine aw ab fun fr=>⟨?_⟩
 (apply az;exact rfl;all_goals intro h)
 ·(repeat (refine ai ?_));(refine dD ab [] [false,true] [0,1,2,3] bZ fun R hR=>?_;(repeat intro rh);(try refine sB ⟨?_⟩);(repeat ((with_reducible apply And.intro);exact fE));(repeat intro rh);(repeat ((with_reducible apply And.intro);exact fE));(try apply_assumption -exfalso));(repeat (refine ai ?_));have hw:decide (0 < o.ef)=false:=by simpa only [h,Bool.true_and] using h1
  ((try refine sC ?_);refine sF ?_;refine bq.of_eq ?_;(simp only [fW,h0,h,hw,Bool.and_false,if_true,if_false,Bool.false_eq_true,KX]))
 have hpos:0 < o.Data.length:=by simp only [beq_eq_false_iff_ne,ne_eq] at h;omega
 repeat first|refine ai ?_|refine aw ab fun fr=>⟨?_⟩
 (refine dD ab [] [false,true,true] [0,1,2,3,4,5] bZ fun R hR=>?_;(repeat intro rh);(try refine sB ⟨?_⟩);(repeat ((with_reducible apply And.intro);exact fE));(repeat intro rh);(repeat ((with_reducible apply And.intro);exact fE));(try apply_assumption -exfalso));(repeat (refine ai ?_));(try refine sC ?_);rw [show KX (fW o)= .bS [.int .i64 (IntKind.i64.wrap (o.Data.getD 0 default)),.agg (af.c {o with Data:=o.Data.drop 1}),.int .i64 0] by simp only [fW,h0,h,Bool.false_and,if_false,Bool.false_eq_true,KX]];have er:(range (o.Data.length - 1)).map (cA (aS .u8) default (o.Data.drop 1))=(o.Data.drop 1).map (aS .u8):=by
  have:=su (c:=aS .u8) (d:=default) (l:=o.Data.drop 1)
  rwa [show (o.Data.drop 1).length=o.Data.length - 1 by simp] at this
 exact jK .int (.agg ((eU.O _).put 24 (gY.row (cells:=aS .u8) (d:=default) rfl er (by simp)) (af.N1 _ _))) .int
theorem wm (o:af) (c:Int) (ho:cS o):EC prog 351 [.agg o.c,.int .u8 c] [] fun r B=>B=[]∧r=KY (ff o c):=by
 refine EC.fin (nA ab (ca 351) func351 ntmps351 results351 ?_)
 repeat first|refine ai ?_|refine aw ab fun fr=>⟨?_⟩
 (try refine aw ab fun fr=>⟨?_⟩);(refine EC.use (jl o ho) ?_;(try simp only [hg]);refine gA ab fun fr=>⟨?_⟩);(repeat (done));(apply az;exact rfl;all_goals intro h)
 ·repeat first|refine ai ?_|refine aw ab fun fr=>⟨?_⟩
  ((try refine sC ?_);refine sF ?_;refine bq.of_eq ?_;(simp only [ff,h,if_true,KY]))
 have h0:=h;clear h;have hl:=qD h0
 repeat first|refine ai ?_|refine aw ab fun fr=>⟨?_⟩
 (apply az;exact rfl;all_goals intro h)
 ·repeat first|refine ai ?_|refine aw ab fun fr=>⟨?_⟩
  ((try refine sC ?_);refine sF ?_;refine bq.of_eq ?_;(simp only [ff,h0,h,if_true,if_false,Bool.false_eq_true,KY]))
 have h1:=h;clear h;have e64:decide (64≤(o.Data.length:Int))=((o.Data.length:Int) == 64):=by
  apply Bool.eq_iff_iff.2;simp;omega
 repeat first|refine ai ?_|refine aw ab fun fr=>⟨?_⟩
 (apply az;exact rfl;all_goals intro h)
 ·rw [e64] at h
  repeat first|refine ai ?_|refine aw ab fun fr=>⟨?_⟩
  ((try refine sC ?_);refine sF ?_;refine bq.of_eq ?_;(simp only [ff,h0,h1,h,if_true,if_false,Bool.false_eq_true,KY]))
 rw [e64] at h
 repeat first|refine ai ?_|refine aw ab fun fr=>⟨?_⟩
 (try refine sC ?_);rw [show KY (ff o c)= .bS [.agg (af.c {o with Data:=o.Data ++ [c]}),.int .i64 0] by simp only [ff,h0,h1,h,if_false,Bool.false_eq_true,KY]];exact hY (.agg ((eU.O _).put 24 (gY.row (cells:=aS .u8) (d:=default) rfl (by simp) (by simp)) (af.N1 _ _))) .int
def nk (o:af):Bool:=o.aU == 6 && !(o.ID == 0) && decide (0≤o.Refs) && decide (o.Refs≤1073741824) && decide ((o.bI.length:Int)≤8)
def nj (o:af):Bool:=nk o && G2 o.bI && eB o 257
theorem EB (o:af):eB o 257=ia {o with Refs:=0,bI:=[]}:=by
 have h1:b6 .andNot .i64 1 257=0:=by decide
 have h2:b6 .andNot .i64 2 257=2:=by decide
 have h3:b6 .andNot .i64 4 257=4:=by decide
 have h4:b6 .andNot .i64 8 257=8:=by decide
 have h5:b6 .andNot .i64 16 257=16:=by decide
 have h6:b6 .andNot .i64 32 257=32:=by decide
 have h7:b6 .andNot .i64 64 257=64:=by decide
 have h8:b6 .andNot .i64 128 257=128:=by decide
 have h9:b6 .andNot .i64 256 257=0:=by decide
 have h10:b6 .andNot .i64 512 257=512:=by decide
 have h11:b6 .andNot .i64 1024 257=1024:=by decide
 have h12:b6 .andNot .i64 2048 257=2048:=by decide
 have h13:b6 .andNot .i64 4096 257=4096:=by decide
 apply Bool.eq_iff_iff.2;simp [eB,okB,ia,h1,h2,h3,h4,h5,h6,h7,h8,h9,h10,h11,h12,h13]
 constructor<;>(intro h;simp [h])
def eV (o:af) (k:Int):af×Int:=
 if (!nj o || k == 0 || decide (k∈o.bI))=true then (default,1) else if (o.Refs == 0)=true then (default,13) else if ((o.bI.length:Int) == 8)=true then (default,9) else ({o with bI:=o.bI ++ [k]},0)
def fj (o:af):Int×af×Int:=
 if (!nj o)=true then (0,default,1) else if ((o.bI.length:Int) == 0)=true then (0,default,12) else (o.bI.getD 0 default,{o with bI:=o.bI.drop 1},0)
def H9 (x:af×Int):SV:= .bS [.agg x.1.c,.int .i64 x.2]
def KW (x:Int×af×Int):SV:= .bS [.int .u64 x.1,.agg x.2.1.c,.int .i64 x.2.2]
theorem ni {o:af} (h:(!nj o)=false):o.bI.length≤8:=by
 simp [nj,nk] at h;omega
theorem gr (o:af) (ho:cS o):EC prog 295 [.agg o.c] [] fun r B=>B=[]∧r= .bool (nj o):=by
 have hB:=ho.2.2.2.1;refine EC.fin (nA ab (ca 295) func295 ntmps295 results295 ?_)
 repeat first|refine ai ?_|refine aw ab fun fr=>⟨?_⟩
 refine eL [1,31,32] (fun i:Nat=>[(33,.int .i64 i),(3,.bool (nk o && (range i).all (HG o.bI)))]) (fun i=>i≤o.bI.length) (fun i=>o.bI.length - i) 0 (zero_le _) ⟨rfl,by simp only [nk,←bne_eq,List.range_zero,List.all_nil,Bool.and_true];rfl,trivial⟩ ?_;rintro i hi;refine sK ?_
 repeat first|refine ai ?_|refine aw ab fun fr=>⟨?_⟩
 (apply az;exact rfl;all_goals intro h)
 ·have hlt:i < o.bI.length:=by simp at h;omega
  clear h;have hs:(range (i+1)).all (HG o.bI)=((range i).all (HG o.bI) && HG o.bI i):=by rw [List.range_succ,List.all_append];simp
  repeat first|refine ai ?_|refine aw ab fun fr=>⟨?_⟩
  (try refine aw ab fun fr=>⟨?_⟩);generalize hb:(nk o && (range i).all (HG o.bI))=b;refine ⟨fun hg=>?_,fun hg=>?_⟩
  ·(refine EC.use (ec (o.bI.take i) (o.bI.getD i default) (by simp;omega)) ?_;(try simp only [hg]);refine gA ab fun fr=>⟨?_⟩);(repeat (refine aw ab fun fr=>⟨?_⟩));have hv:(!decide (o.bI.getD i default∈take i o.bI))=(nk o && (range (i+1)).all (HG o.bI)):=by
    rw [hs,←Bool.and_assoc,hb];simp only [Bool.and_eq_true] at hg;simp only [HG,hg.1,←bne_eq,hg.2,Bool.true_and]
   rw [hv];((try refine sT ?_);first|refine ra (i+1) ?_ ?_|refine q' (i+1) ?_ ?_)
   ·omega
   ·omega
  ·have hv:false=(nk o && (range (i+1)).all (HG o.bI)):=by
    rw [hs,←Bool.and_assoc,hb];simp only [HG,←bne_eq,←Bool.and_assoc,hg,Bool.false_and]
   ((try simp only [hg]);refine gA ab fun fr=>⟨?_⟩);(repeat (refine aw ab fun fr=>⟨?_⟩));rw [hv];((try refine sT ?_);first|refine ra (i+1) ?_ ?_|refine q' (i+1) ?_ ?_)
   ·omega
   ·omega
 ·have e:i=o.bI.length:=by simp at h;omega
  clear h;subst e
  repeat first|refine ai ?_|refine aw ab fun fr=>⟨?_⟩
  (try refine aw ab fun fr=>⟨?_⟩);refine ⟨fun hg=>?_,fun hg=>?_⟩
  ·(refine EC.F0 (cZ {o with Refs:=0,bI:=[]}) (.cons (bq.agg (eD.put (eD.refl _) 29 cB (af.Qu _ _))) .nil) ?_;(try simp only [hg]);refine gA ab fun fr=>⟨?_⟩);(repeat (refine ai ?_));((try refine sC ?_);refine sF ?_;refine bq.of_eq ?_;(simp only [nj,G2,hg,EB];(try rfl)))
  ·((try simp only [hg]);refine gA ab fun fr=>⟨?_⟩);(repeat (refine ai ?_));((try refine sC ?_);refine sF ?_;refine bq.of_eq ?_;(simp only [nj,G2,hg];(try rfl)))
theorem xX (o:af) (k:Int) (ho:cS o):EC prog 330 [.agg o.c,.int .u64 k] [] fun r B=>B=[]∧r=H9 (eV o k):=by
 refine EC.fin (nA ab (ca 330) func330 ntmps330 results330 ?_)
 repeat first|refine ai ?_|refine aw ab fun fr=>⟨?_⟩
 (try refine aw ab fun fr=>⟨?_⟩);(refine EC.use (gr o ho) ?_;(try simp only [hg]);refine gA ab fun fr=>⟨?_⟩);refine ⟨fun hg=>?_,fun hg=>?_⟩
 ·have h9:=hg;simp only [Bool.or_eq_false_iff] at h9;have hl:=ni h9.1;have e8:decide (8≤(o.bI.length:Int))=((o.bI.length:Int) == 8):=by
   apply Bool.eq_iff_iff.2;simp;omega
  (refine EC.use (ec o.bI k (by omega)) ?_;(try simp only [hg]);refine gA ab fun fr=>⟨?_⟩);(repeat (done));(apply az;exact rfl;all_goals intro h)
  ·repeat first|refine ai ?_|refine aw ab fun fr=>⟨?_⟩
   ((try refine sC ?_);refine sF ?_;refine bq.of_eq ?_;(simp only [eV,hg,h,Bool.or_true,Bool.false_or,if_true,H9]))
  have h0:=h;clear h
  repeat first|refine ai ?_|refine aw ab fun fr=>⟨?_⟩
  (apply az;exact rfl;all_goals intro h)
  ·repeat first|refine ai ?_|refine aw ab fun fr=>⟨?_⟩
   ((try refine sC ?_);refine sF ?_;refine bq.of_eq ?_;(simp only [eV,hg,h0,h,Bool.or_self,if_true,if_false,Bool.false_eq_true,H9]))
  have h1:=h;clear h
  repeat first|refine ai ?_|refine aw ab fun fr=>⟨?_⟩
  (apply az;exact rfl;all_goals intro h)
  ·rw [e8] at h
   repeat first|refine ai ?_|refine aw ab fun fr=>⟨?_⟩
   ((try refine sC ?_);refine sF ?_;refine bq.of_eq ?_;(simp only [eV,hg,h0,h1,h,Bool.or_self,if_true,if_false,Bool.false_eq_true,H9]))
  rw [e8] at h
  repeat first|refine ai ?_|refine aw ab fun fr=>⟨?_⟩
  (try refine sC ?_);rw [show H9 (eV o k)= .bS [.agg (af.c {o with bI:=o.bI ++ [k]}),.int .i64 0] by simp only [eV,hg,h0,h1,h,Bool.or_self,if_false,Bool.false_eq_true,H9]];exact hY (.agg ((eU.O _).put 29 (gY.row (cells:=aS .u64) (d:=default) rfl (by simp) (by simp)) (af.Qu _ _))) .int
 ·rw [Bool.not_eq_false'] at hg;((try simp only [hg]);refine gA ab fun fr=>⟨?_⟩);(repeat (done));(apply az;exact rfl;all_goals intro h)
  ·repeat first|refine ai ?_|refine aw ab fun fr=>⟨?_⟩
   ((try refine sC ?_);refine sF ?_;refine bq.of_eq ?_;(simp only [eV,hg,Bool.true_or,if_true,H9]))
  ·simp at h
theorem ux (o:af) (ho:cS o):EC prog 332 [.agg o.c] [] fun r B=>B=[]∧r=KW (fj o):=by
 refine EC.fin (nA ab (ca 332) func332 ntmps332 results332 ?_)
 repeat first|refine ai ?_|refine aw ab fun fr=>⟨?_⟩
 (try refine aw ab fun fr=>⟨?_⟩);(refine EC.use (gr o ho) ?_;(try simp only [hg]);refine gA ab fun fr=>⟨?_⟩);(repeat (done));(apply az;exact rfl;all_goals intro h)
 ·repeat first|refine ai ?_|refine aw ab fun fr=>⟨?_⟩
  ((try refine sC ?_);refine sF ?_;refine bq.of_eq ?_;(simp only [fj,h,if_true,KW]))
 have h0:=h;clear h;have hl:=ni h0
 repeat first|refine ai ?_|refine aw ab fun fr=>⟨?_⟩
 (apply az;exact rfl;all_goals intro h)
 ·repeat first|refine ai ?_|refine aw ab fun fr=>⟨?_⟩
  ((try refine sC ?_);refine sF ?_;refine bq.of_eq ?_;(simp only [fj,h0,h,if_true,if_false,Bool.false_eq_true,KW]))
 have hpos:0 < o.bI.length:=by simp only [beq_eq_false_iff_ne,ne_eq] at h;omega
 repeat first|refine ai ?_|refine aw ab fun fr=>⟨?_⟩
 (refine dD ab [] [false,true] [0,1,2,3,4] bZ fun R hR=>?_;(repeat intro rh);(try refine sB ⟨?_⟩);(repeat ((with_reducible apply And.intro);exact fE));(repeat intro rh);(repeat ((with_reducible apply And.intro);exact fE));(try apply_assumption -exfalso));(repeat (refine ai ?_));(try refine sC ?_);rw [show KW (fj o)= .bS [.int .u64 (o.bI.getD 0 default),.agg (af.c {o with bI:=o.bI.drop 1}),.int .i64 0] by simp only [fj,h0,h,if_false,Bool.false_eq_true,KW]];have er:(range (o.bI.length - 1)).map (cA (aS .u64) default (o.bI.drop 1))=(o.bI.drop 1).map (aS .u64):=by
  have:=su (c:=aS .u64) (d:=default) (l:=o.bI.drop 1)
  rwa [show (o.bI.drop 1).length=o.bI.length - 1 by simp] at this
 exact jK .int (.agg ((eU.O _).put 29 (gY.row (cells:=aS .u64) (d:=default) rfl er (by simp)) (af.Qu _ _))) .int
def rR (e:Int) (q:List Int):Bool:=!(decide (e < 0) || decide (1073741824 < e) || decide (64 < (q.length:Int)))
def gv (o:af):Bool:=rR o.Ends.x0 o.bj.x0 && rR o.Ends.x1 o.bj.x1 && (o.aU == 7 && !(o.ID == 0) && !(o.Ends == default) && eB o 1536)
theorem Fy (o:af):eB o 1536=ia {o with bj:=default,Ends:=default}:=by
 have h1:b6 .andNot .i64 1 1536=1:=by decide
 have h2:b6 .andNot .i64 2 1536=2:=by decide
 have h3:b6 .andNot .i64 4 1536=4:=by decide
 have h4:b6 .andNot .i64 8 1536=8:=by decide
 have h5:b6 .andNot .i64 16 1536=16:=by decide
 have h6:b6 .andNot .i64 32 1536=32:=by decide
 have h7:b6 .andNot .i64 64 1536=64:=by decide
 have h8:b6 .andNot .i64 128 1536=128:=by decide
 have h9:b6 .andNot .i64 256 1536=256:=by decide
 have h10:b6 .andNot .i64 512 1536=0:=by decide
 have h11:b6 .andNot .i64 1024 1536=0:=by decide
 have h12:b6 .andNot .i64 2048 1536=2048:=by decide
 have h13:b6 .andNot .i64 4096 1536=4096:=by decide
 apply Bool.eq_iff_iff.2;simp [eB,okB,ia,h1,h2,h3,h4,h5,h6,h7,h8,h9,h10,h11,h12,h13]
 constructor<;>(intro h;simp [h])
 exact ⟨rfl,rfl⟩
theorem O9 (a b:SV):aJ (aJ (dO.c default) 0 [a]) 1 [b]=[a,b]:=rfl
theorem O8 (a b:SV):aJ (aJ (dO.c default) 1 [a]) 0 [b]=[b,a]:=rfl
theorem Rg (a b:SV):aJ (dO.c default) 0 [a,b]=[a,b]:=rfl
attribute [push_cast] O9 O8 Rg
def Sb (n:Nat) (h:aN) (i:Nat):SV:= .row i h 1 0 n
attribute [push_cast] Sb
def qq (o:af) (a b:SV):List SV:=aJ (aJ o.c 30 [a]) 31 [b]
theorem Gv (o:af) (a b:SV):(qq o a b).length=36:=rfl
theorem P_ (o:af) (a b:SV):(qq o a b).take 36=qq o a b:=rfl
theorem Qa (o:af) (i j:Nat) (h k:aN) (e e' a a' n n':Nat):bt (qq o (.row i h e a n) (.row j k e' a' n'))=true:=by simp [qq,aJ,af.c,bt,SV.fh]
theorem Qb (o:af) (a b:SV):aJ (af.c default) 0 (qq o a b)=qq o a b:=bb (by simp only [af.len,Gv];decide) rfl
attribute [push_cast] Gv P_ Qa Qb
theorem wP (e:Int) (q:List Int):rR e q=(decide (0≤e) && decide (e≤1073741824) && decide ((q.length:Int)≤64)):=by
 apply Bool.eq_iff_iff.2;simp [rR,Int.not_lt]
theorem eU.two {B:List aI} {a b c d:SV} (h1:gY B a c) (h2:gY B b d):eU B [a,b] [c,d]:=⟨⟨h1.1,h2.1,trivial⟩,.cons h1.2 (.cons h2.2 .nil)⟩
def DB (o:af) (k:Int):List Int:=if k=0 then o.bj.x0 else o.bj.x1
def Mh (o:af) (k:Int):Int:=if k=0 then o.Ends.x0 else o.Ends.x1
def Ba (o:af) (k:Int) (D:List Int):af:=if k=0 then {o with bj:={o.bj with x0:=D}} else {o with bj:={o.bj with x1:=D}}
def eX (o:af) (k:Int):Int×af×Int:=
 if (!gv o || (k !=0 && k !=1))=true then (0,default,1) else if (((DB o (1 - k)).length:Int) == 0 && decide (0 < Mh o (1 - k)))=true then (0,default,12) else if (((DB o (1 - k)).length:Int) == 0)=true then (-1,o,0)
 else (IntKind.i64.wrap ((DB o (1 - k)).getD 0 default),Ba o (1 - k) ((DB o (1 - k)).drop 1),0)
def dx (o:af) (k c:Int):af×Int:=
 if (!gv o || (k !=0 && k !=1))=true then (default,1) else if (Mh o (1 - k) == 0)=true then (default,13) else if (((DB o k).length:Int) == 64)=true then (default,12) else (Ba o k (DB o k ++ [c]),0)
def DA (x:Int×af×Int):SV:= .bS [.int .i64 x.1,.agg x.2.1.c,.int .i64 x.2.2]
def yM (x:af×Int):SV:= .bS [.agg x.1.c,.int .i64 x.2]
theorem lS {o:af} (h:(!gv o)=false):o.bj.x0.length≤64∧o.bj.x1.length≤64:=by
 simp [gv,rR] at h;omega
theorem pP (o:af):eX o 0=if (!gv o)=true then (0,default,1) else if ((o.bj.x1.length:Int) == 0 && decide (0 < o.Ends.x1))=true then (0,default,12) else if ((o.bj.x1.length:Int) == 0)=true then (-1,o,0)
  else (IntKind.i64.wrap (o.bj.x1.getD 0 default),{o with bj:={o.bj with x1:=o.bj.x1.drop 1}},0):=by simp [eX,DB,Mh,Ba]
theorem lR (o:af) (c:Int):dx o 0 c=if (!gv o)=true then (default,1) else if (o.Ends.x1 == 0)=true then (default,13) else if ((o.bj.x0.length:Int) == 64)=true then (default,12) else ({o with bj:={o.bj with x0:=o.bj.x0 ++ [c]}},0):=by simp [dx,DB,Mh,Ba]
theorem pO (o:af):eX o 1=if (!gv o)=true then (0,default,1) else if ((o.bj.x0.length:Int) == 0 && decide (0 < o.Ends.x0))=true then (0,default,12) else if ((o.bj.x0.length:Int) == 0)=true then (-1,o,0)
  else (IntKind.i64.wrap (o.bj.x0.getD 0 default),{o with bj:={o.bj with x0:=o.bj.x0.drop 1}},0):=by simp [eX,DB,Mh,Ba]
theorem lQ (o:af) (c:Int):dx o 1 c=if (!gv o)=true then (default,1) else if (o.Ends.x0 == 0)=true then (default,13) else if ((o.bj.x1.length:Int) == 64)=true then (default,12) else ({o with bj:={o.bj with x1:=o.bj.x1 ++ [c]}},0):=by simp [dx,DB,Mh,Ba]
theorem ix (k:Int):EC prog 355 [.int .i64 k] [] fun r B=>B=[]∧r= .bool (k == 0 || k == 1):=by
 refine EC.fin (nA ab (ca 355) func355 ntmps355 results355 ?_)
 repeat first|refine ai ?_|refine aw ab fun fr=>⟨?_⟩
 ((try refine sC ?_);refine sF ?_;refine bq.of_eq ?_;rfl)
theorem d_.H7 {α:Type} {B:List aI} {i e n E:Nat} {h:aN} {xs:List (List SV)} {cells:α→List SV} {d:α} {l:List α} {r r':List SV} (hB:au B i= .row h E e xs) (hx:xs=l.map cells) (hn:n=l.length) (hr:d_ 0 B r r'):
  d_ 0 B (.row i h e 0 n :: r) (bG e cells d l :: r'):=d_.row hB hx hn hr
theorem d_.GK {m:Nat} {B:List aI} {o:af} {r r':List SV} (hr:d_ m B r r'):d_ m B (.agg o.c :: r) (.agg o.c :: r'):=by
 refine .cons ?_ ?_ hr
 ·simp only [dE,fw];rw [af.fk];trivial
 ·simp only [fu,iT];rw [af.fz];exact bq.refl _
def oy (o:af) (i:Nat):Bool:=(o.aU == 7 && !(o.ID == 0) && decide (0 < IntKind.i64.wrap (o.Ends.x0+o.Ends.x1))) && (if 0 < i then rR o.Ends.x0 o.bj.x0 else true) && (if 1 < i then rR o.Ends.x1 o.bj.x1 else true)
theorem K8 (o:af):(oy o 2 && eB o 1536)=gv o:=by
 simp only [oy,gv];by_cases h0:rR o.Ends.x0 o.bj.x0=true
 ·by_cases h1:rR o.Ends.x1 o.bj.x1=true
  ·have k0:=h0;have k1:=h1;rw [wP] at k0 k1;simp only [Bool.and_eq_true,decide_eq_true_eq] at k0 k1;have hw:IntKind.i64.wrap (o.Ends.x0+o.Ends.x1)=o.Ends.x0+o.Ends.x1:=bu (by omega);have hd:decide (0 < o.Ends.x0+o.Ends.x1)= !(o.Ends == default):=by
    clear hw;generalize o.Ends=e at k0 k1 ⊢;rcases e with ⟨a,b⟩
    dsimp only at k0 k1 ⊢;apply Bool.eq_iff_iff.2;have:((⟨a,b⟩:cV)=default)↔a=0∧b=0:=⟨fun h=>⟨congrArg cV.x0 h,congrArg cV.x1 h⟩,fun h=>by rw [h.1,h.2];rfl⟩;simp [this];omega
   simp [h0,h1,hw,hd]
  ·simp [h1]
 ·simp [h0]
theorem eH (o:af) (ho:cS o):EC prog 296 [.agg o.c] [] fun r B=>B=[]∧r= .bool (gv o):=by
 have hq0:=ho.2.2.2.2.1;have hq1:=ho.2.2.2.2.2.1;rw [←K8];refine EC.fin (nA ab (ca 296) func296 ntmps296 results296 ?_)
 repeat first|refine ai ?_|refine aw ab fun fr=>⟨?_⟩
 refine eL [1] (fun i:Nat=>[(23,.int .i64 i),(3,.bool (oy o i))]) (fun i=>i≤2) (fun i=>2 - i) 0 (by decide) ⟨rfl,by simp only [oy,←bne_eq];simp [dd],trivial⟩ ?_;rintro i hi;obtain rfl|rfl|rfl:i=0∨i=1∨i=2:=by omega
 ·refine sK ?_
  repeat first|refine ai ?_|refine aw ab fun fr=>⟨?_⟩
  (apply az;exact rfl;all_goals intro h)
  ·repeat first|refine ai ?_|refine aw ab fun fr=>⟨?_⟩
   rw [show (oy o 0 && decide (0≤o.Ends.x0) && decide (o.Ends.x0≤1073741824) && decide ((o.bj.x0.length:Int)≤64))=oy o (0+1) by simp [oy,wP,Bool.and_assoc]];((try refine sT ?_);first|refine ra (0+1) ?_ ?_|refine q' (0+1) ?_ ?_)
   ·decide
   ·decide
  ·simp at h
 ·refine sK ?_
  repeat first|refine ai ?_|refine aw ab fun fr=>⟨?_⟩
  (apply az;exact rfl;all_goals intro h)
  ·repeat first|refine ai ?_|refine aw ab fun fr=>⟨?_⟩
   rw [show (oy o 1 && decide (0≤o.Ends.x1) && decide (o.Ends.x1≤1073741824) && decide ((o.bj.x1.length:Int)≤64))=oy o (1+1) by simp [oy,wP,Bool.and_assoc]];((try refine sT ?_);first|refine ra (1+1) ?_ ?_|refine q' (1+1) ?_ ?_)
   ·decide
   ·decide
  ·simp at h
 ·refine sK ?_
  repeat first|refine ai ?_|refine aw ab fun fr=>⟨?_⟩
  (apply az;exact rfl;all_goals intro h)
  ·simp at h
  clear h;generalize hb:oy o 2=b
  repeat first|refine ai ?_|refine aw ab fun fr=>⟨?_⟩
  (try refine aw ab fun fr=>⟨?_⟩);refine ⟨fun hg=>?_,fun hg=>?_⟩
  ·(refine EC.use (cZ {o with bj:=default,Ends:=default}) ?_;(try simp only [hg]);refine gA ab fun fr=>⟨?_⟩);(repeat (refine ai ?_));((try refine sC ?_);refine sF ?_;refine bq.of_eq ?_;(simp only [hb,hg,Fy];(try rfl)))
  ·((try simp only [hg]);refine gA ab fun fr=>⟨?_⟩);(repeat (refine ai ?_));((try refine sC ?_);refine sF ?_;refine bq.of_eq ?_;(simp only [hb,hg];(try rfl)))
theorem sU (o:af) (D:List Int) (ho:cS o) (hD:D.length≤1000000):EC prog 356 [.agg o.c,.int .i64 0,bG 1 (aS .u8) default D] [] fun r B=>B=[]∧r= .agg (dO.c {o.bj with x0:=D}):=by
 have hq0:=ho.2.2.2.2.1;have hq1:=ho.2.2.2.2.2.1;refine EC.fin (nA ab (ca 356) func356 ntmps356 results356 ?_)
 repeat first|refine ai ?_|refine aw ab fun fr=>⟨?_⟩
 (try refine sC ?_);exact uM (eU.two (gY.row (cells:=aS .u8) (d:=default) rfl rfl rfl) (gY.row (cells:=aS .u8) (d:=default) rfl rfl rfl))
theorem sS (o:af) (D:List Int) (ho:cS o) (hD:D.length≤1000000):EC prog 356 [.agg o.c,.int .i64 1,bG 1 (aS .u8) default D] [] fun r B=>B=[]∧r= .agg (dO.c {o.bj with x1:=D}):=by
 have hq0:=ho.2.2.2.2.1;have hq1:=ho.2.2.2.2.2.1;refine EC.fin (nA ab (ca 356) func356 ntmps356 results356 ?_)
 repeat first|refine ai ?_|refine aw ab fun fr=>⟨?_⟩
 (try refine sC ?_);exact uM (eU.two (gY.row (cells:=aS .u8) (d:=default) rfl rfl rfl) (gY.row (cells:=aS .u8) (d:=default) rfl rfl rfl))
def Qd (o:af) (D:List Int) (s:aN×aN) (i:Nat):SV:= .agg [.row i s.1 1 0 D.length,.row (i+1) s.2 1 0 o.bj.x1.length]
attribute [push_cast] Qd
theorem mb (o:af) (D:List Int) (ho:cS o) (hD:D.length≤1000000):EC prog 356 [.agg o.c,.int .i64 0,bG 1 (aS .u8) default D] [] fun r N=>∃s:aN×aN,True∧r=Qd o D s 0∧N=[.row s.1 5 1 (D.map (aS .u8)),.row s.2 5 1 (o.bj.x1.map (aS .u8))]:=by
 have hq0:=ho.2.2.2.2.1;have hq1:=ho.2.2.2.2.2.1;refine pS (pS (pS (EC.ret (nA ab (ca 356) func356 ntmps356 results356 ?_))))
 repeat first|refine ai ?_|refine aw ab fun fr=>⟨?_⟩
 (try refine sC ?_);exact ⟨Qd o D (_,_) 0,bq.agg (.cons bq.row (.cons bq.row .nil)),_,_,rfl,_,_,rfl,_,_,rfl,(_,_),rfl,rfl⟩
def Qc (o:af) (D:List Int) (s:aN×aN) (i:Nat):SV:= .agg [.row (i+1) s.2 1 0 o.bj.x0.length,.row i s.1 1 0 D.length]
attribute [push_cast] Qc
theorem ma (o:af) (D:List Int) (ho:cS o) (hD:D.length≤1000000):EC prog 356 [.agg o.c,.int .i64 1,bG 1 (aS .u8) default D] [] fun r N=>∃s:aN×aN,True∧r=Qc o D s 0∧N=[.row s.1 5 1 (D.map (aS .u8)),.row s.2 5 1 (o.bj.x0.map (aS .u8))]:=by
 have hq0:=ho.2.2.2.2.1;have hq1:=ho.2.2.2.2.2.1;refine pS (pS (pS (EC.ret (nA ab (ca 356) func356 ntmps356 results356 ?_))))
 repeat first|refine ai ?_|refine aw ab fun fr=>⟨?_⟩
 (try refine sC ?_);exact ⟨Qc o D (_,_) 0,bq.agg (.cons bq.row (.cons bq.row .nil)),_,_,rfl,_,_,rfl,_,_,rfl,(_,_),rfl,rfl⟩
theorem BD (l:List Int) (k:IntKind):∀x∈l.map (aS k),∀c∈x,p' c=true:=by
 intro x hx c hc;obtain ⟨y,-,rfl⟩:=List.mem_map.1 hx;simp only [aS,List.mem_singleton] at hc;subst hc;rfl
theorem DN (l m:List Int) (k:IntKind) (s:aN×aN) (T:Nat) (i:Nat):(au [aI.row s.1 T 1 (l.map (aS k)),.row s.2 T 1 (m.map (aS k))] i).free:=by
 match i with
 |0=>exact BD l k
 |1=>exact BD m k
 |_+2=>trivial
theorem K2 (o:af) (a b:SV):aJ o.c 30 [a,b]=qq o a b:=rfl
attribute [push_cast] K2
theorem wj (o:af) (ho:cS o):EC prog 349 [.agg o.c,.int .i64 0] [] fun r B=>B=[]∧r=DA (eX o 0):=by
 refine EC.fin (nA ab (ca 349) func349 ntmps349 results349 ?_)
 repeat first|refine ai ?_|refine aw ab fun fr=>⟨?_⟩
 (try refine aw ab fun fr=>⟨?_⟩);(refine EC.use (eH o ho) ?_;(try simp only [hg]);refine gA ab fun fr=>⟨?_⟩);refine ⟨fun hg=>?_,fun hg=>?_⟩
 ·have h0:(!gv o)=false:=by simpa using hg
  (refine EC.use (ix 0) ?_;(try simp only [hg]);refine gA ab fun fr=>⟨?_⟩);(repeat (done));(apply az;exact rfl;all_goals intro h)
  ·simp at h
  clear h;have hl:=lS h0
  repeat first|refine ai ?_|refine aw ab fun fr=>⟨?_⟩
  (apply az;exact rfl;all_goals intro h)
  ·have h1:=h;clear h
   repeat first|refine ai ?_|refine aw ab fun fr=>⟨?_⟩
   (apply az;exact rfl;all_goals intro h)
   ·repeat first|refine ai ?_|refine aw ab fun fr=>⟨?_⟩
    ((try refine sC ?_);refine sF ?_;refine bq.of_eq ?_;(rw [pP];simp only [h0,h1,h,Bool.and_self,if_true,if_false,Bool.false_eq_true,DA]))
   ·(repeat (refine ai ?_));(refine dD ab [] [false,true] [0,1,2,3] bZ fun R hR=>?_;(repeat intro rh);(try refine sB ⟨?_⟩);(repeat ((with_reducible apply And.intro);exact fE));(repeat intro rh);(repeat ((with_reducible apply And.intro);exact fE));(try apply_assumption -exfalso));(repeat (refine ai ?_));((try refine sC ?_);refine sF ?_;refine bq.of_eq ?_;(rw [pP];simp only [h0,h1,h,Bool.and_false,if_true,if_false,Bool.false_eq_true,DA]))
  have hpos:0 < o.bj.x1.length:=by simp only [beq_eq_false_iff_ne,ne_eq] at h;omega
  obtain ⟨D,hD,hDl⟩:∃D,drop 1 o.bj.x1=D∧o.bj.x1.length - 1=D.length:=⟨_,rfl,by simp⟩
  repeat first|refine ai ?_|refine aw ab fun fr=>⟨?_⟩
  (refine dD ab [7] [false,true] [0,1,2,3,4,5,6,7] bZ fun R hR=>?_;(repeat intro rh);(try refine sB ⟨?_⟩);(repeat ((with_reducible apply And.intro);exact fE));(repeat intro rh);(repeat ((with_reducible apply And.intro);exact fE));(try apply_assumption -exfalso));simp only [hD,hDl];(refine EC.use (sS o D ho (by omega)) ?_;(try simp only [hg]);refine dR ab [6,7] ?_;(repeat intro rh);(try refine sB ⟨?_⟩);(repeat ((with_reducible apply And.intro);exact fE));(apply_assumption -exfalso));(repeat (refine ai ?_));(refine dD ab [] [false,true] [0,1,2,3,4,5] bZ fun R hR=>?_;(repeat intro rh);(try refine sB ⟨?_⟩);(repeat ((with_reducible apply And.intro);exact fE));(repeat intro rh);(repeat ((with_reducible apply And.intro);exact fE));(try apply_assumption -exfalso));(repeat (refine ai ?_));((try refine sC ?_);refine sF ?_;refine bq.of_eq ?_;(rw [pP];simp only [h0,h,hD,Bool.false_and,if_false,Bool.false_eq_true,DA]))
 ·((try simp only [hg]);refine gA ab fun fr=>⟨?_⟩);(repeat (done));(apply az;exact rfl;all_goals intro h)
  ·repeat first|refine ai ?_|refine aw ab fun fr=>⟨?_⟩
   ((try refine sC ?_);refine sF ?_;refine bq.of_eq ?_;(rw [pP];simp only [hg,Bool.not_false,if_true,DA]))
  ·simp at h
theorem uw (o:af) (c:Int) (ho:cS o):EC prog 352 [.agg o.c,.int .i64 0,.int .u8 c] [] fun r B=>B=[]∧r=yM (dx o 0 c):=by
 refine EC.fin (nA ab (ca 352) func352 ntmps352 results352 ?_)
 repeat first|refine ai ?_|refine aw ab fun fr=>⟨?_⟩
 (try refine aw ab fun fr=>⟨?_⟩);(refine EC.use (eH o ho) ?_;(try simp only [hg]);refine gA ab fun fr=>⟨?_⟩);refine ⟨fun hg=>?_,fun hg=>?_⟩
 ·have h0:(!gv o)=false:=by simpa using hg
  (refine EC.use (ix 0) ?_;(try simp only [hg]);refine gA ab fun fr=>⟨?_⟩);(repeat (done));(apply az;exact rfl;all_goals intro h)
  ·simp at h
  clear h;have hl:=lS h0
  repeat first|refine ai ?_|refine aw ab fun fr=>⟨?_⟩
  (apply az;exact rfl;all_goals intro h)
  ·repeat first|refine ai ?_|refine aw ab fun fr=>⟨?_⟩
   ((try refine sC ?_);refine sF ?_;refine bq.of_eq ?_;(rw [lR];simp only [h0,h,if_true,if_false,Bool.false_eq_true,yM]))
  have h1:=h;clear h;have e64:decide (64≤(o.bj.x0.length:Int))=((o.bj.x0.length:Int) == 64):=by
   apply Bool.eq_iff_iff.2;simp;omega
  repeat first|refine ai ?_|refine aw ab fun fr=>⟨?_⟩
  (apply az;exact rfl;all_goals intro h)
  ·rw [e64] at h
   repeat first|refine ai ?_|refine aw ab fun fr=>⟨?_⟩
   ((try refine sC ?_);refine sF ?_;refine bq.of_eq ?_;(rw [lR];simp only [h0,h1,h,if_true,if_false,Bool.false_eq_true,yM]))
  rw [e64] at h;(repeat (refine ai ?_));(refine dV ab 6 [12] [false,true] [0,1,2,3,4,5,7] bZ fun R hR=>?_;(try refine sB ⟨?_⟩);(repeat ((with_reducible apply And.intro);exact fE)));refine Mg ab 6 8 ?_ ?_
  ·(intro rh;(repeat ((with_reducible apply And.intro);exact fE));refine dR ab [8,9,10,11,12] ?_;(repeat ((with_reducible apply And.intro);exact fE)));intro h3 h4;refine ⟨by omega,?_⟩;refine EC.DJ (mb o (o.bj.x0 ++ [c]) ho (by simp;omega)) (d_.GK (d_.int (d_.H7 (l:=o.bj.x0 ++ [c]) rfl rfl (show o.bj.x0.length+1=(o.bj.x0 ++ [c]).length by simp) .nil))) (fun _=>rfl) (fun s i=>DN _ _ _ s _ i) (fun _ _=>bq.agg (.cons bq.row (.cons bq.row .nil))) ?_;rintro ⟨a,b⟩ -
   (skip;refine dR ab [11,12] ?_;(repeat intro rh);(try refine sB ⟨?_⟩);(repeat ((with_reducible apply And.intro);exact fE));(apply_assumption -exfalso))
   repeat first|refine ai ?_|refine aw ab fun fr=>⟨?_⟩
   (try refine sC ?_);rw [show yM (dx o 0 c)= .bS [.agg (af.c {o with bj:={o.bj with x0:=o.bj.x0 ++ [c]}}),.int .i64 0] by rw [lR];simp only [h0,h1,h,if_false,Bool.false_eq_true,yM]];unfold qq;exact hY (.agg (((eU.O _).put 30 (gY.row (cells:=aS .u8) (d:=default) rfl rfl (by simp)) (af.PE _ _)).put 31 (gY.row (cells:=aS .u8) (d:=default) rfl rfl (by simp)) (af.PD _ _))) .int
  ·(intro rh;(repeat ((with_reducible apply And.intro);exact fE));refine dR ab [6,9,10,11,12] ?_;(repeat ((with_reducible apply And.intro);exact fE)));intro h3;refine ⟨by omega,?_⟩;intro h4;refine ⟨by omega,?_⟩;refine EC.DJ (mb o (o.bj.x0 ++ [c]) ho (by simp;omega)) (d_.GK (d_.int (d_.H7 (l:=o.bj.x0 ++ [c]) rfl rfl (show o.bj.x0.length+1=(o.bj.x0 ++ [c]).length by simp) .nil))) (fun _=>rfl) (fun s i=>DN _ _ _ s _ i) (fun _ _=>bq.agg (.cons bq.row (.cons bq.row .nil))) ?_;rintro ⟨a,b⟩ -
   (skip;refine dR ab [11,12] ?_;(repeat intro rh);(try refine sB ⟨?_⟩);(repeat ((with_reducible apply And.intro);exact fE));(apply_assumption -exfalso))
   repeat first|refine ai ?_|refine aw ab fun fr=>⟨?_⟩
   (try refine sC ?_);rw [show yM (dx o 0 c)= .bS [.agg (af.c {o with bj:={o.bj with x0:=o.bj.x0 ++ [c]}}),.int .i64 0] by rw [lR];simp only [h0,h1,h,if_false,Bool.false_eq_true,yM]];unfold qq;exact hY (.agg (((eU.O _).put 30 (gY.row (cells:=aS .u8) (d:=default) rfl rfl (by simp)) (af.PE _ _)).put 31 (gY.row (cells:=aS .u8) (d:=default) rfl rfl (by simp)) (af.PD _ _))) .int
 ·((try simp only [hg]);refine gA ab fun fr=>⟨?_⟩);(repeat (done));(apply az;exact rfl;all_goals intro h)
  ·repeat first|refine ai ?_|refine aw ab fun fr=>⟨?_⟩
   ((try refine sC ?_);refine sF ?_;refine bq.of_eq ?_;(rw [lR];simp only [hg,Bool.not_false,if_true,yM]))
  ·simp at h
theorem wi (o:af) (ho:cS o):EC prog 349 [.agg o.c,.int .i64 1] [] fun r B=>B=[]∧r=DA (eX o 1):=by
 refine EC.fin (nA ab (ca 349) func349 ntmps349 results349 ?_)
 repeat first|refine ai ?_|refine aw ab fun fr=>⟨?_⟩
 (try refine aw ab fun fr=>⟨?_⟩);(refine EC.use (eH o ho) ?_;(try simp only [hg]);refine gA ab fun fr=>⟨?_⟩);refine ⟨fun hg=>?_,fun hg=>?_⟩
 ·have h0:(!gv o)=false:=by simpa using hg
  (refine EC.use (ix 1) ?_;(try simp only [hg]);refine gA ab fun fr=>⟨?_⟩);(repeat (done));(apply az;exact rfl;all_goals intro h)
  ·simp at h
  clear h;have hl:=lS h0
  repeat first|refine ai ?_|refine aw ab fun fr=>⟨?_⟩
  (apply az;exact rfl;all_goals intro h)
  ·have h1:=h;clear h
   repeat first|refine ai ?_|refine aw ab fun fr=>⟨?_⟩
   (apply az;exact rfl;all_goals intro h)
   ·repeat first|refine ai ?_|refine aw ab fun fr=>⟨?_⟩
    ((try refine sC ?_);refine sF ?_;refine bq.of_eq ?_;(rw [pO];simp only [h0,h1,h,Bool.and_self,if_true,if_false,Bool.false_eq_true,DA]))
   ·(repeat (refine ai ?_));(refine dD ab [] [false,true] [0,1,2,3] bZ fun R hR=>?_;(repeat intro rh);(try refine sB ⟨?_⟩);(repeat ((with_reducible apply And.intro);exact fE));(repeat intro rh);(repeat ((with_reducible apply And.intro);exact fE));(try apply_assumption -exfalso));(repeat (refine ai ?_));((try refine sC ?_);refine sF ?_;refine bq.of_eq ?_;(rw [pO];simp only [h0,h1,h,Bool.and_false,if_true,if_false,Bool.false_eq_true,DA]))
  have hpos:0 < o.bj.x0.length:=by simp only [beq_eq_false_iff_ne,ne_eq] at h;omega
  obtain ⟨D,hD,hDl⟩:∃D,drop 1 o.bj.x0=D∧o.bj.x0.length - 1=D.length:=⟨_,rfl,by simp⟩
  repeat first|refine ai ?_|refine aw ab fun fr=>⟨?_⟩
  (refine dD ab [7] [false,true] [0,1,2,3,4,5,6,7] bZ fun R hR=>?_;(repeat intro rh);(try refine sB ⟨?_⟩);(repeat ((with_reducible apply And.intro);exact fE));(repeat intro rh);(repeat ((with_reducible apply And.intro);exact fE));(try apply_assumption -exfalso));simp only [hD,hDl];(refine EC.use (sU o D ho (by omega)) ?_;(try simp only [hg]);refine dR ab [6,7] ?_;(repeat intro rh);(try refine sB ⟨?_⟩);(repeat ((with_reducible apply And.intro);exact fE));(apply_assumption -exfalso));(repeat (refine ai ?_));(refine dD ab [] [false,true] [0,1,2,3,4,5] bZ fun R hR=>?_;(repeat intro rh);(try refine sB ⟨?_⟩);(repeat ((with_reducible apply And.intro);exact fE));(repeat intro rh);(repeat ((with_reducible apply And.intro);exact fE));(try apply_assumption -exfalso));(repeat (refine ai ?_));((try refine sC ?_);refine sF ?_;refine bq.of_eq ?_;(rw [pO];simp only [h0,h,hD,Bool.false_and,if_false,Bool.false_eq_true,DA]))
 ·((try simp only [hg]);refine gA ab fun fr=>⟨?_⟩);(repeat (done));(apply az;exact rfl;all_goals intro h)
  ·repeat first|refine ai ?_|refine aw ab fun fr=>⟨?_⟩
   ((try refine sC ?_);refine sF ?_;refine bq.of_eq ?_;(rw [pO];simp only [hg,Bool.not_false,if_true,DA]))
  ·simp at h
theorem uv (o:af) (c:Int) (ho:cS o):EC prog 352 [.agg o.c,.int .i64 1,.int .u8 c] [] fun r B=>B=[]∧r=yM (dx o 1 c):=by
 refine EC.fin (nA ab (ca 352) func352 ntmps352 results352 ?_)
 repeat first|refine ai ?_|refine aw ab fun fr=>⟨?_⟩
 (try refine aw ab fun fr=>⟨?_⟩);(refine EC.use (eH o ho) ?_;(try simp only [hg]);refine gA ab fun fr=>⟨?_⟩);refine ⟨fun hg=>?_,fun hg=>?_⟩
 ·have h0:(!gv o)=false:=by simpa using hg
  (refine EC.use (ix 1) ?_;(try simp only [hg]);refine gA ab fun fr=>⟨?_⟩);(repeat (done));(apply az;exact rfl;all_goals intro h)
  ·simp at h
  clear h;have hl:=lS h0
  repeat first|refine ai ?_|refine aw ab fun fr=>⟨?_⟩
  (apply az;exact rfl;all_goals intro h)
  ·repeat first|refine ai ?_|refine aw ab fun fr=>⟨?_⟩
   ((try refine sC ?_);refine sF ?_;refine bq.of_eq ?_;(rw [lQ];simp only [h0,h,if_true,if_false,Bool.false_eq_true,yM]))
  have h1:=h;clear h;have e64:decide (64≤(o.bj.x1.length:Int))=((o.bj.x1.length:Int) == 64):=by
   apply Bool.eq_iff_iff.2;simp;omega
  repeat first|refine ai ?_|refine aw ab fun fr=>⟨?_⟩
  (apply az;exact rfl;all_goals intro h)
  ·rw [e64] at h
   repeat first|refine ai ?_|refine aw ab fun fr=>⟨?_⟩
   ((try refine sC ?_);refine sF ?_;refine bq.of_eq ?_;(rw [lQ];simp only [h0,h1,h,if_true,if_false,Bool.false_eq_true,yM]))
  rw [e64] at h;(repeat (refine ai ?_));(refine dV ab 6 [12] [false,true] [0,1,2,3,4,5,7] bZ fun R hR=>?_;(try refine sB ⟨?_⟩);(repeat ((with_reducible apply And.intro);exact fE)));refine Mg ab 6 8 ?_ ?_
  ·(intro rh;(repeat ((with_reducible apply And.intro);exact fE));refine dR ab [8,9,10,11,12] ?_;(repeat ((with_reducible apply And.intro);exact fE)));intro h3 h4;refine ⟨by omega,?_⟩;refine EC.DJ (ma o (o.bj.x1 ++ [c]) ho (by simp;omega)) (d_.GK (d_.int (d_.H7 (l:=o.bj.x1 ++ [c]) rfl rfl (show o.bj.x1.length+1=(o.bj.x1 ++ [c]).length by simp) .nil))) (fun _=>rfl) (fun s i=>DN _ _ _ s _ i) (fun _ _=>bq.agg (.cons bq.row (.cons bq.row .nil))) ?_;rintro ⟨a,b⟩ -
   (skip;refine dR ab [11,12] ?_;(repeat intro rh);(try refine sB ⟨?_⟩);(repeat ((with_reducible apply And.intro);exact fE));(apply_assumption -exfalso))
   repeat first|refine ai ?_|refine aw ab fun fr=>⟨?_⟩
   (try refine sC ?_);rw [show yM (dx o 1 c)= .bS [.agg (af.c {o with bj:={o.bj with x1:=o.bj.x1 ++ [c]}}),.int .i64 0] by rw [lQ];simp only [h0,h1,h,if_false,Bool.false_eq_true,yM]];unfold qq;exact hY (.agg (((eU.O _).put 30 (gY.row (cells:=aS .u8) (d:=default) rfl rfl (by simp)) (af.PE _ _)).put 31 (gY.row (cells:=aS .u8) (d:=default) rfl rfl (by simp)) (af.PD _ _))) .int
  ·(intro rh;(repeat ((with_reducible apply And.intro);exact fE));refine dR ab [6,9,10,11,12] ?_;(repeat ((with_reducible apply And.intro);exact fE)));intro h3;refine ⟨by omega,?_⟩;intro h4;refine ⟨by omega,?_⟩;refine EC.DJ (ma o (o.bj.x1 ++ [c]) ho (by simp;omega)) (d_.GK (d_.int (d_.H7 (l:=o.bj.x1 ++ [c]) rfl rfl (show o.bj.x1.length+1=(o.bj.x1 ++ [c]).length by simp) .nil))) (fun _=>rfl) (fun s i=>DN _ _ _ s _ i) (fun _ _=>bq.agg (.cons bq.row (.cons bq.row .nil))) ?_;rintro ⟨a,b⟩ -
   (skip;refine dR ab [11,12] ?_;(repeat intro rh);(try refine sB ⟨?_⟩);(repeat ((with_reducible apply And.intro);exact fE));(apply_assumption -exfalso))
   repeat first|refine ai ?_|refine aw ab fun fr=>⟨?_⟩
   (try refine sC ?_);rw [show yM (dx o 1 c)= .bS [.agg (af.c {o with bj:={o.bj with x1:=o.bj.x1 ++ [c]}}),.int .i64 0] by rw [lQ];simp only [h0,h1,h,if_false,Bool.false_eq_true,yM]];unfold qq;exact hY (.agg (((eU.O _).put 30 (gY.row (cells:=aS .u8) (d:=default) rfl rfl (by simp)) (af.PE _ _)).put 31 (gY.row (cells:=aS .u8) (d:=default) rfl rfl (by simp)) (af.PD _ _))) .int
 ·((try simp only [hg]);refine gA ab fun fr=>⟨?_⟩);(repeat (done));(apply az;exact rfl;all_goals intro h)
  ·repeat first|refine ai ?_|refine aw ab fun fr=>⟨?_⟩
   ((try refine sC ?_);refine sF ?_;refine bq.of_eq ?_;(rw [lQ];simp only [hg,Bool.not_false,if_true,yM]))
  ·simp at h
theorem xW (o:af) (k:Int) (ho:cS o):EC prog 349 [.agg o.c,.int .i64 k] [] fun r B=>B=[]∧r=DA (eX o k):=by
 by_cases h0:k=0
 ·subst h0;exact wj o ho
 by_cases h1:k=1
 ·subst h1;exact wi o ho
 have hb:(!gv o || (k !=0 && k !=1))=true:=by simp [h0,h1]
 refine EC.fin (nA ab (ca 349) func349 ntmps349 results349 ?_)
 repeat first|refine ai ?_|refine aw ab fun fr=>⟨?_⟩
 (try refine aw ab fun fr=>⟨?_⟩);(refine EC.use (eH o ho) ?_;(try simp only [hg]);refine gA ab fun fr=>⟨?_⟩);refine ⟨fun hg=>?_,fun hg=>?_⟩
 ·(refine EC.use (ix k) ?_;(try simp only [hg]);refine gA ab fun fr=>⟨?_⟩);(repeat (done));(apply az;exact rfl;all_goals intro h)
  ·repeat first|refine ai ?_|refine aw ab fun fr=>⟨?_⟩
   ((try refine sC ?_);refine sF ?_;refine bq.of_eq ?_;(simp only [eX,hb,if_true,DA]))
  ·exfalso;simp [h0,h1] at h
 ·((try simp only [hg]);refine gA ab fun fr=>⟨?_⟩);(repeat (done));(apply az;exact rfl;all_goals intro h)
  ·repeat first|refine ai ?_|refine aw ab fun fr=>⟨?_⟩
   ((try refine sC ?_);refine sF ?_;refine bq.of_eq ?_;(simp only [eX,hb,if_true,DA]))
  ·simp at h
theorem wg (o:af) (k:Int) (c:Int) (ho:cS o):EC prog 352 [.agg o.c,.int .i64 k,.int .u8 c] [] fun r B=>B=[]∧r=yM (dx o k c):=by
 by_cases h0:k=0
 ·subst h0;exact uw o c ho
 by_cases h1:k=1
 ·subst h1;exact uv o c ho
 have hb:(!gv o || (k !=0 && k !=1))=true:=by simp [h0,h1]
 refine EC.fin (nA ab (ca 352) func352 ntmps352 results352 ?_)
 repeat first|refine ai ?_|refine aw ab fun fr=>⟨?_⟩
 (try refine aw ab fun fr=>⟨?_⟩);(refine EC.use (eH o ho) ?_;(try simp only [hg]);refine gA ab fun fr=>⟨?_⟩);refine ⟨fun hg=>?_,fun hg=>?_⟩
 ·(refine EC.use (ix k) ?_;(try simp only [hg]);refine gA ab fun fr=>⟨?_⟩);(repeat (done));(apply az;exact rfl;all_goals intro h)
  ·repeat first|refine ai ?_|refine aw ab fun fr=>⟨?_⟩
   ((try refine sC ?_);refine sF ?_;refine bq.of_eq ?_;(simp only [dx,hb,if_true,yM]))
  ·exfalso;simp [h0,h1] at h
 ·((try simp only [hg]);refine gA ab fun fr=>⟨?_⟩);(repeat (done));(apply az;exact rfl;all_goals intro h)
  ·repeat first|refine ai ?_|refine aw ab fun fr=>⟨?_⟩
   ((try refine sC ?_);refine sF ?_;refine bq.of_eq ?_;(simp only [dx,hb,if_true,yM]))
  ·simp at h

def q4 (o:af):Bool:=o.aU == 8 && !(o.ID == 0) && decide (0≤o.fG) && decide (o.fG≤1073741824) && eB o 2048
theorem jk (o:af):EC prog 297 [.agg o.c] [] fun r B=>B=[]∧r= .bool (q4 o):=by
 refine EC.fin (nA ab (ca 297) func297 ntmps297 results297 ?_)
 repeat first|refine ai ?_|refine aw ab fun fr=>⟨?_⟩
 (try refine aw ab fun fr=>⟨?_⟩);refine ⟨fun hg=>?_,fun hg=>?_⟩
 ·(refine EC.use (cZ {o with fG:=0}) ?_;(try simp only [hg]);refine gA ab fun fr=>⟨?_⟩);(repeat (refine ai ?_));((try refine sC ?_);refine sF ?_;refine bq.of_eq ?_;(simp only [q4,←bne_eq,hg,B9];(try rfl)))
 ·((try simp only [hg]);refine gA ab fun fr=>⟨?_⟩);(repeat (refine ai ?_));((try refine sC ?_);refine sF ?_;refine bq.of_eq ?_;(simp only [q4,←bne_eq,hg];(try rfl)))
def iJ (o:af):af×Int:=if (!q4 o)=true then (default,1) else if (o.fG == 0)=true then (default,12) else ({o with fG:=o.fG - 1},0)
def nM (o:af):af×Int:=if (!q4 o)=true then (default,1) else if (o.fG == 1073741824)=true then (default,3) else ({o with fG:=o.fG+1},0)
def HA (x:af×Int):SV:= .bS [.agg x.1.c,.int .i64 x.2]
theorem tu {o:af} (h:(!q4 o)=false):0≤o.fG∧o.fG≤1073741824:=by
 simp [q4] at h;omega
theorem xV (o:af):EC prog 327 [.agg o.c] [] fun r B=>B=[]∧r=HA (iJ o):=by
 refine EC.fin (nA ab (ca 327) func327 ntmps327 results327 ?_)
 repeat first|refine ai ?_|refine aw ab fun fr=>⟨?_⟩
 (try refine aw ab fun fr=>⟨?_⟩);(refine EC.use (jk o) ?_;(try simp only [hg]);refine gA ab fun fr=>⟨?_⟩);(repeat (done));(apply az;exact rfl;all_goals intro h)
 ·repeat first|refine ai ?_|refine aw ab fun fr=>⟨?_⟩
  ((try refine sC ?_);refine sF ?_;refine bq.of_eq ?_;(simp only [iJ,h,if_true,HA]))
 have h0:=h;clear h
 repeat first|refine ai ?_|refine aw ab fun fr=>⟨?_⟩
 (apply az;exact rfl;all_goals intro h)
 ·repeat first|refine ai ?_|refine aw ab fun fr=>⟨?_⟩
  ((try refine sC ?_);refine sF ?_;refine bq.of_eq ?_;(simp only [iJ,h0,h,if_true,if_false,Bool.false_eq_true,HA]))
 ·have hr:=tu h0
  repeat first|refine ai ?_|refine aw ab fun fr=>⟨?_⟩
  ((try refine sC ?_);refine sF ?_;refine bq.of_eq ?_;(simp only [iJ,h0,h,if_true,if_false,Bool.false_eq_true,HA]))
theorem B6 (o:af):EC prog 328 [.agg o.c] [] fun r B=>B=[]∧r=HA (nM o):=by
 refine EC.fin (nA ab (ca 328) func328 ntmps328 results328 ?_)
 repeat first|refine ai ?_|refine aw ab fun fr=>⟨?_⟩
 (try refine aw ab fun fr=>⟨?_⟩);(refine EC.use (jk o) ?_;(try simp only [hg]);refine gA ab fun fr=>⟨?_⟩);(repeat (done));(apply az;exact rfl;all_goals intro h)
 ·repeat first|refine ai ?_|refine aw ab fun fr=>⟨?_⟩
  ((try refine sC ?_);refine sF ?_;refine bq.of_eq ?_;(simp only [nM,h,if_true,HA]))
 have h0:=h;clear h
 repeat first|refine ai ?_|refine aw ab fun fr=>⟨?_⟩
 (apply az;exact rfl;all_goals intro h)
 ·repeat first|refine ai ?_|refine aw ab fun fr=>⟨?_⟩
  ((try refine sC ?_);refine sF ?_;refine bq.of_eq ?_;(simp only [nM,h0,h,if_true,if_false,Bool.false_eq_true,HA]))
 ·have hr:=tu h0
  repeat first|refine ai ?_|refine aw ab fun fr=>⟨?_⟩
  ((try refine sC ?_);refine sF ?_;refine bq.of_eq ?_;(simp only [nM,h0,h,if_true,if_false,Bool.false_eq_true,HA]))
section
attribute [local irreducible] EC EV
def ox:List SV→Bool
 |[]=>true
 | .row .. :: _=>false
 | .bx .. :: _=>false
 | .om .. :: _=>false
 |_ :: r=>ox r
theorem sw (sel:Nat→Bool) (B:List aI):∀cs:List SV,ox cs=true→ew sel B cs=cs∧bC sel B cs
 |[],_=>⟨rfl,trivial⟩
 |s :: r,h=>by
  have hr:ox r=true:=by cases s<;>first|exact h|(simp [ox] at h)
  have:=sw sel B r hr
  cases s<;>first|(simp [ox] at h;done)|exact ⟨congrArg _ this.1,trivial,this.2⟩
theorem eU.pl {B:List aI} {cs:List SV} (h:ox cs=true):eU B cs cs:=⟨(sw _ B cs h).2,by rw [(sw _ B cs h).1];exact eD.refl _⟩
theorem Lt.fS {B:List aI} {α:Type} {c:α→List SV} {x y:α} (h:x=y) (hs:ox (c y)=true):Lt B (.agg (c x)) (.agg (c y)):=by subst h;exact Lt.agg (eU.pl hs)
theorem a6.fS {B:List aI} {α:Type} {c:α→List SV} {x y:α} (h:x=y) (hs:ox (c y)=true):a6 B (.agg (c x)) (.agg (c y)):=by subst h;exact a6.agg (eU.pl hs)
def cb.at (c:cb) (k:Nat):Int:=[c.cu.x0,c.cu.x1,c.cu.x2,c.cu.x3,c.cu.x4,c.cu.x5,c.cu.x6,c.cu.x7].getD k 0
def cb.put (c:cb) (k:Nat) (v:Int):cb:={c with cu:=⟨if k=0 then v else c.cu.x0,if k=1 then v else c.cu.x1,if k=2 then v else c.cu.x2,if k=3 then v else c.cu.x3,if k=4 then v else c.cu.x4,if k=5 then v else c.cu.x5,if k=6 then v else c.cu.x6,if k=7 then v else c.cu.x7⟩}
theorem Rt {k:Nat} (h:k < 8):k=0∨k=1∨k=2∨k=3∨k=4∨k=5∨k=6∨k=7:=by omega
theorem cb.ga (c:cb) {k:Nat} (d:SV) (h:k < 8):c.c.getD (1+k) d= .int .i64 (c.at k):=by
 rcases Rt h with rfl|rfl|rfl|rfl|rfl|rfl|rfl|rfl<;>rfl
theorem cb.pa (c:cb) {k:Nat} (v:Int) (h:k < 8):aJ c.c (1+k) [.int .i64 v]=(c.put k v).c:=by
 rcases Rt h with rfl|rfl|rfl|rfl|rfl|rfl|rfl|rfl<;>rfl
def fI (n:Int):Bool:=decide (0≤n) && decide (n < 8)
theorem dS (n:Int):EC prog 250 [.int .i64 n] [] fun r N=>N=[]∧r= .bool (fI n):=by
 refine EC.cQ ?_;refine nK ab (ca 250) func250 ntmps250 results250 ?_;(repeat' (first|refine zL ?_|fail))<;>(exact zA)
theorem wy (b:Bool):EC prog 306 [.bool b] [] fun r N=>N=[]∧r= .int .i64 (if b then 1 else 0):=by
 refine EC.cQ ?_;refine nK ab (ca 306) func306 ntmps306 results306 ?_;(repeat' (first|refine zL ?_|(with_reducible intro _)|with_reducible apply And.intro))<;>(exact zA)
def PA (x:cb×a_):SV:= .bS [.agg x.1.c,.agg x.2.c]
attribute [push_cast] PA
def p7:a_:={(default:a_) with aU:=4}
theorem eI (c:cb):EC prog 248 [.agg c.c] [] fun r N=>N=[]∧r=PA (c,p7):=by
 refine EC.cQ ?_;refine nK ab (ca 248) func248 ntmps248 results248 ?_;(repeat' (first|apply Lt.t2|apply a6.fS|(with_reducible intro _)))<;>(exact zA)
def jO (c:cb):cb:={c with PC:=IntKind.i64.wrap (c.PC+1)}
theorem fJ (c:cb):EC prog 249 [.agg c.c] [] fun r N=>N=[]∧r= .agg (jO c).c:=by
 refine EC.cQ ?_;refine nK ab (ca 249) func249 ntmps249 results249 ?_;(repeat' (first|apply Lt.fS|(with_reducible intro _)))<;>(exact zA)
def jb (c:cb) (reg v:Int):cb:=jO (if fI reg then c.put reg.toNat v else c)
theorem gI (c:cb) (reg v:Int):EC prog 251 [.agg c.c,.int .i64 reg,.int .i64 v] [] fun r N=>N=[]∧r= .agg (jb c reg v).c:=by
 refine EC.cQ ?_;refine nK ab (ca 251) func251 ntmps251 results251 ?_;intro fr;(refine EC.use (dS reg) ?_;refine eK ab ?_);refine ⟨fun h=>?_,fun h=>?_⟩
 ·have hr:0≤reg∧reg < 8:=by simpa [fI] using h
  have hl:jb c reg v=jO (c.put reg.toNat v):=by simp [jb,h]
  rw [hl,cb.pa c v (by omega)];refine sA ?_;(repeat refine sd ?_);(repeat' (first|refine eK ab ?_|refine EC.use (fJ _) ?_|apply Lt.fS))<;>(exact zA)
 ·have hl:jb c reg v=jO c:=by simp [jb,h]
  rw [hl];(repeat' (first|refine eK ab ?_|refine EC.use (fJ _) ?_|apply Lt.fS))<;>(exact zA)
theorem me (c:cb) (v:Int):EC prog 200 [.agg c.c,.int .i64 v] [] fun r N=>N=[]∧r= .agg (jb c 0 v).c:=by
 refine EC.cQ ?_;refine nK ab (ca 200) func200 ntmps200 results200 ?_;(repeat' (first|refine eK ab ?_|refine EC.use (gI _ _ _) ?_|apply Lt.fS|(with_reducible intro _)))<;>(exact zA)
def NG (c:cb) (r0 r1:Int):cb:=jb {c with cu:={c.cu with x1:=r1}} 0 r0
theorem qO (c:cb) (r0 r1:Int):EC prog 201 [.agg c.c,.int .i64 r0,.int .i64 r1] [] fun r N=>N=[]∧r= .agg (NG c r0 r1).c:=by
 refine EC.cQ ?_;refine nK ab (ca 201) func201 ntmps201 results201 ?_;(repeat' (first|refine eK ab ?_|refine EC.use (gI _ _ _) ?_|apply Lt.fS|(with_reducible intro _)))<;>(exact zA)
def Qw (op b d:Int):Int:=if op == 3 then IntKind.i64.wrap (b+d) else if op == 4 then IntKind.i64.wrap (b - d) else if op == 5 then IntKind.i64.wrap (b*d) else if op == 6 then (if decide (b < d) then 1 else 0) else if b == d then 1 else 0
def mf (c:cb) (x:bp):cb×a_:=
 if fI x.A && fI x.B && fI x.C then (jO (c.put x.A.toNat (Qw x.Op (c.at x.B.toNat) (c.at x.C.toNat))),default) else (c,p7)
theorem hZ (c:cb) (x:bp):EC prog 252 [.agg c.c,.agg x.c] [] fun r N=>N=[]∧r=PA (mf c x):=by
 refine EC.cQ ?_;refine nK ab (ca 252) func252 ntmps252 results252 ?_;intro fr;(refine EC.use (dS _) ?_;refine eK ab ?_);have hb:∀b:Bool,(if b=true then (1:Int) else 0)=if b then 1 else 0:=fun _=>rfl
 (repeat' (first|refine eK ab ?_|refine EC.use (dS _) ?_|refine EC.use (eI _) ?_|apply Lt.t2|apply a6.fS|(with_reducible intro _)|with_reducible apply And.intro))<;>(first|exact zA|(simp [mf, *];done)|(simp_all [mf];done)|skip);rename_i h1 h2 h3;have hA:0≤x.A∧x.A < 8:=by simpa [fI] using h1
 have hB:0≤x.B∧x.B < 8:=by simp [h1,fI] at h2;exact h2.2
 have hC:0≤x.C∧x.C < 8:=by simp only [h2,Bool.false_or] at h3;simp [fI] at h3;exact h3
 have hr:mf c x=(jO (c.put x.A.toNat (Qw x.Op (c.at x.B.toNat) (c.at x.C.toNat))),default):=by simp [mf,fI,hA,hB,hC]
 rw [hr];(refine dD ab [] [false,false,false,false] [0,1,2,3,4,5,6,7,8,9,10,11] bZ fun R hR=>?_);refine ⟨hB,by omega,hC,by omega,hR _ _ ?_⟩;simp only [cb.ga c _ (show x.B.toNat < 8 by omega),cb.ga c _ (show x.C.toNat < 8 by omega),cb.pa c _ (show x.A.toNat < 8 by omega),push_cast,simprocAttr];(repeat' (first|(refine jy (m:=0) ab ?_;simp only [cb.pa c _ (show x.A.toNat < 8 by omega),push_cast,simprocAttr])|refine EC.use (wy _) ?_|refine EC.use (fJ _) ?_|apply Lt.t2|apply a6.fS|(with_reducible intro _)|with_reducible apply And.intro))<;>(first|exact zA|(simp [Qw, *];done))
def gD (c:cb) (x:bp):cb×a_:=
 if x.Op == 0 then (jO c,default)
 else if x.Op == 1 then (if !fI x.A then (c,p7) else (jb c x.A x.B,default))
 else if x.Op == 2 then (if !fI x.A || !fI x.B then (c,p7) else (jb c x.A (c.at x.B.toNat),default))
 else if x.Op == 3 || x.Op == 4 || x.Op == 5 || x.Op == 6 || x.Op == 7 then mf c x
 else if x.Op == 8 then ({c with PC:=x.A},default)
 else if x.Op == 9 then (if !fI x.A then (c,p7) else if c.at x.A.toNat == 0 then (jO c,default) else ({c with PC:=x.B},default))
 else if x.Op == 10 then (if !fI x.A || !fI x.B then (c,p7) else (c,{(default:a_) with aU:=1,iN:=IntKind.i64.wrap (c.at x.B.toNat+x.C),O':=x.A}))
 else if x.Op == 11 then (if !fI x.A || !fI x.B then (c,p7) else (c,{(default:a_) with aU:=2,iN:=IntKind.i64.wrap (c.at x.B.toNat+x.C),Value:=c.at x.A.toNat}))
 else if x.Op == 12 then (c,{(default:a_) with aU:=3,Number:=x.A,eT:=⟨c.cu.x1,c.cu.x2,c.cu.x3⟩})
 else (c,p7)
def oA (c:cb) (p:aP):cb×a_:=
 if decide (c.PC < 0) || decide ((p.Code.length:Int)≤c.PC) then (c,p7) else gD c (p.Code.getD c.PC.toNat default)
theorem RW {c:cb} {x:bp} (h:x.Op=0):gD c x=(jO c,default):=by simp [gD,h]
theorem RV {c:cb} {x:bp} (h:x.Op=1):gD c x=if !fI x.A then (c,p7) else (jb c x.A x.B,default):=by simp [gD,h]
theorem RU {c:cb} {x:bp} (h:x.Op=2):gD c x=if !fI x.A || !fI x.B then (c,p7) else (jb c x.A (c.at x.B.toNat),default):=by simp [gD,h]
theorem N5 {c:cb} {x:bp} (h:(x.Op == 3 || x.Op == 4 || x.Op == 5 || x.Op == 6 || x.Op == 7)=true):gD c x=mf c x:=by
 have:x.Op=3∨x.Op=4∨x.Op=5∨x.Op=6∨x.Op=7:=by simpa [or_assoc] using h
 rcases this with h|h|h|h|h<;>simp [gD,h]
theorem RT {c:cb} {x:bp} (h:x.Op=8):gD c x=({c with PC:=x.A},default):=by simp [gD,h]
theorem RS {c:cb} {x:bp} (h:x.Op=9):gD c x=if !fI x.A then (c,p7) else if c.at x.A.toNat == 0 then (jO c,default) else ({c with PC:=x.B},default):=by simp [gD,h]
theorem QM {c:cb} {x:bp} (h:x.Op=10):gD c x=if !fI x.A || !fI x.B then (c,p7) else (c,{(default:a_) with aU:=1,iN:=IntKind.i64.wrap (c.at x.B.toNat+x.C),O':=x.A}):=by simp [gD,h]
theorem QL {c:cb} {x:bp} (h:x.Op=11):gD c x=if !fI x.A || !fI x.B then (c,p7) else (c,{(default:a_) with aU:=2,iN:=IntKind.i64.wrap (c.at x.B.toNat+x.C),Value:=c.at x.A.toNat}):=by simp [gD,h]
theorem QK {c:cb} {x:bp} (h:x.Op=12):gD c x=(c,{(default:a_) with aU:=3,Number:=x.A,eT:=⟨c.cu.x1,c.cu.x2,c.cu.x3⟩}):=by simp [gD,h]
theorem RR {c:cb} {x:bp} (h:(x.Op == 0 || x.Op == 1 || x.Op == 2 || x.Op == 3 || x.Op == 4 || x.Op == 5 || x.Op == 6 || x.Op == 7 || x.Op == 8 || x.Op == 9 || x.Op == 10 || x.Op == 11 || x.Op == 12)=false):gD c x=(c,p7):=by
 simp only [Bool.or_eq_false_iff] at h;simp [gD,h]
theorem jY (c:cb) (p:aP):EC prog 190 [.agg c.c,.agg p.c] [] fun r N=>N=[]∧r=PA (oA c p):=by
 refine EC.cQ ?_;refine nK ab (ca 190) func190 ntmps190 results190 ?_;intro fr;refine ⟨fun h=>?_,fun h=>?_⟩
 ·(repeat' (first|refine eK ab ?_|refine EC.use (eI _) ?_|apply Lt.t2|apply a6.fS))<;>(first|exact zA|(simp [oA, *];done))
 have hp:0≤c.PC∧c.PC < p.Code.length:=by simp at h;omega
 have hr:oA c p=gD c (p.Code.getD c.PC.toNat default):=by simp only [oA];rw [if_neg];simp;omega
 rw [hr];(repeat refine sd ?_);generalize p.Code.getD c.PC.toNat default=x;intro fr1
 repeat' (first|with_reducible apply And.intro|with_reducible intro _)
 all_goals try (first|exact absurd (‹(x.Op == 3)=true›.symm.trans ‹(x.Op == 3)=false›) (by decide)|exact absurd (‹(x.Op == 4)=true›.symm.trans ‹(x.Op == 4)=false›) (by decide)|exact absurd (‹(x.Op == 5)=true›.symm.trans ‹(x.Op == 5)=false›) (by decide)|exact absurd (‹(x.Op == 6)=true›.symm.trans ‹(x.Op == 6)=false›) (by decide))
 ·exact hp.1
 ·exact hp.2
 ·rw [RW (eq_of_beq ‹(x.Op == 0)=true›)];(repeat' (first|refine eK ab ?_|refine EC.use (fJ _) ?_|apply Lt.t2|apply a6.fS))<;>(exact zA)
 ·rw [RV (eq_of_beq ‹(x.Op == 1)=true›)];(repeat' (first|refine eK ab ?_|refine EC.use (dS _) ?_|refine EC.use (gI _ _ _) ?_|refine EC.use (eI _) ?_|apply Lt.t2|apply a6.fS|(with_reducible intro _)|with_reducible apply And.intro))<;>(exact zA)
 ·rw [RU (eq_of_beq ‹(x.Op == 2)=true›)];(repeat' (first|refine eK ab ?_|refine EC.use (dS _) ?_|refine EC.use (eI _) ?_|apply Lt.t2|apply a6.fS|(with_reducible intro _)|with_reducible apply And.intro))<;>(first|exact zA|skip);have hB:0≤x.B∧x.B < 8:=by have h2:=‹(!fI x.A || !fI x.B)=false›;simp [fI] at h2;exact h2.2
  have hA:=‹fI x.A=true›;rw [if_neg (by have h2:=‹(!fI x.A || !fI x.B)=false›;rw [h2];simp)];(refine dD ab [] [false,false,true,true,false] [0,1,2,3,4,5,6,7,9,8,10,11] bZ fun R hR=>?_);refine ⟨hB,by omega,?_⟩;simp only [cb.ga c _ (show x.B.toNat < 8 by omega)];(refine EC.use (gI _ _ _) ?_;(try simp only [hg]);refine dR ab [10,11] ?_;(repeat intro rh);(try refine sB ⟨?_⟩);(repeat ((with_reducible apply And.intro);exact fE));(apply_assumption -exfalso));refine sA ?_;(repeat' (first|apply Lt.t2|apply a6.fS))<;>(exact zA)
 ·(repeat' (first|refine eK ab ?_|refine EC.use (hZ _ _) ?_|apply Lt.t2|apply a6.fS))<;>(first|exact zA|(simp [N5, *];done))
 ·(repeat' (first|refine eK ab ?_|refine EC.use (hZ _ _) ?_|apply Lt.t2|apply a6.fS))<;>(first|exact zA|(simp [N5, *];done))
 ·(repeat' (first|refine eK ab ?_|refine EC.use (hZ _ _) ?_|apply Lt.t2|apply a6.fS))<;>(first|exact zA|(simp [N5, *];done))
 ·(repeat' (first|refine eK ab ?_|refine EC.use (hZ _ _) ?_|apply Lt.t2|apply a6.fS))<;>(first|exact zA|(simp [N5, *];done))
 ·(repeat' (first|refine eK ab ?_|refine EC.use (hZ _ _) ?_|apply Lt.t2|apply a6.fS))<;>(first|exact zA|(simp [N5, *];done))
 ·rw [RT (eq_of_beq ‹(x.Op == 8)=true›)];(repeat' (first|apply Lt.t2|apply a6.fS))<;>(exact zA)
 ·rw [RS (eq_of_beq ‹(x.Op == 9)=true›)];(refine EC.use (dS _) ?_;refine eK ab ?_);refine ⟨fun h2=>?_,fun h2=>?_⟩
  ·have h3:fI x.A=false:=by simpa using h2
   simp only [h3,if_true];(repeat' (first|refine eK ab ?_|refine EC.use (eI _) ?_|apply Lt.t2|apply a6.fS))<;>(exact zA)
  ·have h3:fI x.A=true:=by simpa using h2
   have hA:0≤x.A∧x.A < 8:=by simpa [fI] using h3
   simp only [h3,Bool.true_eq_false,if_false,cb.ga c _ (show x.A.toNat < 8 by omega),push_cast,simprocAttr];refine ⟨by omega,by omega,?_⟩;(repeat' (first|refine eK ab ?_|refine EC.use (fJ _) ?_|apply Lt.t2|apply a6.fS|(with_reducible intro _)|with_reducible apply And.intro))<;>(exact zA)
 ·rw [QM (eq_of_beq ‹(x.Op == 10)=true›)];(repeat' (first|refine eK ab ?_|refine EC.use (dS _) ?_|refine EC.use (eI _) ?_|apply Lt.t2|apply a6.fS|(with_reducible intro _)|with_reducible apply And.intro))<;>(first|exact zA|skip);have h2:=‹(!fI x.A || !fI x.B)=false›;have hA':=‹fI x.A=true›;have hA:0≤x.A∧x.A < 8:=by simpa [fI] using hA'
  have hB:0≤x.B∧x.B < 8:=by simp [fI] at h2;exact h2.2
  rw [if_neg (by rw [h2];simp)];(refine dD ab [] [false,false,true,true,false] [0,1,2,3,4,5,6,7,8,9,10,11,12,13] bZ fun R hR=>?_);refine ⟨hB,by omega,?_⟩;simp only [cb.ga c _ (show x.B.toNat < 8 by omega),push_cast,simprocAttr];refine hR _ _ ?_;refine sA ?_;(repeat' (first|apply Lt.t2|apply a6.fS))<;>(exact zA)
 ·rw [QL (eq_of_beq ‹(x.Op == 11)=true›)];(repeat' (first|refine eK ab ?_|refine EC.use (dS _) ?_|refine EC.use (eI _) ?_|apply Lt.t2|apply a6.fS|(with_reducible intro _)|with_reducible apply And.intro))<;>(first|exact zA|skip);have h2:=‹(!fI x.A || !fI x.B)=false›;have hA':=‹fI x.A=true›;have hA:0≤x.A∧x.A < 8:=by simpa [fI] using hA'
  have hB:0≤x.B∧x.B < 8:=by simp [fI] at h2;exact h2.2
  rw [if_neg (by rw [h2];simp)];(refine dD ab [] [false,false,true,true,false] [0,1,2,3,4,5,6,7,8,9,10,11,12,13,14,15,16] bZ fun R hR=>?_);refine ⟨hB,by omega,?_⟩;simp only [cb.ga c _ (show x.B.toNat < 8 by omega),cb.ga c _ (show x.A.toNat < 8 by omega),push_cast,simprocAttr];refine ⟨hA,by omega,?_⟩;refine hR _ _ ?_;refine sA ?_;(repeat' (first|apply Lt.t2|apply a6.fS))<;>(exact zA)
 ·rw [QK (eq_of_beq ‹(x.Op == 12)=true›)];(refine dD ab [] [false,false,true,true,false] [0,1,2,3,4,5,6,7,8,9,10,11,12,13,14,15] bZ fun R hR=>?_);refine hR _ _ ?_;refine sA ?_;(repeat' (first|apply Lt.t2|apply a6.fS))<;>(exact zA)
 ·rw [RR]
  ·(repeat' (first|refine eK ab ?_|refine EC.use (eI _) ?_|apply Lt.t2|apply a6.fS))<;>(exact zA)
  ·simp only [*,Bool.or_self]
end
section
attribute [local irreducible] EC EV
def NN (a b:Int):SV:= .bS [.int .u64 a,.int .i64 b]
attribute [push_cast] NN
def ET (op n:Int):Bool:=if op == 1 then decide (-9007199254740992≤n) && decide (n≤9007199254740992) else if op == 12 then decide (1≤n) && decide (n≤24) else decide (0≤n) && decide (n≤256)
theorem uz (op n:Int):EC prog 342 [.int .i64 op,.int .i64 n] [] fun r N=>N=[]∧r= .bool (ET op n):=by
 refine EC.cQ ?_;refine nK ab (ca 342) func342 ntmps342 results342 ?_;(repeat' (first|refine zL ?_|(with_reducible intro _)|with_reducible apply And.intro))<;>((simp [ET, *];done))
def lB (op:Int):List UInt8:=match op.toNat with|1=>[114,110]|2=>[114,114]|3=>[114,114,114]|4=>[114,114,114]|5=>[114,114,114]|6=>[114,114,114]|7=>[114,114,114]|8=>[116]|9=>[114,116]|10=>[114,114,110]|11=>[114,114,110]|12=>[110]|_=>[]
def GC (op:Int):Bool:=decide (0≤op) && decide (op < 13)
theorem GP {op:Int} (h:0≤op∧op < 13):getD [[SV.str [110,111,112]],[SV.str [115,101,116]],[SV.str [109,111,118,101]],[SV.str [97,100,100]],[SV.str [115,117,98]],[SV.str [109,117,108]],[SV.str [108,101,115,115]],[SV.str [101,113,117,97,108]],[SV.str [106,117,109,112]],[SV.str [105,102]],[SV.str [108,111,97,100]],[SV.str [115,116,111,114,101]],[SV.str [99,97,108,108]]] op.toNat []=[.str (K' op)]:=by
 obtain ⟨n,rfl⟩:=Int.eq_ofNat_of_zero_le h.1;have hn:n < 13:=by omega
 match n,hn with
 |0,_|1,_|2,_|3,_|4,_|5,_|6,_|7,_|8,_|9,_|10,_|11,_|12,_=>rfl
theorem Er {op:Int} (h:0≤op∧op < 13):getD [[SV.str []],[SV.str [114,110]],[SV.str [114,114]],[SV.str [114,114,114]],[SV.str [114,114,114]],[SV.str [114,114,114]],[SV.str [114,114,114]],[SV.str [114,114,114]],[SV.str [116]],[SV.str [114,116]],[SV.str [114,114,110]],[SV.str [114,114,110]],[SV.str [110]]] op.toNat []=[.str (lB op)]:=by
 obtain ⟨n,rfl⟩:=Int.eq_ofNat_of_zero_le h.1;have hn:n < 13:=by omega
 match n,hn with
 |0,_|1,_|2,_|3,_|4,_|5,_|6,_|7,_|8,_|9,_|10,_|11,_|12,_=>rfl
theorem qt (op:Int):EC prog 341 [.int .i64 op] [] fun r N=>N=[]∧r= .bS [.str (if GC op then K' op else []),.str (if GC op then lB op else [])]:=by
 refine EC.cQ ?_;refine nK ab (ca 341) func341 ntmps341 results341 ?_;intro fr fr1;refine ⟨fun h=>?_,fun h=>?_⟩
 ·have h2:GC op=false:=by simp [GC] at h ⊢;omega
  rw [h2];(repeat' (first|refine zL ?_|apply Lt.t2))<;>(exact zA)
 have h2:0≤op∧op < 13:=by simp at h;omega
 have h3:GC op=true:=by simp [GC];omega
 rw [h3];(refine dD ab [] [false,false] [0,1,2,3,4,5,6,7,8,9] bZ fun R hR=>?_);refine ⟨h2,by omega,h2,by omega,hR _ _ ?_⟩;simp only [GP h2,Er h2,push_cast,simprocAttr];(repeat' (first|refine zL ?_|apply Lt.t2))<;>(exact zA)
theorem Oa {op:Int} (h:0≤op∧op < 13):(K' op == [])=false:=by
 obtain ⟨n,rfl⟩:=Int.eq_ofNat_of_zero_le h.1;have hn:n < 13:=by omega
 match n,hn with
 |0,_|1,_|2,_|3,_|4,_|5,_|6,_|7,_|8,_|9,_|10,_|11,_|12,_=>rfl
def mj (x:bp) (len:Int) (i:Nat):Bool:=
 if decide (((lB x.Op).length:Int)≤i) then m7 x i == 0
 else !((((lB x.Op).getD i 0).toNat:Int) == 114 && (decide (m7 x i < 0) || decide (8≤m7 x i))) && !((((lB x.Op).getD i 0).toNat:Int) == 116 && (decide (m7 x i < 0) || decide (len < m7 x i))) && !((((lB x.Op).getD i 0).toNat:Int) == 110 && !ET x.Op (m7 x i))
theorem LM {x:bp} {i:Nat} (h:i < 3):getD [[SV.int .i64 x.A],[SV.int .i64 x.B],[SV.int .i64 x.C]] i []=[.int .i64 (m7 x i)]:=by
 match i,h with
 |0,_|1,_|2,_=>rfl
theorem uy (x:bp) (len:Int):EC prog 304 [.agg x.c,.int .i64 len] [] fun r N=>N=[]∧r= .bool (GC x.Op && (mj x len 0 && mj x len 1 && mj x len 2)):=by
 refine EC.cQ ?_;refine nK ab (ca 304) func304 ntmps304 results304 ?_;intro fr
 cases ho:GC x.Op with
 |false=>
  have hF:=qt x.Op;rw [ho] at hF;(refine EC.use (hF) ?_;refine eK ab ?_);(repeat' (first|refine zL ?_|fail))<;>(exact zA)
 |true=>
  have h2:0≤x.Op∧x.Op < 13:=by simpa [GC] using ho
  have hF:=qt x.Op;rw [ho] at hF;(refine EC.use (hF) ?_;refine eK ab ?_);simp only [Oa h2,push_cast,simprocAttr];intro fr1;refine eh ab [1,2,6,23,24] (fun i:Nat=>[(25,.int .i64 i)]) (fun B _=>B) (fun i=>i≤3∧(range i).all (mj x len)=true) (fun i=>3 - i) 0 ⟨by omega,rfl⟩ ?_;rintro i ⟨hi,hx⟩;refine sA ?_;refine ⟨fun hc=>?_,fun hc=>?_⟩
  ·have hi3:i < 3:=by omega
   have hw:IntKind.i64.wrap ((i:Int)+1)=((i+1:Nat):Int):=bu (by omega);simp only [LM hi3,hw,push_cast,simprocAttr];have hN:mj x len i=false→false=(mj x len 0 && mj x len 1 && mj x len 2):=fun h=>by
    match i,hi3,h with
    |0,_,h|1,_,h|2,_,h=>simp [h]
   obtain ⟨r0,hr0⟩:∃r0,mj x len i=r0:=⟨_,rfl⟩;have hr:=hr0;rw [hr0] at hN;unfold mj at hr;have hT:r0=true→(range (i+1)).all (mj x len)=true:=fun h=>p_ hx (hr0.trans h);clear hr0 hx;generalize (((lB x.Op).getD i 0).toNat:Int)=c at hr ⊢;generalize m7 x i=v at hr ⊢;generalize ((lB x.Op).length:Int)=k at hr ⊢;(repeat' (first|(refine jy (m:=0) ab ?_;simp only [hw,push_cast,simprocAttr])|refine EC.use (uz _ _) ?_|refine zL ?_|(with_reducible intro _)|with_reducible apply And.intro))<;>(first|exact zA|skip)
   all_goals first
    |exact hN (by rw [←hr];clear hr hT;simp_all)
    |exact a7 (i+1) ⟨by omega,hT (by rw [←hr];clear hr hN;first|(simp_all;done)|(simp_all;split<;>omega))⟩
  ·have:i=3:=by simp at hc;omega
   subst this;have:(mj x len 0 && mj x len 1 && mj x len 2)=true:=by simpa [List.range_succ,Bool.and_assoc] using hx
   rw [this];(repeat' (first|refine zL ?_|fail))<;>(exact zA)
theorem Gp (x:bp) (len:Int) (h:0≤x.Op∧x.Op < 13) {i:Nat} (hi:i < 3):mj x len i=CQ x len i:=by
 obtain ⟨op,A,B,C⟩:=x;obtain ⟨n,rfl⟩:=Int.eq_ofNat_of_zero_le h.1;have hn:n < 13:=by simp at h;omega
 match n,hn with
 |0,_|1,_|2,_|3,_|4,_|5,_|6,_|7,_|8,_|9,_|10,_|11,_|12,_=>
  match i,hi with
  |0,_|1,_|2,_=>
   first
   |rfl
   |(simp [mj,CQ,lB,GB,PI,ET,m7,Bool.and_comm];done)
   |(simp [mj,CQ,lB,GB,PI,ET,m7];done)
   |(simp [mj,CQ,lB,GB,PI,ET,m7];rw [Bool.eq_iff_iff];first|done|(simp;done)|(simp;omega))
theorem Gn (x:bp) (len:Int):(GC x.Op && (mj x len 0 && mj x len 1 && mj x len 2))=sn x len:=by
 unfold sn
 cases ho:GC x.Op with
 |false=>
  have:(decide (0≤x.Op) && decide (x.Op < 13))=false:=ho;rw [this];rfl
 |true=>
  have h:(decide (0≤x.Op) && decide (x.Op < 13))=true:=ho;have h2:0≤x.Op∧x.Op < 13:=by simpa using h
  rw [h,Gp x len h2 (by decide),Gp x len h2 (by decide),Gp x len h2 (by decide)]
theorem wz (x:bp) (len:Int):EC prog 304 [.agg x.c,.int .i64 len] [] fun r N=>N=[]∧r= .bool (sn x len):=by
 have:=uy x len
 rwa [Gn] at this
theorem o1 (p:aP) (h1:p.Code.length≤1000000) (h2:p.Strings.length≤1000000):EC prog 243 [.agg p.c] [] fun r N=>N=[]∧∃x:Int,True∧r= .bS [.int .i64 x,.int .i64 (m5 p)]:=by
 refine EC.bh ?_;refine nK ab (ca 243) func243 ntmps243 results243 ?_;intro fr
 cases h:(decide (256 < (p.Code.length:Int)) || decide (32 < (p.Strings.length:Int))) with
 |true=>exact ⟨fun _=>⟨0,Lt.t2 a6.int (a6.jC (by simp only [m5,h,Bool.true_or,if_true]))⟩,fun h=>(nomatch h)⟩
 |false=>
  refine ⟨fun h=>(nomatch h),fun _=>?_⟩;refine eh ab [1,19,20] (fun i:Nat=>[(21,.int .i64 i)]) (fun B _=>B) (fun i=>i≤p.Strings.length∧(p.Strings.take i).all (fun s=>!decide (128 < (s.length:Int)))=true) (fun i=>p.Strings.length - i) 0 ⟨zero_le _,rfl⟩ ?_;rintro i ⟨hi,hx⟩;have hw:=wI i;simp only [hw,push_cast,simprocAttr];refine ⟨fun hc=>⟨⟨by omega,hc⟩,?_⟩,fun hc=>?_⟩
  ·have hlt:i < p.Strings.length:=by omega
   refine ⟨fun e=>⟨0,Lt.t2 a6.int (a6.jC ?_)⟩,fun e=>a7 (i+1) ⟨by omega,all_succ hlt hx (by simpa using e)⟩⟩;have h5:p.Strings.any (fun s=>decide (128 < (s.length:Int)))=true:=by
    rw [List.any_eq_true];refine ⟨p.Strings.getD i default,?_,by simpa using e⟩;have:p.Strings.getD i default=p.Strings[i]:=by simp [getD,hlt]
    rw [this];exact List.getElem_mem hlt
   simp only [m5,h,h5,Bool.or_true,if_true]
  ·have e:i=p.Strings.length:=by simp at hc;omega
   rw [e,take_length] at hx;have h5:p.Strings.any (fun s=>decide (128 < (s.length:Int)))=false:=by
    rw [←Bool.not_eq_true,List.any_eq_true];rintro ⟨s,hs,h6⟩;have:=List.all_eq_true.1 hx s hs;simp at this h6;omega
   refine ⟨fun h3=>⟨0,Lt.t2 a6.int (a6.jC (by simp [m5,h,h5,h3]))⟩,fun h3=>?_⟩;have hc:m5 p=if p.Code.all (fun x=>sn x p.Code.length) then 0 else 1:=by simp only [m5,h,h5,h3,Bool.false_or,if_false,Bool.false_eq_true]
   refine eh ab [38,39,1] (fun i:Nat=>[(40,.int .i64 i)]) (fun B _=>B) (fun i=>i≤p.Code.length∧(p.Code.take i).all (fun x=>sn x p.Code.length)=true) (fun i=>p.Code.length - i) 0 ⟨zero_le _,rfl⟩ ?_;rintro i ⟨hi,hx⟩;have hw:=wI i;simp only [hw,push_cast,simprocAttr];refine ⟨fun e fr1=>⟨⟨by omega,e⟩,?_⟩,fun e=>⟨0,Lt.t2 a6.int (a6.jC ?_)⟩⟩
   ·have hlt:i < p.Code.length:=by omega
    (refine EC.use (wz _ _) ?_;refine jy (m:=0) ab ?_;simp only [hw,push_cast,simprocAttr]);refine ⟨fun e=>⟨i,Lt.t2 a6.int (a6.jC ?_)⟩,fun e=>a7 (i+1) ⟨by omega,?_⟩⟩
    ·rw [hc,Hl hlt e,if_neg (by simp)]
    ·exact all_succ hlt hx (by simpa using e)
   ·have e:i=p.Code.length:=by simp at e;omega
    rw [e,take_length] at hx;rw [hc,hx,if_pos rfl]
def Oq (s:Int) (n:Nat):List Int:=(range n).map fun i:Nat=>s+1+(i:Int)
theorem Oo (s:Int) (n:Nat):(Oq s n).length=n:=by simp [Oq]
def P7 (l:List Int) (a:aL):SV:= .bS [bG 1 (aS .u64) default l,.agg a.c,.int .i64 0]
attribute [push_cast] P7
end
section
attribute [local irreducible] EC EV
def HK (p:aC):Bool:=p.dg !=0 && q5 p
theorem ur (p:aC):EC prog 247 [.agg p.c] [] fun r N=>N=[]∧r= .bool (HK p):=by
 refine EC.cQ ?_;refine nK ab (ca 247) func247 ntmps247 results247 ?_;(repeat' (first|refine eK ab ?_|refine EC.use (cZ _) ?_|refine zL ?_|(with_reducible intro _)|with_reducible apply And.intro))<;>(first|exact zA|(simp [HK, *];done))
theorem Ey (o:af):eB o 2=ia {o with ae:=default}:=by
 have h1:b6 .andNot .i64 1 2=1:=by decide
 have h2:b6 .andNot .i64 2 2=0:=by decide
 have h3:b6 .andNot .i64 4 2=4:=by decide
 have h4:b6 .andNot .i64 8 2=8:=by decide
 have h5:b6 .andNot .i64 16 2=16:=by decide
 have h6:b6 .andNot .i64 32 2=32:=by decide
 have h7:b6 .andNot .i64 64 2=64:=by decide
 have h8:b6 .andNot .i64 128 2=128:=by decide
 have h9:b6 .andNot .i64 256 2=256:=by decide
 have h10:b6 .andNot .i64 512 2=512:=by decide
 have h11:b6 .andNot .i64 1024 2=1024:=by decide
 have h12:b6 .andNot .i64 2048 2=2048:=by decide
 have h13:b6 .andNot .i64 4096 2=4096:=by decide
 have hb:td default=true:=rfl;apply Bool.eq_iff_iff.2;simp [eB,okB,ia,h1,h2,h3,h4,h5,h6,h7,h8,h9,h10,h11,h12,h13,hb]
 intros
 simp only [and_assoc]
def P3 (o:af):Bool:=o.aU !=1 || o.ID == 0 || !ia {o with ae:=default} || decide (o.ae.State < 1) || decide (3 < o.ae.State) || o.ae.dg == o.ID || decide (32 < (o.ae.aZ.length:Int))
def NF (o:af):Bool:=
 if !nB o.ID o.ae.aZ then false
 else if m5 o.ae.Program !=0 then false
 else kC o.ae.aQ && i7 o.ae.aH && zl o.ae.cy && decide (0≤o.ae.eP) && decide (o.ae.eP≤1073741824) && (o.ae.State !=1 || o.ae.Status == 0) && (o.ae.State !=3 || HK o.ae)
def P1 (o:af):Bool:=if P3 o then false else NF o
theorem Gj:kQ 0=true:=by decide +kernel
theorem Dc {p:aP} (h1:p.Code=[]) (h2:p.Strings=[]) (h3:p.aQ=0):m5 p=0:=by
 obtain ⟨a,b,c⟩:=p;subst h1 h2 h3;rfl
theorem KU (o:af) (hp:-9223372036854775808≤o.ae.cy∧o.ae.cy≤9223372036854775807):P1 o=gW o:=by
 unfold P1 P3 NF gW;rw [←Ey,←Gk _ hp];unfold Fl;have hlen:decide (32 < (o.ae.aZ.length:Int))= !decide ((o.ae.aZ.length:Int)≤32):=by
  rw [Bool.eq_iff_iff];simp
 rw [hlen]
 cases h1:o.aU !=1
 case true=>simp
 cases h2:o.ID == 0
 case true=>simp
 cases h3:eB o 2
 case false=>simp
 cases h4:nB o.ID o.ae.aZ
 case false=>simp
 cases h5:decide ((o.ae.aZ.length:Int)≤32)
 case false=>simp
 cases h6:o.ae.dg == o.ID
 case true=>
  have:(o.ae.dg !=o.ID)=false:=by simp [bne,h6]
  simp [this]
 have h7:(o.ae.dg !=o.ID)=true:=by simp [bne,h6]
 rw [h7];simp only [Bool.not_true,Bool.or_false,Bool.and_true,Bool.false_or,Bool.false_eq_true,if_false,Bool.not_false];by_cases s3:o.ae.State=3
 ·rw [s3]
  cases hz:HK o.ae with
  |false=>
   have:(o.ae.dg !=0 && q5 o.ae)=false:=hz;simp [this]
  |true=>
   have hz2:(o.ae.dg !=0 && q5 o.ae)=true:=hz;have hr:q5 o.ae=true:=by simp at hz2;exact hz2.2
   simp only [q5,Bool.and_eq_true,List.isEmpty_iff,beq_iff_eq] at hr;obtain ⟨⟨⟨⟨⟨⟨⟨⟨r1,r2⟩,r3⟩,r4⟩,r5⟩,r6⟩,r7⟩,r8⟩,r9⟩:=hr;rw [Dc r2 r3 r6,r4,r5,r8,r9,Gj,hz2];rfl
 by_cases s1:o.ae.State=1
 ·rw [s1];rw [show (m5 o.ae.Program !=0)= !(m5 o.ae.Program == 0) from rfl];generalize (m5 o.ae.Program == 0)=a;generalize kC o.ae.aQ=b;generalize i7 o.ae.aH=c;generalize kQ o.ae.cy=d;generalize decide (0≤o.ae.eP)=e;generalize decide (o.ae.eP≤1073741824)=f;generalize (o.ae.Status == 0)=g
  cases a<;>cases b<;>cases c<;>cases d<;>cases e<;>cases f<;>cases g<;>rfl
 by_cases s2:o.ae.State=2
 ·rw [s2];rw [show (m5 o.ae.Program !=0)= !(m5 o.ae.Program == 0) from rfl];generalize (m5 o.ae.Program == 0)=a;generalize kC o.ae.aQ=b;generalize i7 o.ae.aH=c;generalize kQ o.ae.cy=d;generalize decide (0≤o.ae.eP)=e;generalize decide (o.ae.eP≤1073741824)=f;generalize (o.ae.Status == 0)=g
  cases a<;>cases b<;>cases c<;>cases d<;>cases e<;>cases f<;>cases g<;>rfl
 have e1:(decide (o.ae.State < 1) || decide (3 < o.ae.State))=true:=by simp;omega
 have e2:(o.ae.State == 3)=false:=by simpa using s3
 have e3:(o.ae.State == 1 || o.ae.State == 2)=false:=by simp [s1,s2]
 rw [e2,e3,e1];rfl
theorem cH (o:af) (ho:cS o) (hp:-9223372036854775808≤o.ae.cy∧o.ae.cy≤9223372036854775807):EC prog 189 [.agg o.c] [] fun r N=>N=[]∧r= .bool (gW o):=by
 refine EC.cQ ?_;refine nK ab (ca 189) func189 ntmps189 results189 ?_;intro fr fr1;rw [←KU o hp];unfold P1
 cases hC:P3 o with
 |true=>
  have hR:(o.aU !=1 || o.ID == 0 || !ia {o with ae:=default} || decide (o.ae.State < 1) || decide (3 < o.ae.State) || o.ae.dg == o.ID || decide (32 < (o.ae.aZ.length:Int)))=true:=hC;simp only [if_true];(repeat' (first|refine eK ab ?_|refine EC.use (cZ _) ?_|refine zL ?_|(with_reducible intro _)|with_reducible apply And.intro))<;>(first|exact zA|skip)
  all_goals exact absurd (hR.symm.trans ‹_›) (by decide)
 |false=>
  have hR:(o.aU !=1 || o.ID == 0 || !ia {o with ae:=default} || decide (o.ae.State < 1) || decide (3 < o.ae.State) || o.ae.dg == o.ID || decide (32 < (o.ae.aZ.length:Int)))=false:=hC;simp only [Bool.false_eq_true,if_false];have hCs:=hR;simp only [Bool.or_eq_false_iff] at hCs;obtain ⟨⟨⟨⟨⟨⟨c1,c2⟩,c3⟩,c4⟩,c5⟩,c6⟩,c7⟩:=hCs;simp only [c1,c2,Bool.or_false,forall_const,Bool.not_false,Bool.true_eq_false,false_imp_iff,and_true,push_cast,simprocAttr];(refine EC.use (cZ _) ?_;refine eK ab ?_);simp only [c3,c4,c5,c6,c7,Bool.or_self,Bool.false_eq_true,false_imp_iff,true_and,forall_const];refine ⟨by simpa using c3,?_⟩;refine eh ab [1,3,49,50] (fun i:Nat=>[(51,.int .i64 i)]) (fun B _=>B) (fun i=>i≤o.ae.aZ.length∧(range i).all (t7 o.ID o.ae.aZ)=true) (fun i=>o.ae.aZ.length - i) 0 ⟨zero_le _,rfl⟩ ?_;rintro i ⟨hi,hx⟩;have hcl:=ho.1.1;have hsub:=lz (fl:=false) (e:=1) (c:=aS .u64) (d:=default) hi;simp only [hsub,push_cast,simprocAttr];refine ⟨fun h=>⟨⟨by omega,h⟩,fun g=>⟨g,by omega,hi⟩,fun g=>?_,fun g=>?_⟩,fun h=>?_⟩
  ·have hlt:i < o.ae.aZ.length:=by omega
   have hp:=fun e:t7 o.ID o.ae.aZ i=false=>tw (p:=t7 o.ID o.ae.aZ) hlt e;(refine EC.use (ec _ _ (by simp;omega)) ?_;refine jy (m:=0) ab ?_;simp only [Jg hlt hcl,g,push_cast,simprocAttr]);simp only [Bool.or_eq_false_iff] at g;refine ⟨fun e=>Lt.bool ?_,fun e=>a7 (i+1) ⟨by omega,p_ hx ?_⟩⟩
   ·rw [NF,nB,hp (by rw [t7,g.1,g.2,decide_eq_true e];rfl)];rfl
   ·rw [t7,g.1,g.2,e];rfl
  ·have hlt:i < o.ae.aZ.length:=by omega
   have hp:=fun e:t7 o.ID o.ae.aZ i=false=>tw (p:=t7 o.ID o.ae.aZ) hlt e;rw [Bool.not_eq_false'] at g;(repeat (refine jy (m:=0) ab ?_;simp only [Jg hlt hcl,g,push_cast,simprocAttr]));refine Lt.bool ?_;rw [NF,nB,hp];rfl;rw [t7,←Bool.not_or,g];rfl
  ·have e:i=o.ae.aZ.length:=by simp at h;omega
   subst e;rw [NF,nB,hx];(repeat' (first|refine eK ab ?_|(refine EC.aM (o1 _ ho.1.2.1 ho.1.2.2.1) ?_;intro x hx)|refine EC.use (fy _ ho.1.2.2.2.1) ?_|refine EC.use (lK _ ho.1.2.2.2.2) ?_|refine EC.use (we _) ?_|refine EC.use (ur _) ?_|refine zL ?_|(with_reducible intro _)|with_reducible apply And.intro))<;>(first|exact zA|skip);rename_i k1 k2 k3 k4;rw [k1,if_neg (by simp)]
   cases hs:o.ae.State !=3
   ·rw [hs] at k4;simp only [Bool.not_false,Bool.and_true] at k4;simp only [k4,Bool.false_and]
   ·simp only [Bool.true_or,Bool.and_true]
end
section
attribute [local irreducible] EC EV
def nO (o:af):Prop:=-9223372036854775808≤o.ae.cy∧o.ae.cy≤9223372036854775807
theorem Af (o:af) (st:Int) (ho:cS o) (hp:nO o):EC prog 257 [.agg o.c,.int .i64 st] [] fun r N=>N=[]∧r=P6 (BM o st):=by
 refine EC.cQ ?_;refine nK ab (ca 257) func257 ntmps257 results257 ?_;(repeat' (first|refine eK ab ?_|refine EC.use (cH o ho hp) ?_|refine zL ?_|apply Lt.t3|(with_reducible intro _)|with_reducible apply And.intro))<;>((simp [BM, *];done))
def vd (o:af):af×Bool×Int:=
 if (!gW o)=true then (default,false,1) else if (o.ae.dg == 0)=true then (default,false,8) else if (o.ae.State == 3)=true then (default,true,0)
 else ({o with ae:={o.ae with dg:=0}},false,0)
theorem uu (o:af) (ho:cS o) (hp:nO o):EC prog 253 [.agg o.c] [] fun r N=>N=[]∧r=P6 (vd o):=by
 refine EC.cQ ?_;refine nK ab (ca 253) func253 ntmps253 results253 ?_;(repeat' (first|refine eK ab ?_|refine EC.use (cH o ho hp) ?_|refine zL ?_|apply Lt.t3|(with_reducible intro _)|with_reducible apply And.intro))<;>((simp [vd, *];done))
def dZ (x:Int) (l:List Int):List Int:=l.filter fun y=>y !=x
def nN (o c:af):af×Int×Int:=
 if (!gW o || !gW c)=true then (default,0,1) else if (!decide (c.ID∈o.ae.aZ) || c.ae.dg !=o.ID)=true then (default,0,14)
 else if (c.ae.State !=3)=true then (default,0,12)
 else ({o with ae:={o.ae with aZ:=dZ c.ID o.ae.aZ}},c.ae.Status,0)
theorem xR (o c:af) (ho:cS o) (hp:nO o) (hc:cS c) (hpc:nO c):EC prog 312 [.agg o.c,.agg c.c] [] fun r N=>N=[]∧r=Rl (nN o c):=by
 refine EC.cQ ?_;refine nK ab (ca 312) func312 ntmps312 results312 ?_;(repeat' (first|refine eK ab ?_|refine EC.use (cH o ho hp) ?_|refine EC.use (cH c hc hpc) ?_|refine EC.use (ec _ _ ho.1.1) ?_|refine zL ?_|apply Lt.t3|(with_reducible intro _)|with_reducible apply And.intro))<;>(first|exact zA|(simp [nN, *];done)|(simp_all [nN];done)|skip);rename_i p1 p2 p3 p4;have hcl:=ho.1.1;have hr:nN o c=({o with ae:={o.ae with aZ:=dZ c.ID o.ae.aZ}},c.ae.Status,0):=by
  unfold nN;rw [if_neg (by rw [p2];simp),if_neg (by rw [p3];simp),if_neg (by rw [p4];simp)]
 rw [hr];refine cw 7 42 1 rfl ?_;intro hl;refine eh ab [2,3,4,45,46] (fun x:Nat×List Int×aN=>[(47,.int .i64 x.1),(7,.row 3 x.2.2 1 0 x.2.1.length)]) (fun B x=>cW B 3 x.2.2 (x.2.1.map (aS .u64))) (fun x=>x.1≤o.ae.aZ.length∧x.2.1=dZ c.ID (o.ae.aZ.take x.1)) (fun x=>o.ae.aZ.length - x.1) (0,[],hl) ⟨zero_le _,rfl⟩ ?_;rintro ⟨i,m,hh⟩ ⟨hi,hm⟩;replace hi:i≤o.ae.aZ.length:=hi;replace hm:m=dZ c.ID (o.ae.aZ.take i):=hm;have hw:=wI i;have hml:m.length≤i:=by rw [hm];exact Nat.le_trans (List.length_filter_le ..) (by simp;omega)
 simp only [hw,push_cast,simprocAttr];have hs:i < o.ae.aZ.length→dZ c.ID (o.ae.aZ.take (i+1))=m ++ (if (o.ae.aZ.getD i default !=c.ID)=true then [o.ae.aZ.getD i default] else []):=fun hlt=>by
  have e:o.ae.aZ.getD i default=o.ae.aZ[i]:=by simp [getD,hlt]
  rw [List.take_succ_eq_append_getElem hlt,e,hm];simp only [dZ,List.filter_append,List.filter_cons,List.filter_nil]
 refine ⟨fun h=>⟨⟨by omega,h⟩,fun g fr=>⟨by omega,a7 (i+1,m ++ [o.ae.aZ.getD i default],fr 3) ⟨by show i+1≤_;omega,?_⟩⟩,fun g=>a7 (i+1,m,hh) ⟨by show i+1≤_;omega,?_⟩⟩,fun h=>?_⟩
 ·show _=dZ c.ID (o.ae.aZ.take (i+1));rw [hs (by omega),if_pos g]
 ·show _=dZ c.ID (o.ae.aZ.take (i+1));rw [hs (by omega),if_neg (by rw [g];simp),List.append_nil]
 ·have e:i=o.ae.aZ.length:=by simp at h;omega
  rw [e,take_length] at hm;(refine dD ab [] [false,false,true,false] [0,1,2,3,4,5,6] bZ fun R hR=>?_;(repeat intro rh);(try refine sB ⟨?_⟩);(repeat ((with_reducible apply And.intro);exact fE));(repeat intro rh);(repeat ((with_reducible apply And.intro);exact fE));(try apply_assumption -exfalso));refine sA ?_;exact Lt.t3 (a6.agg (eU.put (eU.O o) 5 (gY.row rfl (by rw [hm]) (by rw [hm])) rfl)) a6.int a6.int
theorem CZ {id:Int} {l:List Int} (h:nB id l=true):l.Nodup:=by
 simp only [nB,all_eq_true,mem_range,t7] at h;rw [List.nodup_iff_pairwise_ne,List.pairwise_iff_getElem];intro i j hi hj hij he;have h2:=h j hj;have e:l.getD j default=l[j]:=by simp [getD,hj]
 rw [e] at h2;simp only [Bool.and_eq_true,Bool.not_eq_true',decide_eq_false_iff_not] at h2;exact h2.2 (by rw [←he];exact List.mem_take_iff_getElem.2 ⟨i,by omega,rfl⟩)
end
section
theorem DT:∀{es:List MapEntry} {xs:List (List SV)} {k j:Nat} {cs:List SV} {f:Nat→List SV},vL es xs→xs[k]?=some cs→cs[j]?=some (.sl true 0 0 f)→False
 |[],[],_,_,_,_,_,hx,_=>by simp at hx
 |e :: es,x :: xs,0,j,cs,f,h,hx,hj=>by
  obtain ⟨⟨k1,k2,a,v,_,_,_,_,rfl⟩,_⟩:=h;simp only [List.getElem?_cons_zero,Option.some.injEq] at hx;subst hx
  match j,hj with
  |0,hj=>simp at hj
  |1,hj=>simp at hj
  |j+2,hj=>simp at hj
 |e :: es,x :: xs,k+1,j,cs,f,h,hx,hj=>DT h.2 (by simpa using hx) hj
 |[],_ :: _,_,_,_,_,h,_,_=>h.elim
 |_ :: _,[],_,_,_,_,h,_,_=>h.elim
theorem eY {P:Program} {n:Nat} {c:Code} {t:aV} {B:List aI} {Q:gX} (i k j E e:Nat) {h0:aN} {E0 e0:Nat} {xs:List (List SV)} {cs:List SV} {f:Nat→List SV}
  (hi:i < B.length) (hB:au B i= .row h0 E0 e0 xs) (hx:xs[k]?=some cs) (hj:cs[j]?=some (.sl true 0 0 f))
  (h:∀h,EV P n c t (B.set i (.row h0 E0 e0 (xs.set k (cs.set j (.row B.length h e 0 0)))) ++ [.row h E e []]) Q):EV P n c t B Q:=by
 intro X0 w0 B0 X w a he hs;have hok:=hs.sat.ok i;rw [hB] at hok;have hk:k < xs.length:=(List.getElem?_eq_some_iff.1 hx).1;have hjl:j < cs.length:=(List.getElem?_eq_some_iff.1 hj).1
 cases h0 with
 |void a0=>simp only [aI.ok] at hok;subst hok;simp at hk
 |mp b=>obtain ⟨_,_,_,hen⟩:=hok;exact (DT hen hx hj).elim
 | «at» b cap=>
  obtain ⟨vs,k1,k2,k3,k4,k5⟩:=hok;have hd:=k5 k j cs _ hx hj;obtain ⟨ad,hv⟩:∃ad,vs.getD (k*e0+j) undef= .slice ad 0 0:=by
   generalize vs.getD (k*e0+j) undef=v at hd
   cases hd with
   |gC hf=>rw [hf rfl];exact ⟨_,rfl⟩
   |na g hn=>exact absurd hn (Nat.lt_irrefl 0)
  let r:=aI.row (.at b cap) E0 e0 (xs.set k (cs.set j (.row B.length (.void ad) e 0 0)))
  have hr:aI.ok X w r:=by
   refine ⟨vs,k1,k2,by simpa using k3,fun k' x hx'=>?_,fun k' j' x c hx' hc'=>?_⟩
   ·rw [List.getElem?_set] at hx'
    split at hx'
    ·simp only [Option.some.injEq] at hx';subst hx';rw [List.length_set];exact k4 k cs hx
    ·exact k4 k' x hx'
   ·rw [List.getElem?_set] at hx'
    split at hx'
    ·rename_i hkk;subst hkk;simp only [Option.some.injEq] at hx';subst hx';rw [List.getElem?_set] at hc'
     split at hc'
     ·rename_i hjj;subst hjj;simp only [Option.some.injEq] at hc';subst hc';rw [hv];exact .dh ..
     ·exact k5 k j' cs c hx hc'
    ·exact k5 k' j' x c hx' hc'
  have hget:∀i',au (B.set i r) i'=if i'=i then r else au B i':=fun i'=>CU hi
  have hbl:∀i',(au (B.set i r) i').blocks=(au B i').blocks:=fun i'=>by
   rw [hget];split
   ·rename_i e;subst e;rw [hB];rfl
   ·rfl
  have hown:∀b,hU (B.set i r) b↔hU B b:=fun b=>⟨fun ⟨i',h'⟩=>⟨i',by rwa [hbl] at h'⟩,fun ⟨i',h'⟩=>⟨i',by rwa [hbl]⟩⟩;have h1:Sat X w (B.set i r):=⟨fun a b' c h2 h3=>hs.sat.inj a b' c (by rwa [hbl] at h2) (by rwa [hbl] at h3),fun a b' h2=>hs.sat.lt a b' (by rwa [hbl] at h2),hs.sat.xg,fun b' hx' ho=>hs.sat.apart b' hx' ((hown b').1 ho),fun a=>by
   rw [hget];split
   ·exact hr
   ·exact hs.sat.ok a⟩
  have h2:Sat X w (B.set i r ++ [.row (.void ad) E e []]):=h1.push (le_refl _) (fun _ _=>rfl) (fun c hc=>by simp [aI.blocks] at hc) rfl;have h3:Ext X w B X w (B.set i r):=⟨rfl,rfl,rfl,le_refl _,fun _ _ _=>rfl,fun _ h=>h,fun _ h=> .inl h,fun b' hb=> .inl ((hown b').1 hb)⟩;have h4:Ext X w (B.set i r) X w (B.set i r ++ [.row (.void ad) E e []]):=Ext.push rfl rfl rfl (le_refl _) (fun _ _=>rfl) fun c hc=>by simp [aI.blocks] at hc
  exact h (.void ad) X0 w0 B0 X w a ((he.trans h3).trans h4) ⟨hs.defers,h2,hs.den⟩
attribute [local irreducible] EC EV
def Px:List SV:=aJ (aC.c default) 15 [.sl true 0 0 fun _=>[]]
def E3:Env:={E with zr:=fun T=>if T=69 then Px else E.zr T}
theorem D9:cI prog E3:=⟨ab.ty,fun T h=>by
 simp only [E3] at h ⊢
 split
 ·rename_i e;subst e;kernel_rfl
 ·rename_i e;simp only [e,if_false] at h;exact ab.zr T h,ab.lv⟩
theorem Pt (T:Nat):E3.ty T=E.ty T:=rfl
theorem Pu:E3.kp=E.kp:=rfl
theorem Ps:E3.zr 69=Px:=rfl
theorem L4:E3.zr 76=E.zr 76:=rfl
theorem L3:E3.zr 337=E.zr 337:=rfl
theorem HJ:Px.length=20:=rfl
attribute [push_cast] Pt Pu Ps L4 L3 HJ
def mO (id:Int) (p:aP) (l:List ay):af:={(default:af) with ID:=id,aU:=1,ae:={(default:aC) with State:=1,Program:=p,aQ:=l}}
def sG (id:Int) (p:aP) (ed:List Int):af×Int:=
 if (id == 0 || m5 p !=0)=true then (default,1) else if ((ed.length:Int) !=p.aQ)=true then (default,2)
 else if (!gW (mO id p (ed.map fun x=>{(default:ay) with ID:=x})))=true then (default,1)
 else (mO id p (ed.map fun x=>{(default:ay) with ID:=x}),0)
def La:SV:= .sl true 0 0 fun _=>[]
def PB (p:aP) (q:SV):List SV:=aJ (aC.c {(default:aC) with State:=1,Program:=p}) 15 [q]
def DD (id:Int) (p:aP) (q:SV):List SV:=aJ (af.c (mO id p [])) 18 [q]
theorem K5 (p:aP):aJ (aJ Px 0 [.int .i64 1]) 3 p.c=PB p La:=rfl
theorem Ie (p:aP) (q:SV):(PB p q).length=20:=rfl
theorem Ic (p:aP):bt (PB p La)=true:=rfl
theorem K9 (id:Int) (p:aP) (q:SV):aJ (af.c {(default:af) with ID:=id,aU:=1}) 3 (PB p q)=DD id p q:=by kernel_rfl
theorem Ik (id:Int) (p:aP) (q:SV):(DD id p q).length=36:=rfl
theorem N6 (id:Int) (p:aP) (q:SV):(DD id p q).take 36=DD id p q:=rfl
theorem GL (id:Int) (p:aP):bt (DD id p La)=true:=rfl
theorem N9 (id:Int) (p:aP) (q d:SV):(DD id p q).getD 18 d=q:=rfl
theorem N8 (id:Int) (p:aP) (q q2:SV):aJ (DD id p q) 18 [q2]=DD id p q2:=rfl
theorem Ij (id:Int) (p:aP) (q q2:SV):(DD id p q).set 18 q2=DD id p q2:=rfl
theorem N7 (id:Int) (p:aP) (q:SV):aJ (af.c default) 0 (DD id p q)=DD id p q:=Ia rfl
attribute [push_cast] K5 Ie Ic K9 Ik N6 GL N9 N8 N7
theorem Ae (id:Int) (p:aP) (ed:List Int) (h1:p.Code.length≤1000000) (h2:p.Strings.length≤1000000) (h3:ed.length≤1000000):EC prog 214 [.int .u64 id,.agg p.c,bG 1 (aS .u64) default ed] [] fun r N=>N=[]∧r=P8 (sG id p ed):=by
 refine EC.cQ ?_;(refine nK D9 (ca 214) func214 ntmps214 results214 ?_);intro fr;(refine EC.aM (o1 _ h1 h2) ?_;rintro x -;refine eK D9 ?_);refine ⟨fun g=>?_,fun g=>⟨fun g2=>?_,fun g2=>?_⟩⟩
 ·(repeat' (first|refine zL ?_|apply Lt.t2))<;>((simp [sG, *];done))
 ·have hr:sG id p ed=(default,2):=by unfold sG;rw [if_neg (by rw [g];simp),if_pos g2]
  rw [hr];(repeat' (first|refine zL ?_|apply Lt.t2))<;>(exact zA)
 intro fr1;generalize hm:(ed.map fun x=>({(default:ay) with ID:=x}:ay))=m;have hr:sG id p ed=if (!gW (mO id p m))=true then (default,1) else (mO id p m,0):=by
  unfold sG;rw [if_neg (by rw [g];simp),if_neg (by rw [g2];simp),hm]
 rw [hr];refine eY 2 0 18 337 2 (by simp) rfl rfl rfl ?_;intro hh;simp only [Ij,List.set_cons_succ,List.set_cons_zero,List.length_cons,List.length_nil,List.cons_append,List.nil_append,Nat.zero_add,Nat.reduceAdd];have hml:m.length=ed.length:=by rw [←hm,List.length_map]
 refine eh D9 [6,10,35,36] (fun x:Nat×aN=>[(37,.int .i64 x.1)]) (fun B x=>cW (cP B 2 [DD id p (.row 3 x.2 2 0 x.1)]) 3 x.2 ((m.take x.1).map ay.c)) (fun x=>x.1≤ed.length) (fun x=>ed.length - x.1) (0,hh) (zero_le _) ?_;rintro ⟨i,h0⟩ hi;replace hi:i≤ed.length:=hi;have hw:=wI i;simp only [hw,push_cast,simprocAttr];refine ⟨fun h=>⟨⟨by omega,h⟩,fun fr2=>⟨⟨by simp;omega,by omega⟩,?_⟩⟩,fun h=>?_⟩
 ·have hlt:i < m.length:=by omega
  have e:take i (map ay.c (take i m)) ++ [ay.c {(default:ay) with ID:=ed.getD i default}]=map ay.c (take (i+1) m):=by
   rw [List.take_of_length_le (by simp;omega),List.take_succ_eq_append_getElem hlt,List.map_append];have:m[i]={(default:ay) with ID:=ed.getD i default}:=by
    have h4:i < ed.length:=by omega
    have:ed.getD i default=ed[i]:=by simp [getD,h4]
    subst hm;rw [this,List.getElem_map]
   rw [this];rfl
  rw [e];exact a7 (i+1,fr2 6) (by show i+1≤_;omega)
 ·have hin:i=m.length:=by simp at h;omega
  have e:take i m=m:=by rw [hin,take_length]
  rw [e,hin];have hsm:cS (mO id p m):=⟨⟨zero_le _,h1,h2,by show m.length≤_;omega,zero_le _⟩,zero_le _,zero_le _,zero_le _,zero_le _,zero_le _,zero_le _,by intro n hn;cases hn⟩;have hpd:nO (mO id p m):=⟨by show (-9223372036854775808:Int)≤0;decide,by show (0:Int)≤9223372036854775807;decide⟩;have hF:∀{B:List aI} {E0:Nat},au B 3= .row h0 E0 2 (m.map ay.c)→a6 B (.agg (DD id p (.row 3 h0 2 0 m.length))) (.agg (mO id p m).c):=fun hB=>a6.agg (eU.put (eU.O (mO id p [])) 18 (gY.row hB rfl rfl) rfl);refine EC.t6 (cH (mO id p m) hsm hpd) (d_.cons (hF rfl).1 (hF rfl).2 .nil) (by rintro _ rfl;rfl) ?_;rintro _ rfl;(repeat refine eK D9 ?_);refine ⟨fun h=>?_,fun h=>⟨rfl,?_⟩⟩
  ·rw [if_pos h];(repeat' (first|refine zL ?_|apply Lt.t2))<;>(exact zA)
  ·have h5:gW (mO id p m)=true:=by simpa using h
   rw [h5];exact Lt.t2 (hF rfl) a6.int
end
def known (I:Int→Prop) (o:af):Prop:=I o.ID∧(∀c∈o.ae.aZ,I c)∧(∀p∈o.ae.aQ,I p.ID)∧(∀n∈o.cN,∀i∈n.kN,I i)
structure cG (I D:Int→Prop) (o:af):Prop where
 sm:cS o
 pd:nO o
 pr:o.aU=1→gW o=true
 kn:known I o
 nm:∀n∈o.cN,1≤n.kN.length
 ds:o.aU=1→¬D o.ID∧∀s∈o.ae.aH,s.aU=1→D s.bn
theorem yH:cS default:=⟨⟨zero_le _,zero_le _,zero_le _,zero_le _,zero_le _⟩,zero_le _,zero_le _,zero_le _,zero_le _,zero_le _,zero_le _,by intro n hn;cases hn⟩
theorem mP:nO default:=⟨by decide,by decide⟩
theorem fT {I D:Int→Prop} (h:I 0):cG I D default:=⟨yH,mP,fun h=>absurd h (by decide),⟨h,fun c hc=>(nomatch hc),fun c hc=>(nomatch hc),fun c hc=>(nomatch hc)⟩,fun c hc=>(nomatch hc),fun h=>absurd h (by decide)⟩
theorem cG.mono {I J D:Int→Prop} {o:af} (h:cG I D o) (hj:∀x,I x→J x):cG J D o:=
 ⟨h.sm,h.pd,h.pr,⟨hj _ h.kn.1,fun c hc=>hj _ (h.kn.2.1 c hc),fun c hc=>hj _ (h.kn.2.2.1 c hc),fun n hn i hi=>hj _ (h.kn.2.2.2 n hn i hi)⟩,h.nm,h.ds⟩
theorem cG.JC {I D D':Int→Prop} {o:af} (h:cG I D o) (hd:∀x,D x→D' x) (hn:o.aU=1→¬D' o.ID):cG I D' o:=
 ⟨h.sm,h.pd,h.pr,h.kn,h.nm,fun e=>⟨hn e,fun s hs hk=>hd _ ((h.ds e).2 s hs hk)⟩⟩
structure rV (o:af):Prop where
 k:o.aU=1
 id:o.ID≠0
 on:eB o 2=true
 HH:nB o.ID o.ae.aZ=true
 par:o.ae.dg≠o.ID
 cl:o.ae.aZ.length≤32
 st:o.ae.State=1∨o.ae.State=2
 AE:m5 o.ae.Program=0
 sp:kC o.ae.aQ=true
 tb:i7 o.ae.aH=true
 sg:kQ o.ae.cy=true
 al:0≤o.ae.eP∧o.ae.eP≤1073741824
 ss:o.ae.State=1→o.ae.Status=0
theorem uJ (o:af):gW o=true↔(o.aU=1∧o.ID≠0∧eB o 2=true∧Fl o=true)∧((o.ae.State=3∧o.ae.dg≠0∧q5 o.ae=true)∨(o.ae.State=1∨o.ae.State=2)∧m5 o.ae.Program=0∧kC o.ae.aQ=true∧i7 o.ae.aH=true∧kQ o.ae.cy=true∧(0≤o.ae.eP∧o.ae.eP≤1073741824)∧(o.ae.State=2∨o.ae.Status=0)):=by
 unfold gW
 split
 ·rename_i g;simp only [Bool.false_eq_true,false_iff];rintro ⟨⟨h1,h2,h3,h4⟩,-⟩;simp [h1,h2,h3,h4] at g
 ·rename_i g;have g':o.aU=1∧o.ID≠0∧eB o 2=true∧Fl o=true:=by simpa [not_or,and_assoc] using g
  simp only [g',true_and,and_self,ne_eq,not_false_eq_true];by_cases h3:o.ae.State=3
  ·simp [h3]
  ·by_cases h12:o.ae.State=1∨o.ae.State=2
   ·rcases h12 with h|h<;>simp [h,and_assoc]
   ·have h1:¬o.ae.State=1:=fun e=>h12 (.inl e);have h2:¬o.ae.State=2:=fun e=>h12 (.inr e);simp [h3,h1,h2]
theorem rz (o:af):Fl o=true↔nB o.ID o.ae.aZ=true∧o.ae.dg≠o.ID∧o.ae.aZ.length≤32:=by
 unfold Fl;simp
 intros
 omega
theorem rV.of {o:af} (h:gW o=true) (h3:o.ae.State≠3):rV o:=by
 obtain ⟨⟨h1,h2,h4,h5⟩,h6⟩:=(uJ o).1 h;obtain ⟨f1,f2,f3⟩:=(rz o).1 h5;rcases h6 with h6|⟨a,b,c,d,e,f,g⟩
 ·exact absurd h6.1 h3
 ·exact ⟨h1,h2,h4,f1,f2,f3,a,b,c,d,e,f,fun h7=>g.resolve_left (by omega)⟩
theorem rV.pr {o:af} (h:rV o):gW o=true:=
 (uJ o).2 ⟨⟨h.k,h.id,h.on,(rz o).2 ⟨h.HH,h.par,h.cl⟩⟩,.inr ⟨h.st,h.AE,h.sp,h.tb,h.sg,h.al,h.st.elim (fun h1=> .inr (h.ss h1)) .inl⟩⟩
theorem Jx (o:af) (p:aC):eB {o with ae:=p} 2=eB o 2:=by
 have h2:∀b,okB 2 2 b=true:=fun b=>by
  have:(b6 .andNot .i64 2 2 == 0)=true:=by decide
  simp [okB,this]
 simp only [eB,h2]
theorem rV.Jy {o:af} (h:rV o) (p:aC):eB {o with ae:=p} 2=true:=by rw [Jx];exact h.on
theorem BF {id:Int} {l:List Int}:nB id l=true↔(∀x∈l,x≠0∧x≠id)∧l.Nodup:=by
 constructor
 ·intro h;refine ⟨fun x hx=>?_,CZ h⟩;obtain ⟨i,hi,rfl⟩:=List.mem_iff_getElem.1 hx;simp only [nB,all_eq_true,mem_range,t7] at h;have:=h i hi;simp [getD,hi] at this;exact this.1
 ·rintro ⟨h1,h2⟩;simp only [nB,all_eq_true,mem_range,t7];intro i hi;have e:l.getD i default=l[i]:=by simp [getD,hi]
  rw [e];have h3:=h1 l[i] (List.getElem_mem hi);have h4:l[i] ∉ l.take i:=by
   intro hm;obtain ⟨j,hj,he⟩:=List.mem_take_iff_getElem.1 hm;rw [List.nodup_iff_pairwise_ne,List.pairwise_iff_getElem] at h2;have hji:j < i:=by omega
   exact h2 j i (by omega) hi hji he
  simp [h3,h4]
theorem Fk {id x:Int} {l:List Int} (h:nB id l=true) (h0:x≠0) (h1:x≠id) (h2:x ∉ l):nB id (l ++ [x])=true:=by
 rw [BF] at h ⊢;refine ⟨fun y hy=>?_,?_⟩
 ·rcases List.mem_append.1 hy with hy|hy
  ·exact h.1 y hy
  ·rw [List.mem_singleton.1 hy];exact ⟨h0,h1⟩
 ·rw [List.nodup_append];exact ⟨h.2,by simp,fun a ha b hb=>by rw [List.mem_singleton.1 hb];rintro rfl;exact h2 ha⟩
theorem zI {id x:Int} {l:List Int} (h:nB id l=true):nB id (dZ x l)=true:=by
 rw [BF] at h ⊢;exact ⟨fun y hy=>h.1 y (List.mem_filter.1 hy).1,h.2.sublist List.filter_sublist⟩
theorem zF (n:Int):-9223372036854775808≤IntKind.i64.wrap n∧IntKind.i64.wrap n≤9223372036854775807:=by
 rw [IntKind.wrap_i64];omega
theorem A6 (x y:Int) (h1:kQ x=true) (h2:kQ y=true):kQ (b6 .or .i64 x y)=true:=by
 simp only [kQ,tR,IP,FP,vf,beq_iff_eq] at *;generalize BitVec.ofInt 64 x=a at *;generalize BitVec.ofInt 64 y=b at *;generalize BitVec.ofInt 64 4294966782=z at *;have e:(a ||| b) &&& ~~~z=(a &&& ~~~z) ||| (b &&& ~~~z):=by
  ext i;simp only [BitVec.getElem_and,BitVec.getElem_or,BitVec.getElem_not];cases a[i]<;>cases b[i]<;>cases z[i]<;>rfl
 rw [e,h1,h2];simp
theorem Em:∀s:Nat,s < 32→s≠0→s≠9→kQ (KT (s:Int))=true:=by decide +kernel
theorem CC {s:Int} (h:¬(s < 1∨31 < s)) (h9:s≠9):kQ (KT s)=true:=by
 obtain ⟨n,rfl⟩:=Int.eq_ofNat_of_zero_le (show 0≤s by omega);exact Em n (by omega) (by omega) (by omega)
structure Jv (p q:aC):Prop where
 par:q.dg=p.dg
 ch:q.aZ=p.aZ
 prog:q.Program=p.Program
 pg:q.aQ=p.aQ
 tb:q.aH=p.aH
theorem u6 {p:aC} {s:Int} (h:(cg p s).2=0):Jv p (cg p s).1:=by
 unfold cg at h ⊢
 repeat' split
 all_goals first|exact ⟨rfl,rfl,rfl,rfl,rfl⟩|(exfalso;simp_all)
theorem yL {o:af} {s:Int} (ho:rV o) (h:(cg o.ae s).2=0):rV {o with ae:=(cg o.ae s).1}:=by
 have e:=u6 h;have hx:((cg o.ae s).1.State=1∨(cg o.ae s).1.State=2)∧kQ (cg o.ae s).1.cy=true∧(0≤(cg o.ae s).1.eP∧(cg o.ae s).1.eP≤1073741824)∧((cg o.ae s).1.State=1→(cg o.ae s).1.Status=0):=by
  have h1:=ho.st;have h2:=ho.sg;have h3:=ho.al;have h4:=ho.ss;unfold cg at h ⊢
  split
  ·rename_i g;simp [g] at h
  rename_i g
  split
  ·rename_i g2;rw [if_neg g,if_pos g2] at h;simp at h
  split
  ·rename_i g3;refine ⟨h1,A6 _ _ h2 (CC (by simpa using g) (by simpa using g3)),h3,h4⟩
  split
  ·exact ⟨.inr rfl,h2,h3,fun e=>by simp at e⟩
  ·exact ⟨h1,h2,h3,h4⟩
 refine ⟨ho.k,ho.id,ho.Jy _,?_,?_,?_,hx.1,?_,?_,?_,hx.2.1,hx.2.2.1,hx.2.2.2⟩
 ·show nB o.ID (cg o.ae s).1.aZ=true;rw [e.ch];exact ho.HH
 ·show (cg o.ae s).1.dg≠o.ID;rw [e.par];exact ho.par
 ·show (cg o.ae s).1.aZ.length≤32;rw [e.ch];exact ho.cl
 ·show m5 (cg o.ae s).1.Program=0;rw [e.prog];exact ho.AE
 ·show kC (cg o.ae s).1.aQ=true;rw [e.pg];exact ho.sp
 ·show i7 (cg o.ae s).1.aH=true;rw [e.tb];exact ho.tb
theorem CJ {p:aC} {s:Int} (h:-9223372036854775808≤p.cy∧p.cy≤9223372036854775807):-9223372036854775808≤(cg p s).1.cy∧(cg p s).1.cy≤9223372036854775807:=by
 unfold cg
 repeat' split
 ·exact mP
 ·exact mP
 ·exact zF _
 ·exact h
 ·exact h
theorem q9 {I D:Int→Prop} {o:af} {q:aC} (h:cG I D o) (hs:Jv o.ae q) (hp:-9223372036854775808≤q.cy∧q.cy≤9223372036854775807) (hl:o.aU=1→gW {o with ae:=q}=true):cG I D {o with ae:=q}:=by
 refine ⟨⟨⟨?_,?_,?_,?_,?_⟩,h.sm.2⟩,hp,hl,⟨h.kn.1,?_,?_,h.kn.2.2.2⟩,h.nm,fun e=>⟨(h.ds e).1,?_⟩⟩
 ·show q.aZ.length≤_;rw [hs.ch];exact h.sm.1.1
 ·show q.Program.Code.length≤_;rw [hs.prog];exact h.sm.1.2.1
 ·show q.Program.Strings.length≤_;rw [hs.prog];exact h.sm.1.2.2.1
 ·show q.aQ.length≤_;rw [hs.pg];exact h.sm.1.2.2.2.1
 ·show q.aH.length≤_;rw [hs.tb];exact h.sm.1.2.2.2.2
 ·show ∀c∈q.aZ,I c;rw [hs.ch];exact h.kn.2.1
 ·show ∀p∈q.aQ,I p.ID;rw [hs.pg];exact h.kn.2.2.1
 ·show ∀s∈q.aH,s.aU=1→D s.bn;rw [hs.tb];exact (h.ds e).2
theorem Gs {p:aC} {s:Int} (h:(cg p s).2=0):p.State≠3:=by
 intro e;unfold cg at h
 split at h
 ·simp at h
 ·rw [if_pos (by rw [e];rfl)] at h;simp at h
theorem yR {I D:Int→Prop} {o:af} {s:Int} (h:cG I D o) (h2:(cg o.ae s).2=0):cG I D {o with ae:=(cg o.ae s).1}:=
 q9 h (u6 h2) (CJ h.pd) fun hk=>(yL (rV.of (h.pr hk) (Gs h2)) h2).pr
structure pB (I D:Int→Prop) (o:af):Prop extends cG I D o where
 lv:rV o
theorem pB.mono {I J D:Int→Prop} {o:af} (h:pB I D o) (hj:∀x,I x→J x):pB J D o:=⟨h.tocG.mono hj,h.lv⟩
theorem yQ {I D:Int→Prop} {o:af} {s:Int} (h:pB I D o) (h2:(cg o.ae s).2=0):pB I D {o with ae:=(cg o.ae s).1}:=
 ⟨yR h.tocG h2,yL h.lv h2⟩
theorem GF {I D:Int→Prop} {o:af} (h:pB I D o):pB I D {o with ae:={o.ae with cy:=0}}:=by
 have hl:rV {o with ae:={o.ae with cy:=0}}:=⟨h.lv.k,h.lv.id,h.lv.Jy _,h.lv.HH,h.lv.par,h.lv.cl,h.lv.st,h.lv.AE,h.lv.sp,h.lv.tb,Gj,h.lv.al,h.lv.ss⟩;exact ⟨q9 h.tocG ⟨rfl,rfl,rfl,rfl,rfl⟩ (by show (-9223372036854775808:Int)≤0∧(0:Int)≤9223372036854775807;decide) fun _=>hl.pr,hl⟩
theorem sz {I D:Int→Prop} {o:af} {n:Int} (h:pB I D o) (hn:0≤n∧n≤1073741824):pB I D {o with ae:={o.ae with eP:=n}}:=by
 have hl:rV {o with ae:={o.ae with eP:=n}}:=⟨h.lv.k,h.lv.id,h.lv.Jy _,h.lv.HH,h.lv.par,h.lv.cl,h.lv.st,h.lv.AE,h.lv.sp,h.lv.tb,h.lv.sg,hn,h.lv.ss⟩;exact ⟨q9 h.tocG ⟨rfl,rfl,rfl,rfl,rfl⟩ h.pd fun _=>hl.pr,hl⟩
theorem CO {I D:Int→Prop} {o:af} {n:Int} (h:pB I D o) (h2:(mH o.ae n).2.2=0):pB I D {o with ae:=(mH o.ae n).2.1}:=by
 unfold mH at h2 ⊢
 split
 ·rename_i g;rw [if_pos g] at h2;simp at h2
 ·rename_i g;simp [oh] at g;exact sz h (by omega)
theorem Bi {I D:Int→Prop} {o:af} {n:Int} (h:pB I D o) (h2:(j3 o.ae n).2=0):pB I D {o with ae:=(j3 o.ae n).1}:=by
 unfold j3 at h2 ⊢
 split
 ·rename_i g;rw [if_pos g] at h2;simp at h2
 rename_i g;rw [if_neg g] at h2;simp [oh] at g
 split
 ·exact h
 rename_i g2;rw [if_neg g2] at h2
 split
 ·rename_i g3;simp at g3;have:=h.lv.al;rw [bu (by omega)];exact sz h (by omega)
 ·rename_i g3;rw [if_neg g3] at h2;have ha:=sz (n:=0) h (by omega);exact yQ (o:={o with ae:={o.ae with eP:=0}}) ha h2
theorem zt {I D:Int→Prop} {o:af} (c:cb) (h:pB I D o):pB I D {o with ae:={o.ae with d9:=c}}:=by
 have hl:rV {o with ae:={o.ae with d9:=c}}:=⟨h.lv.k,h.lv.id,h.lv.Jy _,h.lv.HH,h.lv.par,h.lv.cl,h.lv.st,h.lv.AE,h.lv.sp,h.lv.tb,h.lv.sg,h.lv.al,h.lv.ss⟩;exact ⟨q9 h.tocG ⟨rfl,rfl,rfl,rfl,rfl⟩ h.pd fun _=>hl.pr,hl⟩
theorem EJ {I D:Int→Prop} {o:af} {t:List aK} (h:pB I D o) (ht:i7 t=true) (hd:∀s∈t,s.aU=1→D s.bn):pB I D {o with ae:={o.ae with aH:=t}}:=by
 have hl:rV {o with ae:={o.ae with aH:=t}}:=⟨h.lv.k,h.lv.id,h.lv.Jy _,h.lv.HH,h.lv.par,h.lv.cl,h.lv.st,h.lv.AE,h.lv.sp,ht,h.lv.sg,h.lv.al,h.lv.ss⟩;exact ⟨⟨⟨⟨h.sm.1.1,h.sm.1.2.1,h.sm.1.2.2.1,h.sm.1.2.2.2.1,by have:=(lx ht).1;show t.length≤_;omega⟩,h.sm.2⟩,h.pd,fun _=>hl.pr,h.kn,h.nm,fun e=>⟨(h.ds e).1,hd⟩⟩,hl⟩
theorem EK {I D:Int→Prop} {o:af} {l:List ay} (h:pB I D o) (ht:kC l=true) (hk:∀p∈l,I p.ID):pB I D {o with ae:={o.ae with aQ:=l}}:=by
 have hl:rV {o with ae:={o.ae with aQ:=l}}:=⟨h.lv.k,h.lv.id,h.lv.Jy _,h.lv.HH,h.lv.par,h.lv.cl,h.lv.st,h.lv.AE,ht,h.lv.tb,h.lv.sg,h.lv.al,h.lv.ss⟩;exact ⟨⟨⟨⟨h.sm.1.1,h.sm.1.2.1,h.sm.1.2.2.1,by have:=i_ (l:=l) (by rw [ht];rfl);show l.length≤_;omega,h.sm.1.2.2.2.2⟩,h.sm.2⟩,h.pd,fun _=>hl.pr,⟨h.kn.1,h.kn.2.1,hk,h.kn.2.2.2⟩,h.nm,h.ds⟩,hl⟩
theorem q8 {I D:Int→Prop} {o:af} {l:List Int} (h:pB I D o) (hf:nB o.ID l=true) (hn:l.length≤32) (hk:∀c∈l,I c):pB I D {o with ae:={o.ae with aZ:=l}}:=by
 have hl:rV {o with ae:={o.ae with aZ:=l}}:=⟨h.lv.k,h.lv.id,h.lv.Jy _,hf,h.lv.par,hn,h.lv.st,h.lv.AE,h.lv.sp,h.lv.tb,h.lv.sg,h.lv.al,h.lv.ss⟩;exact ⟨⟨⟨⟨by show l.length≤_;omega,h.sm.1.2⟩,h.sm.2⟩,h.pd,fun _=>hl.pr,⟨h.kn.1,hk,h.kn.2.2⟩,h.nm,h.ds⟩,hl⟩
section
attribute [local irreducible] EC EV
def FA (o:af) (id:Int) (l:List ay):af:=
 {(default:af) with ID:=id,aU:=1,ae:={(default:aC) with State:=o.ae.State,dg:=o.ID,Program:=o.ae.Program,d9:=o.ae.d9,aQ:=l,aH:=o.ae.aH}}
def oG (o:af) (id:Int) (ed:List Int):af×af×Int:=
 if (!gW o)=true then (default,default,1) else if (o.ae.State !=1)=true then (default,default,8) else if decide (32≤(o.ae.aZ.length:Int))=true then (default,default,3)
 else if (id == 0 || id == o.ID || decide (id∈o.ae.aZ))=true then (default,default,1)
 else if ((ed.length:Int) !=((cC o.ae.aQ).length:Int))=true then (default,default,2)
 else if ((dw o.ae.aQ ed).2 !=0 || !gW (FA o id (dw o.ae.aQ ed).1))=true then (default,default,1)
 else ({o with ae:={o.ae with aZ:=o.ae.aZ ++ [id]}},FA o id (dw o.ae.aQ ed).1,0)
theorem u0 {l:List ay} {ids:List Int} (h:l.length≤1000000):(dw l ids).1.length≤1000000:=by
 simp only [dw]
 split
 ·simp
 ·split
  ·simp
  ·split
   ·simp
   ·rw [yJ];exact h
def RC (o:af) (id:Int) (l:List ay):af:={FA o id l with ae:={(FA o id l).ae with aH:=[]}}
def JM (o:af) (id:Int) (l:List ay) (q:SV):List SV:=aJ (RC o id l).c 19 [q]
theorem LG (o:af) (id:Int) (l:List ay) (q:SV):aJ (af.c {(default:af) with ID:=id,aU:=1}) 3 (aJ (aC.c {(default:aC) with State:=o.ae.State,dg:=o.ID,Program:=o.ae.Program,d9:=o.ae.d9,aQ:=l}) 16 [q])=JM o id l q:=by kernel_rfl
theorem IN (o:af) (id:Int) (l:List ay) (q:SV):(JM o id l q).length=36:=rfl
theorem OX (o:af) (id:Int) (l:List ay) (q:SV):(JM o id l q).take 36=JM o id l q:=rfl
theorem IL (o:af) (id:Int) (l:List ay) (i e lo n:Nat) (h:aN):bt (JM o id l (.row i h e lo n))=true:=rfl
theorem IM (o:af) (id:Int) (l:List ay) (q:SV):aJ (af.c default) 0 (JM o id l q)=JM o id l q:=Ia rfl
attribute [push_cast] LG IN OX IL IM
theorem a6.ch {B:List aI} {o:af} {id:Int} {l:List ay} {i E:Nat} {h:aN} (hB:au B i= .row h E 4 (o.ae.aH.map aK.c)):a6 B (.agg (JM o id l (.row i h 4 0 o.ae.aH.length))) (.agg (FA o id l).c):=a6.agg (eU.put (eU.O (RC o id l)) 19 (gY.row hB rfl rfl) rfl)
theorem xS (o:af) (id:Int) (ed:List Int) (ho:cS o) (hp:nO o) (hi:ed.length≤1000000):EC prog 309 [.agg o.c,.int .u64 id,bG 1 (aS .u64) default ed] [] fun r N=>N=[]∧r=P5 (oG o id ed):=by
 refine EC.cQ ?_;refine nK ab (ca 309) func309 ntmps309 results309 ?_;(repeat' (first|refine eK ab ?_|refine EC.use (cH o ho hp) ?_|refine EC.use (ec _ _ ho.1.1) ?_|refine EC.use (dp _ ho.1.2.2.2.1) ?_|refine EC.use (mZ _ _ ho.1.2.2.2.1 hi) ?_|refine zL ?_|apply Lt.t3|(with_reducible intro _)|with_reducible apply And.intro))<;>(first|exact zA|(simp [oG, *];done)|skip)
 all_goals try (simp_all only [oG,Bool.false_or,Bool.or_false,Bool.true_or,if_true,if_false,Bool.false_eq_true,reduceIte];done)
 rename_i fr1 fr2 g1 g2 g3 g4 g5 g6;have hr:oG o id ed=if ((dw o.ae.aQ ed).2 !=0 || !gW (FA o id (dw o.ae.aQ ed).1))=true then (default,default,1) else ({o with ae:={o.ae with aZ:=o.ae.aZ ++ [id]}},FA o id (dw o.ae.aQ ed).1,0):=by
  simp_all only [oG,Bool.false_or,Bool.or_false,Bool.true_or,if_true,if_false,Bool.false_eq_true,reduceIte]
 have hT:o.ae.aH.length≤1000000:=ho.1.2.2.2.2;have hcl:=ho.1.1;generalize hl:(dw o.ae.aQ ed).1=l;generalize he:(dw o.ae.aQ ed).2=e;rw [hl,he] at hr;rw [hr];have hsm:cS (FA o id l):=⟨⟨zero_le _,ho.1.2.1,ho.1.2.2.1,by rw [←hl];exact u0 ho.1.2.2.2.1,hT⟩,zero_le _,zero_le _,zero_le _,zero_le _,zero_le _,zero_le _,by intro n hn;cases hn⟩;have hpd:nO (FA o id l):=⟨by show (-9223372036854775808:Int)≤0;decide,by show (0:Int)≤9223372036854775807;decide⟩;(refine dW ab 5 [false,false,false,false] [0,1,2,3,4,5,6,7,8,9,10,11] bZ fun R hR=>?_;(try refine sB ⟨?_⟩);(repeat ((with_reducible apply And.intro);exact fE)));refine bT ab 12 15 ?_ ?_
 ·(intro rh;(repeat ((with_reducible apply And.intro);exact fE));refine dR ab [13,14,15,16] ?_;(repeat ((with_reducible apply And.intro);exact fE)));intro rh2;refine hR _ _ ?_;simp only [hl,he,push_cast,simprocAttr];refine ⟨fun g7=>?_,fun g7=>?_⟩
  ·refine EC.t6 (cH (FA o id l) hsm hpd) (d_.cons (a6.ch (i:=4) rfl).1 (a6.ch (i:=4) rfl).2 .nil) (by rintro _ rfl;rfl) ?_;rintro _ rfl;(repeat refine eK ab ?_);simp only [g7,Bool.false_or,Bool.or_false];refine ⟨fun g8=>?_,fun g8=>?_⟩
   ·simp only [g8,if_true];(repeat' (first|refine zL ?_|apply Lt.t3))<;>(exact zA)
   intro fr3;refine ⟨by omega,by omega,?_⟩;simp only [g8,Bool.false_eq_true,if_false];(refine dD ab [] [false,true,true,false,false,false,false,false] [0,1,2,3,4] bZ fun R hR=>?_;(repeat intro rh);(try refine sB ⟨?_⟩);(repeat ((with_reducible apply And.intro);exact fE));(repeat intro rh);(repeat ((with_reducible apply And.intro);exact fE));(try apply_assumption -exfalso));refine sA ?_;refine Lt.t3 (a6.agg (eU.put (eU.O o) 5 (gY.row rfl rfl (by simp)) rfl)) (a6.ch (i:=4) rfl) a6.int
  ·have g9:(e !=0)=true:=by simpa using g7
   (repeat refine eK ab ?_);simp only [g9,Bool.true_or,if_true];(repeat' (first|refine zL ?_|apply Lt.t3|(with_reducible intro _)|with_reducible apply And.intro))<;>(exact zA)
 ·(intro rh;(repeat ((with_reducible apply And.intro);exact fE));refine dR ab [12,13,14,16] ?_;(repeat ((with_reducible apply And.intro);exact fE)));intro rh2;refine ⟨by omega,?_⟩;refine hR _ _ ?_;simp only [hl,he,push_cast,simprocAttr];refine ⟨fun g7=>?_,fun g7=>?_⟩
  ·refine EC.t6 (cH (FA o id l) hsm hpd) (d_.cons (a6.ch (i:=5) rfl).1 (a6.ch (i:=5) rfl).2 .nil) (by rintro _ rfl;rfl) ?_;rintro _ rfl;(repeat refine eK ab ?_);simp only [g7,Bool.false_or,Bool.or_false];refine ⟨fun g8=>?_,fun g8=>?_⟩
   ·simp only [g8,if_true];(repeat' (first|refine zL ?_|apply Lt.t3))<;>(exact zA)
   intro fr3;refine ⟨by omega,by omega,?_⟩;simp only [g8,Bool.false_eq_true,if_false];(refine dD ab [] [false,true,true,false,false,false,false,false] [0,1,2,3,4] bZ fun R hR=>?_;(repeat intro rh);(try refine sB ⟨?_⟩);(repeat ((with_reducible apply And.intro);exact fE));(repeat intro rh);(repeat ((with_reducible apply And.intro);exact fE));(try apply_assumption -exfalso));refine sA ?_;refine Lt.t3 (a6.agg (eU.put (eU.O o) 5 (gY.row rfl rfl (by simp)) rfl)) (a6.ch (i:=5) rfl) a6.int
  ·have g9:(e !=0)=true:=by simpa using g7
   (repeat refine eK ab ?_);simp only [g9,Bool.true_or,if_true];(repeat' (first|refine zL ?_|apply Lt.t3|(with_reducible intro _)|with_reducible apply And.intro))<;>(exact zA)
end
end Go.Proofs.YteejbbfaphcgiaaGreat
