/- A part of a proof; no conditions. -/
import Derived.Test.YtegiclpanpmkdaaGreatDoorR34
import Derived.Test.YtegiclpanpmkdaaGreatDoorR17
set_option linter.all false
set_option maxRecDepth 100000
set_option maxHeartbeats 8000000
noncomputable section
section
namespace Go.Sx
open Go.Proofs
attribute [local simp] ri aa ints
attribute [local irreducible] bA
attribute [local simp] aG
noncomputable abbrev xq:aB:=bS rxE (fun d=>d.t.Wf d.r) fun d=>.bool ((d.t.hi d.r).lF d.a d.b d.c)
theorem MY{x:HI}(hs:x.Small)(m:Int):(x.ga m).length<=1000000:=by have:=nG hs m x.r.kinds.length;have:=hs.kinds;simp only [HI.ga];omega
noncomputable abbrev afJ:=EV [(226,.pure CM),(227,.pure HF)] [] 16600 50
theorem aqg:af afJ [] Tryz.f166 xq:=pb <| by
 rintro⟨r,t,m,h,c⟩ vs;simp only at vs;obtain⟨v1,v2,v3,v4,v5,v6,v7,v8⟩:=cF vs.val;have Aa:=MY vs.small m;by_cases hl:(t.hi r).ga m=[]
 case neg=>
  have hl':(0:Int)<((t.hi r).ga m).length:=by have:0<((t.hi r).ga m).length:=List.length_pos_iff.2 hl;omega
  have vP:0<((t.hi r).ga m).length:=by omega
  have hf:(t.hi r).lF m h c=false:=by simp [HI.lF,hl]
  simp -dsimp [Tryz.f166,afJ,aZ.row,RS.row];repeat' first|omega|(exact aD _)|(exact aF _)|simp -dsimp [afJ,pJ,vs,prs,hl,hl',vP,hf]|apply aI|apply nI|intro
 simp -dsimp [Tryz.f166,afJ,aZ.row,RS.row];repeat' first|omega|(exact aD _)|(exact aF _)|simp -dsimp [afJ,pJ,vs,prs,hl]|apply aI|apply nI|intro
 refine ay [20,21,22,23,24,27,28,29,30,31,32,33,34,36,37,38,39,35,40,41,12,13,42,43,44,45,46,47,48,49,10,25,26,11] (fun k:{k:Nat // k<=r.parts.length/\∀j (h1:j<(t.ps r).length),j<k->(t.hi r).can m h c (t.ps r)[j]=true}=>[(11,(true,.int .i64 (k.1:Nat)))])
  (fun k=>hps [(16606,{base:=0,ah:=[{z:=5,els:=[[.sl 2 (t.used.map bn),.sl 2 (t.cV.map bn),.sl 1 (t.aX.map rb),kV t.since,kL t.done]],ty:=193}]}),(16605,{base:=0,ah:=[{z:=4,els:=[[.sl 3 (r.kinds.map Kd.row),.sl 4 (r.parts.map Pt.row),.int .i64 r.ax,.sl 2 (r.az.map Od.row)]],ty:=37}]})] cg) (fun k=>r.parts.length - k.1) ⟨0,by omega,fun _ _ h=>by omega⟩ ?_ ?_ ?_
 ·simp [aj,aT]
 ·(try simp -dsimp only [hpx]);refine ai ?_;simp -dsimp [aC]<;>exact rz
 rintro⟨k,hk,vW⟩;simp only;by_cases aH:k<r.parts.length
 ·have v0:(k:Int)<r.parts.length:=by omega
  have wk:=wx k;have EM:k<t.cV.length:=by rw [vs.cV];exact aH
  obtain⟨w,hw,hw'⟩:=aM EM;have hkp:k<(t.ps r).length:=by rw [RS.kz];exact aH
  have zE:(t.ps r)[k]=t.pt r k:=by have:=t.nH r aH;rw [List.getElem?_eq_getElem hkp]at this;exact Option.some.inj this
  have vx:(t.hi r).can m h c (t.ps r)[k]=(!(w.1 == m) || (decide (h<=(t.hi r).jt (t.pt r k)) && decide (c<=(t.hi r).iL (t.pt r k)))):=by rw [zE];simp only [HI.can];simp [RS.pt,List.getD,hw]
  have vX:RS.LfP r t (k:Int):=⟨vs,by omega,by omega⟩
  have step:∀hf:(t.hi r).can m h c (t.ps r)[k]=true,∀j (h1:j<(t.ps r).length),j<k+1->(t.hi r).can m h c (t.ps r)[j]=true:=by
   intro hf j h1 hj;by_cases zK:j=k
   ·subst zK;exact hf
   ·exact vW j h1 (by omega)
  have bad:(t.hi r).can m h c (t.ps r)[k]=false->(t.hi r).lF m h c=false:=by
   intro hf;have:(t.ps r).all ((t.hi r).can m h c)=false:=by rw [List.all_eq_false];exact⟨_,List.getElem_mem hkp,by rw [hf];simp⟩
   show(decide ((t.hi r).ga m=[]) && (t.ps r).all ((t.hi r).can m h c))=false;rw [this];simp
  by_cases hm:w.1=m
  case neg=>
   have hm':(w.1=m)=False:=eq_false hm;have hf:(t.hi r).can m h c (t.ps r)[k]=true:=(by rw [vx];simp [hm]);simp -dsimp [v0];repeat' first|omega|(exact aD _)|(exact aF _)|simp -dsimp [afJ,v0,aH,hw,hw',EM,wk,bn,hm']|apply aI|apply nI|intro
   refine⟨k+1,ag rfl ?_,(by(try simp -dsimp only [hpx]);refine ai ?_;simp -dsimp [aC]<;>exact rz),⟨by omega,step hf⟩,by omega⟩;simp [aj,aT]
  by_cases h1:(t.hi r).jt (t.pt r k)<h
  ·have hf:(t.hi r).can m h c (t.ps r)[k]=false:=by have:¬ h<=(t.hi r).jt (t.pt r k):=(by omega);rw [vx];simp [hm,this]
   have hfl:=bad hf;simp -dsimp [v0];repeat' first|omega|(exact aD _)|(exact aF _)|simp -dsimp [afJ,v0,aH,hw,hw',EM,wk,bn,hm,pJ,vX,h1,hfl]|apply aI|apply nI|intro
  have pI:h<=(t.hi r).jt (t.pt r k):=by omega
  by_cases h2:(t.hi r).iL (t.pt r k)<c
  ·have hf:(t.hi r).can m h c (t.ps r)[k]=false:=by have:¬ c<=(t.hi r).iL (t.pt r k):=(by omega);rw [vx];simp [hm,this]
   have hfl:=bad hf;simp -dsimp [v0];repeat' first|omega|(exact aD _)|(exact aF _)|simp -dsimp [afJ,v0,aH,hw,hw',EM,wk,bn,hm,pJ,vX,h1,h2,hfl]|apply aI|apply nI|intro
  have CN:c<=(t.hi r).iL (t.pt r k):=by omega
  have hf:(t.hi r).can m h c (t.ps r)[k]=true:=by rw [vx];simp [pI,CN]
  simp -dsimp [v0];repeat' first|omega|(exact aD _)|(exact aF _)|simp -dsimp [afJ,v0,aH,hw,hw',EM,wk,bn,hm,pJ,vX,h1,h2]|apply aI|apply nI|intro
  refine⟨k+1,ag rfl ?_,(by(try simp -dsimp only [hpx]);refine ai ?_;simp -dsimp [aC]<;>exact rz),⟨by omega,step hf⟩,by omega⟩;simp [aj,aT]
 ·have v9:¬ (k:Int)<r.parts.length:=by omega
  have hfl:(t.hi r).lF m h c=true:=by
   have:(t.ps r).all ((t.hi r).can m h c)=true:=by rw [List.all_eq_true];intro x hx;obtain⟨j,hj,rfl⟩:=List.mem_iff_getElem.1 hx;exact vW j hj (by rw [RS.kz]at hj;omega)
   show(decide ((t.hi r).ga m=[]) && (t.ps r).all ((t.hi r).can m h c))=true;rw [this,decide_eq_true hl];rfl
  simp -dsimp [v9];repeat' first|omega|(exact aD _)|(exact aF _)|simp -dsimp [afJ,v9,hfl]|apply aI|apply nI|intro
theorem ak2:FO 166 xq:=pf aqg (.cons ajT (.cons ak1 .nil))
def prB(rows:List (List V)):List dZ:=if rows.length=0 then []else [{z:=2,els:=rows,ty:=90}]
theorem uT{rows:List (List V)}(h:0<rows.length):prB rows=[{z:=2,els:=rows,ty:=90}]:=by unfold prB;rw [if_neg (by omega)]
theorem Xu(x:List V):prB [x]=[{z:=2,els:=[x],ty:=90}]:=rfl
theorem xu:prB []=[]:=rfl
theorem jg(k:Nat):oF k 0=.nil:=rfl
theorem qx(ty:Nat):MZ [] ty=[]:=rfl
def Bj(site m n:Nat):List (List V):=(List.range m).map fun k=>[.bw site k n]
theorem pK(site n:Nat):Bj site 0 n=[]:=rfl
theorem EN(site m n:Nat):Bj site (m+1) n=Bj site m n++[[.bw site m n]]:=by simp [Bj,List.range_succ]
theorem fO(site m n:Nat):(Bj site m n).length=m:=by simp [Bj]
theorem Bl{h:Hp}{site m n:Nat}{B:dZ}(hB:B.cl=true)(hb:B.els.length=n)(hh:h site={base:=0,ah:=List.replicate m B}) :
  dc (ak 2 h) (Bj site m n)=(True,List.replicate m [.sl B.z B.els]):=by
 have:dc (ak 2 h) (Bj site m n)=(True,(List.range m).map fun _=>[.sl B.z B.els]):=by
  refine jy fun k hk=>?_;have hk':k<m:=by simpa using hk
  have hg:aL h site k=some B:=by simp [aL,hh,hk']
  simp [cL,V.leaf,ak,hg,hb,bV,hB]
 rw [this];congr 1;exact List.map_const' .. |>.trans (by simp)
@[simp ↓ high] theorem agn(k n:Nat):(oF k n).dQ=true:=by unfold oF;split<;>rfl
noncomputable abbrev CO:aB:=bS Aq (fun r=>r.valid=true) fun r=>.agg (RS.new r).row
noncomputable abbrev wM:=EV [] [55,64] 10800 68
theorem amK:af wM [(10,([2001],[[0,1,2,3,4,5,6,7,8,9]])),(11,([2001],[[0,1,2,3,4,5,6,7,8,9]]))] Tryz.f108 CO:=pb <| by
 rintro r hv;obtain⟨v1,v2,v3,v4,v5,v6,v7,v8⟩:=cF hv;obtain⟨no,va⟩:∃no,no=r.az.length:=⟨_,rfl⟩
 obtain⟨np,y1⟩:∃np,np=r.parts.length:=⟨_,rfl⟩
 simp -dsimp [Tryz.f108,wM,aZ.row];repeat' first|omega|simp -dsimp [wM,<-va,v3]|apply aI|apply nI|intro
 refine ay [11,12,13,14,15,18,19,20,21,22,23,24,25,26,27,28,29,30,31,32,33,34,35,36,37,38,39,40,41,16,17,4] (fun k:Fin (r.parts.length+1)=>[(4,(true,.int .i64 (k.1:Nat)))])
  (fun k=>hps [(10803,{base:=0,ah:=[{z:=5,els:=[[oF 10834 k.1,oF 10840 k.1,.bw 10809 0 no,.nil,.nil]],ty:=193,cl:=false}]}),
   (10834,{base:=0,ah:=prB (OZ (fun p:Pt=>[.int .i64 p.hours,.int .i64 p.bh]) r.parts k.1)}),(10840,{base:=0,ah:=prB (List.replicate k.1 [.int .i64 (-1),.int .i64 (-1)])}),
   (10809,{base:=0,ah:=[{z:=1,els:=List.replicate no [.bool false],ty:=4}]}),(10802,{base:=0,ah:=[{z:=5,els:=[[.nil,.nil,.nil,.nil,.nil]],ty:=193}]}),
   (10801,{base:=0,ah:=[{z:=4,els:=[[.sl 3 (r.kinds.map Kd.row),.sl 4 (r.parts.map Pt.row),.int .i64 r.ax,.sl 2 (r.az.map Od.row)]],ty:=37}]})] cg) (fun k=>r.parts.length - k.1) ⟨0,by omega⟩ ?_ ?_ ?_
 ·simp [aj,aT]
 ·(try simp -dsimp only [hpx]);refine ai ?_;simp -dsimp [aC,xu,jg]<;>exact rz
 rintro⟨k,hk⟩;simp only;by_cases aH:k<r.parts.length
 ·have v0:(k:Int)<r.parts.length:=by omega
  have wk:=wx k;obtain⟨p,hp,hp'⟩:=aM aH;have hT:=Rx (fun p:Pt=>[V.int .i64 p.hours,.int .i64 p.bh]) hp;have HJ:=Kx (fun p:Pt=>[V.int .i64 p.hours,.int .i64 p.bh]) (l:=r.parts) (k:=k) (by omega);have hR:List.replicate (k+1) [V.int .i64 (-1),.int .i64 (-1)]=List.replicate k [V.int .i64 (-1),.int .i64 (-1)]++[[.int .i64 (-1),.int .i64 (-1)]]:=List.replicate_succ';have Wi:=uT (rows:=OZ (fun p:Pt=>[V.int .i64 p.hours,.int .i64 p.bh]) r.parts (k+1)) (by rw [Kx _ (by omega)];omega);have GR:=uT (rows:=List.replicate (k+1) [V.int .i64 (-1),.int .i64 (-1)]) (by simp);have vd:=ei (k:=10834) (n:=k+1) (by omega);have vr:=ei (k:=10840) (n:=k+1) (by omega);rw [hT]at Wi;rw [hR]at GR;have yC:(k+1) * 16<=140737488355328:=by omega
  generalize OZ (fun p:Pt=>[V.int .i64 p.hours,.int .i64 p.bh]) r.parts k=T at *;generalize hQ:List.replicate k [V.int .i64 (-1),.int .i64 (-1)]=Q at *;have zd:Q.length=k:=by rw [<-hQ];simp
  by_cases kW:k=0
  ·subst kW;have zY:T=[]:=List.length_eq_zero_iff.1 HJ;have y0:Q=[]:=List.length_eq_zero_iff.1 zd;subst zY;subst y0;have zo:¬ r.parts=[]:=(by rintro e;rw [e]at aH;simp at aH);simp -dsimp [v0,aH,zo];repeat' first|omega|simp -dsimp [wM,cQ,v0,aH,zo,hp,hp',wk,Pt.row,yC,xu,jg]|apply aI|apply nI|intro
   refine⟨⟨0+1,by omega⟩,ag rfl ?_,(by(try simp -dsimp only [hpx]);refine ai ?_;simp -dsimp [aC,hT,hR,Xu,vd,vr]<;>exact rz),by simp only;omega⟩;simp [aj,aT];exact wk
  ·have z1:=ei (k:=10834) (n:=k) (by omega);have z2:=ei (k:=10840) (n:=k) (by omega);have z3:=uT (rows:=T) (by omega);have z4:=uT (rows:=Q) (by omega);simp -dsimp [v0,z1,z2,z3,z4];repeat' first|omega|simp -dsimp [wM,cQ,v0,aH,hp,hp',wk,Pt.row,yC,z1,z2,z3,z4,HJ,zd]|apply aI|apply nI|intro
   refine⟨⟨k+1,by omega⟩,ag rfl ?_,(by(try simp -dsimp only [hpx]);refine ai ?_;simp -dsimp [aC,hT,hR,Wi,GR,vd,vr]<;>exact rz),by simp only;omega⟩;simp [aj,aT]
 have v9:¬ (k:Int)<r.parts.length:=by omega
 have vy:k=r.parts.length:=by omega
 subst vy;simp -dsimp [v9];repeat' first|omega|simp -dsimp [wM,v9]|apply aI|apply nI|intro
 clear hk aH v9
 refine ay [42,43,44,45,46,49,50,51,52,53,54,55,56,57,58,59,60,61,62,63,64,65,66,47,48,5] (fun k:Fin (no+1)=>[(5,(true,.int .i64 (k.1:Nat)))])
  (fun k=>hps [(10803,{base:=0,ah:=[{z:=5,els:=[[oF 10834 r.parts.length,oF 10840 r.parts.length,.bw 10809 0 no,oF 10856 k.1,oF 10865 k.1]],ty:=193,cl:=false}]}),
   (10856,{base:=0,ah:=MZ (Bj 10854 k.1 r.parts.length) 43}),(10854,{base:=0,ah:=List.replicate k.1 {z:=1,els:=List.replicate r.parts.length [.int .i64 0],ty:=3}}),
   (10865,{base:=0,ah:=MZ (Bj 10863 k.1 r.parts.length) 155}),(10863,{base:=0,ah:=List.replicate k.1 {z:=1,els:=List.replicate r.parts.length [.bool false],ty:=4}}),
   (10834,{base:=0,ah:=prB (OZ (fun p:Pt=>[.int .i64 p.hours,.int .i64 p.bh]) r.parts r.parts.length)}),(10840,{base:=0,ah:=prB (List.replicate r.parts.length [.int .i64 (-1),.int .i64 (-1)])}),
   (10809,{base:=0,ah:=[{z:=1,els:=List.replicate no [.bool false],ty:=4}]}),(10855,{base:=k.1,ah:=[]}),(10864,{base:=k.1,ah:=[]}),(10802,{base:=0,ah:=[{z:=5,els:=[[.nil,.nil,.nil,.nil,.nil]],ty:=193}]}),
   (10801,{base:=0,ah:=[{z:=4,els:=[[.sl 3 (r.kinds.map Kd.row),.sl 4 (r.parts.map Pt.row),.int .i64 r.ax,.sl 2 (r.az.map Od.row)]],ty:=37}]})] cg) (fun k=>no - k.1) ⟨0,by omega⟩ ?_ ?_ ?_
 ·simp [aj,aT]
 ·(try simp -dsimp only [hpx]);refine ai ?_;simp -dsimp [aC,pK,qx,jg]<;>exact rz
 rintro⟨k,hk⟩;simp only;by_cases aH:k<no
 ·have v0:(k:Int)<no:=by omega
  have wk:=wx k;have M3:=EN 10854 k r.parts.length;have wN:=EN 10863 k r.parts.length;have oy:=fO 10854 k r.parts.length;have vP:=fO 10863 k r.parts.length;have Wi:=gb (rows:=Bj 10854 (k+1) r.parts.length) (ty:=43) (by rw [fO];omega);have GR:=gb (rows:=Bj 10863 (k+1) r.parts.length) (ty:=155) (by rw [fO];omega);rw [M3]at Wi;rw [wN]at GR;have vd:=ei (k:=10856) (n:=k+1) (by omega);have vr:=ei (k:=10865) (n:=k+1) (by omega);have hQ1:List.replicate (k+1) ({z:=1,els:=List.replicate r.parts.length [V.int .i64 0],ty:=3}:dZ)=List.replicate k {z:=1,els:=List.replicate r.parts.length [V.int .i64 0],ty:=3}++[{z:=1,els:=List.replicate r.parts.length [V.int .i64 0],ty:=3}]:=List.replicate_succ';have hQ2:List.replicate (k+1) ({z:=1,els:=List.replicate r.parts.length [V.bool false],ty:=4}:dZ)=List.replicate k {z:=1,els:=List.replicate r.parts.length [V.bool false],ty:=4}++[{z:=1,els:=List.replicate r.parts.length [V.bool false],ty:=4}]:=List.replicate_succ';have yC:(k+1) * 24<=140737488355328:=by omega
  have PU:(r.parts.length:Int) * 8<=140737488355328:=by omega
  have arI:(r.parts.length:Int)<=9223372036854775807:=by omega
  by_cases kW:k=0
  ·subst kW;simp -dsimp [v0,aH,<-va];repeat' first|omega|simp -dsimp [wM,cQ,v0,aH,<-va,wk,yC,PU,v2,pK,qx,jg]|apply aI|apply nI|intro
   refine⟨⟨0+1,by omega⟩,ag rfl ?_,(by(try simp -dsimp only [hpx]);refine ai ?_;simp -dsimp [aC,M3,wN,pK,vd,vr,MZ]<;>exact rz),by simp only;omega⟩;simp [aj,aT];exact wk
  ·have z1:=ei (k:=10856) (n:=k) (by omega);have z2:=ei (k:=10865) (n:=k) (by omega);have z3:=gb (rows:=Bj 10854 k r.parts.length) (ty:=43) (by rw [fO];omega);have z4:=gb (rows:=Bj 10863 k r.parts.length) (ty:=155) (by rw [fO];omega);simp -dsimp [v0,z1,z2,z3,z4];repeat' first|omega|simp -dsimp [wM,cQ,v0,aH,<-va,wk,yC,PU,v2,z1,z2,z3,z4,oy,vP]|apply aI|apply nI|intro
   refine⟨⟨k+1,by omega⟩,ag rfl ?_,(by(try simp -dsimp only [hpx]);refine ai ?_;simp -dsimp [aC,M3,wN,Wi,GR,vd,vr,hQ1,hQ2]<;>exact rz),by simp only;omega⟩;simp [aj,aT]
 have v9:¬ (k:Int)<no:=by omega
 have vy:k=no:=by omega
 subst vy;have CP:∀h:Hp,h 10854={base:=0,ah:=List.replicate k {z:=1,els:=List.replicate r.parts.length [V.int .i64 0],ty:=3}}->dc (ak 2 h) (Bj 10854 k r.parts.length)=(True,List.replicate k [.sl 1 (List.replicate r.parts.length [V.int .i64 0])]):=fun h hh=>Bl rfl (by simp) hh;have Wo:∀h:Hp,h 10863={base:=0,ah:=List.replicate k {z:=1,els:=List.replicate r.parts.length [V.bool false],ty:=4}}->dc (ak 2 h) (Bj 10863 k r.parts.length)=(True,List.replicate k [.sl 1 (List.replicate r.parts.length [V.bool false])]):=fun h hh=>Bl rfl (by simp) hh;have z0:(RS.new r).row=[.sl 2 (r.parts.map fun p=>[.int .i64 p.hours,.int .i64 p.bh]),.sl 2 (List.replicate r.parts.length [.int .i64 (-1),.int .i64 (-1)]),.sl 1 (List.replicate k [.bool false]),if k=0 then .nil else .sl 1 (List.replicate k [.sl 1 (List.replicate r.parts.length [.int .i64 0])]),if k=0 then .nil else .sl 1 (List.replicate k [.sl 1 (List.replicate r.parts.length [.bool false])])]:=by simp only [RS.row,RS.new,kV,kL,<-va,List.replicate_eq_nil_iff];simp [bn,ints,O0,rb,ri,List.map_const']
 rw [z0];clear z0 hk aH;by_cases zp:r.parts.length=0
 ·have Ar:r.parts=[]:=List.length_eq_zero_iff.1 zp;by_cases kW:k=0
  ·subst kW;simp -dsimp [v9];repeat' first|omega|simp -dsimp [wM,v9,<-va,Ar,jg,xu,pK,qx]|apply aI|apply nI|intro
  ·have z1:=ei (k:=10856) (n:=k) (by omega);have z2:=ei (k:=10865) (n:=k) (by omega);have z3:=gb (rows:=Bj 10854 k 0) (ty:=43) (by rw [fO];omega);have z4:=gb (rows:=Bj 10863 k 0) (ty:=155) (by rw [fO];omega);have y3:=fO 10854 k 0;have y4:=fO 10863 k 0;rw [zp]at CP Wo;simp only [List.replicate_zero]at CP Wo;simp -dsimp [v9];repeat' first|omega|simp -dsimp [wM,v9,<-va,Ar,jg,xu,kW,z1,z2,z3,z4,y3,y4,CP,Wo]|apply aI|apply nI|intro
 ·have z5:=ei (k:=10834) (n:=r.parts.length) (by omega);have z6:=ei (k:=10840) (n:=r.parts.length) (by omega);have z7:=uT (rows:=r.parts.map (fun p:Pt=>[V.int .i64 p.hours,.int .i64 p.bh])) (by simp;omega);have z8:=uT (rows:=List.replicate r.parts.length [V.int .i64 (-1),.int .i64 (-1)]) (by simp;omega);by_cases kW:k=0
  ·subst kW;simp -dsimp [v9];repeat' first|omega|simp -dsimp [wM,v9,<-va,jg,z5,z6,z7,z8,Ky,pK,qx]|apply aI|apply nI|intro
  ·have z1:=ei (k:=10856) (n:=k) (by omega);have z2:=ei (k:=10865) (n:=k) (by omega);have z3:=gb (rows:=Bj 10854 k r.parts.length) (ty:=43) (by rw [fO];omega);have z4:=gb (rows:=Bj 10863 k r.parts.length) (ty:=155) (by rw [fO];omega);have y3:=fO 10854 k r.parts.length;have y4:=fO 10863 k r.parts.length;simp -dsimp [v9];repeat' first|omega|simp -dsimp [wM,v9,<-va,z5,z6,z7,z8,Ky,kW,z1,z2,z3,z4,y3,y4,CP,Wo]|apply aI|apply nI|intro
theorem abj:FO 108 CO:=pf amK .nil
@[simp] def stE(t:RS):List V:=[.agg t.row]
theorem Xv(a b:RS)(h:stE a=stE b):a=b:=RS.aq _ _ (by simpa using h)
theorem Xw(t:RS):aY stE [.agg t.row]=t:=aA Xv t
def yD(h:Hp):Prop:=∀k∈cpK,h k={base:=0,ah:=[]}
abbrev pL:List Nat:=[16501,16502,16503,16530,16541]
structure RS.Cp (t:RS):Prop where
 used:t.used.length<=1000
 cV:t.cV.length<=1000
 aX:t.aX.length<=1000
 since:t.since.length<=1000
 done:t.done.length=t.since.length
 kA:∀l∈t.since,l.length<=1000
 oe:∀l∈t.done,l.length<=1000
theorem RS.Wf.cp{t:RS}{r:aZ}(h:t.Wf r):t.Cp:=by obtain⟨v1,v2,v3,_⟩:=cF h.val;exact⟨by rw [h.used];omega,by rw [h.cV];omega,by rw [h.aX];omega,by rw [h.since];omega,by rw [h.done,h.since],fun l hl=>by rw [h.kA l hl];omega,fun l hl=>by rw [h.oe l hl];omega⟩
noncomputable def HK:bB where
 go args h:=⟨(args=[.agg (aY stE args).row]/\(aY stE args).Cp)/\yD h/\Blank pL h,cpV (aY stE args),Ob iG (aY stE args) (ec pL 1000000 h)⟩
theorem Ry(t:RS)(h:Hp):HK.go [.agg t.row] h=⟨t.Cp/\yD h/\Blank pL h,cpV t,Ob iG t (ec pL 1000000 h)⟩:=by simp only [HK,Xw,true_and]
theorem Kz{args:List V}{h:Hp}(hc:(HK.go args h).c):∃t:RS,args=[.agg t.row]/\t.Cp/\yD h/\Blank pL h:=by obtain⟨⟨h1,h2⟩,h3,h4⟩:=hc;exact⟨_,h1,h2,h3,h4⟩
theorem Rz{l:List (List Int)}{k:Nat}{x:List Int}(h:l[k]?=some x):qy (l.take (k+1))=qy (l.take k)++[[.bw 16529 k x.length]]:=by have hk:=(List.getElem?_eq_some_iff.1 h).1;rw [List.take_add_one,h,qy,Option.toList_some,List.mapIdx_concat];simp [qy,Nat.min_eq_left (by omega:k<=l.length)]
theorem RA{l:List (List Bool)}{k:Nat}{x:List Bool}(h:l[k]?=some x):vQ (l.take (k+1))=vQ (l.take k)++[[.bw 16540 k x.length]]:=by have hk:=(List.getElem?_eq_some_iff.1 h).1;rw [List.take_add_one,h,vQ,Option.toList_some,List.mapIdx_concat];simp [vQ,Nat.min_eq_left (by omega:k<=l.length)]
def RB{α:Type}(f:α->dZ)(l:List α)(k:Nat):List dZ:=(l.take k).map f
theorem RC{α:Type}(f:α->dZ)(l:List α):RB f l 0=[]:=rfl
theorem KA{α:Type}(f:α->dZ)(l:List α){k:Nat}(h:k=l.length):RB f l k=l.map f:=by subst h;simp [RB]
theorem tu(k n:Nat):aAx (oF k n) (oF k n):=by unfold oF;split<;>simp [aAx]
theorem As{α β:Type}(f:α->β){l:List α}{k:Nat}{x:α}(h:l[k]?=some x):(l.take (k+1)).map f=(l.take k).map f++[f x]:=by rw [List.take_add_one,h];simp
theorem EO{α:Type}(f:α->dZ){l:List α}{k:Nat}{x:α}(h:l[k]?=some x):RB f l (k+1)=RB f l k++[f x]:=As f h
theorem KB{α:Type}(f:α->dZ){l:List α}{k:Nat}(h:k<=l.length):(RB f l k).length=k:=by simp [RB];omega
noncomputable abbrev ael:=EV [] [30,41] 16500 45
theorem aoG:ct ael [(1,([2001,2004,2007,3002,3005,3008],[[0,1,2,3,4,5,6,7,8,9,10,11]])),(5,([2001],[[0,1,2,3,4,5,6,7,8,9,10,11]])),(6,([2001],[[0,1,2,3,4,5,6,7,8,9,10,11]]))] Tryz.f165 HK:=by
 intro args h hc;obtain⟨t,rfl,kM,zr,ry⟩:=Kz hc;rw [Ry];clear hc;obtain⟨s1,s2,s3,s4,s5,s6,s7⟩:=kM;have hh:h=hps ([(16507,{base:=0,ah:=[]}),(16510,{base:=0,ah:=[]}),(16513,{base:=0,ah:=[]}),(16531,{base:=0,ah:=[]}),(16529,{base:=0,ah:=[]}),(16542,{base:=0,ah:=[]}),(16540,{base:=0,ah:=[]}),(16501,{base:=(h 16501).base,ah:=[]}),(16502,{base:=(h 16502).base,ah:=[]}),(16503,{base:=(h 16503).base,ah:=[]}),(16530,{base:=(h 16530).base,ah:=[]}),(16541,{base:=(h 16541).base,ah:=[]})]) h:=by
  refine(gJ fun k hk=>?_).symm;have f:=fun k hk=>zr k hk;have b:=fun k hk=>ry k hk;simp only [List.map_cons,List.map_nil,List.mem_cons,List.not_mem_nil,or_false]at hk;rcases hk with rfl|rfl|rfl|rfl|rfl|rfl|rfl|rfl|rfl|rfl|rfl|rfl
  all_goals first
   | exact f _ (by simp)
   | exact b _ (by simp)
 clear zr ry;have vV:Ob iG t (ec pL 1000000 h)=hps (iG t++[(16501,{base:=(h 16501).base+1000000,ah:=[]}),(16502,{base:=(h 16502).base+1000000,ah:=[]}),(16503,{base:=(h 16503).base+1000000,ah:=[]}),(16530,{base:=(h 16530).base+1000000,ah:=[]}),(16541,{base:=(h 16541).base+1000000,ah:=[]})]) h:=by simp only [Ob,ec,aG,pL,List.map_cons,List.map_nil]
 rw [vV];clear vV;generalize (h 16501).base=b1 at *;generalize (h 16502).base=b2 at *;generalize (h 16503).base=b3 at *;generalize (h 16530).base=b30 at *;generalize (h 16541).base=b41 at *;rw [hh];simp only [aG];clear hh;have u8:t.used.length * 16<=140737488355328:=by omega
 have w8:t.cV.length * 16<=140737488355328:=by omega
 have i8:t.aX.length<=140737488355328:=by omega
 simp -dsimp [Tryz.f165,ael,RS.row];repeat' first|omega|(exact tu _ _)|simp -dsimp [ael,cQ,lB,RS.row,u8,w8,i8]|apply aI|apply nI|intro
 refine ay [15,16,17,18,19,22,23,24,25,26,27,28,29,30,31,32,33,34,35,36,37,38,39,40,41,42,43,20,21,4] (fun k:Fin (t.since.length+1)=>[(4,(true,.int .i64 (k.1:Nat)))])
  (fun k=>hps [(16503,{base:=b3,ah:=[{z:=5,els:=[[.bw 16507 0 t.used.length,.bw 16510 0 t.cV.length,.bw 16513 0 t.aX.length,oF 16531 k.1,oF 16542 k.1]],ty:=193,cl:=false}]}),
   (16531,{base:=0,ah:=MZ (qy (t.since.take k.1)) 43}),(16529,{base:=0,ah:=RB O1 t.since k.1}),(16542,{base:=0,ah:=MZ (vQ (t.done.take k.1)) 155}),(16540,{base:=0,ah:=RB GS t.done k.1}),
   (16507,{base:=0,ah:=[{z:=2,els:=t.used.map bn,ty:=90}]}),(16510,{base:=0,ah:=[{z:=2,els:=t.cV.map bn,ty:=90}]}),(16513,{base:=0,ah:=[{z:=1,els:=t.aX.map rb,ty:=4}]}),
   (16530,{base:=b30+k.1,ah:=[]}),(16541,{base:=b41+k.1,ah:=[]}),(16502,{base:=b2,ah:=[{z:=5,els:=[[.nil,.nil,.nil,.nil,.nil]],ty:=193}]}),
   (16501,{base:=b1,ah:=[{z:=5,els:=[[.sl 2 (t.used.map bn),.sl 2 (t.cV.map bn),.sl 1 (t.aX.map rb),kV t.since,kL t.done]],ty:=193}]})] h) (fun k=>t.since.length - k.1) ⟨0,by omega⟩ ?_ ?_ ?_
 ·simp [aj,aT]
 ·exact(by(try simp -dsimp only [hpx]);refine bK ?_;simp -dsimp [aC,qy,vQ,qx,jg,RC]<;>exact rz)
 rintro⟨k,hk⟩;simp only;by_cases aH:k<t.since.length
 ·have v0:(k:Int)<t.since.length:=by omega
  have wk:=wx k;have kj:k<t.done.length:=by omega
  obtain⟨x,hx,hx'⟩:=aM aH;obtain⟨y,hy,hy'⟩:=aM kj;have x8:x.length * 8<=140737488355328:=by have:=s6 x (hx' ▸ List.getElem_mem aH);omega
  have y8:y.length<=140737488355328:=by have:=s7 y (hy' ▸ List.getElem_mem kj);omega
  have zs:=HL (l:=t.since) (by omega);have zt:=HM (l:=t.done) (by omega);have M3:=Rz hx;have wN:=RA hy;have z9:=EO O1 hx;have za:=EO GS hy;have oy:(qy (t.since.take k)).length=k:=by simp [qy];omega
  have vP:(vQ (t.done.take k)).length=k:=by simp [vQ];omega
  have jW:=KB O1 (l:=t.since) (k:=k) (by omega);have zv:=KB GS (l:=t.done) (k:=k) (by omega);have vd:=ei (k:=16531) (n:=k+1) (by omega);have vr:=ei (k:=16542) (n:=k+1) (by omega);have Wi:=gb (rows:=qy (t.since.take (k+1))) (ty:=43) (by rw [M3];simp);have GR:=gb (rows:=vQ (t.done.take (k+1))) (ty:=155) (by rw [wN];simp);rw [M3]at Wi;rw [wN]at GR;have yC:(k+1) * 24<=140737488355328:=by omega
  have hI:O1 x={z:=1,els:=x.map ri,ty:=3}:=rfl;have hB:GS y={z:=1,els:=y.map rb,ty:=4}:=rfl;rw [hI]at z9;rw [hB]at za;generalize y2:qy (t.since.take k)=R1 at *;generalize y5:vQ (t.done.take k)=R2 at *;generalize y6:RB O1 t.since k=M1 at *;generalize y7:RB GS t.done k=M2 at *;by_cases kW:k=0
  ·subst kW;have e1:R1=[]:=List.length_eq_zero_iff.1 oy;have e2:R2=[]:=List.length_eq_zero_iff.1 vP;have e3:M1=[]:=List.length_eq_zero_iff.1 jW;have e4:M2=[]:=List.length_eq_zero_iff.1 zv;subst e1 e2 e3 e4;simp -dsimp [v0,aH];repeat' first|omega|(exact tu _ _)|simp -dsimp [ael,cQ,lB,v0,aH,kj,zs,zt,hx,hx',hy,hy',ints,O0,x8,y8,wk,yC,qx,jg]|apply aI|apply nI|intro
   refine⟨⟨0+1,by omega⟩,ag rfl ?_,(by(try simp -dsimp only [hpx]);refine bK ?_;simp -dsimp [aC,M3,wN,z9,za,vd,vr,MZ]<;>exact rz),by simp only;omega⟩;simp [aj,aT];exact wk
  ·have z1:=ei (k:=16531) (n:=k) (by omega);have z2:=ei (k:=16542) (n:=k) (by omega);have z3:=gb (rows:=R1) (ty:=43) (by omega);have z4:=gb (rows:=R2) (ty:=155) (by omega);simp -dsimp [v0,z1,z2,z3,z4];repeat' first|omega|(exact tu _ _)|simp -dsimp [ael,cQ,lB,v0,aH,kj,zs,zt,hx,hx',hy,hy',ints,O0,x8,y8,wk,yC,z1,z2,z3,z4,oy,vP,jW,zv]|apply aI|apply nI|intro
   refine⟨⟨k+1,by omega⟩,ag rfl ?_,(by(try simp -dsimp only [hpx]);refine bK ?_;simp -dsimp [aC,M3,wN,z9,za,Wi,GR,vd,vr]<;>exact rz),by simp only;omega⟩;simp [aj,aT]
 have v9:¬ (k:Int)<t.since.length:=by omega
 have vy:k=t.since.length:=by omega
 subst vy;have t1:t.since.take t.since.length=t.since:=List.take_length;have t2:t.done.take t.since.length=t.done:=by rw [<-s5];exact List.take_length
 have t3:=KA O1 t.since (k:=t.since.length) rfl;have t4:=KA GS t.done (k:=t.since.length) s5.symm;simp -dsimp [v9];repeat' first|omega|(exact tu _ _)|simp -dsimp [ael,v9,t1,t2,t3,t4,cpV,s5]|apply aI|apply nI|intro
 exact(by(try simp -dsimp only [hpx]);refine bK ?_;simp -dsimp [aC,iG,cpB,GS,t1,t2,t3,t4,s5]<;>exact rz)
theorem ajU:dM Tryz.prog 165 (.heap HK):=yE aoG .nil (fun args h hc=>by obtain⟨_,rfl,_⟩:=Kz hc;simp)
end Go.Sx
end
section
namespace Go.Sx
section wr
variable [aO] {s:RS} {h:Hp} {i j:Nat}
theorem ck{k:Nat}(hk:k∈cpK):k=16507\/k=16510\/k=16513\/k=16531\/k=16529\/k=16542\/k=16540:=by simpa only [cpK,List.mem_cons,List.not_mem_nil,or_false]using hk
theorem RD(x y:Int):bE (Ob iG s h) 16507 0 {z:=2,els:=(s.used.map bn).set j [.int .i64 x,.int .i64 y],ty:=90,fz:=false,cl:=true}=Ob iG {s with used:=s.used.set j (x,y)} h:=by
 refine eV gK (by simp) (fun k hk vb=>?_) ?_
 ·rcases ck hk with rfl|rfl|rfl|rfl|rfl|rfl|rfl<;>simp at vb ⊢
 ·simp [bn]
theorem RE(x y:Int):bE (Ob iG s h) 16510 0 {z:=2,els:=(s.cV.map bn).set j [.int .i64 x,.int .i64 y],ty:=90,fz:=false,cl:=true}=Ob iG {s with cV:=s.cV.set j (x,y)} h:=by
 refine eV gK (by simp) (fun k hk vb=>?_) ?_
 ·rcases ck hk with rfl|rfl|rfl|rfl|rfl|rfl|rfl<;>simp at vb ⊢
 ·simp [bn]
theorem abk(x:Bool):bE (Ob iG s h) 16513 0 {z:=1,els:=(s.aX.map rb).set j [.bool x],ty:=4,fz:=false,cl:=true}=Ob iG {s with aX:=s.aX.set j x} h:=by
 refine eV gK (by simp) (fun k hk vb=>?_) ?_
 ·rcases ck hk with rfl|rfl|rfl|rfl|rfl|rfl|rfl<;>simp at vb ⊢
 ·simp [rb]
theorem Xx{l:List (List Int)}{o:Nat}{r r':List Int}(h:l[o]?=some r)(hl:r'.length=r.length):qy (l.set o r')=qy l:=by unfold qy;rw [List.mapIdx_set,hl];exact iz (by rw [List.getElem?_mapIdx,h];rfl)
theorem Xy{l:List (List Bool)}{o:Nat}{r r':List Bool}(h:l[o]?=some r)(hl:r'.length=r.length):vQ (l.set o r')=vQ l:=by unfold vQ;rw [List.mapIdx_set,hl];exact iz (by rw [List.getElem?_mapIdx,h];rfl)
theorem ah0{r:List Int}(hr:s.since[i]?=some r)(x:Int):bE (Ob iG s h) 16529 i {z:=1,els:=(r.map ri).set j [.int .i64 x],ty:=3,fz:=false,cl:=true}=Ob iG {s with since:=s.since.set i (r.set j x)} h:=by
 refine eV gK (by simp) (fun k hk vb=>?_) ?_
 ·rcases ck hk with rfl|rfl|rfl|rfl|rfl|rfl|rfl<;>simp at vb ⊢;rw [Xx hr (by simp)]
 ·simp [List.map_set,O1,ri]
theorem amM{r:List Bool}(hr:s.done[i]?=some r)(x:Bool):bE (Ob iG s h) 16540 i {z:=1,els:=(r.map rb).set j [.bool x],ty:=4,fz:=false,cl:=true}=Ob iG {s with done:=s.done.set i (r.set j x)} h:=by
 refine eV gK (by simp) (fun k hk vb=>?_) ?_
 ·rcases ck hk with rfl|rfl|rfl|rfl|rfl|rfl|rfl<;>simp at vb ⊢;rw [Xy hr (by simp)]
 ·simp [List.map_set,GS,rb]
@[simp] theorem ago(s:RS)(h:Hp){n:Nat}(hn:n=s.used.length):av (Ob iG s h) (.bw 16507 0 n)=(True,.sl 2 (s.used.map bn)):=by subst hn;simp [av,ak,bV]
@[simp] theorem ah1(s:RS)(h:Hp){n:Nat}(hn:n=s.cV.length):av (Ob iG s h) (.bw 16510 0 n)=(True,.sl 2 (s.cV.map bn)):=by subst hn;simp [av,ak,bV]
@[simp] theorem ah2(s:RS)(h:Hp){n:Nat}(hn:n=s.aX.length):av (Ob iG s h) (.bw 16513 0 n)=(True,.sl 1 (s.aX.map rb)):=by subst hn;simp [av,ak,bV]
@[simp] theorem alC(s:RS)(h:Hp){n:Nat}(hn:n=s.since.length):av (Ob iG s h) (oF 16531 n)=(True,kV s.since):=by subst hn;exact Xz s h
@[simp] theorem XA(s:RS)(h:Hp){n:Nat}(hn:n=s.done.length):av (Ob iG s h) (oF 16542 n)=(True,kL s.done):=by subst hn;exact XB s h
end wr
def dO(aX:List Bool)(h:Int)(p:Nat)(l:List (List Int)):Nat->List (List Int)
 | 0=>l
 | o+1=>if aX.getD o false=true then (dO aX h p l o).set o (((dO aX h p l o).getD o []).set p (eZ (((dO aX h p l o).getD o []).getD p 0) h))else dO aX h p l o
def RS.gB(t:RS)(m h c:Int):Nat->List (Int × Int)
 | 0=>t.used
 | k+1=>if (t.cV.getD k (0,0)).1=m then (t.gB m h c k).set k (eZ ((t.gB m h c k).getD k (0,0)).1 h,eZ ((t.gB m h c k).getD k (0,0)).2 c)else t.gB m h c k
def RS.fK(t:RS)(m h:Int):Nat->List (List Int)
 | 0=>t.since
 | k+1=>if (t.cV.getD k (0,0)).1=m then dO t.aX h k (t.fK m h k) t.aX.length else t.fK m h k
theorem pM(t:RS)(m h c:Int):∀k,(t.gB m h c k).length=t.used.length
 | 0=>rfl
 | k+1=>by simp only [RS.gB];split<;>simp [pM t m h c k]
theorem iH(aX:List Bool)(h:Int)(p:Nat)(l:List (List Int)):∀o,(dO aX h p l o).map List.length=l.map List.length
 | 0=>rfl
 | o+1=>by
  simp only [dO];split
  ·rw [List.map_set,<-iH aX h p l o]
   refine List.ext_getElem? fun n=>?_
   rw [List.getElem?_set]
   split
   ·rename_i e;subst e
    split
    ·rename_i hl
     simp only [List.length_map]at hl
     simp [List.getD,hl]
    ·rename_i hl
     rw [List.getElem?_eq_none (by simpa using hl)]
   ·rfl
  ·exact iH aX h p l o
theorem eA(t:RS)(m h:Int):∀k,(t.fK m h k).map List.length=t.since.map List.length
 | 0=>rfl
 | k+1=>by
  simp only [RS.fK];split
  ·rw [iH,eA t m h k]
  ·exact eA t m h k
theorem gh{l l':List (List Int)}(h:l.map List.length=l'.map List.length):l.length=l'.length:=by simpa using congrArg List.length h
theorem tv{l l':List (List Int)}(h:l.map List.length=l'.map List.length){n:Nat}(hn:∀x∈l',x.length=n):∀x∈l,x.length=n:=by intro x hx;have:x.length∈l.map List.length:=List.mem_map.2 ⟨x,hx,rfl⟩;rw [h]at this;obtain⟨y,hy,e⟩:=List.mem_map.1 this;rw [<-e];exact hn y hy
def RS.kE(t:RS)(m h c:Int)(n:Nat):RS:={t with used:=t.gB m h c n,since:=t.fK m h n}
def RS.uU(r:aZ)(n:Int):Bool:=au n 0 (cM r.az.length 1)
def RS.stored(t:RS)(r:aZ)(n:Int):Bool:=RS.fD r n && (t.cV.getD n.toNat (0,0)).1 == -1
def RS.ok(t:RS)(r:aZ)(w:Wk):Bool:=
 if w.kind=1 then au w.a 0 (cM r.ax 1) && (au w.b 0 100 && (au w.c 0 100 && (t.hi r).lF w.a w.b w.c))else
 if w.kind=2 then t.stored r w.a && ((r.parts.getD w.a.toNat default).known && (au w.b 0 (cM r.ax 1) && (au w.c 0 (cM (r.kinds.getD (r.parts.getD w.a.toNat default).kind.toNat default).places 1) && decide ((t.hi r).at (r.parts.getD w.a.toNat default).kind w.b w.c<0))))else
 if w.kind=3 then RS.fD r w.a && (decide (0<=(t.cV.getD w.a.toNat (0,0)).1) && w.alone)else
 if w.kind=4 then RS.uU r w.a && (!(t.aX.getD w.a.toNat false) && w.alone)else
 if w.kind=5 then RS.fD r w.a && (RS.uU r w.b && (t.aX.getD w.b.toNat false && ((r.az.getD w.b.toNat default).kind == (r.parts.getD w.a.toNat default).kind && (!((t.done.getD w.b.toNat []).getD w.a.toNat false) && w.c == 0))))else
 if w.kind=6 then t.stored r w.a && w.alone else false
def RS.act(t:RS)(r:aZ)(w:Wk):RS:=
 if w.kind=1 then t.kE w.a w.b w.c r.parts.length else
 if w.kind=2 then {t with cV:=t.cV.set w.a.toNat (w.b,w.c)}else
 if w.kind=3 then {t with cV:=t.cV.set w.a.toNat (-1,-1)}else
 if w.kind=4 then {t with aX:=t.aX.set w.a.toNat true}else
 if w.kind=5 then {t with done:=t.done.set w.b.toNat ((t.done.getD w.b.toNat []).set w.a.toNat true)}else
 if w.kind=6 then {t with cV:=t.cV.set w.a.toNat (-2,-2)}else t
def RS.after(t:RS)(r:aZ)(w:Wk):RS:=if t.ok r w=true then t.act r w else t
end Go.Sx
end
end
