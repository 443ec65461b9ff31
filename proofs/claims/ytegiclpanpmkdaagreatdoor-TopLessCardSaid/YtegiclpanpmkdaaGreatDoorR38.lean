/- A part of a proof; no conditions. -/
import Derived.Test.YtegiclpanpmkdaaGreatDoorR24
import Derived.Test.YtegiclpanpmkdaaGreatDoorR32
import Derived.Test.YtegiclpanpmkdaaGreatDoorR37
set_option linter.all false
set_option maxRecDepth 100000
set_option maxHeartbeats 8000000
noncomputable section
section
namespace Go.Sx
open Go.Proofs
attribute [local simp] ri aa ints
attribute [local irreducible] bA
structure KD (f:Fl):Prop where
 met:qQ f.met
 Ah:f.Ah.length<=100000000000000
 op:RL.oW ⟨f.eH,f.ko⟩
 ch:MG (f.gv,f.wF)
 dU:f.dU.length<=100000000000000
 lz:f.lz.length<=100000000000000
 jobs:f.jobs.length<=100000000000000
def okB(f:Fl)(k:Nat):Prop:=(∀x∈f.dU.take k,bey (f.met.n - 1) x=false)/\∀x∈f.lz.take k,bey 7 x=false
def okJ(f:Fl)(k:Nat):Prop:=∀x∈f.jobs.take k,Jb.bad f.met.n f.gF x=false
theorem ug{α:Type}{p:α->Bool}{l:List α}{k:Nat}{x:α}(hx:l[k]?=some x)(h:∀y∈l.take k,p y=false)(h2:p x=false):∀y∈l.take (k+1),p y=false:=by
 intro y hy;rw [List.take_add_one,hx]at hy;rcases List.mem_append.1 hy with hy|hy
 ·exact h y hy
 ·have:y=x:=by simpa using hy
  rw [this];exact h2
noncomputable abbrev E50:=EV [] [] 5000 15
theorem b50:af E50 [] Tryz.f50 rgS:=pb <| by rintro⟨n,lo,hi⟩ _;simp -dsimp [Tryz.f50,E50,bQ];repeat' first|omega|simp -dsimp [E50,bQ]|apply aI|apply nI|intro
theorem ahH:FO 50 rgS:=pf b50 .nil
noncomputable abbrev afl:aB:=bS Hj KD fun f=>.int .i64 (Nr f)
noncomputable abbrev E20:=EV [(46,.pure mmS),(47,.pure Xm),(48,.pure mc),(49,.pure Vj),(50,.pure rgS)] [] 2000 178 [(1,[1,50001])]
theorem b20:af E20 [] Tryz.f20 afl:=pb <| by
 rintro f ⟨s9,v0,v1,v3,ry,cZ,vx⟩;have hE:Nr f=if uz f.met f.mn≠0 then uz f.met f.mn else if pq f.met f.Ah≠0 then pq f.met f.Ah else if jA f.eH f.ko≠0 then jA f.eH f.ko else if (fL f.gv f.wF).2≠0 then (fL f.gv f.wF).2 else if flB f=true then 0 else 110:=rfl;by_cases e1:uz f.met f.mn=0
 case neg=>
  rw [if_pos e1]at hE;simp -dsimp [Tryz.f20,E20];repeat' first|omega|simp -dsimp [E20,fF,s9,e1,hE]|apply aI|apply nI|intro
 rw [if_neg (by simp [e1])]at hE;by_cases e2:pq f.met f.Ah=0
 case neg=>
  rw [if_pos e2]at hE;simp -dsimp [Tryz.f20,E20];repeat' first|omega|simp -dsimp [E20,fF,E6,s9,v0,e1,e2,hE]|apply aI|apply nI|intro
 rw [if_neg (by simp [e2])]at hE;by_cases e3:jA f.eH f.ko=0
 case neg=>
  rw [if_pos e3]at hE;simp -dsimp [Tryz.f20,E20];repeat' first|omega|simp -dsimp [E20,fF,E6,gr,s9,v0,v1,e1,e2,e3,hE]|apply aI|apply nI|intro
 rw [if_neg (by simp [e3])]at hE;by_cases e4:(fL f.gv f.wF).2=0
 case neg=>
  rw [if_pos e4]at hE;simp -dsimp [Tryz.f20,E20];repeat' first|omega|simp -dsimp [E20,fF,E6,gr,dw,s9,v0,v1,v3,e1,e2,e3,e4,hE]|apply aI|apply nI|intro
 rw [if_neg (by simp [e4])]at hE;have vd:=(uj.1 e1).1;have vy:=yd vd;have wn:=wi (f.met.n - 1);have v2:flB f=false->Nr f=110:=fun h=>by rw [h]at hE;exact hE
 have vb:flB f=true->Nr f=0:=fun h=>by rw [if_pos h]at hE;exact hE
 have We:flB f=((decide ((f.dU.length:Int)=f.eH.ax) && decide ((f.lz.length:Int)=f.eH.ax) && !(f.dU.any (bey (f.met.n - 1))) && !(f.lz.any (bey 7))) &&
 (bQ f.turn 0 100 && bQ f.hour 1 100 && bQ f.rU 0 f.eH.ax && bQ f.gF 1 2000 && decide (f.jobs.length<=6)) && !(f.jobs.any (Jb.bad f.met.n f.gF))):=rfl
 clear hE;rcases Classical.propComplete ((f.dU.length:Int)=f.eH.ax)with c1|c1
 case inr=>
  have hE:=v2 (by rw [We];simp [c1]);simp -dsimp [Tryz.f20,E20];repeat' first|omega|simp -dsimp [E20,fF,E6,gr,dw,s9,v0,v1,v3,e1,e2,e3,e4,c1,hE]|apply aI|apply nI|intro
 rcases Classical.propComplete ((f.lz.length:Int)=f.eH.ax)with c2|c2
 case inr=>
  have hE:=v2 (by rw [We];simp [c2]);simp -dsimp [Tryz.f20,E20];repeat' first|omega|simp -dsimp [E20,fF,E6,gr,dw,s9,v0,v1,v3,e1,e2,e3,e4,c1,c2,hE]|apply aI|apply nI|intro
 have Kv:(f.dU.length:Int)=f.eH.ax:=of_eq_true c1;have HC:(f.lz.length:Int)=f.eH.ax:=of_eq_true c2;cases g1:bQ f.turn 0 100
 ·have hE:=v2 (by rw [We];simp [g1]);simp -dsimp [Tryz.f20,E20];repeat' first|omega|simp -dsimp [E20,fF,E6,gr,dw,s9,v0,v1,v3,e1,e2,e3,e4,c1,c2,g1,hE]|apply aI|apply nI|intro
 cases g2:bQ f.hour 1 100
 ·have hE:=v2 (by rw [We];simp [g2]);simp -dsimp [Tryz.f20,E20];repeat' first|omega|simp -dsimp [E20,fF,E6,gr,dw,s9,v0,v1,v3,e1,e2,e3,e4,c1,c2,g1,g2,hE]|apply aI|apply nI|intro
 cases g3:bQ f.rU 0 f.dU.length
 ·have hE:=v2 (by rw [We,<-Kv,g3];simp);simp -dsimp [Tryz.f20,E20];repeat' first|omega|simp -dsimp [E20,fF,E6,gr,dw,s9,v0,v1,v3,e1,e2,e3,e4,c1,c2,g1,g2,g3,hE]|apply aI|apply nI|intro
 cases g4:bQ f.gF 1 2000
 ·have hE:=v2 (by rw [We];simp [g4]);simp -dsimp [Tryz.f20,E20];repeat' first|omega|simp -dsimp [E20,fF,E6,gr,dw,s9,v0,v1,v3,e1,e2,e3,e4,c1,c2,g1,g2,g3,g4,hE]|apply aI|apply nI|intro
 rcases Classical.propComplete ((6:Int)<f.jobs.length)with c3|c3
 ·have c3':=of_eq_true c3;have hE:=v2 (by rw [We,decide_eq_false (by omega:¬ f.jobs.length<=6)];simp);simp -dsimp [Tryz.f20,E20];repeat' first|omega|simp -dsimp [E20,fF,E6,gr,dw,s9,v0,v1,v3,e1,e2,e3,e4,c1,c2,c3,g1,g2,g3,g4,hE]|apply aI|apply nI|intro
 have c3':=of_eq_false c3;simp -dsimp [Tryz.f20,E20];repeat' first|omega|simp -dsimp [E20,fF,E6,gr,dw,s9,v0,v1,v3,e1,e2,e3,e4,c1,c2,c3,g1,g2,g3,g4]|apply aI|apply nI|intro
 refine ay [99,100,101,102,103,106,107,108,109,110,111,112,113,114,115,116,117,118,119,120,121,122,123,124,125,2,104,105,9] (fun k:{k:Nat // k<=f.dU.length/\okB f k}=>[(9,(true,.int .i64 k.1))]) (fun _=>hps [(2001,fS f)] cg) (fun k=>f.dU.length - k.1) ⟨0,by omega,by simp [okB]⟩ ?_ ?_ ?_
 ·simp [aj,aT]
 ·(try simp -dsimp only [hpx]);refine ai ?_;simp -dsimp [aC,fS]<;>exact rz
 rintro⟨k,hk,v5⟩;dsimp only;by_cases aH:k<f.dU.length
 ·have v4:(k:Int)<f.dU.length:=by omega
  have v6:k<f.lz.length:=by omega
  have iB:(k:Int)<f.lz.length:=by omega
  have wk:=wx k;obtain⟨x,hx,hx'⟩:=gx aH;obtain⟨y,hy,hy'⟩:=gx v6;cases d1:bQ x 0 (f.met.n - 1)
  ·have hE:=v2 (by have:f.dU.any (bey (f.met.n - 1))=true:=List.any_eq_true.2 ⟨x,hx' ▸ List.getElem_mem aH,by simp [bey,d1]⟩;rw [We,this];simp)
   simp -dsimp [v4];repeat' first|omega|simp -dsimp [E20,v4,aH,iB,v6,hx,hx',hy,hy',ri,wn,d1,hE]|apply aI|apply nI|intro
  cases d2:bQ y 0 7
  ·have hE:=v2 (by have:f.lz.any (bey 7)=true:=List.any_eq_true.2 ⟨y,hy' ▸ List.getElem_mem v6,by simp [bey,d2]⟩;rw [We,this];simp)
   simp -dsimp [v4];repeat' first|omega|simp -dsimp [E20,v4,aH,iB,v6,hx,hx',hy,hy',ri,wn,d1,d2,hE]|apply aI|apply nI|intro
  have sQ:okB f (k+1):=⟨ug hx v5.1 (by simp [bey,d1]),ug hy v5.2 (by simp [bey,d2])⟩
  simp -dsimp [v4];repeat' first|omega|simp -dsimp [E20,v4,aH,iB,v6,hx,hx',hy,hy',ri,wn,d1,d2,wk]|apply aI|apply nI|intro
  refine⟨k+1,ag rfl ?_,bA.refl _,⟨by omega,sQ⟩,by omega⟩;simp [aj,aT]
 have v7:¬ (k:Int)<f.dU.length:=by omega
 have v8:k=f.dU.length:=by omega
 have vr:k=f.lz.length:=by omega
 obtain⟨v9,va⟩:=v5;have ez:f.dU.any (bey (f.met.n - 1))=false:=List.any_eq_false.2 fun x hx=>by rw [v9 x (by rw [v8,List.take_length];exact hx)];simp
 have kJ:f.lz.any (bey 7)=false:=List.any_eq_false.2 fun x hx=>by rw [va x (by rw [vr,List.take_length];exact hx)];simp
 clear v9 va;simp -dsimp [v7];repeat' first|omega|simp -dsimp [E20,v7]|apply aI|apply nI|intro
 refine ay [126,127,128,129,130,133,134,135,136,137,11,138,139,140,141,142,143,144,145,146,147,148,149,150,151,152,153,154,155,156,157,158,159,160,161,162,163,164,165,166,167,168,169,170,171,172,173,174,175,176,177,2,131,132,10] (fun k:{k:Nat // k<=f.jobs.length/\okJ f k}=>[(10,(true,.int .i64 k.1))]) (fun k=>hps [(2011,{base:=k.1,ah:=[]}),(2001,fS f)] cg) (fun k=>f.jobs.length - k.1) ⟨0,by omega,by simp [okJ]⟩ ?_ ?_ ?_
 ·simp [aj,aT]
 ·(try simp -dsimp only [hpx]);refine ai ?_;simp -dsimp [aC,fS]<;>exact rz
 rintro⟨k,hk,v5⟩;dsimp only;by_cases aH:k<f.jobs.length
 ·have v4:(k:Int)<f.jobs.length:=by omega
  have wk:=wx k;obtain⟨x,hx,hx'⟩:=gx aH;have vP:1<=f.gF/\f.gF<=2000:=by simpa [bQ]using g4
  have wu:=wi (f.gF - 1);have l7:Jb.bad f.met.n f.gF x=true->Nr f=110:=fun h=>v2 (by have:f.jobs.any (Jb.bad f.met.n f.gF)=true:=List.any_eq_true.2 ⟨x,hx' ▸ List.getElem_mem aH,h⟩;rw [We,this];simp)
  have sQ:Jb.bad f.met.n f.gF x=false->okJ f (k+1):=fun h=>ug hx v5 h;have vs:Jb.bad f.met.n f.gF x=!(bQ x.a 0 (f.met.n - 1) && bQ x.b 0 (f.met.n - 1) && decide (x.a≠x.b) && bQ x.dep 0 (f.gF - 1) && bQ x.val 0 1000000):=rfl;rw [vs]at l7 sQ;obtain⟨a,b,d,v,w⟩:=x;simp only at l7 sQ;rcases Classical.propComplete (a=b)with c|c<;>cases d1:bQ a 0 (f.met.n - 1)<;>cases d2:bQ b 0 (f.met.n - 1)<;>cases d3:bQ d 0 (f.gF - 1)<;>cases d4:bQ v 0 1000000
  all_goals
   simp only [d1,d2,d3,d4,c,ne_eq,not_true,not_false_iff,decide_true,decide_false,Bool.and_true,Bool.and_false,Bool.true_and,Bool.false_and,Bool.not_true,Bool.not_false,true_implies,reduceCtorEq,false_implies]at l7 sQ;simp -dsimp [v4];repeat' first|omega|simp -dsimp [E20,v4,aH,hx,hx',Jb.row,wn,wu,d1,d2,d3,d4,c,wk,l7]|apply aI|apply nI|intro
  all_goals
   refine⟨k+1,ag rfl ?_,?_,⟨by omega,sQ⟩,by omega⟩
   ·simp [aj,aT]
   ·(try simp -dsimp only [hpx]);refine ai ?_;simp -dsimp [aC,fS]<;>exact rz
 have v7:¬ (k:Int)<f.jobs.length:=by omega
 have v8:k=f.jobs.length:=by omega
 have Hl:f.jobs.any (Jb.bad f.met.n f.gF)=false:=List.any_eq_false.2 fun x hx=>by rw [v5 x (by rw [v8,List.take_length];exact hx)];simp
 have hE:=vb (by rw [We,ez,kJ,Hl,g1,g2,g4,<-Kv,g3,decide_eq_true (by omega:f.jobs.length<=6),HC,<-Kv];simp);simp -dsimp [v7];repeat' first|omega|simp -dsimp [E20,v7,hE]|apply aI|apply nI|intro
theorem auN:FO 20 afl:=pf b20 (.cons apg (.cons aeY (.cons apj (.cons alf (.cons ahH .nil)))))
structure Cw (f:Fl):Prop where
 ok:gu f
 fw:f.met.fs.length<20
 sw:f.met.ss.length<20
structure Xa (d:Fl × Int × Int):Prop where
 ok:Cw d.1
 j:0<=d.2.1/\d.2.1<d.1.jobs.length
 m:0<=d.2.2/\d.2.2<d.1.dU.length
def D5(f:Fl)(j m:Nat):Bk:=if zZ f j m=true then jJ f j m else ⟨0,0,0,0⟩
theorem uJ{f:Fl}{j m:Nat}(h:zZ f j m=true):D5 f j m=jJ f j m:=if_pos h
theorem PW{r:aZ}{l:List Wk}(h:jA r l=0):RL.oW ⟨r,l⟩:=by
 have hv:r.valid=true/\l.length<=200:=by
  unfold jA at h;split at h
  ·rename_i h1;refine⟨h1,?_⟩;split at h
   ·assumption
   ·cases h
  ·cases h
 have hs:=pS hv.1;exact⟨by have:=hs.kinds;simp only;omega,by have:=hs.parts;simp only;omega,by have:=hs.az;simp only;omega,by simp only;omega⟩
theorem gu.agZ{f:Fl}(h:gu f):MQ f.met f.Ah:=⟨h.met,h.Ah⟩
structure MaP (d:Fl × Int):Prop where
 ok:Cw d.1
 m:0<=d.2/\d.2<d.1.dU.length
structure JoP (d:Fl × Int × Int):Prop where
 jm:Xa d
 can:jR d.1 d.2.1.toNat d.2.2.toNat=true
theorem Cw.op{f:Fl}(h:Cw f){p t:Int}(hp:0<=p/\p<f.met.n)(ht:0<=t/\t<=2000):OpP (f.met,f.mn,p,t):=by refine⟨⟨h.ok.met,h.fw,h.sw,ht⟩,h.ok.mn,?_⟩;simp only [atB,bQ,Bool.and_eq_true,decide_eq_true_eq];omega
theorem gu.ticks{f:Fl}(hf:gu f){j m:Nat}(hj:j<f.jobs.length)(hm:m<f.dU.length)(h:jR f j m=true):zZ f j m=true/\(0<=(jJ f j m).lv/\(jJ f j m).lv<=2000)/\(0<=(fP f j).dep/\(fP f j).dep<=2000)/\(0<=(jJ f j m).ar/\(jJ f j m).ar<=2000)/\0<=(jJ f j m).hm/\(jJ f j m).hm<=2000:=by simp only [jR,Bool.and_eq_true,decide_eq_true_eq]at h;have h1:=hf.bk hj hm h.1.1.1;have h2:=hf.gF;exact⟨h.1.1.1,by omega,by omega,by omega,by omega⟩
end Go.Sx
end
section
namespace Go.Sx
open Go.Proofs
attribute [local simp] ri aa ints
def Ai(f:Fl)(m:Nat):Int:=if dR f.eH f.ko m 0=0 then de f.eH f.ko m 0 * f.hour else -1
def rR(f:Fl)(k:Nat):List Int:=(List.range k).map fun m=>Ai f m
def Cv(l:List Int):V:=if l=[]then .nil else .sl 1 (l.map ri)
def qs(f:Fl):List V:=f.row++[mL (zX f),Cv (rR f f.eH.ax.toNat)]
theorem nB(f:Fl)(k:Nat):(rR f k).length=k:=by simp [rR]
theorem PX(f:Fl)(k:Nat):rR f (k+1)=rR f k++[Ai f k]:=by simp [rR,List.range_succ]
theorem ad3{f:Fl}(hf:gu f)(m:Nat):(Ai f m<0)=(qP f m<0)/\-1<=Ai f m/\Ai f m<=10000/\(0<=qP f m->Ai f m=qP f m * f.hour):=by
 have hh:=hf.hour;have hb:=yf (f:=f) m;unfold Ai qP at *;split
 ·rename_i h;rw [if_pos h]at hb;have h0:0<=de f.eH f.ko m 0:=by have:=(uI h).2.2.2;omega
  have h1:0<=de f.eH f.ko m 0 * f.hour:=Int.mul_nonneg h0 (by omega);have h2:de f.eH f.ko m 0 * f.hour<=100 * 100:=Int.mul_le_mul hb.2 (by omega) (by omega) (by omega);refine⟨?_,by omega,by omega,fun _=>rfl⟩;rw [eq_false (by omega:¬ de f.eH f.ko m 0 * f.hour<0),eq_false (by omega:¬ de f.eH f.ko m 0<0)]
 ·exact⟨rfl,by omega,by omega,fun h=>by omega⟩
@[simp] theorem apy(f:Fl):(qs f).length=41:=rfl
@[simp] theorem apz(f:Fl):(qs f).take 14=f.met.row:=rfl
@[simp] theorem arq(f:Fl):(qs f).take 39=f.row:=rfl
@[simp] theorem ars(f:Fl):((qs f).drop 14).take 5=f.mn.row:=rfl
@[simp] theorem apA(f:Fl):((qs f).drop 25).take 6=f.gv.row:=rfl
@[simp] theorem arV(f:Fl):(qs f)[0]?=some (.int .i64 f.met.n):=rfl
@[simp] theorem art(f:Fl):(qs f)[22]?=some (.int .i64 f.eH.ax):=rfl
@[simp] theorem aru(f:Fl):(qs f)[31]?=some (.sl 3 (f.wF.map Du.row)):=rfl
@[simp] theorem arv(f:Fl):(qs f)[32]?=some (.sl 1 (f.dU.map ri)):=rfl
@[simp] theorem arw(f:Fl):(qs f)[33]?=some (.sl 1 (f.lz.map ri)):=rfl
@[simp] theorem arx(f:Fl):(qs f)[34]?=some (.int .i64 f.turn):=rfl
@[simp] theorem ary(f:Fl):(qs f)[35]?=some (.int .i64 f.hour):=rfl
@[simp] theorem arz(f:Fl):(qs f)[36]?=some (.int .i64 f.rU):=rfl
@[simp] theorem arA(f:Fl):(qs f)[37]?=some (.int .i64 f.gF):=rfl
@[simp] theorem arB(f:Fl):(qs f)[38]?=some (.sl 5 (f.jobs.map Jb.row)):=rfl
@[simp] theorem ajK(f:Fl):(qs f)[39]?=some (mL (zX f)):=rfl
@[simp] theorem ajL(f:Fl):(qs f)[40]?=some (Cv (rR f f.eH.ax.toNat)):=rfl
@[simp] def flI(f:Fl):V:=.ip 41 [qs f] 0 0
theorem xA(a b:Fl)(h:flI a=flI b):a=b:=by simp only [flI,V.ip.injEq,List.cons.injEq,true_and,and_true]at h;exact Fl.aq _ _ (List.append_inj h rfl).1
@[simp] def fpE(d:Fl × Int × Int):List V:=[flI d.1,.int .i64 d.2.1,.int .i64 d.2.2]
theorem aab(a b:Fl × Int × Int)(h:fpE a=fpE b):a=b:=by obtain⟨a1,a2,a3⟩:=a;obtain⟨b1,b2,b3⟩:=b;simp only [fpE,List.cons.injEq,V.int.injEq,true_and,and_true]at h;rw [xA _ _ h.1,h.2.1,h.2.2]
theorem nC(f:Fl)(n m:Int):aY fpE [.ip 41 [qs f] 0 0,.int .i64 n,.int .i64 m]=(f,n,m):=aA aab (f,n,m)
@[simp] def TL(d:Fl × Int × Int × Bool):List V:=[flI d.1,.int .i64 d.2.1,.int .i64 d.2.2.1,.bool d.2.2.2]
theorem U9(a b:Fl × Int × Int × Bool)(h:TL a=TL b):a=b:=by obtain⟨a1,a2,a3,a4⟩:=a;obtain⟨b1,b2,b3,b4⟩:=b;simp only [TL,List.cons.injEq,V.int.injEq,V.bool.injEq,true_and,and_true]at h;rw [xA _ _ h.1,h.2.1,h.2.2.1,h.2.2.2]
theorem Em(f:Fl)(n m:Int)(w:Bool):aY TL [.ip 41 [qs f] 0 0,.int .i64 n,.int .i64 m,.bool w]=(f,n,m,w):=aA U9 (f,n,m,w)
theorem gu.Np{f:Fl}(h:gu f):f.eH.ax.toNat=f.dU.length:=by have:=h.dU;omega
theorem gu.JJ{f:Fl}(h:gu f):f.dU.length<=1000:=by
 have:=h.dU;have h2:=(pS (by
  have:=h.op;unfold jA at this;split at this
  ·assumption
  ·cases this)).m1
 omega
end Go.Sx
end
end
