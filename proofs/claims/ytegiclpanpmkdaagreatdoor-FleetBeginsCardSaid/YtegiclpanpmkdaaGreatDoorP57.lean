/- FleetBegins: the law. No conditions. -/
import Derived.Test.YtegiclpanpmkdaaGreatDoorP50
set_option linter.all false
set_option maxRecDepth 100000
set_option maxHeartbeats 8000000
noncomputable section
namespace Go.Sx
open Go.Proofs
attribute [local simp] ri aa ints
attribute [local irreducible] bA
noncomputable abbrev avz:aB:=bS yU RiP fun _=>.bool true
noncomputable abbrev E3:=EV [(10,.pure XM),(11,.pure C0),(12,.pure awM),(13,.pure axN)] [] 300 76 [(1,[2,50002])]
theorem b3:af E3 [] Tryz.f3 avz:=pb <| by
 rintro⟨f,l⟩ XN;have hP:=XN.p;have hl:=XN.l;simp only at hP hl;cases hR:AB f l
 case false=>
  simp -dsimp [Tryz.f3,E3];repeat' (first|omega|simp -dsimp [E3,gO,XN,hR]|apply aI|apply nI|intro)
 obtain⟨hlg,h4,hK,hG⟩:=RZ hR;have hf:=hK.ok;have hE:=fun k=>yg hf (hG.take k);have hN:∀k,NpP (f,l.take k):=fun k=>⟨hK,by simp; omega⟩
 have hE0:=yg hf hG;have Ma:NpP (f,l):=⟨hK,by simp only; omega⟩
 have hv0:j4 f []=0:=rfl;have hvl:j4 f (l.take l.length)=j4 f l:=by rw [List.take_length]
 have wl:=wi ((l.length:Int) - 1);have H8:=hG.sr;have hvb:=fun k=>as6 hf (l:=l.take k) fun x hx=>H8 x (List.mem_of_mem_take hx);have hlt:∀k,(l.take k).length<=4:=fun k=>by simp; omega
 have hff:=fS f;simp -dsimp [Tryz.f3,E3];repeat' (first|omega|simp -dsimp [E3,gO,XN,hR,Ma,hE0,wl]|apply aI|apply nI|intro)
 refine ay [28,29,33,34,35,36,37,32,38,39,8,9,41,42,43,44,45,40,46,47,10,11,48,49,50,51,52,53,54,55,56,57,58,59,60,61,62,63,64,65,66,67,68,69,4,70,5,30,31,7] (fun k:{k:Nat // k<=l.length}=>[(7,(true,.int .i64 ((k.1:Int) - 1))),(5,(true,.int .i64 (j4 f (l.take k.1))))]) (fun _=>hps [(302,fS f)] cg) (fun k=>k.1) ⟨l.length,by omega⟩ ?_ ?_ ?_
 ·simp [aj,aT]
 ·(try simp -dsimp only [hpx]); refine ai ?_; simp -dsimp [aC,fS]<;>exact rz
 rintro⟨k,hk⟩;dsimp only;by_cases aH:k=0
 ·subst aH;have h0:¬ (0:Int)<=-1:=by omega
  simp -dsimp [fS];repeat' (first|omega|simp -dsimp [E3,h0,hv0]|apply aI|apply nI|intro)
 obtain⟨i,rfl⟩:∃i,k=i+1:=⟨k - 1,by omega⟩
 have aH:i<l.length:=by omega
 have hki:(i:Int)<l.length:=by omega
 have hkc:((i+1:Nat):Int) - 1=i:=by omega
 have h0i:(0:Int)<=i:=by omega
 have wk:=wi ((i:Int) - 1);obtain⟨x,hx,hx'⟩:=gx aH;have hS:=H8 x (List.mem_of_getElem? hx);have hV:=asn f x (l.take i);rw [show l.take i++[x]=l.take (i+1) by rw [List.take_add_one,hx]; rfl]at hV;have hj:=hS.j.1;have b0:=hvb i;have b1:=hvb (i+1);have t0:=hlt i;have t1:=hlt (i+1);have hdc:=gO f (l.take i);have htk:List.take i (l.map Sr.row)=(l.take i).map Sr.row:=by rw [List.map_take]
 have hEi:=hE i;have hNi:=hN i;have azN:i<=l.length:=by omega
 generalize l.take (i+1)=L1 at *;generalize hL0:l.take i=L0 at *;generalize j4 f L1=V1 at *;obtain⟨xj,xm,xc,xk⟩:=x;simp only at hj hV;obtain⟨xj,rfl⟩:=Int.eq_ofNat_of_zero_le hj.1;simp only [Int.toNat_natCast]at hV;have hj1:xj<f.jobs.length:=by omega
 have hji:(xj:Int)<f.jobs.length:=by omega
 obtain⟨jb,hjb,hjb'⟩:=gx hj1;have hjw:jb.row=[.int .i64 jb.a,.int .i64 jb.b,.int .i64 jb.dep,.int .i64 jb.val,.bool jb.AW]:=rfl;have hja:fP f xj=jb:=by simp [fP,List.getD,hjb]
 rw [hja]at hV;have wv:IntKind.wrap .i64 (V1 - j4 f L0)=jb.val:=by rw [aK (by omega) (by omega)]; omega
 simp -dsimp [hkc,fS];repeat' (first|omega|simp -dsimp [E3,hkc,h0i,hki,aH,azN,hx,hx',Sr.row,htk,hdc,hEi,hNi,hj1,hji,hjb,hjb',hjw,wv,wk]|apply aI|apply nI|intro)
 refine⟨i,ag rfl ?_,?_,by omega,by omega⟩
 ·simp [aj,aT,hL0]
 ·(try simp -dsimp only [hpx]); refine ai ?_; simp -dsimp [aC,fS]<;>exact rz
theorem ok3:FO 3 avz:=pf b3 (.cons aiO (.cons Xd (.cons anw (.cons W9 .nil))))
end Go.Sx
end
