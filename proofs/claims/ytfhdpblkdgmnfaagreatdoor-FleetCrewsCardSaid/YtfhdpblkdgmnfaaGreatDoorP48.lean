/- FleetCrews: the law. No conditions. -/
import Derived.Test.YtfhdpblkdgmnfaaGreatDoorP46
import Derived.Test.YtfhdpblkdgmnfaaGreatDoorP33
set_option linter.unusedSimpArgs false
set_option linter.unusedVariables false
set_option linter.unusedSectionVars false
set_option maxRecDepth 100000
set_option maxHeartbeats 8000000
noncomputable section
namespace Go.Sx
open Go.Proofs
attribute [local irreducible] bA
def WA (L:List (Int × Int)) (a b:Int) (j:Nat):Bool:=(L.take j).any fun p=>p.1 == a && p.2 == b
theorem Vg {L:List (Int × Int)} {a b:Int} {j:Nat} {p q:Int} (h:L[j]?=some (p,q)):WA L a b (j+1)=(WA L a b j || (p == a && q == b)):=by
 simp [WA,List.take_add_one,h]
theorem aam {L:List (Int × Int)} {a b:Int} (h:L.contains (a,b)=true):WA L a b L.length=true:=by
 rw [WA,List.take_length,List.any_eq_true]
 exact⟨(a,b),List.contains_iff_mem.1 h,by simp⟩
noncomputable abbrev ID:aB:=bS yU RiP fun _=>.bool true
noncomputable abbrev E5:Env:={P:=Tryz.prog,fn:=bf [(15,.pure XM),(16,.pure C0),(11,.pure MH),(19,.pure adL),(13,.pure chS)],own:=[],key:=500,nt:=123,jQ:=[(1,[2,50002]),(8,[7,50007])],cfz:=[(69,[552])]}
theorem b5:af E5 [(11,([1,7,9,10,11,13,15,16,18],[[0,1,2,3,4,5,6,7,8,9,10,11,12,13,14,15,16,17,18,19,20,21,22,23,24,25]])),(18,([1],[[0,1,2,3,4,5,6,7,8,9]]))] Tryz.f5 ID:=pb <| by
 rintro⟨f,l⟩ XN
 have hP:=XN.p
 have hl:=XN.l
 simp only at hP hl
 cases hR:AB f l
 case false=>
  simp -dsimp [Tryz.f5,E5]
  repeat' (first|omega|simp -dsimp [E5,ri,aa,ints,gO,XN,hR]|apply aI|refine oI fun _=>?_|apply nI)
 obtain⟨hlg,h4,hK,hG⟩:=RZ hR
 have hf:=hK.ok
 have oG:=hf.dU
 have hdl:=hf.dul
 have Ik:=abD hf
 have h00:j9 f []=f.wF:=by simp [j9]
 have hlen:=fun k=>qB f (l.take k)
 simp -dsimp [Tryz.f5,E5]
 repeat' (first|omega|simp -dsimp [E5,ri,aa,ints,gO,XN,hR,hdl]|apply aI|refine oI fun _=>?_|apply nI)
 refine ay [25,26,27,28,31,32,33,34,7,36,37,38,39,40,41,35,42,43,44,45,8,9,10,11,46,47,4,49,50,51,52,53,54,55,56,57,58,59,60,61,62,63,64,65,66,67,68,69,48,70,71,12,13,14,72,73,74,75,78,79,80,81,82,83,84,85,86,87,88,89,90,76,77,91,92,93,94,95,96,97,98,99,100,101,102,103,5,105,106,107,108,109,104,110,111,15,16,112,113,114,115,116,117,118,119,120,121,29,30,6] (fun k:{k:Nat // k≤l.length}=>[(6,(true,.int .i64 k.1)),(5,(true,.bw 524 0 (j9 f (l.take k.1)).length))]) (fun k=>hps [(608,{base:=k.1,ah:=[]}),(552,{base:=k.1,ah:=[]}),(507,{base:=k.1,ah:=[]}),(524,{base:=0,ah:=[{z:=3,els:=(j9 f (l.take k.1)).map Du.row,ty:=65}]}),(502,fS f)] cg) (fun k=>l.length - k.1) ⟨0,by omega⟩ ?_ ?_ ?_
 ·simp [aj,aT,h00]
 ·simp only [List.take_zero,h00]; (try simp -dsimp only [hpx]); refine ai ?_; simp -dsimp [aC,fS]<;>exact rz
 rintro⟨k,td⟩
 dsimp only
 have hlk:=hlen k
 have hlt:(l.take k).length≤4:=by simp; omega
 by_cases aH:k<l.length
 case neg=>
  have hkn:¬ (k:Int)<l.length:=by omega
  simp -dsimp [hkn]
  repeat' (first|omega|simp -dsimp [E5,ri,aa,ints,hkn]|apply aI|refine oI fun _=>?_|apply nI)
 have hki:(k:Int)<l.length:=by omega
 have wk:=wx k
 obtain⟨x,hx,hx'⟩:=gx aH
 have O5:l.getD k default=x:=by simp [List.getD,hx]
 have hN:=hG.nx aH
 rw [O5]at hN
 have hS:=hN.sr
 have hoa:DY f x.j.toNat x.m.toNat=true:=by
  rcases hN.opn with h|h
  ·cases h
  ·exact h
 have iq:BlP (f,x.j,x.m):=⟨hS.jm hK,hN.can,hoa⟩
 have GY:=hN.crw
 have hz:(fL f.gv (j9 f (l.take k))).2=0:=(hG.take k).iV hf
 have hz2:(fL f.gv (j9 f (l.take (k+1)))).2=0:=(hG.take (k+1)).iV hf
 have xT:=yX f l hx
 have hd2:GV f x=[⟨x.c,(ew f x).lv,(ew f x).hm⟩,⟨x.k,(ew f x).lv,(ew f x).hm⟩]:=rfl
 have hca:Im f x=⟨(ew f x).lv,(ew f x).hm,f.lz.getD x.m.toNat 0,(fP f x.j.toNat).AW⟩:=rfl
 have hbk:jJ f x.j.toNat x.m.toNat=ew f x:=rfl
 have hj:=hS.j.1
 have hm:=hS.m.1
 rw [NK,Bool.and_eq_true]at GY
 obtain⟨SG,afi⟩:=GY
 have hcO:=Ya hz SG
 have hPl:(tF f.gv (j9 f (l.take k)) (Im f x)).length≤144:=by
  have:=uf f.gv (j9 f (l.take k)) (Im f x) f.gv.bM.length
  rw [zH]at this
  have h2:=Nat.mul_le_mul Ik Ik
  omega
 obtain⟨xj,xm,xc,xk⟩:=x
 simp only at hj hm hd2 hca hbk iq afi
 obtain⟨xj,rfl⟩:=Int.eq_ofNat_of_zero_le hj.1
 obtain⟨xm,rfl⟩:=Int.eq_ofNat_of_zero_le hm.1
 simp only [Int.toNat_natCast]at hca hbk
 have hj1:xj<f.jobs.length:=by omega
 have jW:xm<f.lz.length:=by have:=hf.lz; omega
 have hji:(xj:Int)<f.jobs.length:=by omega
 have oh:(xm:Int)<f.lz.length:=by omega
 obtain⟨jb,hjb,hjb'⟩:=gx hj1
 obtain⟨cr,GY,SH⟩:=gx jW
 have hjw:jb.row=[.int .i64 jb.a,.int .i64 jb.b,.int .i64 jb.dep,.int .i64 jb.val,.bool jb.AW]:=rfl
 generalize hB:ew f ⟨(xj:Int),(xm:Int),xc,xk⟩=B at *
 obtain⟨b1,b2,b3,b4⟩:=B
 have hca:Im f ⟨(xj:Int),(xm:Int),xc,xk⟩=⟨b1,b3,cr,jb.AW⟩:=by rw [hca]; simp [fP,List.getD,hjb,GY]
 rw [hca]at hcO hPl afi
 simp only at hd2
 generalize hD1:j9 f (l.take (k+1))=D1 at *
 generalize j9 f (l.take k)=D0 at *
 have hal:=aam afi
 have Ww:WA (tF f.gv D0 ⟨b1,b3,cr,jb.AW⟩) xc xk 0=false:=by simp [WA]
 have hCr:CrP (f.gv,D0,⟨b1,b3,cr,jb.AW⟩):=⟨by simp only; omega,by simp only; omega⟩
 generalize tF f.gv D0 ⟨b1,b3,cr,jb.AW⟩=L at *
 have Da:D0.length * 24≤140737488355328:=by omega
 simp -dsimp [hki,fS]
 repeat' (first|omega|simp -dsimp [E5,ri,aa,ints,hki,aH,hx,hx',Sr.row,dS,iq,hbk,hj1,jW,hji,oh,hjb,hjb',GY,SH,hjw,ri,bp,Gj,hCr,hcO,Da,aS,cQ]|apply aI|refine oI fun _=>?_|apply nI)
 refine ay [72,73,74,75,78,79,80,81,82,83,84,85,86,87,88,89,90,13,76,77,14] (fun j:{j:Nat // j≤L.length}=>[(14,(true,.int .i64 j.1)),(13,(true,.bool (WA L xc xk j.1)))]) (fun _=>hps [(608,{base:=k,ah:=[]}),(552,{base:=k+1,ah:=[]}),(507,{base:=k,ah:=[{z:=4,els:=[[.int .i64 xj,.int .i64 xm,.int .i64 xc,.int .i64 xk]],ty:=57,fz:=true}]}),(524,{base:=0,ah:=[{z:=3,els:=D0.map Du.row,ty:=65}]}),(502,fS f)] cg) (fun j=>L.length - j.1) ⟨0,by omega⟩ ?_ ?_ ?_
 ·simp [aj,aT,Ww]
 ·(try simp -dsimp only [hpx]); refine ai ?_; simp -dsimp [aC,fS]<;>exact rz
 rintro⟨j,hjl⟩
 dsimp only
 by_cases hk2:j<L.length
 ·have iB:(j:Int)<L.length:=by omega
  have wj:=wx j
  obtain⟨y,hy,hy'⟩:=gx hk2
  obtain⟨p,q⟩:=y
  have hI:=Vg (a:=xc) (b:=xk) hy
  generalize wO:WA L xc xk (j+1)=I1 at *
  cases hI0:WA L xc xk j
  ·rw [hI0,Bool.false_or]at hI
   simp -dsimp [iB,fS]
   repeat' (first|omega|simp -dsimp [E5,ri,aa,ints,iB,hk2,hy,hy',Tk,wj]|apply aI|refine oI fun _=>?_|apply nI)
   refine⟨j+1,ag rfl ?_,?_,by omega,by omega⟩
   ·simp [aj,aT,wO,hI]
   ·(try simp -dsimp only [hpx]); refine ai ?_; simp -dsimp [aC,fS]<;>exact rz
  ·rw [hI0,Bool.true_or]at hI
   simp -dsimp [iB,fS]
   repeat' (first|omega|simp -dsimp [E5,ri,aa,ints,iB,hk2,hy,hy',Tk,wj]|apply aI|refine oI fun _=>?_|apply nI)
   refine⟨j+1,ag rfl ?_,?_,by omega,by omega⟩
   ·simp [aj,aT,wO,hI]
   ·(try simp -dsimp only [hpx]); refine ai ?_; simp -dsimp [aC,fS]<;>exact rz
 have HD:¬ (j:Int)<L.length:=by omega
 have AD:j=L.length:=by omega
 subst AD
 have W5:=mM gZ hz2
 have oy:D1.length=D0.length+2:=by rw [xT,hd2]; simp
 have hCh:MG (f.gv,D1):=⟨by simp only; omega,by simp only; omega⟩
 have hdc:=dw f.gv D1
 rw [xT,hd2]at hdc W5 hCh
 simp only [List.map_append,List.map_cons,List.map_nil,Du.row]at hdc
 have Aj:(D0.length+2) * 24≤140737488355328:=by omega
 simp -dsimp [HD,fS]
 repeat' (first|omega|simp -dsimp [E5,ri,aa,ints,HD,hal,bp,hdc,hCh,W5,Aj,Du.row,aS,cQ,wk]|apply aI|refine oI fun _=>?_|apply nI)
 refine⟨k+1,?_,?_,by omega,by omega⟩
 ·refine cq (aN rfl (br rfl (aN rfl bO))) ?_
  simp [aj,aT,hD1,xT,hd2]
 ·rw [hD1,xT,hd2]; (try simp -dsimp only [hpx]); refine ai ?_; simp -dsimp [aC,fS,Du.row]<;>exact rz
theorem ok5:FO 5 ID:=pf b5 (.cons aiF (.cons aiG (.cons Xd (.cons an2 (.cons W9 .nil)))))
end Go.Sx
end
