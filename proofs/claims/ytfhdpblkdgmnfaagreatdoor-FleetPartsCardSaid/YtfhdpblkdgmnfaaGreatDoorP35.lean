/- A part of a proof; no conditions. -/
import Derived.Test.YtfhdpblkdgmnfaaGreatDoorP34
import Derived.Test.YtfhdpblkdgmnfaaGreatDoorP17
set_option linter.unusedSimpArgs false
set_option linter.unusedVariables false
set_option linter.unusedSectionVars false
set_option maxRecDepth 100000
set_option maxHeartbeats 8000000
noncomputable section
section
namespace Go.Sx
open Go.Proofs
attribute [local irreducible] HLe
attribute [local simp] hps_app
abbrev rfliesS:PSpec:=mkP rxE (fun d=>d.t.Wf d.r) fun d=>.bool ((d.t.hi d.r).flies d.a d.b d.c)
theorem lacks_len {x:HI} (hs:x.Small) (m:Int):(x.lacks m).length≤1000000:=by
 have:=lackTo_len hs m x.r.kinds.length
 have:=hs.kinds
 simp only [HI.lacks]; omega
abbrev E177:Env:={P:=Tryz.prog,fn:=tbl [(230,.pure rlacksS),(231,.pure rleftS)],own:=[],key:=17700,nt:=50}
theorem b177:PureBody E177 [] Tryz.f177 rfliesS:=by
 refine pb ?_
 rintro⟨r,t,m,h,c⟩ hwf
 simp only at hwf
 obtain⟨v1,v2,v3,v4,v5,v6,v7,v8⟩:=valid_facts hwf.val
 have hll:=lacks_len hwf.small m
 by_cases hl:(t.hi r).lacks m=[]
 case neg=>
  have hl':(0:Int)<((t.hi r).lacks m).length:=by
   have:0<((t.hi r).lacks m).length:=List.length_pos_iff.2 hl
   omega
  have hl2:0<((t.hi r).lacks m).length:=by omega
  have hf:(t.hi r).flies m h c=false:=by simp [HI.flies,hl]
  simp -dsimp [Tryz.f177,E177,Reg.row,RS.row]
  repeat' (first|omega|(exact sub0_snV _)|(exact sub0_dnV _)|simp -dsimp [E177,ri,cellp,ints,ryE_dec',hwf,prs,hl,hl',hl2,hf]|refine aI ?_ fun _=>?_|refine oI fun _=>?_|refine nI ?_ ?_)
 simp -dsimp [Tryz.f177,E177,Reg.row,RS.row]
 repeat' (first|omega|(exact sub0_snV _)|(exact sub0_dnV _)|simp -dsimp [E177,ri,cellp,ints,ryE_dec',hwf,prs,hl]|refine aI ?_ fun _=>?_|refine oI fun _=>?_|refine nI ?_ ?_)
 refine awp_loop [20,21,22,23,24,27,28,29,30,31,32,33,34,36,37,38,39,35,40,41,12,13,42,43,44,45,46,47,48,49,10,25,26,11] (fun k:{k:Nat // k≤r.parts.length∧∀j (h1:j<(t.ps r).length),j<k→(t.hi r).can m h c (t.ps r)[j]=true}=>[(11,(true,.int .i64 (k.1:Nat)))])
  (fun k=>hps [(17706,{base:=0,blks:=[{z:=5,els:=[[.sl 2 (t.used.map cycV),.sl 2 (t.whr.map cycV),.sl 1 (t.iss.map rb),snV t.since,dnV t.done]],ty:=198}]}),(17705,{base:=0,blks:=[{z:=4,els:=[[.sl 3 (r.kinds.map Kd.row),.sl 4 (r.parts.map Pt.row),.int .i64 r.machines,.sl 2 (r.orders.map Od.row)]],ty:=37}]})] noH) (fun k=>r.parts.length - k.1) ⟨0,by omega,fun _ _ h=>by omega⟩ ?_ ?_ ?_
 ·simp [okAll,okv]
 ·exact(by(try simp -dsimp only [hpx]); refine hle_hps ?_; simp -dsimp [allK]<;>exact rz)
 rintro⟨k,hk,hall⟩
 simp only
 by_cases hk1:k<r.parts.length
 ·have hki:(k:Int)<r.parts.length:=by omega
  have wk:IntKind.wrap .i64 ((k:Int)+1)=(k+1:Nat):=wrap_id (by omega) (by omega)
  have hkw:k<t.whr.length:=by rw [hwf.whr]; exact hk1
  obtain⟨w,hw,hw'⟩:=get_ex hkw
  have hkp:k<(t.ps r).length:=by rw [RS.ps_len]; exact hk1
  have hpg:(t.ps r)[k]=t.pt r k:=by have:=t.ps_get r hk1; rw [List.getElem?_eq_getElem hkp]at this; exact Option.some.inj this
  have hcan:(t.hi r).can m h c (t.ps r)[k]=(!(w.1 == m) || (decide (h≤(t.hi r).leftT (t.pt r k)) && decide (c≤(t.hi r).leftC (t.pt r k)))):=by
   rw [hpg]; simp only [HI.can]; simp [RS.pt,List.getD,hw]
  have hLf:RS.LfP r t (k:Int):=⟨hwf,by omega,by omega⟩
  have step:∀hf:(t.hi r).can m h c (t.ps r)[k]=true,∀j (h1:j<(t.ps r).length),j<k+1→(t.hi r).can m h c (t.ps r)[j]=true:=by
   intro hf j h1 hj
   by_cases hjk:j=k
   ·subst hjk; exact hf
   ·exact hall j h1 (by omega)
  have bad:(t.hi r).can m h c (t.ps r)[k]=false→(t.hi r).flies m h c=false:=by
   intro hf
   have:(t.ps r).all ((t.hi r).can m h c)=false:=by
    rw [List.all_eq_false]; exact⟨_,List.getElem_mem hkp,by rw [hf]; simp⟩
   show(decide ((t.hi r).lacks m=[]) && (t.ps r).all ((t.hi r).can m h c))=false
   rw [this]; simp
  by_cases hm:w.1=m
  case neg=>
   have hm':(w.1=m)=False:=eq_false hm
   have hf:(t.hi r).can m h c (t.ps r)[k]=true:=by rw [hcan]; simp [hm]
   simp -dsimp [hki]
   repeat' (first|omega|(exact sub0_snV _)|(exact sub0_dnV _)|simp -dsimp [E177,ri,cellp,ints,hki,hk1,hw,hw',hkw,wk,cycV,hm']|refine aI ?_ fun _=>?_|refine oI fun _=>?_|refine nI ?_ ?_)
   refine⟨k+1,tle_chain rfl ?_,(by(try simp -dsimp only [hpx]); refine hle_hps ?_; simp -dsimp [allK]<;>exact rz),⟨by omega,step hf⟩,by omega⟩
   simp [okAll,okv]
  by_cases h1:(t.hi r).leftT (t.pt r k)<h
  ·have hf:(t.hi r).can m h c (t.ps r)[k]=false:=by
    have:¬ h≤(t.hi r).leftT (t.pt r k):=by omega
    rw [hcan]; simp [hm,this]
   have hfl:=bad hf
   simp -dsimp [hki]
   repeat' (first|omega|(exact sub0_snV _)|(exact sub0_dnV _)|simp -dsimp [E177,ri,cellp,ints,hki,hk1,hw,hw',hkw,wk,cycV,hm,ryE_dec',hLf,h1,hfl]|refine aI ?_ fun _=>?_|refine oI fun _=>?_|refine nI ?_ ?_)
  have h1':h≤(t.hi r).leftT (t.pt r k):=by omega
  by_cases h2:(t.hi r).leftC (t.pt r k)<c
  ·have hf:(t.hi r).can m h c (t.ps r)[k]=false:=by
    have:¬ c≤(t.hi r).leftC (t.pt r k):=by omega
    rw [hcan]; simp [hm,this]
   have hfl:=bad hf
   simp -dsimp [hki]
   repeat' (first|omega|(exact sub0_snV _)|(exact sub0_dnV _)|simp -dsimp [E177,ri,cellp,ints,hki,hk1,hw,hw',hkw,wk,cycV,hm,ryE_dec',hLf,h1,h2,hfl]|refine aI ?_ fun _=>?_|refine oI fun _=>?_|refine nI ?_ ?_)
  have h2':c≤(t.hi r).leftC (t.pt r k):=by omega
  have hf:(t.hi r).can m h c (t.ps r)[k]=true:=by rw [hcan]; simp [h1',h2']
  simp -dsimp [hki]
  repeat' (first|omega|(exact sub0_snV _)|(exact sub0_dnV _)|simp -dsimp [E177,ri,cellp,ints,hki,hk1,hw,hw',hkw,wk,cycV,hm,ryE_dec',hLf,h1,h2]|refine aI ?_ fun _=>?_|refine oI fun _=>?_|refine nI ?_ ?_)
  refine⟨k+1,tle_chain rfl ?_,(by(try simp -dsimp only [hpx]); refine hle_hps ?_; simp -dsimp [allK]<;>exact rz),⟨by omega,step hf⟩,by omega⟩
  simp [okAll,okv]
 ·have hkn:¬ (k:Int)<r.parts.length:=by omega
  have hfl:(t.hi r).flies m h c=true:=by
   have:(t.ps r).all ((t.hi r).can m h c)=true:=by
    rw [List.all_eq_true]
    intro x hx
    obtain⟨j,hj,rfl⟩:=List.mem_iff_getElem.1 hx
    exact hall j hj (by rw [RS.ps_len]at hj; omega)
   show(decide ((t.hi r).lacks m=[]) && (t.ps r).all ((t.hi r).can m h c))=true
   rw [this,decide_eq_true hl]; rfl
  simp -dsimp [hkn]
  repeat' (first|omega|(exact sub0_snV _)|(exact sub0_dnV _)|simp -dsimp [E177,ri,cellp,ints,hkn,hfl]|refine aI ?_ fun _=>?_|refine oI fun _=>?_|refine nI ?_ ?_)
theorem ok177:FO 177 rfliesS:=pf b177 (.cons ok230 (.cons ok231 .nil))
end Go.Sx
end
section
namespace Go.Sx
open Go.Proofs
attribute [local irreducible] HLe
attribute [local simp] hps_app
def prB (rows:List (List V)):List Blk:=if rows.length=0 then []else [{z:=2,els:=rows,ty:=77}]
theorem prB_ne {rows:List (List V)} (h:0<rows.length):prB rows=[{z:=2,els:=rows,ty:=77}]:=by unfold prB; rw [if_neg (by omega)]
theorem prB_one (x:List V):prB [x]=[{z:=2,els:=[x],ty:=77}]:=rfl
theorem prB_nil:prB []=[]:=rfl
theorem lsV_zero (k:Nat):lsV k 0=.nil:=rfl
theorem lsB_nil (ty:Nat):lsB [] ty=[]:=rfl
def rgV (site m n:Nat):List (List V):=(List.range m).map fun k=>[.bsl site k n]
theorem rgV_zero (site n:Nat):rgV site 0 n=[]:=rfl
theorem rgV_succ (site m n:Nat):rgV site (m+1) n=rgV site m n++[[.bsl site m n]]:=by simp [rgV,List.range_succ]
theorem rgV_len (site m n:Nat):(rgV site m n).length=m:=by simp [rgV]
theorem lend_rows {h:Hp} {site m n:Nat} {B:Blk} (hB:B.cl=true) (hb:B.els.length=n) (hh:h site={base:=0,blks:=List.replicate m B}) :
  lendRs (lendN 2 h) (rgV site m n)=(True,List.replicate m [.sl B.z B.els]):=by
 have:lendRs (lendN 2 h) (rgV site m n)=(True,(List.range m).map fun _=>[.sl B.z B.els]):=by
  refine lendRs_map fun k hk=>?_
  have hk':k<m:=by simpa using hk
  have hg:hget h site k=some B:=by simp [hget,hh,hk']
  simp [lendCs,V.leaf,lendN,hg,hb,lendB,hB]
 rw [this]
 congr 1
 exact List.map_const' .. |>.trans (by simp)
@[simp ↓ high] theorem cell1_lsV (k n:Nat):(lsV k n).cell1=true:=by unfold lsV; split<;>rfl
abbrev beginS:PSpec:=mkP regE (fun r=>r.valid=true) fun r=>.agg (RS.new r).row
abbrev E108:Env:={P:=Tryz.prog,fn:=tbl [],own:=[55,64],key:=10800,nt:=68}
theorem b108:PureBody E108 [(10,([2001],[[0,1,2,3,4,5,6,7,8,9]])),(11,([2001],[[0,1,2,3,4,5,6,7,8,9]]))] Tryz.f108 beginS:=by
 refine pb ?_
 rintro r hv
 obtain⟨v1,v2,v3,v4,v5,v6,v7,v8⟩:=valid_facts hv
 obtain⟨no,hno⟩:∃no,no=r.orders.length:=⟨_,rfl⟩
 obtain⟨np,hnp⟩:∃np,np=r.parts.length:=⟨_,rfl⟩
 simp -dsimp [Tryz.f108,E108,Reg.row]
 repeat' (first|omega|simp -dsimp [E108,ri,cellp,ints,←hno,v3]|refine aI ?_ fun _=>?_|refine oI fun _=>?_|refine nI ?_ ?_)
 refine awp_loop [11,12,13,14,15,18,19,20,21,22,23,24,25,26,27,28,29,30,31,32,33,34,35,36,37,38,39,40,41,16,17,4] (fun k:Fin (r.parts.length+1)=>[(4,(true,.int .i64 (k.1:Nat)))])
  (fun k=>hps [(10803,{base:=0,blks:=[{z:=5,els:=[[lsV 10834 k.1,lsV 10840 k.1,.bsl 10809 0 no,.nil,.nil]],ty:=198,cl:=false}]}),
   (10834,{base:=0,blks:=prB (tkV (fun p:Pt=>[.int .i64 p.hours,.int .i64 p.cycles]) r.parts k.1)}),(10840,{base:=0,blks:=prB (List.replicate k.1 [.int .i64 (-1),.int .i64 (-1)])}),
   (10809,{base:=0,blks:=[{z:=1,els:=List.replicate no [.bool false],ty:=4}]}),(10802,{base:=0,blks:=[{z:=5,els:=[[.nil,.nil,.nil,.nil,.nil]],ty:=198}]}),
   (10801,{base:=0,blks:=[{z:=4,els:=[[.sl 3 (r.kinds.map Kd.row),.sl 4 (r.parts.map Pt.row),.int .i64 r.machines,.sl 2 (r.orders.map Od.row)]],ty:=37}]})] noH) (fun k=>r.parts.length - k.1) ⟨0,by omega⟩ ?_ ?_ ?_
 ·simp [okAll,okv]
 ·exact(by(try simp -dsimp only [hpx]); refine hle_hps ?_; simp -dsimp [allK,prB_nil,lsV_zero]<;>exact rz)
 rintro⟨k,hk⟩
 simp only
 by_cases hk1:k<r.parts.length
 ·have hki:(k:Int)<r.parts.length:=by omega
  have wk:IntKind.wrap .i64 ((k:Int)+1)=(k+1:Nat):=wrap_id (by omega) (by omega)
  obtain⟨p,hp,hp'⟩:=get_ex hk1
  have hT:=tkV_succ (fun p:Pt=>[V.int .i64 p.hours,.int .i64 p.cycles]) hp
  have hTl:=tkV_len (fun p:Pt=>[V.int .i64 p.hours,.int .i64 p.cycles]) (l:=r.parts) (k:=k) (by omega)
  have hR:List.replicate (k+1) [V.int .i64 (-1),.int .i64 (-1)]=List.replicate k [V.int .i64 (-1),.int .i64 (-1)]++[[.int .i64 (-1),.int .i64 (-1)]]:=List.replicate_succ'
  have hP1:=prB_ne (rows:=tkV (fun p:Pt=>[V.int .i64 p.hours,.int .i64 p.cycles]) r.parts (k+1)) (by rw [tkV_len _ (by omega)]; omega)
  have hP2:=prB_ne (rows:=List.replicate (k+1) [V.int .i64 (-1),.int .i64 (-1)]) (by simp)
  have hV1:=lsV_ne (k:=10834) (n:=k+1) (by omega)
  have hV2:=lsV_ne (k:=10840) (n:=k+1) (by omega)
  rw [hT]at hP1
  rw [hR]at hP2
  have hb8:(k+1) * 16≤140737488355328:=by omega
  generalize tkV (fun p:Pt=>[V.int .i64 p.hours,.int .i64 p.cycles]) r.parts k=T at *
  generalize hQ:List.replicate k [V.int .i64 (-1),.int .i64 (-1)]=Q at *
  have hQl:Q.length=k:=by rw [←hQ]; simp
  by_cases hk0:k=0
  ·subst hk0
   have hTn:T=[]:=List.length_eq_zero_iff.1 hTl
   have hQn:Q=[]:=List.length_eq_zero_iff.1 hQl
   subst hTn
   subst hQn
   have hk2:¬ r.parts=[]:=by rintro e; rw [e]at hk1; simp at hk1
   simp -dsimp [hki,hk1,hk2]
   repeat' (first|omega|simp -dsimp [E108,ri,cellp,ints,FoOk,hki,hk1,hk2,hp,hp',wk,Pt.row,hb8,prB_nil,lsV_zero]|refine aI ?_ fun _=>?_|refine oI fun _=>?_|refine nI ?_ ?_)
   refine⟨⟨0+1,by omega⟩,tle_chain rfl ?_,(by(try simp -dsimp only [hpx]); refine hle_hps ?_; simp -dsimp [allK,hT,hR,prB_one,hV1,hV2]<;>exact rz),by simp only; omega⟩
   simp [okAll,okv]
   exact wk
  ·have z1:=lsV_ne (k:=10834) (n:=k) (by omega)
   have z2:=lsV_ne (k:=10840) (n:=k) (by omega)
   have z3:=prB_ne (rows:=T) (by omega)
   have z4:=prB_ne (rows:=Q) (by omega)
   simp -dsimp [hki,z1,z2,z3,z4]
   repeat' (first|omega|simp -dsimp [E108,ri,cellp,ints,FoOk,hki,hk1,hp,hp',wk,Pt.row,hb8,z1,z2,z3,z4,hTl,hQl]|refine aI ?_ fun _=>?_|refine oI fun _=>?_|refine nI ?_ ?_)
   refine⟨⟨k+1,by omega⟩,tle_chain rfl ?_,(by(try simp -dsimp only [hpx]); refine hle_hps ?_; simp -dsimp [allK,hT,hR,hP1,hP2,hV1,hV2]<;>exact rz),by simp only; omega⟩
   simp [okAll,okv]
 have hkn:¬ (k:Int)<r.parts.length:=by omega
 have hke:k=r.parts.length:=by omega
 subst hke
 simp -dsimp [hkn]
 repeat' (first|omega|simp -dsimp [E108,ri,cellp,ints,hkn]|refine aI ?_ fun _=>?_|refine oI fun _=>?_|refine nI ?_ ?_)
 clear hk hk1 hkn
 refine awp_loop [42,43,44,45,46,49,50,51,52,53,54,55,56,57,58,59,60,61,62,63,64,65,66,47,48,5] (fun k:Fin (no+1)=>[(5,(true,.int .i64 (k.1:Nat)))])
  (fun k=>hps [(10803,{base:=0,blks:=[{z:=5,els:=[[lsV 10834 r.parts.length,lsV 10840 r.parts.length,.bsl 10809 0 no,lsV 10856 k.1,lsV 10865 k.1]],ty:=198,cl:=false}]}),
   (10856,{base:=0,blks:=lsB (rgV 10854 k.1 r.parts.length) 43}),(10854,{base:=0,blks:=List.replicate k.1 {z:=1,els:=List.replicate r.parts.length [.int .i64 0],ty:=3}}),
   (10865,{base:=0,blks:=lsB (rgV 10863 k.1 r.parts.length) 166}),(10863,{base:=0,blks:=List.replicate k.1 {z:=1,els:=List.replicate r.parts.length [.bool false],ty:=4}}),
   (10834,{base:=0,blks:=prB (tkV (fun p:Pt=>[.int .i64 p.hours,.int .i64 p.cycles]) r.parts r.parts.length)}),(10840,{base:=0,blks:=prB (List.replicate r.parts.length [.int .i64 (-1),.int .i64 (-1)])}),
   (10809,{base:=0,blks:=[{z:=1,els:=List.replicate no [.bool false],ty:=4}]}),(10855,{base:=k.1,blks:=[]}),(10864,{base:=k.1,blks:=[]}),(10802,{base:=0,blks:=[{z:=5,els:=[[.nil,.nil,.nil,.nil,.nil]],ty:=198}]}),
   (10801,{base:=0,blks:=[{z:=4,els:=[[.sl 3 (r.kinds.map Kd.row),.sl 4 (r.parts.map Pt.row),.int .i64 r.machines,.sl 2 (r.orders.map Od.row)]],ty:=37}]})] noH) (fun k=>no - k.1) ⟨0,by omega⟩ ?_ ?_ ?_
 ·simp [okAll,okv]
 ·exact(by(try simp -dsimp only [hpx]); refine hle_hps ?_; simp -dsimp [allK,rgV_zero,lsB_nil,lsV_zero]<;>exact rz)
 rintro⟨k,hk⟩
 simp only
 by_cases hk1:k<no
 ·have hki:(k:Int)<no:=by omega
  have wk:IntKind.wrap .i64 ((k:Int)+1)=(k+1:Nat):=wrap_id (by omega) (by omega)
  have hR1:=rgV_succ 10854 k r.parts.length
  have hR2:=rgV_succ 10863 k r.parts.length
  have hl1:=rgV_len 10854 k r.parts.length
  have hl2:=rgV_len 10863 k r.parts.length
  have hP1:=lsB_ne (rows:=rgV 10854 (k+1) r.parts.length) (ty:=43) (by rw [rgV_len]; omega)
  have hP2:=lsB_ne (rows:=rgV 10863 (k+1) r.parts.length) (ty:=166) (by rw [rgV_len]; omega)
  rw [hR1]at hP1
  rw [hR2]at hP2
  have hV1:=lsV_ne (k:=10856) (n:=k+1) (by omega)
  have hV2:=lsV_ne (k:=10865) (n:=k+1) (by omega)
  have hQ1:List.replicate (k+1) ({z:=1,els:=List.replicate r.parts.length [V.int .i64 0],ty:=3}:Blk)=List.replicate k {z:=1,els:=List.replicate r.parts.length [V.int .i64 0],ty:=3}++[{z:=1,els:=List.replicate r.parts.length [V.int .i64 0],ty:=3}]:=List.replicate_succ'
  have hQ2:List.replicate (k+1) ({z:=1,els:=List.replicate r.parts.length [V.bool false],ty:=4}:Blk)=List.replicate k {z:=1,els:=List.replicate r.parts.length [V.bool false],ty:=4}++[{z:=1,els:=List.replicate r.parts.length [V.bool false],ty:=4}]:=List.replicate_succ'
  have hb8:(k+1) * 24≤140737488355328:=by omega
  have hn8:(r.parts.length:Int) * 8≤140737488355328:=by omega
  have hn92:(r.parts.length:Int)≤9223372036854775807:=by omega
  by_cases hk0:k=0
  ·subst hk0
   simp -dsimp [hki,hk1,←hno]
   repeat' (first|omega|simp -dsimp [E108,ri,cellp,ints,FoOk,hki,hk1,←hno,wk,hb8,hn8,v2,rgV_zero,lsB_nil,lsV_zero]|refine aI ?_ fun _=>?_|refine oI fun _=>?_|refine nI ?_ ?_)
   refine⟨⟨0+1,by omega⟩,tle_chain rfl ?_,(by(try simp -dsimp only [hpx]); refine hle_hps ?_; simp -dsimp [allK,hR1,hR2,rgV_zero,hV1,hV2,lsB]<;>exact rz),by simp only; omega⟩
   simp [okAll,okv]
   exact wk
  ·have z1:=lsV_ne (k:=10856) (n:=k) (by omega)
   have z2:=lsV_ne (k:=10865) (n:=k) (by omega)
   have z3:=lsB_ne (rows:=rgV 10854 k r.parts.length) (ty:=43) (by rw [rgV_len]; omega)
   have z4:=lsB_ne (rows:=rgV 10863 k r.parts.length) (ty:=166) (by rw [rgV_len]; omega)
   simp -dsimp [hki,z1,z2,z3,z4]
   repeat' (first|omega|simp -dsimp [E108,ri,cellp,ints,FoOk,hki,hk1,←hno,wk,hb8,hn8,v2,z1,z2,z3,z4,hl1,hl2]|refine aI ?_ fun _=>?_|refine oI fun _=>?_|refine nI ?_ ?_)
   refine⟨⟨k+1,by omega⟩,tle_chain rfl ?_,(by(try simp -dsimp only [hpx]); refine hle_hps ?_; simp -dsimp [allK,hR1,hR2,hP1,hP2,hV1,hV2,hQ1,hQ2]<;>exact rz),by simp only; omega⟩
   simp [okAll,okv]
 have hkn:¬ (k:Int)<no:=by omega
 have hke:k=no:=by omega
 subst hke
 have hL1:∀h:Hp,h 10854={base:=0,blks:=List.replicate k {z:=1,els:=List.replicate r.parts.length [V.int .i64 0],ty:=3}}→lendRs (lendN 2 h) (rgV 10854 k r.parts.length)=(True,List.replicate k [.sl 1 (List.replicate r.parts.length [V.int .i64 0])]):=fun h hh=>lend_rows rfl (by simp) hh
 have hL2:∀h:Hp,h 10863={base:=0,blks:=List.replicate k {z:=1,els:=List.replicate r.parts.length [V.bool false],ty:=4}}→lendRs (lendN 2 h) (rgV 10863 k r.parts.length)=(True,List.replicate k [.sl 1 (List.replicate r.parts.length [V.bool false])]):=fun h hh=>lend_rows rfl (by simp) hh
 have hrow:(RS.new r).row=[.sl 2 (r.parts.map fun p=>[.int .i64 p.hours,.int .i64 p.cycles]),.sl 2 (List.replicate r.parts.length [.int .i64 (-1),.int .i64 (-1)]),.sl 1 (List.replicate k [.bool false]),if k=0 then .nil else .sl 1 (List.replicate k [.sl 1 (List.replicate r.parts.length [.int .i64 0])]),if k=0 then .nil else .sl 1 (List.replicate k [.sl 1 (List.replicate r.parts.length [.bool false])])]:=by
  simp only [RS.row,RS.new,snV,dnV,←hno,List.replicate_eq_nil_iff]
  simp [cycV,ints,bls,rb,ri,List.map_const']
 rw [hrow]
 clear hrow hk hk1
 by_cases hp0:r.parts.length=0
 ·have hpn:r.parts=[]:=List.length_eq_zero_iff.1 hp0
  by_cases hk0:k=0
  ·subst hk0
   simp -dsimp [hkn]
   repeat' (first|omega|simp -dsimp [E108,ri,cellp,ints,hkn,←hno,hpn,lsV_zero,prB_nil,rgV_zero,lsB_nil]|refine aI ?_ fun _=>?_|refine oI fun _=>?_|refine nI ?_ ?_)
  ·have z1:=lsV_ne (k:=10856) (n:=k) (by omega)
   have z2:=lsV_ne (k:=10865) (n:=k) (by omega)
   have z3:=lsB_ne (rows:=rgV 10854 k 0) (ty:=43) (by rw [rgV_len]; omega)
   have z4:=lsB_ne (rows:=rgV 10863 k 0) (ty:=166) (by rw [rgV_len]; omega)
   have y3:=rgV_len 10854 k 0
   have y4:=rgV_len 10863 k 0
   rw [hp0]at hL1 hL2
   simp only [List.replicate_zero]at hL1 hL2
   simp -dsimp [hkn]
   repeat' (first|omega|simp -dsimp [E108,ri,cellp,ints,hkn,←hno,hpn,lsV_zero,prB_nil,hk0,z1,z2,z3,z4,y3,y4,hL1,hL2]|refine aI ?_ fun _=>?_|refine oI fun _=>?_|refine nI ?_ ?_)
 ·have z5:=lsV_ne (k:=10834) (n:=r.parts.length) (by omega)
  have z6:=lsV_ne (k:=10840) (n:=r.parts.length) (by omega)
  have z7:=prB_ne (rows:=r.parts.map (fun p:Pt=>[V.int .i64 p.hours,.int .i64 p.cycles])) (by simp; omega)
  have z8:=prB_ne (rows:=List.replicate r.parts.length [V.int .i64 (-1),.int .i64 (-1)]) (by simp; omega)
  by_cases hk0:k=0
  ·subst hk0
   simp -dsimp [hkn]
   repeat' (first|omega|simp -dsimp [E108,ri,cellp,ints,hkn,←hno,lsV_zero,z5,z6,z7,z8,tkV_all,rgV_zero,lsB_nil]|refine aI ?_ fun _=>?_|refine oI fun _=>?_|refine nI ?_ ?_)
  ·have z1:=lsV_ne (k:=10856) (n:=k) (by omega)
   have z2:=lsV_ne (k:=10865) (n:=k) (by omega)
   have z3:=lsB_ne (rows:=rgV 10854 k r.parts.length) (ty:=43) (by rw [rgV_len]; omega)
   have z4:=lsB_ne (rows:=rgV 10863 k r.parts.length) (ty:=166) (by rw [rgV_len]; omega)
   have y3:=rgV_len 10854 k r.parts.length
   have y4:=rgV_len 10863 k r.parts.length
   simp -dsimp [hkn]
   repeat' (first|omega|simp -dsimp [E108,ri,cellp,ints,hkn,←hno,z5,z6,z7,z8,tkV_all,hk0,z1,z2,z3,z4,y3,y4,hL1,hL2]|refine aI ?_ fun _=>?_|refine oI fun _=>?_|refine nI ?_ ?_)
theorem ok108:FO 108 beginS:=pf b108 .nil
end Go.Sx
end
section
namespace Go.Sx
open Go.Proofs
attribute [local irreducible] HLe
attribute [local simp] hps_app
@[simp] def stE (t:RS):List V:=[.agg t.row]
theorem stE_inj (a b:RS) (h:stE a=stE b):a=b:=RS.row_inj _ _ (by simpa using h)
theorem stE_dec (t:RS):decC stE [.agg t.row]=t:=decC_eq stE_inj t
def FreshC (h:Hp):Prop:=∀k∈cpK,h k={base:=0,blks:=[]}
abbrev cpOwn:List Nat:=[17601,17602,17603,17630,17641]
structure RS.Cp (t:RS):Prop where
 used:t.used.length≤1000
 whr:t.whr.length≤1000
 iss:t.iss.length≤1000
 since:t.since.length≤1000
 done:t.done.length=t.since.length
 sincer:∀l∈t.since,l.length≤1000
 doner:∀l∈t.done,l.length≤1000
theorem RS.Wf.cp {t:RS} {r:Reg} (h:t.Wf r):t.Cp:=by
 obtain⟨v1,v2,v3,_⟩:=valid_facts h.val
 exact⟨by rw [h.used]; omega,by rw [h.whr]; omega,by rw [h.iss]; omega,by rw [h.since]; omega,by rw [h.done,h.since],fun l hl=>by rw [h.sincer l hl]; omega,fun l hl=>by rw [h.doner l hl]; omega⟩
def copS:HSpec where
 go args h:=⟨(args=[.agg (decC stE args).row]∧(decC stE args).Cp)∧FreshC h∧Blank cpOwn h,cpV (decC stE args),Ob cpL (decC stE args) (bmp cpOwn 1000000 h)⟩
theorem cop_go (t:RS) (h:Hp):copS.go [.agg t.row] h=⟨t.Cp∧FreshC h∧Blank cpOwn h,cpV t,Ob cpL t (bmp cpOwn 1000000 h)⟩:=by
 simp only [copS,stE_dec,true_and]
theorem cop_inv {args:List V} {h:Hp} (hc:(copS.go args h).c):∃t:RS,args=[.agg t.row]∧t.Cp∧FreshC h∧Blank cpOwn h:=by
 obtain⟨⟨h1,h2⟩,h3,h4⟩:=hc
 exact⟨_,h1,h2,h3,h4⟩
theorem snR_succ {l:List (List Int)} {k:Nat} {x:List Int} (h:l[k]?=some x):snR (l.take (k+1))=snR (l.take k)++[[.bsl 17629 k x.length]]:=by
 have hk:=(List.getElem?_eq_some_iff.1 h).1
 rw [List.take_add_one,h,snR,Option.toList_some,List.mapIdx_concat]
 simp [snR,Nat.min_eq_left (by omega:k≤l.length)]
theorem dnR_succ {l:List (List Bool)} {k:Nat} {x:List Bool} (h:l[k]?=some x):dnR (l.take (k+1))=dnR (l.take k)++[[.bsl 17640 k x.length]]:=by
 have hk:=(List.getElem?_eq_some_iff.1 h).1
 rw [List.take_add_one,h,dnR,Option.toList_some,List.mapIdx_concat]
 simp [dnR,Nat.min_eq_left (by omega:k≤l.length)]
def tkB {α:Type} (f:α→Blk) (l:List α) (k:Nat):List Blk:=(l.take k).map f
theorem tkB_zero {α:Type} (f:α→Blk) (l:List α):tkB f l 0=[]:=rfl
theorem tkB_all {α:Type} (f:α→Blk) (l:List α) {k:Nat} (h:k=l.length):tkB f l k=l.map f:=by subst h; simp [tkB]
theorem sub0_lsV (k n:Nat):sub0 (lsV k n) (lsV k n):=by unfold lsV; split<;>simp [sub0]
theorem map_take_succ {α β:Type} (f:α→β) {l:List α} {k:Nat} {x:α} (h:l[k]?=some x):(l.take (k+1)).map f=(l.take k).map f++[f x]:=by
 rw [List.take_add_one,h]; simp
theorem tkB_succ {α:Type} (f:α→Blk) {l:List α} {k:Nat} {x:α} (h:l[k]?=some x):tkB f l (k+1)=tkB f l k++[f x]:=map_take_succ f h
theorem tkB_len {α:Type} (f:α→Blk) {l:List α} {k:Nat} (h:k≤l.length):(tkB f l k).length=k:=by simp [tkB]; omega
abbrev E176:Env:={P:=Tryz.prog,fn:=tbl [],own:=[30,41],key:=17600,nt:=45}
theorem b176:HeapBody E176 [(1,([2001,2004,2007,3002,3005,3008],[[0,1,2,3,4,5,6,7,8,9,10,11]])),(5,([2001],[[0,1,2,3,4,5,6,7,8,9,10,11]])),(6,([2001],[[0,1,2,3,4,5,6,7,8,9,10,11]]))] Tryz.f176 copS:=by
 intro args h hc
 obtain⟨t,rfl,hcp,hfr,hbl⟩:=cop_inv hc
 rw [cop_go]
 clear hc
 obtain⟨s1,s2,s3,s4,s5,s6,s7⟩:=hcp
 have hh:h=hps ([(17607,{base:=0,blks:=[]}),(17610,{base:=0,blks:=[]}),(17613,{base:=0,blks:=[]}),(17631,{base:=0,blks:=[]}),(17629,{base:=0,blks:=[]}),(17642,{base:=0,blks:=[]}),(17640,{base:=0,blks:=[]}),(17601,{base:=(h 17601).base,blks:=[]}),(17602,{base:=(h 17602).base,blks:=[]}),(17603,{base:=(h 17603).base,blks:=[]}),(17630,{base:=(h 17630).base,blks:=[]}),(17641,{base:=(h 17641).base,blks:=[]})]) h:=by
  refine(hps_self fun k hk=>?_).symm
  have f:=fun k hk=>hfr k hk
  have b:=fun k hk=>hbl k hk
  simp only [List.map_cons,List.map_nil,List.mem_cons,List.not_mem_nil,or_false]at hk
  rcases hk with rfl|rfl|rfl|rfl|rfl|rfl|rfl|rfl|rfl|rfl|rfl|rfl
  all_goals first
   | exact f _ (by simp)
   | exact b _ (by simp)
 clear hfr hbl
 have hpost:Ob cpL t (bmp cpOwn 1000000 h)=hps (cpL t++[(17601,{base:=(h 17601).base+1000000,blks:=[]}),(17602,{base:=(h 17602).base+1000000,blks:=[]}),(17603,{base:=(h 17603).base+1000000,blks:=[]}),(17630,{base:=(h 17630).base+1000000,blks:=[]}),(17641,{base:=(h 17641).base+1000000,blks:=[]})]) h:=by
  simp only [Ob,bmp,hps_app,cpOwn,List.map_cons,List.map_nil]
 rw [hpost]
 clear hpost
 generalize (h 17601).base=b1 at *
 generalize (h 17602).base=b2 at *
 generalize (h 17603).base=b3 at *
 generalize (h 17630).base=b30 at *
 generalize (h 17641).base=b41 at *
 rw [hh]
 simp only [hps_app]
 clear hh
 have u8:t.used.length * 16≤140737488355328:=by omega
 have w8:t.whr.length * 16≤140737488355328:=by omega
 have i8:t.iss.length≤140737488355328:=by omega
 simp -dsimp [Tryz.f176,E176,RS.row]
 repeat' (first|omega|(exact sub0_lsV _ _)|simp -dsimp [E176,ri,cellp,ints,FoOk,NwOk,RS.row,u8,w8,i8]|refine aI ?_ fun _=>?_|refine oI fun _=>?_|refine nI ?_ ?_)
 refine awp_loop [15,16,17,18,19,22,23,24,25,26,27,28,29,30,31,32,33,34,35,36,37,38,39,40,41,42,43,20,21,4] (fun k:Fin (t.since.length+1)=>[(4,(true,.int .i64 (k.1:Nat)))])
  (fun k=>hps [(17603,{base:=b3,blks:=[{z:=5,els:=[[.bsl 17607 0 t.used.length,.bsl 17610 0 t.whr.length,.bsl 17613 0 t.iss.length,lsV 17631 k.1,lsV 17642 k.1]],ty:=198,cl:=false}]}),
   (17631,{base:=0,blks:=lsB (snR (t.since.take k.1)) 43}),(17629,{base:=0,blks:=tkB ibB t.since k.1}),(17642,{base:=0,blks:=lsB (dnR (t.done.take k.1)) 166}),(17640,{base:=0,blks:=tkB bbB t.done k.1}),
   (17607,{base:=0,blks:=[{z:=2,els:=t.used.map cycV,ty:=77}]}),(17610,{base:=0,blks:=[{z:=2,els:=t.whr.map cycV,ty:=77}]}),(17613,{base:=0,blks:=[{z:=1,els:=t.iss.map rb,ty:=4}]}),
   (17630,{base:=b30+k.1,blks:=[]}),(17641,{base:=b41+k.1,blks:=[]}),(17602,{base:=b2,blks:=[{z:=5,els:=[[.nil,.nil,.nil,.nil,.nil]],ty:=198}]}),
   (17601,{base:=b1,blks:=[{z:=5,els:=[[.sl 2 (t.used.map cycV),.sl 2 (t.whr.map cycV),.sl 1 (t.iss.map rb),snV t.since,dnV t.done]],ty:=198}]})] h) (fun k=>t.since.length - k.1) ⟨0,by omega⟩ ?_ ?_ ?_
 ·simp [okAll,okv]
 ·exact(by(try simp -dsimp only [hpx]); refine hle_hpsb ?_; simp -dsimp [allK,snR,dnR,lsB_nil,lsV_zero,tkB_zero]<;>exact rz)
 rintro⟨k,hk⟩
 simp only
 by_cases hk1:k<t.since.length
 ·have hki:(k:Int)<t.since.length:=by omega
  have wk:IntKind.wrap .i64 ((k:Int)+1)=(k+1:Nat):=wrap_id (by omega) (by omega)
  have hkd:k<t.done.length:=by omega
  obtain⟨x,hx,hx'⟩:=get_ex hk1
  obtain⟨y,hy,hy'⟩:=get_ex hkd
  have x8:x.length * 8≤140737488355328:=by have:=s6 x (hx' ▸ List.getElem_mem hk1); omega
  have y8:y.length≤140737488355328:=by have:=s7 y (hy' ▸ List.getElem_mem hkd); omega
  have hsv:=snV_ne (l:=t.since) (by omega)
  have hdv:=dnV_ne (l:=t.done) (by omega)
  have hR1:=snR_succ hx
  have hR2:=dnR_succ hy
  have hM1:=tkB_succ ibB hx
  have hM2:=tkB_succ bbB hy
  have hl1:(snR (t.since.take k)).length=k:=by simp [snR]; omega
  have hl2:(dnR (t.done.take k)).length=k:=by simp [dnR]; omega
  have hm1:=tkB_len ibB (l:=t.since) (k:=k) (by omega)
  have hm2:=tkB_len bbB (l:=t.done) (k:=k) (by omega)
  have hV1:=lsV_ne (k:=17631) (n:=k+1) (by omega)
  have hV2:=lsV_ne (k:=17642) (n:=k+1) (by omega)
  have hP1:=lsB_ne (rows:=snR (t.since.take (k+1))) (ty:=43) (by rw [hR1]; simp)
  have hP2:=lsB_ne (rows:=dnR (t.done.take (k+1))) (ty:=166) (by rw [hR2]; simp)
  rw [hR1]at hP1
  rw [hR2]at hP2
  have hb8:(k+1) * 24≤140737488355328:=by omega
  have hI:ibB x={z:=1,els:=x.map ri,ty:=3}:=rfl
  have hB:bbB y={z:=1,els:=y.map rb,ty:=4}:=rfl
  rw [hI]at hM1
  rw [hB]at hM2
  generalize hg1:snR (t.since.take k)=R1 at *
  generalize hg2:dnR (t.done.take k)=R2 at *
  generalize hg3:tkB ibB t.since k=M1 at *
  generalize hg4:tkB bbB t.done k=M2 at *
  by_cases hk0:k=0
  ·subst hk0
   have e1:R1=[]:=List.length_eq_zero_iff.1 hl1
   have e2:R2=[]:=List.length_eq_zero_iff.1 hl2
   have e3:M1=[]:=List.length_eq_zero_iff.1 hm1
   have e4:M2=[]:=List.length_eq_zero_iff.1 hm2
   subst e1 e2 e3 e4
   simp -dsimp [hki,hk1]
   repeat' (first|omega|(exact sub0_lsV _ _)|simp -dsimp [E176,ri,cellp,ints,FoOk,NwOk,hki,hk1,hkd,hsv,hdv,hx,hx',hy,hy',ints,bls,x8,y8,wk,hb8,lsB_nil,lsV_zero]|refine aI ?_ fun _=>?_|refine oI fun _=>?_|refine nI ?_ ?_)
   refine⟨⟨0+1,by omega⟩,tle_chain rfl ?_,(by(try simp -dsimp only [hpx]); refine hle_hpsb ?_; simp -dsimp [allK,hR1,hR2,hM1,hM2,hV1,hV2,lsB]<;>exact rz),by simp only; omega⟩
   simp [okAll,okv]
   exact wk
  ·have z1:=lsV_ne (k:=17631) (n:=k) (by omega)
   have z2:=lsV_ne (k:=17642) (n:=k) (by omega)
   have z3:=lsB_ne (rows:=R1) (ty:=43) (by omega)
   have z4:=lsB_ne (rows:=R2) (ty:=166) (by omega)
   simp -dsimp [hki,z1,z2,z3,z4]
   repeat' (first|omega|(exact sub0_lsV _ _)|simp -dsimp [E176,ri,cellp,ints,FoOk,NwOk,hki,hk1,hkd,hsv,hdv,hx,hx',hy,hy',ints,bls,x8,y8,wk,hb8,z1,z2,z3,z4,hl1,hl2,hm1,hm2]|refine aI ?_ fun _=>?_|refine oI fun _=>?_|refine nI ?_ ?_)
   refine⟨⟨k+1,by omega⟩,tle_chain rfl ?_,(by(try simp -dsimp only [hpx]); refine hle_hpsb ?_; simp -dsimp [allK,hR1,hR2,hM1,hM2,hP1,hP2,hV1,hV2]<;>exact rz),by simp only; omega⟩
   simp [okAll,okv]
 have hkn:¬ (k:Int)<t.since.length:=by omega
 have hke:k=t.since.length:=by omega
 subst hke
 have t1:t.since.take t.since.length=t.since:=List.take_length
 have t2:t.done.take t.since.length=t.done:=by rw [←s5]; exact List.take_length
 have t3:=tkB_all ibB t.since (k:=t.since.length) rfl
 have t4:=tkB_all bbB t.done (k:=t.since.length) s5.symm
 simp -dsimp [hkn]
 repeat' (first|omega|(exact sub0_lsV _ _)|simp -dsimp [E176,ri,cellp,ints,hkn,t1,t2,t3,t4,cpV,s5]|refine aI ?_ fun _=>?_|refine oI fun _=>?_|refine nI ?_ ?_)
 exact(by(try simp -dsimp only [hpx]); refine hle_hpsb ?_; simp -dsimp [allK,cpL,cpB,bbB,t1,t2,t3,t4,s5]<;>exact rz)
theorem ok176:FnOK Tryz.prog 176 (.heap copS):=pfH b176 .nil (fun args h hc=>by obtain⟨_,rfl,_⟩:=cop_inv hc; simp)
end Go.Sx
end
section
namespace Go.Sx
section wr
variable [Gls] {s:RS} {h:Hp} {i j:Nat}
theorem ck {k:Nat} (hk:k∈cpK):k=17607∨k=17610∨k=17613∨k=17631∨k=17629∨k=17642∨k=17640:=by
 simpa only [cpK,List.mem_cons,List.not_mem_nil,or_false]using hk
theorem x_used (x y:Int):hset (Ob cpL s h) 17607 0 {z:=2,els:=(s.used.map cycV).set j [.int .i64 x,.int .i64 y],ty:=77,fz:=false,cl:=true}=Ob cpL {s with used:=s.used.set j (x,y)} h:=by
 refine ob_write cpL_keys (by simp) (fun k hk hne=>?_) ?_
 ·rcases ck hk with rfl|rfl|rfl|rfl|rfl|rfl|rfl<;>simp at hne ⊢
 ·simp [cycV]
theorem x_whr (x y:Int):hset (Ob cpL s h) 17610 0 {z:=2,els:=(s.whr.map cycV).set j [.int .i64 x,.int .i64 y],ty:=77,fz:=false,cl:=true}=Ob cpL {s with whr:=s.whr.set j (x,y)} h:=by
 refine ob_write cpL_keys (by simp) (fun k hk hne=>?_) ?_
 ·rcases ck hk with rfl|rfl|rfl|rfl|rfl|rfl|rfl<;>simp at hne ⊢
 ·simp [cycV]
theorem x_iss (x:Bool):hset (Ob cpL s h) 17613 0 {z:=1,els:=(s.iss.map rb).set j [.bool x],ty:=4,fz:=false,cl:=true}=Ob cpL {s with iss:=s.iss.set j x} h:=by
 refine ob_write cpL_keys (by simp) (fun k hk hne=>?_) ?_
 ·rcases ck hk with rfl|rfl|rfl|rfl|rfl|rfl|rfl<;>simp at hne ⊢
 ·simp [rb]
theorem snR_set {l:List (List Int)} {o:Nat} {r r':List Int} (h:l[o]?=some r) (hl:r'.length=r.length):snR (l.set o r')=snR l:=by
 unfold snR
 rw [List.mapIdx_set,hl]
 exact set_id (by rw [List.getElem?_mapIdx,h]; rfl)
theorem dnR_set {l:List (List Bool)} {o:Nat} {r r':List Bool} (h:l[o]?=some r) (hl:r'.length=r.length):dnR (l.set o r')=dnR l:=by
 unfold dnR
 rw [List.mapIdx_set,hl]
 exact set_id (by rw [List.getElem?_mapIdx,h]; rfl)
theorem x_sn {r:List Int} (hr:s.since[i]?=some r) (x:Int):hset (Ob cpL s h) 17629 i {z:=1,els:=(r.map ri).set j [.int .i64 x],ty:=3,fz:=false,cl:=true}=Ob cpL {s with since:=s.since.set i (r.set j x)} h:=by
 refine ob_write cpL_keys (by simp) (fun k hk hne=>?_) ?_
 ·rcases ck hk with rfl|rfl|rfl|rfl|rfl|rfl|rfl<;>simp at hne ⊢
  rw [snR_set hr (by simp)]
 ·simp [List.map_set,ibB,ri]
theorem x_dn {r:List Bool} (hr:s.done[i]?=some r) (x:Bool):hset (Ob cpL s h) 17640 i {z:=1,els:=(r.map rb).set j [.bool x],ty:=4,fz:=false,cl:=true}=Ob cpL {s with done:=s.done.set i (r.set j x)} h:=by
 refine ob_write cpL_keys (by simp) (fun k hk hne=>?_) ?_
 ·rcases ck hk with rfl|rfl|rfl|rfl|rfl|rfl|rfl<;>simp at hne ⊢
  rw [dnR_set hr (by simp)]
 ·simp [List.map_set,bbB,rb]
@[simp] theorem len1_used (s:RS) (h:Hp) {n:Nat} (hn:n=s.used.length):lend1 (Ob cpL s h) (.bsl 17607 0 n)=(True,.sl 2 (s.used.map cycV)):=by subst hn; simp [lend1,lendN,lendB]
@[simp] theorem len1_whr (s:RS) (h:Hp) {n:Nat} (hn:n=s.whr.length):lend1 (Ob cpL s h) (.bsl 17610 0 n)=(True,.sl 2 (s.whr.map cycV)):=by subst hn; simp [lend1,lendN,lendB]
@[simp] theorem len1_iss (s:RS) (h:Hp) {n:Nat} (hn:n=s.iss.length):lend1 (Ob cpL s h) (.bsl 17613 0 n)=(True,.sl 1 (s.iss.map rb)):=by subst hn; simp [lend1,lendN,lendB]
@[simp] theorem len1_sn (s:RS) (h:Hp) {n:Nat} (hn:n=s.since.length):lend1 (Ob cpL s h) (lsV 17631 n)=(True,snV s.since):=by subst hn; exact lend_sn s h
@[simp] theorem len1_dn (s:RS) (h:Hp) {n:Nat} (hn:n=s.done.length):lend1 (Ob cpL s h) (lsV 17642 n)=(True,dnV s.done):=by subst hn; exact lend_dn s h
end wr
def snAdd (iss:List Bool) (h:Int) (p:Nat) (l:List (List Int)):Nat→List (List Int)
 | 0=>l
 | o+1=>if iss.getD o false=true then (snAdd iss h p l o).set o (((snAdd iss h p l o).getD o []).set p (wadd (((snAdd iss h p l o).getD o []).getD p 0) h))else snAdd iss h p l o
def RS.flyU (t:RS) (m h c:Int):Nat→List (Int × Int)
 | 0=>t.used
 | k+1=>if (t.whr.getD k (0,0)).1=m then (t.flyU m h c k).set k (wadd ((t.flyU m h c k).getD k (0,0)).1 h,wadd ((t.flyU m h c k).getD k (0,0)).2 c)else t.flyU m h c k
def RS.flyS (t:RS) (m h:Int):Nat→List (List Int)
 | 0=>t.since
 | k+1=>if (t.whr.getD k (0,0)).1=m then snAdd t.iss h k (t.flyS m h k) t.iss.length else t.flyS m h k
theorem flyU_len (t:RS) (m h c:Int):∀k,(t.flyU m h c k).length=t.used.length
 | 0=>rfl
 | k+1=>by simp only [RS.flyU]; split<;>simp [flyU_len t m h c k]
theorem snAdd_lens (iss:List Bool) (h:Int) (p:Nat) (l:List (List Int)):∀o,(snAdd iss h p l o).map List.length=l.map List.length
 | 0=>rfl
 | o+1=>by
  simp only [snAdd]; split
  ·rw [List.map_set,←snAdd_lens iss h p l o]
   refine List.ext_getElem? fun n=>?_
   rw [List.getElem?_set]
   split
   ·rename_i e; subst e
    split
    ·rename_i hl
     simp only [List.length_map]at hl
     simp [List.getD,hl]
    ·rename_i hl
     rw [List.getElem?_eq_none (by simpa using hl)]
   ·rfl
  ·exact snAdd_lens iss h p l o
theorem flyS_lens (t:RS) (m h:Int):∀k,(t.flyS m h k).map List.length=t.since.map List.length
 | 0=>rfl
 | k+1=>by
  simp only [RS.flyS]; split
  ·rw [snAdd_lens,flyS_lens t m h k]
  ·exact flyS_lens t m h k
theorem lens_len {l l':List (List Int)} (h:l.map List.length=l'.map List.length):l.length=l'.length:=by simpa using congrArg List.length h
theorem lens_all {l l':List (List Int)} (h:l.map List.length=l'.map List.length) {n:Nat} (hn:∀x∈l',x.length=n):∀x∈l,x.length=n:=by
 intro x hx
 have:x.length∈l.map List.length:=List.mem_map.2 ⟨x,hx,rfl⟩
 rw [h]at this
 obtain⟨y,hy,e⟩:=List.mem_map.1 this
 rw [←e]; exact hn y hy
def RS.flyDo (t:RS) (m h c:Int) (n:Nat):RS:={t with used:=t.flyU m h c n,since:=t.flyS m h n}
def RS.ordA (r:Reg) (n:Int):Bool:=withinB n 0 (wsub r.orders.length 1)
def RS.stored (t:RS) (r:Reg) (n:Int):Bool:=RS.partA r n && (t.whr.getD n.toNat (0,0)).1 == -1
def RS.ok (t:RS) (r:Reg) (w:Wk):Bool:=
 if w.kind=1 then withinB w.a 0 (wsub r.machines 1) && (withinB w.b 0 100 && (withinB w.c 0 100 && (t.hi r).flies w.a w.b w.c))else
 if w.kind=2 then t.stored r w.a && ((r.parts.getD w.a.toNat default).known && (withinB w.b 0 (wsub r.machines 1) && (withinB w.c 0 (wsub (r.kinds.getD (r.parts.getD w.a.toNat default).kind.toNat default).places 1) && decide ((t.hi r).at (r.parts.getD w.a.toNat default).kind w.b w.c<0))))else
 if w.kind=3 then RS.partA r w.a && (decide (0≤(t.whr.getD w.a.toNat (0,0)).1) && w.alone)else
 if w.kind=4 then RS.ordA r w.a && (!(t.iss.getD w.a.toNat false) && w.alone)else
 if w.kind=5 then RS.partA r w.a && (RS.ordA r w.b && (t.iss.getD w.b.toNat false && ((r.orders.getD w.b.toNat default).kind == (r.parts.getD w.a.toNat default).kind && (!((t.done.getD w.b.toNat []).getD w.a.toNat false) && w.c == 0))))else
 if w.kind=6 then t.stored r w.a && w.alone else false
def RS.act (t:RS) (r:Reg) (w:Wk):RS:=
 if w.kind=1 then t.flyDo w.a w.b w.c r.parts.length else
 if w.kind=2 then {t with whr:=t.whr.set w.a.toNat (w.b,w.c)}else
 if w.kind=3 then {t with whr:=t.whr.set w.a.toNat (-1,-1)}else
 if w.kind=4 then {t with iss:=t.iss.set w.a.toNat true}else
 if w.kind=5 then {t with done:=t.done.set w.b.toNat ((t.done.getD w.b.toNat []).set w.a.toNat true)}else
 if w.kind=6 then {t with whr:=t.whr.set w.a.toNat (-2,-2)}else t
def RS.after (t:RS) (r:Reg) (w:Wk):RS:=if t.ok r w=true then t.act r w else t
end Go.Sx
end
end
