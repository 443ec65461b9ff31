/- A part of a proof; no conditions. -/
import Derived.Test.YtegiclpanpmkdaaGreatDoorR53
set_option linter.all false
set_option maxRecDepth 100000
set_option maxHeartbeats 8000000
noncomputable section
section
namespace Go.Sx.y9
open Go.Proofs Go.Sx
attribute [local simp] ri aa ints
attribute [local irreducible] bA
def D9(t:Tb)(p:Int × Int):List V:=[.agg [.int .i64 p.1,.int .i64 p.2,.int .i64 (N5 t p.1 p.2).1,.int .i64 (N5 t p.1 p.2).2]]
def pts(xs ys:List Int):List (Int × Int):=xs.flatMap fun x=>ys.map fun y=>(x,y)
def FU(d:G1):List V:=[.ip 3 [eO d.t] 0 0,.ip 2 [d.a.row] 0 0,.ip 2 [d.b.row] 0 0]
theorem ZL(a b:G1)(h:FU a=FU b):a=b:=by obtain⟨a1,a2,a3⟩:=a;obtain⟨b1,b2,b3⟩:=b;simp only [FU,List.cons.injEq,V.ip.injEq,true_and,and_true]at h;rw [mZ _ _ h.1,Sp.aq _ _ h.2.1,Sp.aq _ _ h.2.2]
noncomputable abbrev aeL:aB:=bS Wy (fun _=>True) fun d=>.fn 243 (FU d)
noncomputable abbrev rZ:=EV [] [] 18500 8 [(1,[3,50003,4,50004,5,50005])]
theorem amx:af rZ [] Tryz.f185 aeL:=pb <| by rintro⟨t,a,b⟩ _;simp -dsimp [Tryz.f185,rZ,eO,Sp.row,FU];repeat' first|omega|simp -dsimp [rZ,eO,Sp.row,FU]|apply aI|apply nI|intro
theorem ahE:FO 185 aeL:=pf amx .nil
def FV(d:G1):List (Int × Int):=pts (stops d.t.xs d.a) (stops d.t.ys d.b)
open Classical in
noncomputable def vZ(caps:List V)(_:Hp):Prop × List (List V):=if x:∃d,caps=FU d then (vY x.choose.t=true,(FV x.choose).map (D9 x.choose.t))else (False,[])
theorem Uy(d:G1)(h:Hp):vZ (FU d) h=(vY d.t=true,(FV d).map (D9 d.t)):=by
 have hx:∃d',FU d=FU d':=⟨d,rfl⟩
 have e:hx.choose=d:=(ZL _ _ hx.choose_spec).symm;simp only [vZ,dif_pos hx,e]
theorem N6{caps:List V}{h:Hp}(hc:(vZ caps h).1):∃d,caps=FU d/\vY d.t=true/\(vZ caps h).2=(FV d).map (D9 d.t):=by
 simp only [vZ]at hc ⊢;by_cases hx:∃d,caps=FU d
 ·rw [dif_pos hx]at hc ⊢;exact⟨_,hx.choose_spec,hc,rfl⟩
 ·rw [dif_neg hx]at hc;exact hc.elim
noncomputable def cnI:Nat->bB->bB:=itS [] [] vZ
theorem LI{l:Nat}{Y:bB}{args:List V}{h:Hp}(hc:((cnI l Y).go args h).c):∃d,args=.vW l::FU d/\Loc Y [] []/\vY d.t=true/\(feed Y ((FV d).map (D9 d.t)) h).1/\
  ((cnI l Y).go args h).v=.dB []/\((cnI l Y).go args h).h=(feed Y ((FV d).map (D9 d.t)) h).2:=by
 obtain⟨caps,rfl,h2,h3,h4,h5,h6,h7⟩:=ZM hc;obtain⟨d,rfl,k1,k2⟩:=N6 h4;rw [k2]at h5 h7;exact⟨d,rfl,h2,k1,h5,h6,by show((itS [] [] vZ l Y).go (.vW l::FU d) h).h=_;rw [h7];rfl⟩
structure CnO (Y:bB) (FH:Hp) (t:Tb) (sx sy:List Int) where
 i:Nat
 H:Hp
 hi:i<=sx.length
 hf:(feed Y ((pts (sx.drop i) sy).map (D9 t)) H).1/\(feed Y ((pts (sx.drop i) sy).map (D9 t)) H).2=FH
structure CnN (Y:bB) (FH:Hp) (t:Tb) (sx sy:List Int) (i:Nat) (x:Int) where
 k:Nat
 H:Hp
 hk:k<=sy.length
 hf:(feed Y ((((sy.drop k).map fun y=>(x,y))++pts (sx.drop (i+1)) sy).map (D9 t)) H).1/\(feed Y ((((sy.drop k).map fun y=>(x,y))++pts (sx.drop (i+1)) sy).map (D9 t)) H).2=FH
theorem ape:∀f S,bf [(244,.pure ZN),(245,.pure atS)] f=some (.heap S)->∀args h,(S.go args h).c->(h YS).ah=[]->(S.go args h).h YS=h YS:=by
 intro f S hf;simp only [Uz,ZO]at hf;split at hf
 ·cases hf
 ·split at hf
  ·cases hf
  ·cases hf
noncomputable abbrev adt:=EV [(244,.pure ZN),(245,.pure atS)] [] 24300 39
theorem anJ:zq adt [] Tryz.f243 cnI:=by
 intro l Y args h hc za zd;obtain⟨⟨t,a,b⟩,rfl,aeN,ht,PB,hv,hh⟩:=LI hc;simp only at ht PB hv hh;rw [hv,hh];clear hv hh hc;obtain⟨Dy,UA,_⟩:=kZ ht;have lx:=jN Dy;have ly:=jN UA;have lx1:t.xs.length<=1000000:=by omega
 have ly1:t.ys.length<=1000000:=by omega
 have sxl:=BL t.xs a;have syl:=BL t.ys b;have hL:FV ⟨t,a,b⟩=pts (stops t.xs a) (stops t.ys b):=rfl;rw [hL]at PB ⊢;clear hL;obtain⟨FH,va⟩:∃FH,(feed Y ((pts (stops t.xs a) (stops t.ys b)).map (D9 t)) h).2=FH:=⟨_,rfl⟩
 rw [va];simp -dsimp [Tryz.f243,adt,FU,eO,Sp.row];repeat' first|omega|simp -dsimp [adt,FU,eO,Sp.row,tU,lx1,ly1]|apply aI|apply nI|intro
 generalize zo:stops t.xs a=sx at *;generalize z0:stops t.ys b=sy at *;refine ay [15,16,17,6,18,19,20,21,22,23,24,25,26,8,27,28,29,30,31,32,33,34,35,36,37,38,14] (fun q:CnO Y FH t sx sy=>[(14,(true,.int .i64 (q.i:Nat)))]) (fun q=>q.H) (fun q=>sx.length - q.i) {i:=0,H:=h,hi:=by omega,hf:=⟨by rw [List.drop_zero];exact PB,by rw [List.drop_zero];exact va⟩} ?_ (bA.refl _) ?_
 ·simp [aj,aT]
 rintro⟨i,H,hi,vb,v5⟩;dsimp only;by_cases v9:i<sx.length
 case neg=>
  have v6:((i:Int)<sx.length)=False:=eq_false (by omega);have hd:sx.drop i=[]:=List.drop_eq_nil_of_le (by omega);rw [hd]at v5;have z1:H=FH:=v5;subst z1;simp -dsimp [v6];repeat' first|omega|simp -dsimp [adt,v6]|apply aI|refine oI fun _=>?_|apply nI
  exact bA.refl _
 have vd:((i:Int)<sx.length)=True:=eq_true (by omega);have w0i:=wx i;obtain⟨x,hx,hx'⟩:=aM v9;have z2:sx.drop i=x::sx.drop (i+1):=by rw [List.drop_eq_getElem_cons v9,hx']
 have z3:pts (sx.drop i) sy=((sy.drop 0).map fun y=>(x,y))++pts (sx.drop (i+1)) sy:=by rw [z2,List.drop_zero];rfl
 rw [z3]at vb v5;simp -dsimp [vd];repeat' first|omega|simp -dsimp [adt,vd,v9,hx,hx',tU,lx1,ly1,z0,eO,Sp.row]|apply aI|apply nI|intro
 refine ay [24,25,26,8,27,28,29,30,31,32,33,34,35,36,37,23] (fun q:CnN Y FH t sx sy i x=>[(23,(true,.int .i64 (q.k:Nat)))]) (fun q=>q.H) (fun q=>sy.length - q.k) {k:=0,H:=H,hk:=by omega,hf:=⟨vb,v5⟩} ?_ (bA.refl _) ?_
 ·simp [aj,aT]
 rintro⟨k,H',hk,v7,v0⟩;dsimp only;by_cases aH:k<sy.length
 case neg=>
  have vr:((k:Int)<sy.length)=False:=eq_false (by omega);have hd:sy.drop k=[]:=List.drop_eq_nil_of_le (by omega);rw [hd,List.map_nil,List.nil_append]at v7 v0;simp -dsimp [vr];repeat' first|omega|simp -dsimp [adt,vr,w0i]|apply aI|apply nI|intro
  refine⟨{i:=i+1,H:=H',hi:=by omega,hf:=⟨v7,v0⟩},cq (aN rfl (br rfl (aN rfl bO))) ?_,bA.refl _,by simp only;omega⟩;simp [aj,aT,w0i]
 have v8:((k:Int)<sy.length)=True:=eq_true (by omega);have wk:=wx k;obtain⟨y,hy,hy'⟩:=aM aH;have z4:sy.drop k=y::sy.drop (k+1):=by rw [List.drop_eq_getElem_cons aH,hy']
 rw [z4,List.map_cons,List.cons_append,List.map_cons]at v7 v0;obtain⟨z5,bb,z6,vx,vy⟩:=N7 v7;obtain⟨H2,vP⟩:∃H2,(Y.go (D9 t (x,y)) H').h=H2:=⟨_,rfl⟩
 rw [vP]at vy vx;have fV:Y.go (D9 t (x,y)) H'=⟨True,.bool bb,H2⟩:=by have:=aeN.go z5 z6 [];rw [vP]at this;exact this
 simp only [D9]at fV;cases bb with
 | false=>
  rw [vy rfl]at v0;subst v0;simp -dsimp [v8];repeat' first|omega|simp -dsimp [adt,v8,aH,hy,hy',ht,Cm,fV,eO]|apply aI|refine oI fun _=>?_|apply nI
  exact bA.refl _
 | true=>
  obtain⟨z7,z8⟩:=vx rfl;rw [z8]at v0;simp -dsimp [v8];repeat' first|omega|simp -dsimp [adt,v8,aH,hy,hy',ht,Cm,fV,eO,wk]|apply aI|apply nI|intro
  refine⟨{k:=k+1,H:=H2,hk:=by omega,hf:=⟨z7,v0⟩},ag rfl ?_,bA.refl _,by simp only;omega⟩;simp [aj,aT,wk]
theorem ai3:dM Tryz.prog 243 (.iter cnI):=ZP (E:=adt) rfl (.cons ahM (.cons ahN .nil)) (ok:=[]) (fn:=Tryz.f243) (by kernel_rfl) (by kernel_rfl) (by kernel_rfl) (fun _ _=>by kernel_rfl) rfl (fun l Y args h hc=>by obtain⟨d,rfl,_⟩:=LI hc;simp [FU]) ape anJ
end Go.Sx.y9
end
section
namespace Go.Sx.y9
open Go.Proofs Go.Sx
attribute [local simp] ri aa ints
attribute [local irreducible] jo bA N5 O9 wa ws wm
structure Pq where
 x:Int
 y:Int
 n:Int
 d:Int
 deriving Inhabited
def Pq.row(p:Pq):List V:=[.int .i64 p.x,.int .i64 p.y,.int .i64 p.n,.int .i64 p.d]
theorem Pq.aq(a b:Pq)(h:a.row=b.row):a=b:=by cases a;cases b;simp only [Pq.row,List.cons.injEq,V.int.injEq,true_and,and_true]at h;obtain⟨rfl,rfl,rfl,rfl⟩:=h;rfl
def wV(t:Tb)(p:Int × Int):Pq:=⟨p.1,p.2,(N5 t p.1 p.2).1,(N5 t p.1 p.2).2⟩
theorem aeO(t:Tb)(p:Int × Int):D9 t p=[.agg (wV t p).row]:=by simp only [D9,wV,Pq.row]
def ZQ(x:List V):Pq:=⟨((x.getD 0 .top).cs.getD 0 .top).toInt,((x.getD 0 .top).cs.getD 1 .top).toInt,((x.getD 0 .top).cs.getD 2 .top).toInt,((x.getD 0 .top).cs.getD 3 .top).toInt⟩
theorem FW(p:Pq):ZQ [.agg p.row]=p:=rfl
structure AJ where
 c:Nat
 bg:Bool
 le:Pq
 mo:Pq
def FX(s:AJ):List (Nat × Site):=[(12506,{base:=0,ah:=[{z:=4,els:=[s.le.row],ty:=218}]}),(12507,{base:=0,ah:=[{z:=4,els:=[s.mo.row],ty:=218}]}),(12508,{base:=0,ah:=[{z:=1,els:=[[.bool s.bg]],ty:=4}]}),(12509,{base:=s.c,ah:=[]})]
theorem UB(s:AJ):(FX s).map (·.1)=[12506,12507,12508,12509]:=rfl
theorem ZR(s s':AJ)(h:∀k∈[12506,12507,12508,12509],hps (FX s) cg k=hps (FX s') cg k):s=s':=by have h1:=h 12506 (by simp);have h2:=h 12507 (by simp);have h3:=h 12508 (by simp);have h4:=h 12509 (by simp);simp [FX,hps]at h1 h2 h3 h4;obtain⟨c,bg,le,mo⟩:=s;obtain⟨c',bg',le',mo'⟩:=s';simp only at h1 h2 h3 h4;rw [Pq.aq _ _ h1,Pq.aq _ _ h2,h3,h4]
def Pq.v(p:Pq):Int × Int:=(p.n,p.d)
def AJ.next(s:AJ)(p:Pq):AJ:=⟨s.c+1,true,if s.bg=false\/wW p.v s.le.v<0 then p else s.le,if s.bg=false\/0<wW p.v s.mo.v then p else s.mo⟩
structure AJ.Ok (s:AJ) (p:Pq):Prop where
 v:Va p.v
 l:s.bg=true->Va s.le.v
 m:s.bg=true->Va s.mo.v
abbrev UC(s:AJ)(x:List V):Prop:=∃p:Pq,x=[.agg p.row]/\s.Ok p
def BM(s:AJ)(l:List Pq):AJ:=l.foldl AJ.next s
theorem UD(t:Tb):∀(l:List (Int × Int)) (s:AJ),(∀p∈l,Va (wV t p).v)->(s.bg=true->Va s.le.v/\Va s.mo.v)->
  (nc UC (fun _ _=>true) (fun s x=>s.next (ZQ x)) s (l.map (D9 t))).1/\(nc UC (fun _ _=>true) (fun s x=>s.next (ZQ x)) s (l.map (D9 t))).2=(true,BM s (l.map (wV t)))
 | [],s,_,_=>⟨trivial,rfl⟩
 | p::l,s,h,hb=>by
  have hp:=h p (by simp);have hn:(s.next (wV t p)).bg=true->Va (s.next (wV t p)).le.v/\Va (s.next (wV t p)).mo.v:=fun _=>by
   simp only [AJ.next];constructor
   ·split
    ·exact hp
    ·rename_i hc;exact(hb (by cases hs:s.bg;exact absurd (.inl hs) hc;rfl)).1
   ·split
    ·exact hp
    ·rename_i hc;exact(hb (by cases hs:s.bg;exact absurd (.inl hs) hc;rfl)).2
  obtain⟨h1,h2⟩:=UD t l (s.next (wV t p)) (fun q hq=>h q (by simp [hq])) hn;simp only [List.map_cons,nc,aeO,FW];exact⟨⟨⟨_,rfl,hp,fun e=>(hb e).1,fun e=>(hb e).2⟩,h1⟩,h2⟩
def I4:AJ:=⟨0,false,⟨0,0,0,0⟩,⟨0,0,0,0⟩⟩
def FY(d:G1):AJ:=BM I4 ((FV d).map (wV d.t))
structure ExP (d:G1):Prop where
 t:vY d.t=true
 v:∀p∈FV d,Va (wV d.t p).v
noncomputable abbrev aeP:aB:=bS Wy ExP fun d=>.dB [.agg (FY d).le.row,.agg (FY d).mo.row]
noncomputable abbrev aeI:=EV [(185,.pure aeL),(243,.iter cnI),(186,.pure aeQ)] [] 12500 39
theorem apa:af aeI [(9,([],[[0,1,2,3],[0,2,1,3]]))] Tryz.f125 aeP:=pb <| by
 rintro⟨t,a,b⟩ ⟨ht,vV⟩;simp only at ht vV;obtain⟨kR,jP⟩:=UD t (FV ⟨t,a,b⟩) I4 vV (fun e=>by cases e);simp -dsimp [Tryz.f125,aeI,eO,Sp.row];repeat' first|omega|simp -dsimp [aeI,eO,Sp.row,DC]|apply aI|apply nI|intro
 refine N8 (LC:=FX) (keys:=[12506,12507,12508,12509]) (pre:=UC) (go:=fun _ _=>true) (kO:=fun s x=>s.next (ZQ x)) ZR UB I4 .normal ((FV ⟨t,a,b⟩).map (D9 t)) (own:=[]) (ro:=[]) (dec:=vZ) (by simp;exact⟨rfl,rfl⟩) (by simp;rfl) rfl (by decide) (by decide) (by decide) ?_ ?_ ?_ ?_ kR ?_ ?_ ?_
 ·simp [hps,YS,cg]
 ·intro k hk;simp at hk;rcases hk with rfl|rfl|rfl|rfl<;>simp [hps,FX,I4,Pq.row,cg]
 ·intro k hk;cases hk
 ·rw [Uy];exact⟨ht,rfl⟩
 ·rintro s x hb ⟨p,rfl,hv,hl,hm⟩ zp zr;refine⟨rfl,?_⟩;rw [FW];obtain⟨c,bg,le,mo⟩:=s;simp only at hl hm;have fJ:Va (p.n,p.d):=hv;cases bg
  ·simp -dsimp [aeI,vn,FX,AJ.next,Pq.row];repeat' first|omega|simp -dsimp [aeI,Pq.row]|apply aI|apply nI|intro
   exact(by(try simp -dsimp only [hpx]);refine bK ?_;simp -dsimp [aC,Pq.row,FX]<;>exact rz)
  ·have hl':Va (le.n,le.d):=hl rfl;have hm':Va (mo.n,mo.d):=hm rfl;have sQ:AJ.next ⟨c,true,le,mo⟩ p=⟨c+1,true,if wW (p.n,p.d) (le.n,le.d)<0 then p else le,if 0<wW (p.n,p.d) (mo.n,mo.d)then p else mo⟩:=by simp only [AJ.next,Pq.v];simp
   rw [sQ];by_cases h1:wW (p.n,p.d) (le.n,le.d)<0
   ·rw [if_pos h1];by_cases h2:0<wW (p.n,p.d) (mo.n,mo.d)
    ·rw [if_pos h2];simp -dsimp [aeI,vn,FX,Pq.row];repeat' first|omega|simp -dsimp [aeI,Pq.row,xJ,fJ,hl',hm',h1,h2]|apply aI|apply nI|intro
     exact(by(try simp -dsimp only [hpx]);refine bK ?_;simp -dsimp [aC,Pq.row,FX]<;>exact rz)
    ·rw [if_neg h2];have CN:(0<wW (p.n,p.d) (mo.n,mo.d))=False:=eq_false h2;simp -dsimp [aeI,vn,FX,Pq.row];repeat' first|omega|simp -dsimp [aeI,Pq.row,xJ,fJ,hl',hm',h1,CN]|apply aI|apply nI|intro
     exact(by(try simp -dsimp only [hpx]);refine bK ?_;simp -dsimp [aC,Pq.row,FX]<;>exact rz)
   ·rw [if_neg h1];have pI:(wW (p.n,p.d) (le.n,le.d)<0)=False:=eq_false h1;by_cases h2:0<wW (p.n,p.d) (mo.n,mo.d)
    ·rw [if_pos h2];simp -dsimp [aeI,vn,FX,Pq.row];repeat' first|omega|simp -dsimp [aeI,Pq.row,xJ,fJ,hl',hm',pI,h2]|apply aI|apply nI|intro
     exact(by(try simp -dsimp only [hpx]);refine bK ?_;simp -dsimp [aC,Pq.row,FX]<;>exact rz)
    ·rw [if_neg h2];have CN:(0<wW (p.n,p.d) (mo.n,mo.d))=False:=eq_false h2;simp -dsimp [aeI,vn,FX,Pq.row];repeat' first|omega|simp -dsimp [aeI,Pq.row,xJ,fJ,hl',hm',pI,CN]|apply aI|apply nI|intro
     exact(by(try simp -dsimp only [hpx]);refine bK ?_;simp -dsimp [aC,Pq.row,FX]<;>exact rz)
 ·intro _;rw [jP];have hR:FY ⟨t,a,b⟩=BM I4 ((FV ⟨t,a,b⟩).map (wV t)):=rfl;rw [hR];generalize BM I4 ((FV ⟨t,a,b⟩).map (wV t))=R at *;obtain⟨c,bg,le,mo⟩:=R;simp -dsimp [FX,aG,Pq.row];repeat' first|omega|simp -dsimp [aeI,Pq.row]|apply aI|apply nI|intro
 ·intro h;rw [jP]at h;cases h
theorem akj:FO 125 aeP:=pf apa (.cons ahE (.cons ai3 (.cons aiB .nil)))
end Go.Sx.y9
end
section
namespace Go.Sx.y9
open Go.Proofs Go.Sx
attribute [local simp] ri aa ints
theorem aeR{l:List Int}{x:Int}{t:Nat}(h:t<Ui l x):l.getD t 0<x:=by have hl:t<l.length:=Nat.lt_of_lt_of_le h (Uj l x);have:=List.not_of_lt_findIdx h;simp only [List.getD,List.getElem?_eq_getElem hl,Option.getD_some];simpa using this
theorem aeS{l:List Int}{x:Int}(h:Ui l x<l.length):x<=l.getD (Ui l x) 0:=by have:=List.findIdx_getElem (p:=fun y=>decide (x<=y)) (xs:=l) (w:=h);simp only [List.getD,List.getElem?_eq_getElem h,Option.getD_some];exact of_decide_eq_true this
theorem UE{l:List Int}(h:xH l=true){x:Int}(h0:l.getD 0 0<=x)(h1:x<=l.getD (l.length - 1) 0):Lx l (dD l x) x:=by
 have hl:=jN h;have hc:=Dx hl.1 x;have v6:=qH hl.1;refine⟨hc,?_,?_⟩
 ·by_cases e:dD l x=0
  ·rw [e];exact h0
  ·have:=aeR (l:=(l.drop 1).take (l.length - 2)) (x:=x) (t:=dD l x - 1) (by show dD l x - 1<dD l x;omega);rw [nU (by omega),show dD l x - 1+1=dD l x by omega]at this;omega
 ·by_cases e:dD l x<l.length - 2
  ·have:x<=((l.drop 1).take (l.length - 2)).getD (dD l x) 0:=aeS (l:=(l.drop 1).take (l.length - 2)) (x:=x) (by rw [v6];exact e);rw [nU e]at this;exact this
  ·rw [show dD l x+1=l.length - 1 by omega];exact h1
theorem LK{l:List Int}(h:xH l=true){i:Nat}(hi:i+1<l.length):1<=l.getD (i+1) 0 - l.getD i 0/\l.getD (i+1) 0 - l.getD i 0<=10000:=by
 simp only [xH,Bool.and_eq_true,List.all_eq_true]at h;have:=h.2 (i+1) (by simpa using hi);simp only [zn,Bool.and_eq_true,Bool.or_eq_true,decide_eq_true_eq,Nat.add_sub_cancel]at this;rcases this.2 with h1|h1
 ·omega
 ·simpa [au]using h1
theorem DD{l:List Int}(h:xH l=true){i:Nat}(hi:i<l.length) : -1000000<=l.getD i 0/\l.getD i 0<=1000000:=by simp only [xH,Bool.and_eq_true,List.all_eq_true]at h;have:=h.2 i (by simpa using hi);simp only [zn,Bool.and_eq_true,oB,Bool.not_not]at this;simpa [au]using this.1
theorem LL{x p A B:Int}(h1:0<=x)(h2:x<=A)(h3 : -B<=p)(h4:p<=B) : -(A * B)<=x * p/\x * p<=A * B:=by
 have hB:0<=B:=by omega
 have a1:x * p<=x * B:=Int.mul_le_mul_of_nonneg_left h4 h1;have a2:x * -B<=x * p:=Int.mul_le_mul_of_nonneg_left h3 h1;have a3:x * B<=A * B:=Int.mul_le_mul_of_nonneg_right h2 hB;rw [Int.mul_neg]at a2;omega
theorem asQ{t:Tb}(h:vY t=true){i k:Nat}(hi:i<t.xs.length)(hk:k<t.ys.length) : -1000000<=t.v i k/\t.v i k<=1000000:=by obtain⟨r,hr,n,hn,e⟩:=zu h hi hk;obtain⟨_,_,_,h4⟩:=kZ h;rw [e];exact(h4 r (List.mem_iff_getElem?.2 ⟨i,hr⟩)).2 n (List.mem_iff_getElem?.2 ⟨k,hn⟩)
theorem aeT{X0 X1 Y0 Y1 p q r s x y:Int}(x0:X0<=x)(x1:x<=X1)(xg:X1 - X0<=10000)(y0:Y0<=y)(y1:y<=Y1)(yg:Y1 - Y0<=10000)
  (xb : -1000000<=X0/\X1<=1000000) (yb : -1000000<=Y0/\Y1<=1000000)
  (hp : -1000000<=p/\p<=1000000) (hq : -1000000<=q/\q<=1000000) (hr : -1000000<=r/\r<=1000000) (hs : -1000000<=s/\s<=1000000) :
  O9 X0 X1 Y0 Y1 p q r s x y=((X1 - x) * (Y1 - y) * p+(x - X0) * (Y1 - y) * q+(X1 - x) * (y - Y0) * r+(x - X0) * (y - Y0) * s,(X1 - X0) * (Y1 - Y0))/\
  -400000000000000<=(O9 X0 X1 Y0 Y1 p q r s x y).1/\(O9 X0 X1 Y0 Y1 p q r s x y).1<=400000000000000:=by
 have m1:=we (x:=X1 - x) (y:=Y1 - y) (A:=10000) (B:=10000) (by omega) (by omega) (by omega) (by omega);have m2:=we (x:=x - X0) (y:=Y1 - y) (A:=10000) (B:=10000) (by omega) (by omega) (by omega) (by omega);have m3:=we (x:=X1 - x) (y:=y - Y0) (A:=10000) (B:=10000) (by omega) (by omega) (by omega) (by omega);have m4:=we (x:=x - X0) (y:=y - Y0) (A:=10000) (B:=10000) (by omega) (by omega) (by omega) (by omega);have m5:=we (x:=X1 - X0) (y:=Y1 - Y0) (A:=10000) (B:=10000) (by omega) (by omega) (by omega) (by omega);have e1:ws X1 x=X1 - x:=aK (by omega) (by omega);have e2:ws x X0=x - X0:=aK (by omega) (by omega);have e3:ws Y1 y=Y1 - y:=aK (by omega) (by omega);have e4:ws y Y0=y - Y0:=aK (by omega) (by omega);have e5:wa (X1 - x) (x - X0)=X1 - X0:=by unfold wa;rw [aK (by omega) (by omega)];omega
 have e6:wa (Y1 - y) (y - Y0)=Y1 - Y0:=by unfold wa;rw [aK (by omega) (by omega)];omega
 unfold O9;rw [e1,e2,e3,e4,e5,e6];generalize X1 - x=a at *;generalize x - X0=b at *;generalize Y1 - y=c at *;generalize y - Y0=d at *;have f1:wm a c=a * c:=aK (by omega) (by omega);have f2:wm b c=b * c:=aK (by omega) (by omega);have f3:wm a d=a * d:=aK (by omega) (by omega);have f4:wm b d=b * d:=aK (by omega) (by omega);have f5:wm (X1 - X0) (Y1 - Y0)=(X1 - X0) * (Y1 - Y0):=aK (by omega) (by omega);rw [f1,f2,f3,f4,f5];have n1:=LL (x:=a * c) (p:=p) (A:=100000000) (B:=1000000) (by omega) (by omega) hp.1 hp.2;have n2:=LL (x:=b * c) (p:=q) (A:=100000000) (B:=1000000) (by omega) (by omega) hq.1 hq.2;have n3:=LL (x:=a * d) (p:=r) (A:=100000000) (B:=1000000) (by omega) (by omega) hr.1 hr.2;have n4:=LL (x:=b * d) (p:=s) (A:=100000000) (B:=1000000) (by omega) (by omega) hs.1 hs.2;generalize a * c=u1 at *;generalize b * c=u2 at *;generalize a * d=u3 at *;generalize b * d=u4 at *;have g1:wm u1 p=u1 * p:=aK (by omega) (by omega);have g2:wm u2 q=u2 * q:=aK (by omega) (by omega);have g3:wm u3 r=u3 * r:=aK (by omega) (by omega);have g4:wm u4 s=u4 * s:=aK (by omega) (by omega);rw [g1,g2,g3,g4];generalize u1 * p=v1 at *;generalize u2 * q=v2 at *;generalize u3 * r=v3 at *;generalize u4 * s=v4 at *;have h1:wa v1 v2=v1+v2:=aK (by omega) (by omega);rw [h1];have h2:wa (v1+v2) v3=v1+v2+v3:=aK (by omega) (by omega);rw [h2];have h3:wa (v1+v2+v3) v4=v1+v2+v3+v4:=aK (by omega) (by omega);rw [h3];exact⟨rfl,by show _<=v1+v2+v3+v4;omega,by show v1+v2+v3+v4<=_;omega⟩
theorem aeU{t:Tb}(h:vY t=true){x y:Int}(x0:t.xs.getD 0 0<=x)(x1:x<=t.xs.getD (t.xs.length - 1) 0)(y0:t.ys.getD 0 0<=y)(y1:y<=t.ys.getD (t.ys.length - 1) 0) :
  N5 t x y=(t.num (dD t.xs x) (dD t.ys y) x y,t.den (dD t.xs x) (dD t.ys y))/\Va (N5 t x y):=by
 obtain⟨Dy,UA,_⟩:=kZ h;obtain⟨i1,i2,i3⟩:=UE Dy x0 x1;obtain⟨k1,k2,k3⟩:=UE UA y0 y1;have gx:=LK Dy i1;have gy:=LK UA k1;have bx0:=DD Dy (show dD t.xs x<t.xs.length by omega);have bx1:=DD Dy i1;have by0:=DD UA (show dD t.ys y<t.ys.length by omega);have by1:=DD UA k1;have hm:=we (x:=t.xs.getD (dD t.xs x+1) 0 - t.xs.getD (dD t.xs x) 0) (y:=t.ys.getD (dD t.ys y+1) 0 - t.ys.getD (dD t.ys y) 0) (A:=10000) (B:=10000) (by omega) (by omega) (by omega) (by omega);have vX:0<(t.xs.getD (dD t.xs x+1) 0 - t.xs.getD (dD t.xs x) 0) * (t.ys.getD (dD t.ys y+1) 0 - t.ys.getD (dD t.ys y) 0):=Int.mul_pos (by omega) (by omega);obtain⟨e1,e2,e3⟩:=aeT i2 i3 gx.2 k2 k3 gy.2 ⟨bx0.1,bx1.2⟩ ⟨by0.1,by1.2⟩ (asQ h (show dD t.xs x<t.xs.length by omega) (show dD t.ys y<t.ys.length by omega)) (asQ h i1 (show dD t.ys y<t.ys.length by omega)) (asQ h (show dD t.xs x<t.xs.length by omega) k1) (asQ h i1 k1);have hA:N5 t x y=_:=e1;refine⟨hA,?_⟩;have e2' : -400000000000000<=(N5 t x y).1:=e2;have e3':(N5 t x y).1<=400000000000000:=e3;refine⟨by omega,by omega,?_,?_⟩
 ·rw [hA];exact vX
 ·rw [hA];show _<=(100000000:Int);omega
theorem UF{s:Sp}(h:wQ s=false) : -1000000<=s.lo/\s.lo<=s.hi/\s.hi<=1000000:=by simp only [wQ,Bool.not_eq_false',Bool.and_eq_true,decide_eq_true_eq,au]at h;omega
theorem FZ{d:G1}(h:iR d=0):vY d.t=true/\(-1000000<=d.a.lo/\d.a.lo<=d.a.hi/\d.a.hi<=1000000)/\(-1000000<=d.b.lo/\d.b.lo<=d.b.hi/\d.b.hi<=1000000)/\ajR d.t.xs d.a/\ajR d.t.ys d.b:=by
 unfold iR at h;split at h
 ·rename_i h1;split at h
  ·simp at h
  ·rename_i h2;split at h
   ·rename_i h3;simp only [List.any_cons,List.any_nil,Bool.or_false,Bool.or_eq_true,not_or,Bool.not_eq_true]at h2;simp only [Bool.and_eq_true,FM,decide_eq_true_eq]at h3;exact⟨h1,UF h2.1,UF h2.2,h3.1,h3.2⟩
   ·simp at h
 ·simp at h
theorem N9{d:G1}(h:iR d=0){p:Int × Int}(hp:p∈FV d):d.a.lo<=p.1/\p.1<=d.a.hi/\d.b.lo<=p.2/\p.2<=d.b.hi:=by obtain⟨_,ha,hb,_⟩:=FZ h;simp only [FV,pts,List.mem_flatMap,List.mem_map]at hp;obtain⟨x,hx,y,hy,rfl⟩:=hp;have h1:=FL ha.2.1 hx;have h2:=FL hb.2.1 hy;exact⟨h1.1,h1.2,h2.1,h2.2⟩
theorem UG{d:G1}(h:iR d=0):ExP d:=by obtain⟨ht,_,_,la,lb⟩:=FZ h;refine⟨ht,fun p hp=>?_⟩;obtain⟨c1,c2,c3,c4⟩:=N9 h hp;have:=(aeU ht (x:=p.1) (y:=p.2) (by have:=la.1;omega) (by have:=la.2;omega) (by have:=lb.1;omega) (by have:=lb.2;omega)).2;exact this
theorem F1:∀(l:List Pq) (s:AJ),(∀p∈l,Va p.v)->(s.bg=true->Va s.le.v/\Va s.mo.v)->(s.bg=true\/l≠[])->Va (BM s l).le.v/\Va (BM s l).mo.v
 | [],s,_,hb,h=>hb (by rcases h with h|h;exact h;exact absurd rfl h)
 | p::l,s,h,hb,_=>by
  have hp:=h p (by simp);refine F1 l (s.next p) (fun q hq=>h q (by simp [hq])) (fun _=>?_) (.inl rfl);simp only [AJ.next];constructor
  ·split
   ·exact hp
   ·rename_i hc;exact(hb (by cases hs:s.bg;exact absurd (.inl hs) hc;rfl)).1
  ·split
   ·exact hp
   ·rename_i hc;exact(hb (by cases hs:s.bg;exact absurd (.inl hs) hc;rfl)).2
theorem aeV(d:G1):FV d≠[]:=by
 intro h;have:(d.a.lo,d.b.lo)∈FV d:=by simp only [FV,pts,List.mem_flatMap,List.mem_map];exact⟨d.a.lo,by simp [stops],d.b.lo,by simp [stops],rfl⟩
 rw [h]at this;simp at this
theorem aeW{d:G1}(h:iR d=0):Va (FY d).le.v/\Va (FY d).mo.v:=by
 have hP:=UG h;refine F1 _ I4 (fun p hp=>?_) (fun e=>by cases e) (.inr fun e=>?_)
 ·obtain⟨q,hq,rfl⟩:=List.mem_map.1 hp;exact hP.v q hq
 ·exact aeV d (by simpa using e)
def mI(d:G1):Sp:=⟨(FY d).le.n / (FY d).le.d,-(-(FY d).mo.n / (FY d).mo.d)⟩
end Go.Sx.y9
end
section
namespace Go.Sx.y9
open Go.Proofs Go.Sx
attribute [local simp] ri aa ints
attribute [local irreducible] bA
noncomputable abbrev Ig:aB:=bS Wy (fun d=>TbP d.t) fun d=>.dB [if iR d=0 then .agg (mI d).row else .agg [.int .i64 0,.int .i64 0],.int .i64 (iR d)]
noncomputable abbrev E59:=EV [(124,.pure aeX),(125,.pure aeP),(126,.pure UH),(127,.pure upS)] [] 5900 37
theorem b59:af E59 [] Tryz.f59 Ig:=pb <| by
 rintro d hP;have hP:TbP d.t:=hP;by_cases h0:iR d=0
 case neg=>
  obtain⟨t,a,b⟩:=d;simp -dsimp [Tryz.f59,E59,eO,Sp.row];repeat' first|omega|simp -dsimp [E59,hP,DC,h0,eO,Sp.row]|apply aI|apply nI|intro
 have hX:=UG h0;obtain⟨v1,v2⟩:=aeW h0;have f1:KD ((FY d).le.n,(FY d).le.d):=v1.fl;have f2:KD ((FY d).mo.n,(FY d).mo.d):=v2.fl;have rj:(mI d).lo=(FY d).le.n / (FY d).le.d:=rfl;have z9:(mI d).hi = -(-(FY d).mo.n / (FY d).mo.d):=rfl;obtain⟨t,a,b⟩:=d;simp -dsimp [Tryz.f59,E59,eO,Sp.row];repeat' first|omega|simp -dsimp [E59,hP,DC,h0,hX,eO,Sp.row,Pq.row,f1,f2,qG,ZS,rj,z9]|apply aI|apply nI|intro
theorem anr:FO 59 Ig:=pf b59 (.cons Um (.cons akj (.cons aj5 (.cons akf .nil))))
def mzT:Tb:=⟨[0,10,20],[0,5],[[0,10],[20,30],[10,50]]⟩
def BN:G1:=⟨mzT,⟨5,15⟩,⟨0,5⟩⟩
theorem aeZ:iR BN=0:=by decide +kernel
theorem zw:mI BN=⟨10,40⟩:=by
 have h1:(mI BN).lo=10:=by decide +kernel
 have h2:(mI BN).hi=40:=by decide +kernel
 cases h:mI BN;rw [h]at h1 h2;simp only at h1 h2;rw [h1,h2]
theorem ae0:aY Wy [.agg [.sl 1 [[.int .i64 0],[.int .i64 10],[.int .i64 20]],.sl 1 [[.int .i64 0],[.int .i64 5]],.sl 1 [[.sl 1 [[.int .i64 0],[.int .i64 10]]],[.sl 1 [[.int .i64 20],[.int .i64 30]]],[.sl 1 [[.int .i64 10],[.int .i64 50]]]]],.agg [.int .i64 5,.int .i64 15],.agg [.int .i64 0,.int .i64 5]]=BN:=aA LN BN
noncomputable abbrev adi:aB:=bS (D:=Unit) (fun _=>[]) (fun _=>True) fun _=>.bool true
noncomputable abbrev E27:=EV [(59,.pure Ig)] [] 2700 25
theorem b27:af E27 [] Tryz.f27 adi:=pb <| by
 rintro⟨⟩ _;have hP:TbP BN.t:=⟨by decide,by decide,by decide⟩
 have h1:=aeZ;have h2:(mI BN).row=[.int .i64 10,.int .i64 40]:=by rw [zw];rfl
 have hd:=ae0;have hE:Wy BN=[.agg [.sl 1 [[.int .i64 0],[.int .i64 10],[.int .i64 20]],.sl 1 [[.int .i64 0],[.int .i64 5]],.sl 1 [[.sl 1 [[.int .i64 0],[.int .i64 10]]],[.sl 1 [[.int .i64 20],[.int .i64 30]]],[.sl 1 [[.int .i64 10],[.int .i64 50]]]]],.agg [.int .i64 5,.int .i64 15],.agg [.int .i64 0,.int .i64 5]]:=rfl;have e1:BN.t.xs=[0,10,20]:=rfl;have e2:BN.t.ys=[0,5]:=rfl;have e3:BN.t.vs=[[0,10],[20,30],[10,50]]:=rfl;have e4:BN.a.lo=5:=rfl;have e5:BN.a.hi=15:=rfl;have e6:BN.b.lo=0:=rfl;have e7:BN.b.hi=5:=rfl;have e8:(mI BN).lo=10:=by rw [zw]
 have e9:(mI BN).hi=40:=by rw [zw]
 generalize BN=D at *;simp -dsimp [Tryz.f27,E27];repeat' first|omega|simp -dsimp [E27,hd,hP,h1,e1,e2,e3,e4,e5,e6,e7,e8,e9,ri,rwI,ints,Sp.row]|apply aI|apply nI|intro
theorem adf:FO 27 adi:=pf b27 (.cons anr .nil)
end Go.Sx.y9
end
end
