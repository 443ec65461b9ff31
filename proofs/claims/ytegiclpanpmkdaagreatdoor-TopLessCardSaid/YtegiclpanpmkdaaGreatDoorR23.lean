/- A part of a proof; no conditions. -/
import Derived.Test.YtegiclpanpmkdaaGreatDoorR22
set_option linter.all false
set_option maxRecDepth 100000
set_option maxHeartbeats 8000000
noncomputable section
section
namespace Go.Sx
open Go.Proofs
attribute [local simp] ri aa ints
attribute [local irreducible] bA
noncomputable abbrev ayE:=EV [] [] 29000 15
theorem az0:af ayE [] Tryz.f290 rgS:=pb <| by rintro⟨n,lo,hi⟩ _;simp -dsimp [Tryz.f290,ayE,bQ];repeat' first|omega|simp -dsimp [ayE,bQ]|apply aI|apply nI|intro
theorem azm:FO 290 rgS:=pf az0 .nil
noncomputable abbrev afn:=EV [] [] 10500 15
theorem apT:af afn [] Tryz.f105 rgS:=pb <| by rintro⟨n,lo,hi⟩ _;simp -dsimp [Tryz.f105,afn,bQ];repeat' first|omega|simp -dsimp [afn,bQ]|apply aI|apply nI|intro
theorem L8:FO 105 rgS:=pf apT .nil
theorem aaq(a b:Int):(!jE ⟨a,b⟩)=(bQ a (-1000000) 1000000 && bQ b a 1000000):=by unfold jE bQ;rw [Bool.not_not,Bool.eq_iff_iff];simp;omega
noncomputable abbrev vaS:aB:=bS spE (fun _=>True) fun d=>.bool (!jE d)
theorem zJ(a b:Int):aY spE [.agg [.int .i64 a,.int .i64 b]]=⟨a,b⟩:=aA L9 ⟨a,b⟩
noncomputable abbrev Ny:=EV [(290,.pure rgS)] [] 27200 13
theorem anK:af Ny [] Tryz.f272 vaS:=pb <| by rintro⟨a,b⟩ _;have e:=aaq a b;simp -dsimp [Tryz.f272,Ny,Sp.row];repeat' first|omega|simp -dsimp [Ny,Sp.row,e]|apply aI|apply nI|intro
theorem ai4:FO 272 vaS:=pf anK (.cons azm .nil)
noncomputable abbrev twS:aB:=bS Ir (fun _=>True) fun d=>.int .i64 (if (jE d.1 || jE d.2)=true then 10 else 0)
noncomputable abbrev ayF:=EV [(272,.pure vaS)] [] 31000 13
theorem az1:af ayF [] Tryz.f310 twS:=pb <| by
 rintro⟨⟨a,b⟩,⟨c,d⟩⟩ _;generalize h1:jE ⟨a,b⟩=p;generalize h2:jE ⟨c,d⟩=q;cases p<;>cases q
 all_goals
  simp -dsimp [Tryz.f310,ayF,Sp.row];repeat' first|omega|simp -dsimp [ayF,Sp.row,zJ,h1,h2]|apply aI|apply nI|intro
theorem azn:FO 310 twS:=pf az1 (.cons ai4 .nil)
noncomputable abbrev avA:=EV [(310,.pure twS)] [] 30000 33
theorem az2:af avA [] Tryz.f300 NA:=pb <| by
 rintro⟨⟨a,b⟩,⟨c,d⟩⟩ _;have hE:zg ⟨a,b⟩ ⟨c,d⟩=if (jE ⟨a,b⟩ || jE ⟨c,d⟩)=true then (⟨0,0⟩,10)else if min b d<max a c then (⟨0,0⟩,3)else (⟨max a c,min b d⟩,0):=rfl;generalize hM:max a c=x at *;generalize hN:min b d=y at *;have g1:=K8 a c;have g2:=K9 b d;rw [hM]at g1;rw [hN]at g2;by_cases v0:jE ⟨a,b⟩=true\/jE ⟨c,d⟩=true
 ·rw [if_pos (by simpa using v0)]at hE;have adz:(jE ⟨a,b⟩=true\/jE ⟨c,d⟩=true)=True:=eq_true v0;simp -dsimp [Tryz.f300,avA,Sp.row];repeat' first|omega|simp -dsimp [avA,Sp.row,Gp,adz,hE]|apply aI|apply nI|intro
 ·rw [if_neg (by simpa using v0)]at hE;have v2:jE ⟨a,b⟩=false:=by simpa using fun h=>v0 (.inl h)
  have v3:jE ⟨c,d⟩=false:=by simpa using fun h=>v0 (.inr h)
  by_cases v1:y<x
  ·rw [if_pos v1]at hE;simp -dsimp [Tryz.f300,avA,Sp.row];repeat' first|omega|simp -dsimp [avA,Sp.row,Gp,v2,v3,g1,g2,v1,hE]|apply aI|apply nI|intro
  ·rw [if_neg v1]at hE;simp -dsimp [Tryz.f300,avA,Sp.row];repeat' first|omega|simp -dsimp [avA,Sp.row,Gp,v2,v3,g1,g2,v1,hE]|apply aI|apply nI|intro
theorem azo:FO 300 NA:=pf az2 (.cons azn .nil)
noncomputable abbrev asw:=EV [(272,.pure vaS)] [] 22500 18
theorem auC:af asw [] Tryz.f225 inS:=pb <| by
 rintro⟨⟨a,b⟩,n⟩ _;have e:sA ⟨a,b⟩ n=(!jE ⟨a,b⟩ && decide (0<=a) && decide (b<=n)):=by unfold sA bQ;rw [SX,Bool.eq_iff_iff];simp [jE];omega
 generalize h1:jE ⟨a,b⟩=p at e;cases p
 ·simp -dsimp [Tryz.f225,asw,Sp.row];repeat' first|omega|simp -dsimp [asw,Sp.row,zJ,h1,e]|apply aI|apply nI|intro
 ·simp -dsimp [Tryz.f225,asw,Sp.row];repeat' first|omega|simp -dsimp [asw,Sp.row,zJ,h1,e]|apply aI|apply nI|intro
theorem aug:FO 225 inS:=pf auC (.cons ai4 .nil)
noncomputable abbrev afE:=EV [(225,.pure inS)] [] 16200 16
theorem aqc:af afE [] Tryz.f162 skS:=pb <| by rintro⟨⟨a,b⟩,⟨c,d⟩,⟨x,y⟩,u,v⟩ _;have e:=Ul ⟨⟨a,b⟩,⟨c,d⟩,⟨x,y⟩,u,v⟩;simp only at e;generalize h1:sA ⟨a,b⟩ 300=p1 at e;generalize h2:sA ⟨c,d⟩ 20000=p2 at e;generalize h3:sA ⟨x,y⟩ 20000=p3 at e;simp -dsimp [Tryz.f162,afE,cR.row];repeat' first|omega|simp -dsimp [afE,cR.row,Sp.row,asP,h1,h2,h3,e]|apply aI|apply nI|intro
theorem LB:FO 162 skS:=pf aqc (.cons aug .nil)
noncomputable abbrev vwS:aB:=bS wtE (fun _=>True) fun d=>.bool d.ok
noncomputable abbrev Ud:=EV [(105,.pure rgS)] [] 16300 16
theorem aoE:af Ud [] Tryz.f163 vwS:=pb <| by rintro⟨a,b,c,x,y⟩ _;have e:Wt.ok ⟨a,b,c,x,y⟩=(bQ a 0 300 && bQ b 0 20000 && bQ c 0 20000):=rfl;simp -dsimp [Tryz.f163,Ud,Wt.row];repeat' first|omega|simp -dsimp [Ud,Wt.row,e]|apply aI|apply nI|intro
theorem aby:FO 163 vwS:=pf aoE (.cons L8 .nil)
noncomputable abbrev ctW:aB:=bS Ir (fun _=>True) fun d=>.dB [.agg (eM d.1 d.2).1.row,.bool (eM d.1 d.2).2]
noncomputable abbrev awR:=EV [(300,.pure NA)] [] 29400 18
theorem az3:af awR [] Tryz.f294 ctW:=pb <| by
 rintro⟨⟨a,b⟩,⟨c,d⟩⟩ _;have e:=tI ⟨a,b⟩ ⟨c,d⟩;by_cases he:(zg ⟨a,b⟩ ⟨c,d⟩).2=0
 ·rw [if_pos he]at e;simp -dsimp [Tryz.f294,awR,Sp.row];repeat' first|omega|simp -dsimp [awR,Sp.row,Gp,he,e]|apply aI|apply nI|intro
 ·rw [if_neg he]at e;simp -dsimp [Tryz.f294,awR,Sp.row];repeat' first|omega|simp -dsimp [awR,Sp.row,Gp,he,e]|apply aI|apply nI|intro
theorem ayd:FO 294 ctW:=pf az3 (.cons azo .nil)
@[simp] def Vs(d:cR × cR):List V:=[.agg d.1.row,.agg d.2.row]
theorem Vt(a b:cR × cR)(h:Vs a=Vs b):a=b:=by obtain⟨a1,a2⟩:=a;obtain⟨b1,b2⟩:=b;simp only [Vs,List.cons.injEq,V.agg.injEq,and_true]at h;rw [cR.aq _ _ h.1,cR.aq _ _ h.2]
noncomputable abbrev Vu:aB:=bS Vs (fun _=>True) fun d=>.dB [.agg (pz d.1 d.2).1.row,.bool (pz d.1 d.2).2]
noncomputable abbrev ayG:=EV [(294,.pure ctW)] [] 29200 59
theorem az4:af ayG [] Tryz.f292 Vu:=pb <| by
 rintro⟨⟨⟨a,b⟩,⟨c,d⟩,⟨x,y⟩,u,v⟩,⟨⟨a',b'⟩,⟨c',d'⟩,⟨x',y'⟩,u',v'⟩⟩ _;have e1:(pz ⟨⟨a,b⟩,⟨c,d⟩,⟨x,y⟩,u,v⟩ ⟨⟨a',b'⟩,⟨c',d'⟩,⟨x',y'⟩,u',v'⟩)=(⟨(eM ⟨a,b⟩ ⟨a',b'⟩).1,(eM ⟨c,d⟩ ⟨c',d'⟩).1,(eM ⟨x,y⟩ ⟨x',y'⟩).1,u && u',v && v'⟩,(eM ⟨a,b⟩ ⟨a',b'⟩).2 || (eM ⟨c,d⟩ ⟨c',d'⟩).2 || (eM ⟨x,y⟩ ⟨x',y'⟩).2):=rfl;generalize hA:eM ⟨a,b⟩ ⟨a',b'⟩=A at e1;generalize hB:eM ⟨c,d⟩ ⟨c',d'⟩=B at e1;generalize hC:eM ⟨x,y⟩ ⟨x',y'⟩=C at e1;obtain⟨⟨A1,A2⟩,A3⟩:=A;obtain⟨⟨B1,B2⟩,B3⟩:=B;obtain⟨⟨C1,C2⟩,C3⟩:=C;cases u<;>cases v<;>cases A3<;>cases B3
 all_goals
  simp -dsimp [Tryz.f292,ayG,cR.row];repeat' first|omega|simp -dsimp [ayG,cR.row,Sp.row,Gp,hA,hB,hC,e1]|apply aI|apply nI|intro
theorem azp:FO 292 Vu:=pf az4 (.cons ayd .nil)
noncomputable abbrev ayH:=EV [] [] 29500 17
theorem az5:af ayH [] Tryz.f295 MT:=pb <| by
 rintro⟨n,b,m⟩ ⟨h1,h2,h3⟩;simp only at h1 h2 h3;have w1:=wi (n - b);have w2:=wi (n+b);simp -dsimp [Tryz.f295,ayH,Kq,Sp.row];repeat' first|omega|simp -dsimp [ayH,w1,w2,Kq,Sp.row]|apply aI|apply nI|intro
 all_goals (repeat' split)<;>omega
theorem azq:FO 295 MT:=pf az5 .nil
noncomputable abbrev ayI:=EV [] [] 27700 17
theorem az6:af ayI [] Tryz.f277 wsS:=pb <| by rintro⟨⟨a,b⟩,⟨c,d⟩,⟨e,f⟩,x,y⟩ _;simp -dsimp [Tryz.f277,ayI,cR.row,EH,Wt.row];repeat' first|omega|simp -dsimp [ayI,cR.row,EH,Wt.row]|apply aI|apply nI|intro
theorem aze:FO 277 wsS:=pf az6 .nil
noncomputable abbrev ayJ:=EV [] [] 27600 42
theorem az7:af ayJ [] Tryz.f276 MW:=pb <| by
 rintro⟨⟨a,b,c,x,y⟩,⟨d,e,f,u,v⟩⟩ _;have e1:MU ⟨a,b,c,x,y⟩ ⟨d,e,f,u,v⟩=(decide (a<=d) && decide (e<=b) && decide (f<=c) && (!x || u) && (!y || v)):=rfl;by_cases h1:a<=d<;>by_cases h2:e<=b<;>by_cases h3:f<=c<;>cases x<;>cases u
 all_goals
  simp -dsimp only [h1,h2,h3,decide_true,decide_false,Bool.true_and,Bool.false_and,Bool.not_true,Bool.not_false,Bool.true_or,Bool.false_or,Bool.and_true,Bool.and_false]at e1;simp -dsimp [Tryz.f276,ayJ,Wt.row];repeat' first|omega|simp -dsimp [ayJ,Wt.row,h1,h2,h3,e1]|apply aI|apply nI|intro
theorem azf:FO 276 MW:=pf az7 .nil
structure MlP (d:Met × Int × Int):Prop where
 f:d.1.fs.length<=1000
 s:d.1.ss.length<=1000
end Go.Sx
end
end
