/- A part of a proof; no conditions. -/
import Derived.Test.YtegiclpanpmkdaaGreatDoorR24
import Derived.Test.YtegiclpanpmkdaaGreatDoorR20
import Derived.Test.YtegiclpanpmkdaaGreatDoorR28
import Derived.Test.YtegiclpanpmkdaaGreatDoorR31
import Derived.Test.YtegiclpanpmkdaaGreatDoorR18
set_option linter.all false
set_option maxRecDepth 100000
set_option maxHeartbeats 8000000
noncomputable section
section
namespace Go.Sx
open Go.Proofs
@[simp] theorem aoi(f:Fl):f.row.length=39:=rfl
@[simp] theorem aoj(f:Fl):f.row.take 14=f.met.row:=rfl
@[simp] theorem aq3(f:Fl):(f.row.drop 14).take 5=f.mn.row:=rfl
@[simp] theorem aok(f:Fl):(f.row.drop 20).take 4=f.eH.row:=rfl
@[simp] theorem aol(f:Fl):(f.row.drop 25).take 6=f.gv.row:=rfl
@[simp] theorem aom(f:Fl):f.row.take 39=f.row:=rfl
@[simp] theorem arQ(f:Fl):f.row[0]?=some (.int .i64 f.met.n):=rfl
@[simp] theorem aq4(f:Fl):f.row[12]?=some (.sl 12 (f.met.fs.map Fc.row)):=rfl
@[simp] theorem aq5(f:Fl):f.row[13]?=some (.sl 7 (f.met.ss.map Sg.row)):=rfl
@[simp] theorem aq6(f:Fl):f.row[19]?=some (.sl 3 (f.Ah.map eN.row)):=rfl
@[simp] theorem aq7(f:Fl):f.row[22]?=some (.int .i64 f.eH.ax):=rfl
@[simp] theorem aq8(f:Fl):f.row[24]?=some (.sl 4 (f.ko.map Wk.row)):=rfl
@[simp] theorem aq9(f:Fl):f.row[25]?=some (.sl 3 (f.gv.bM.map Pn.row)):=rfl
@[simp] theorem ara(f:Fl):f.row[28]?=some (.int .i64 f.gv.win):=rfl
@[simp] theorem arb(f:Fl):f.row[29]?=some (.int .i64 f.gv.tot):=rfl
@[simp] theorem arc(f:Fl):f.row[31]?=some (.sl 3 (f.wF.map Du.row)):=rfl
@[simp] theorem ard(f:Fl):f.row[32]?=some (.sl 1 (f.dU.map ri)):=rfl
@[simp] theorem arf(f:Fl):f.row[33]?=some (.sl 1 (f.lz.map ri)):=rfl
@[simp] theorem arh(f:Fl):f.row[34]?=some (.int .i64 f.turn):=rfl
@[simp] theorem ari(f:Fl):f.row[35]?=some (.int .i64 f.hour):=rfl
@[simp] theorem arj(f:Fl):f.row[36]?=some (.int .i64 f.rU):=rfl
@[simp] theorem ark(f:Fl):f.row[37]?=some (.int .i64 f.gF):=rfl
@[simp] theorem arl(f:Fl):f.row[38]?=some (.sl 5 (f.jobs.map Jb.row)):=rfl
@[simp] theorem alF(f:Fl):f.row.all V.leaf=true:=rfl
@[simp] theorem alG(f:Fl):f.row.all V.dQ=true:=rfl
@[simp] theorem alH(f:Fl):f.row.all V.cD=true:=rfl
@[simp] theorem ajv(f:Fl):f.row.all V.bZ=true:=rfl
@[simp] theorem alI(h:Hp)(f:Fl):dF h f.row=(True,f.row):=by simp [Fl.row,Met.row,Wt.row,aZ.row,Ro.row,bp,dF,av,ak]
@[simp] theorem alJ(f:Fl):pW f.row f.row=True:=eq_true (iJ _)
@[simp] theorem aon(f:Wt):f.row.length=5:=rfl
@[simp] theorem alK(f:Wt):f.row.all V.leaf=true:=rfl
@[simp] theorem alL(f:Wt):f.row.all V.dQ=true:=rfl
@[simp] theorem alM(f:Wt):f.row.all V.cD=true:=rfl
@[simp] theorem ajw(f:Wt):f.row.all V.bZ=true:=rfl
@[simp] theorem alN(h:Hp)(f:Wt):dF h f.row=(True,f.row):=by simp [Wt.row,dF,av,ak]
@[simp] theorem alO(f:Wt):pW f.row f.row=True:=eq_true (iJ _)
@[simp] theorem alP(f:aZ):f.row.length=4:=rfl
@[simp] theorem ajx(f:aZ):f.row.all V.leaf=true:=rfl
@[simp] theorem ajy(f:aZ):f.row.all V.dQ=true:=rfl
@[simp] theorem ajz(f:aZ):f.row.all V.cD=true:=rfl
@[simp] theorem agp(f:aZ):f.row.all V.bZ=true:=rfl
@[simp] theorem ajA(h:Hp)(f:aZ):dF h f.row=(True,f.row):=by simp [aZ.row,dF,av,ak]
@[simp] theorem ajB(f:aZ):pW f.row f.row=True:=eq_true (iJ _)
@[simp] theorem alQ(f:Ro):f.row.length=6:=rfl
@[simp] theorem ajC(f:Ro):f.row.all V.leaf=true:=rfl
@[simp] theorem ajD(f:Ro):f.row.all V.dQ=true:=rfl
@[simp] theorem ajE(f:Ro):f.row.all V.cD=true:=rfl
@[simp] theorem agq(f:Ro):f.row.all V.bZ=true:=rfl
@[simp] theorem ajF(h:Hp)(f:Ro):dF h f.row=(True,f.row):=by simp [Ro.row,bp,dF,av,ak]
@[simp] theorem ajG(f:Ro):pW f.row f.row=True:=eq_true (iJ _)
def fS(f:Fl):Site:={base:=0,ah:=[{z:=39,els:=[f.row],ty:=46,fz:=true}]}
theorem fF(m:Met)(l:Mn):aY mmE [.agg m.row,.agg l.row]=(m,l):=aA K4 (m,l)
theorem ye(m:Met)(l:Mn)(p t:Int):aY moE [.agg m.row,.agg l.row,.int .i64 p,.int .i64 t]=(m,l,p,t):=aA K5 (m,l,p,t)
theorem ta(r:aZ)(l:List Wk)(m c:Int):aY rmE [.agg r.row,.sl 4 (l.map Wk.row),.int .i64 m,.int .i64 c]=⟨r,l,m,c⟩:=aA YU ⟨r,l,m,c⟩
theorem dw(r:Ro)(l:List Du):aY chE [.agg r.row,.sl 3 (l.map Du.row)]=(r,l):=aA Lp (r,l)
@[simp] theorem alR(f:Wt):f.row.take 5=f.row:=rfl
@[simp] theorem ajH(f:aZ):f.row.take 4=f.row:=rfl
@[simp] theorem ajI(f:Ro):f.row.take 6=f.row:=rfl
@[simp] theorem arn(f:Ro):f.row[0]?=some (.sl 3 (f.bM.map Pn.row)):=rfl
@[simp] theorem aoo(f:Cl):f.row.length=4:=rfl
@[simp] theorem alS(f:Cl):f.row.take 4=f.row:=rfl
@[simp] theorem alT(f:Cl):f.row.all V.leaf=true:=rfl
@[simp] theorem alU(f:Cl):f.row.all V.dQ=true:=rfl
@[simp] theorem alV(f:Cl):f.row.all V.cD=true:=rfl
@[simp] theorem ajJ(f:Cl):f.row.all V.bZ=true:=rfl
@[simp] theorem alW(h:Hp)(f:Cl):dF h f.row=(True,f.row):=by simp [Cl.row,dF,av,ak]
@[simp] theorem alX(f:Cl):pW f.row f.row=True:=eq_true (iJ _)
theorem TA(r:Ro)(l:List Du)(n a b:Int):aY Xr [.agg r.row,.sl 3 (l.map Du.row),.agg [.int .i64 n,.int .i64 a,.int .i64 b]]=(r,l,⟨n,a,b⟩):=aA Kt (r,l,⟨n,a,b⟩)
theorem FD(r:Ro)(l:List Du)(n:Int)(c:Cl):aY Yi [.agg r.row,.sl 3 (l.map Du.row),.int .i64 n,.agg c.row]=(r,l,n,c):=aA C9 (r,l,n,c)
theorem FE(c:Cl):aY clE [.agg c.row]=c:=aA Li c
def TB(r:Ro):Site:={base:=0,ah:=[{z:=6,els:=[r.row],ty:=41,fz:=true}]}
def TC(c:Cl):Site:={base:=0,ah:=[{z:=4,els:=[c.row],ty:=212,fz:=true}]}
@[simp] def flV(f:Fl):V:=.agg f.row
@[simp] def Hj(f:Fl):List V:=[.agg f.row]
theorem TD(a b:Fl)(h:Hj a=Hj b):a=b:=Fl.aq _ _ (by simpa [Hj]using h)
theorem fC(f:Fl):aY Hj [.agg f.row]=f:=aA TD f
@[simp] def TE(d:Fl × Int):List V:=[.agg d.1.row,.int .i64 d.2]
theorem TF(a b:Fl × Int)(h:TE a=TE b):a=b:=by obtain⟨a1,a2⟩:=a;obtain⟨b1,b2⟩:=b;simp only [TE,List.cons.injEq,V.int.injEq,V.agg.injEq,true_and,and_true]at h;rw [Fl.aq _ _ h.1,h.2]
theorem zi(f:Fl)(n:Int):aY TE [.agg f.row,.int .i64 n]=(f,n):=aA TF (f,n)
@[simp] def El(d:Fl × Int × Int):List V:=[.agg d.1.row,.int .i64 d.2.1,.int .i64 d.2.2]
theorem TG(a b:Fl × Int × Int)(h:El a=El b):a=b:=by obtain⟨a1,a2,a3⟩:=a;obtain⟨b1,b2,b3⟩:=b;simp only [El,List.cons.injEq,V.int.injEq,V.agg.injEq,true_and,and_true]at h;rw [Fl.aq _ _ h.1,h.2.1,h.2.2]
theorem dS(f:Fl)(n m:Int):aY El [.agg f.row,.int .i64 n,.int .i64 m]=(f,n,m):=aA TG (f,n,m)
@[simp] def yU(d:Fl × List Sr):List V:=[.agg d.1.row,.sl 4 (d.2.map Sr.row)]
theorem TH(a b:Fl × List Sr)(h:yU a=yU b):a=b:=by obtain⟨a1,a2⟩:=a;obtain⟨b1,b2⟩:=b;simp only [yU,List.cons.injEq,V.sl.injEq,V.agg.injEq,true_and,and_true]at h;rw [Fl.aq _ _ h.1,aR Sr.aq h.2]
theorem gO(f:Fl)(l:List Sr):aY yU [.agg f.row,.sl 4 (l.map Sr.row)]=(f,l):=aA TH (f,l)
@[simp] def Fj(d:Fl × List Sr × Int × Int):List V:=[.agg d.1.row,.sl 4 (d.2.1.map Sr.row),.int .i64 d.2.2.1,.int .i64 d.2.2.2]
theorem NJ(a b:Fl × List Sr × Int × Int)(h:Fj a=Fj b):a=b:=by obtain⟨a1,a2,a3,a4⟩:=a;obtain⟨b1,b2,b3,b4⟩:=b;simp only [Fj,List.cons.injEq,V.sl.injEq,V.int.injEq,V.agg.injEq,true_and,and_true]at h;rw [Fl.aq _ _ h.1,aR Sr.aq h.2.1,h.2.2.1,h.2.2.2]
theorem Nu(f:Fl)(l:List Sr)(n m:Int):aY Fj [.agg f.row,.sl 4 (l.map Sr.row),.int .i64 n,.int .i64 m]=(f,l,n,m):=aA NJ (f,l,n,m)
end Go.Sx
end
section
namespace Go.Sx
theorem Rt.most{r:Ro}(hr:r.Fit){l:List Du}(p:Int):∀{n:Nat},n<=l.length->Rt r l n->∀x,wk (own (l.take n) p) x (x+r.win)<=r.tot
 | 0,_,_=>fun x=>by
  have:=hr.tot;have e:wk (own (l.take 0) p) x (x+r.win)=0:=by have:wk ([]:List Du) x (x+r.win)<=0:=Df (l:=[]) (by have:=hr.win;omega) (Int.le_refl 0) (by simp) x;have h2:=vi (kf []) x (x+r.win);have e2:wk ([]:List Du) x (x+r.win)=cn (kf []) x (x+r.win):=rfl;simp only [List.take_zero,own,List.filter_nil];omega
  omega
 | n+1,hn,h=>by
  have ih:=Rt.most hr p (n:=n) (by omega) (fun i hi=>h i (by omega));rw [kY l (by omega)];have hk:=tQ.1 (h n (by omega));change ∀x,wk (own (l.take n++[cz l n]) p) x (x+r.win)<=r.tot;by_cases hp:(cz l n).p=p
  ·have e:own (l.take n++[cz l n]) p=own (l.take n) p++[cz l n]:=(by simp [own,List.filter_append,hp]);rw [e];rw [hp]at hk;exact(FF (by have:=hr.win;omega) (by have:=hr.tot;omega)).1 (awe.1 hk.2.2.2).2.2.1
  ·have e:own (l.take n++[cz l n]) p=own (l.take n) p:=(by simp [own,List.filter_append,hp]);rw [e];exact ih
theorem xB{r:Ro}{l:List Du}(h:(fL r l).2=0):Bi l:=by
 obtain⟨h1,h2,h3⟩:=dN.1 h;have:=Rt.val (Nat.le_refl _) h3
 rwa [List.take_length]at this
section
variable {f:Fl} {any:Bool} {l:List Sr} {s:Sr}
theorem Good.len(hf:gu f)(h:Good f any l):l.length<=30/\(j9 f l).length<=60:=by obtain⟨h1,h2,h3⟩:=dN.1 (h.iV hf);rw [qB]at h2;rw [qB];omega
theorem NL(f:Fl)(m:Int)(l:List Sr){k:Nat}{x:Sr}(h:l[k]?=some x):fA f m (l.take (k+1))=fA f m (l.take k)+if x.m=m then (ew f x).mD else 0:=by rw [List.take_add_one,h];exact qA f m x _
theorem yX(f:Fl)(l:List Sr){k:Nat}{x:Sr}(h:l[k]?=some x):j9 f (l.take (k+1))=j9 f (l.take k)++GV f x:=by rw [List.take_add_one,h];exact TI f _ x
theorem Good.more{k:Nat}(hk:k<l.length)(h:Good f any (l.take k))(hn:wS f (l.take k) (l.getD k default) any=true):Good f any (l.take (k+1)):=by rw [kY l hk];exact h.snoc hn
theorem ad0{k:Nat}(hk:k<l.length)(h:Good f any (l.take k))(hn:wS f (l.take k) (l.getD k default) any=false):YV f l any=k:=by refine cW _ _ (by simpa using hk) (by simp only [List.getElem_range];rw [hn];rfl) fun j _ hj=>?_;simp only [List.getElem_range];have:=h j (by simp;omega);rw [List.take_take,show min j k=j by omega,getD_take hj]at this;rw [this];rfl
end
end Go.Sx
end
end
