/- Fleet: the cells of a fleet. No conditions. -/
import Derived.Test.YtfhdpblkdgmnfaaGreatDoorP23
import Derived.Test.YtfhdpblkdgmnfaaGreatDoorP19
import Derived.Test.YtfhdpblkdgmnfaaGreatDoorP29
import Derived.Test.YtfhdpblkdgmnfaaGreatDoorP30
import Derived.Test.YtfhdpblkdgmnfaaGreatDoorP18
set_option linter.unusedSimpArgs false
set_option linter.unusedVariables false
set_option linter.unusedSectionVars false
set_option maxRecDepth 100000
set_option maxHeartbeats 8000000
noncomputable section
namespace Go.Sx
open Go.Proofs
@[simp] theorem fl_len (f:Fl):f.row.length=39:=rfl
@[simp] theorem fl_met (f:Fl):f.row.take 14=f.met.row:=rfl
@[simp] theorem fl_mn (f:Fl):(f.row.drop 14).take 5=f.mn.row:=rfl
@[simp] theorem fl_reg (f:Fl):(f.row.drop 20).take 4=f.reg.row:=rfl
@[simp] theorem fl_ros (f:Fl):(f.row.drop 25).take 6=f.ros.row:=rfl
@[simp] theorem fl_all (f:Fl):f.row.take 39=f.row:=rfl
@[simp] theorem fl_0 (f:Fl):f.row[0]?=some (.int .i64 f.met.n):=rfl
@[simp] theorem fl_12 (f:Fl):f.row[12]?=some (.sl 12 (f.met.fs.map Fc.row)):=rfl
@[simp] theorem fl_13 (f:Fl):f.row[13]?=some (.sl 7 (f.met.ss.map Sg.row)):=rfl
@[simp] theorem fl_19 (f:Fl):f.row[19]?=some (.sl 3 (f.net.map Leg.row)):=rfl
@[simp] theorem fl_22 (f:Fl):f.row[22]?=some (.int .i64 f.reg.machines):=rfl
@[simp] theorem fl_24 (f:Fl):f.row[24]?=some (.sl 4 (f.wks.map Wk.row)):=rfl
@[simp] theorem fl_25 (f:Fl):f.row[25]?=some (.sl 3 (f.ros.ppl.map Pn.row)):=rfl
@[simp] theorem fl_28 (f:Fl):f.row[28]?=some (.int .i64 f.ros.win):=rfl
@[simp] theorem fl_29 (f:Fl):f.row[29]?=some (.int .i64 f.ros.tot):=rfl
@[simp] theorem fl_31 (f:Fl):f.row[31]?=some (.sl 3 (f.dus.map Du.row)):=rfl
@[simp] theorem fl_32 (f:Fl):f.row[32]?=some (.sl 1 (f.bas.map ri)):=rfl
@[simp] theorem fl_33 (f:Fl):f.row[33]?=some (.sl 1 (f.cra.map ri)):=rfl
@[simp] theorem fl_34 (f:Fl):f.row[34]?=some (.int .i64 f.turn):=rfl
@[simp] theorem fl_35 (f:Fl):f.row[35]?=some (.int .i64 f.hour):=rfl
@[simp] theorem fl_36 (f:Fl):f.row[36]?=some (.int .i64 f.cov):=rfl
@[simp] theorem fl_37 (f:Fl):f.row[37]?=some (.int .i64 f.unt):=rfl
@[simp] theorem fl_38 (f:Fl):f.row[38]?=some (.sl 5 (f.jobs.map Jb.row)):=rfl
@[simp] theorem fl_leaf (f:Fl):f.row.all V.leaf=true:=rfl
@[simp] theorem fl_cell (f:Fl):f.row.all V.cell1=true:=rfl
@[simp] theorem fl_free (f:Fl):f.row.all V.refFree=true:=rfl
@[simp] theorem fl_free1 (f:Fl):f.row.all V.refFree1=true:=rfl
@[simp] theorem fl_lend (h:Hp) (f:Fl):lends1 h f.row=(True,f.row):=by simp [Fl.row,Met.row,Wt.row,Reg.row,Ro.row,pplV,lends1,lend1,lendN]
@[simp] theorem fl_subs (f:Fl):subs0 f.row f.row=True:=eq_true (subs0_refl _)
@[simp] theorem mn_len (f:Wt):f.row.length=5:=rfl
@[simp] theorem mn_leaf (f:Wt):f.row.all V.leaf=true:=rfl
@[simp] theorem mn_cell (f:Wt):f.row.all V.cell1=true:=rfl
@[simp] theorem mn_free (f:Wt):f.row.all V.refFree=true:=rfl
@[simp] theorem mn_free1 (f:Wt):f.row.all V.refFree1=true:=rfl
@[simp] theorem mn_lend (h:Hp) (f:Wt):lends1 h f.row=(True,f.row):=by simp [Wt.row,lends1,lend1,lendN]
@[simp] theorem mn_subs (f:Wt):subs0 f.row f.row=True:=eq_true (subs0_refl _)
@[simp] theorem reg_len (f:Reg):f.row.length=4:=rfl
@[simp] theorem reg_leaf (f:Reg):f.row.all V.leaf=true:=rfl
@[simp] theorem reg_cell (f:Reg):f.row.all V.cell1=true:=rfl
@[simp] theorem reg_free (f:Reg):f.row.all V.refFree=true:=rfl
@[simp] theorem reg_free1 (f:Reg):f.row.all V.refFree1=true:=rfl
@[simp] theorem reg_lend (h:Hp) (f:Reg):lends1 h f.row=(True,f.row):=by simp [Reg.row,lends1,lend1,lendN]
@[simp] theorem reg_subs (f:Reg):subs0 f.row f.row=True:=eq_true (subs0_refl _)
@[simp] theorem ros_len (f:Ro):f.row.length=6:=rfl
@[simp] theorem ros_leaf (f:Ro):f.row.all V.leaf=true:=rfl
@[simp] theorem ros_cell (f:Ro):f.row.all V.cell1=true:=rfl
@[simp] theorem ros_free (f:Ro):f.row.all V.refFree=true:=rfl
@[simp] theorem ros_free1 (f:Ro):f.row.all V.refFree1=true:=rfl
@[simp] theorem ros_lend (h:Hp) (f:Ro):lends1 h f.row=(True,f.row):=by simp [Ro.row,pplV,lends1,lend1,lendN]
@[simp] theorem ros_subs (f:Ro):subs0 f.row f.row=True:=eq_true (subs0_refl _)
def fS (f:Fl):Site:={base:=0,blks:=[{z:=39,els:=[f.row],ty:=46,fz:=true}]}
theorem mmE_dec0 (m:Met) (l:Mn):decC mmE [.agg m.row,.agg l.row]=(m,l):=decC_eq mmE_inj (m,l)
theorem moE_dec0 (m:Met) (l:Mn) (p t:Int):decC moE [.agg m.row,.agg l.row,.int .i64 p,.int .i64 t]=(m,l,p,t):=decC_eq moE_inj (m,l,p,t)
theorem rmE_dec0 (r:Reg) (l:List Wk) (m c:Int):decC rmE [.agg r.row,.sl 4 (l.map Wk.row),.int .i64 m,.int .i64 c]=⟨r,l,m,c⟩:=decC_eq rmE_inj ⟨r,l,m,c⟩
theorem chE_dec0 (r:Ro) (l:List Du):decC chE [.agg r.row,.sl 3 (l.map Du.row)]=(r,l):=decC_eq chE_inj (r,l)
@[simp] theorem mn_take (f:Wt):f.row.take 5=f.row:=rfl
@[simp] theorem reg_take (f:Reg):f.row.take 4=f.row:=rfl
@[simp] theorem ros_take (f:Ro):f.row.take 6=f.row:=rfl
@[simp] theorem ros_0 (f:Ro):f.row[0]?=some (.sl 3 (f.ppl.map Pn.row)):=rfl
@[simp] theorem cl_len (f:Cl):f.row.length=4:=rfl
@[simp] theorem cl_take (f:Cl):f.row.take 4=f.row:=rfl
@[simp] theorem cl_leaf (f:Cl):f.row.all V.leaf=true:=rfl
@[simp] theorem cl_cell (f:Cl):f.row.all V.cell1=true:=rfl
@[simp] theorem cl_free (f:Cl):f.row.all V.refFree=true:=rfl
@[simp] theorem cl_free1 (f:Cl):f.row.all V.refFree1=true:=rfl
@[simp] theorem cl_lend (h:Hp) (f:Cl):lends1 h f.row=(True,f.row):=by simp [Cl.row,lends1,lend1,lendN]
@[simp] theorem cl_subs (f:Cl):subs0 f.row f.row=True:=eq_true (subs0_refl _)
theorem rrE_dec0 (r:Ro) (l:List Du) (n a b:Int):decC rrE [.agg r.row,.sl 3 (l.map Du.row),.agg [.int .i64 n,.int .i64 a,.int .i64 b]]=(r,l,⟨n,a,b⟩):=decC_eq rrE_inj (r,l,⟨n,a,b⟩)
theorem whE_dec0 (r:Ro) (l:List Du) (n:Int) (c:Cl):decC whE [.agg r.row,.sl 3 (l.map Du.row),.int .i64 n,.agg c.row]=(r,l,n,c):=decC_eq whE_inj (r,l,n,c)
theorem clE_dec0 (c:Cl):decC clE [.agg c.row]=c:=decC_eq clE_inj c
def roS (r:Ro):Site:={base:=0,blks:=[{z:=6,els:=[r.row],ty:=41,fz:=true}]}
def clS (c:Cl):Site:={base:=0,blks:=[{z:=4,els:=[c.row],ty:=61,fz:=true}]}
@[simp] def flV (f:Fl):V:=.agg f.row
@[simp] def flOE (f:Fl):List V:=[.agg f.row]
theorem flOE_inj (a b:Fl) (h:flOE a=flOE b):a=b:=Fl.row_inj _ _ (by simpa [flOE]using h)
theorem flOE_dec (f:Fl):decC flOE [.agg f.row]=f:=decC_eq flOE_inj f
@[simp] def flnE (d:Fl × Int):List V:=[.agg d.1.row,.int .i64 d.2]
theorem flnE_inj (a b:Fl × Int) (h:flnE a=flnE b):a=b:=by
 obtain⟨a1,a2⟩:=a; obtain⟨b1,b2⟩:=b
 simp only [flnE,List.cons.injEq,V.int.injEq,V.agg.injEq,true_and,and_true]at h
 rw [Fl.row_inj _ _ h.1,h.2]
theorem flnE_dec (f:Fl) (n:Int):decC flnE [.agg f.row,.int .i64 n]=(f,n):=decC_eq flnE_inj (f,n)
@[simp] def fl2E (d:Fl × Int × Int):List V:=[.agg d.1.row,.int .i64 d.2.1,.int .i64 d.2.2]
theorem fl2E_inj (a b:Fl × Int × Int) (h:fl2E a=fl2E b):a=b:=by
 obtain⟨a1,a2,a3⟩:=a; obtain⟨b1,b2,b3⟩:=b
 simp only [fl2E,List.cons.injEq,V.int.injEq,V.agg.injEq,true_and,and_true]at h
 rw [Fl.row_inj _ _ h.1,h.2.1,h.2.2]
theorem fl2E_dec (f:Fl) (n m:Int):decC fl2E [.agg f.row,.int .i64 n,.int .i64 m]=(f,n,m):=decC_eq fl2E_inj (f,n,m)
@[simp] def flpE (d:Fl × List Sr):List V:=[.agg d.1.row,.sl 4 (d.2.map Sr.row)]
theorem flpE_inj (a b:Fl × List Sr) (h:flpE a=flpE b):a=b:=by
 obtain⟨a1,a2⟩:=a; obtain⟨b1,b2⟩:=b
 simp only [flpE,List.cons.injEq,V.sl.injEq,V.agg.injEq,true_and,and_true]at h
 rw [Fl.row_inj _ _ h.1,mapRow_inj Sr.row_inj h.2]
theorem flpE_dec (f:Fl) (l:List Sr):decC flpE [.agg f.row,.sl 4 (l.map Sr.row)]=(f,l):=decC_eq flpE_inj (f,l)
@[simp] def flp2E (d:Fl × List Sr × Int × Int):List V:=[.agg d.1.row,.sl 4 (d.2.1.map Sr.row),.int .i64 d.2.2.1,.int .i64 d.2.2.2]
theorem flp2E_inj (a b:Fl × List Sr × Int × Int) (h:flp2E a=flp2E b):a=b:=by
 obtain⟨a1,a2,a3,a4⟩:=a; obtain⟨b1,b2,b3,b4⟩:=b
 simp only [flp2E,List.cons.injEq,V.sl.injEq,V.int.injEq,V.agg.injEq,true_and,and_true]at h
 rw [Fl.row_inj _ _ h.1,mapRow_inj Sr.row_inj h.2.1,h.2.2.1,h.2.2.2]
theorem flp2E_dec (f:Fl) (l:List Sr) (n m:Int):decC flp2E [.agg f.row,.sl 4 (l.map Sr.row),.int .i64 n,.int .i64 m]=(f,l,n,m):=decC_eq flp2E_inj (f,l,n,m)
end Go.Sx
end
