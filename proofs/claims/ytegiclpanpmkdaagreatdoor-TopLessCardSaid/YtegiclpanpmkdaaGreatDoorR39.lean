/- Plain: behind one more flight no machine flies longer; what right plans keep. No conditions. -/
import Derived.Test.YtegiclpanpmkdaaGreatDoorR30
import Derived.Test.YtegiclpanpmkdaaGreatDoorR19
import Derived.Test.YtegiclpanpmkdaaGreatDoorR18
set_option linter.all false
set_option maxRecDepth 100000
set_option maxHeartbeats 8000000
noncomputable section
namespace Go.Sx
theorem aAz{aX:List Bool}{iI:Int}{l:List Int}(hl:∀j:Nat,0<=l.getD j 0/\l.getD j 0<=1000000000)(h:0<=iI/\iI<=100):∀i:Nat,(∀j:Nat,l.getD j 0<=(dX aX iI l i).getD j 0/\(dX aX iI l i).getD j 0<=l.getD j 0+iI)/\∀j:Nat,i<=j->(dX aX iI l i).getD j 0=l.getD j 0
 | 0=>⟨fun j=>by simp only [dX];omega,fun j _=>rfl⟩
 | i+1=>by
  obtain⟨h1,h2⟩:=aAz (aX:=aX) hl h i;have h3:=h2 i (Nat.le_refl _);have h4:=hl i;have hw:eZ (l.getD i 0) iI=l.getD i 0+iI:=aK (by omega) (by omega);have hs:∀(L:List Int) (a:Nat) (v:Int) (j:Nat),(L.set a v).getD j 0=if a=j/\a<L.length then v else L.getD j 0:=fun L a v j=>by
   by_cases e:a=j
   ·subst e;by_cases e2:a<L.length
    ·rw [if_pos ⟨rfl,e2⟩,jX e2]
    ·rw [if_neg (fun h=>e2 h.2),List.set_eq_of_length_le (by omega)]
   ·rw [if_neg (fun h=>e h.1),getD_set_ne e]
  simp only [dX];split
  ·rw [h3,hw];refine⟨fun j=>?_,fun j hj=>?_⟩
   ·rw [hs];split
    ·rename_i g;rw [<-g.1];omega
    ·exact h1 j
   ·rw [hs,if_neg (by omega)];exact h2 j (by omega)
  ·exact⟨h1,fun j hj=>h2 j (by omega)⟩
def Snc(n:Nat)(s:HG):Prop:=∀(k:Nat) (p:PS),s.ps[k]?=some p->∀j:Nat,0<=p.since.getD j 0/\p.since.getD j 0<=100 * (n:Int)
theorem Snc.new(r:aZ):Snc 0 (HG.new r):=by
 intro k p hp;have hp':(r.parts.map (PS.new r))[k]?=some p:=hp;rw [List.getElem?_map]at hp';cases hq:r.parts[k]? with
 | none=>rw [hq]at hp';simp at hp'
 | some q=>
  rw [hq]at hp';simp only [Option.map_some,Option.some.injEq]at hp';subst hp';intro j;have:(PS.new r q).since.getD j 0=0:=by show(List.replicate r.az.length (0:Int)).getD j 0=0;rw [List.getD_eq_getElem?_getD,List.getElem?_replicate];split<;>rfl
  rw [this];omega
theorem Snc.le{n n':Nat}{s:HG}(h:Snc n s)(hn:n<=n'):Snc n' s:=fun k p hp j=>by have:=h k p hp j;omega
theorem Snc.step{n:Nat}{s:HG}(hn:n<=1000000)(h:Snc n s){w:Wk}(hw:s.eu w=true):Snc (n+1) (s.step w):=by
 have v2:s.step w={s.lJ w with wk:=eZ s.wk 1}:=by simp only [HG.step,HG.after,hw,if_true]
 rw [v2];clear v2;have h':=h.le (show n<=n+1 by omega);have v1:∀(m:Nat) (a b:Int),∀(k:Nat) (p':PS),(s.ps.set m {s.ps.getD m default with a:=a,b:=b})[k]?=some p'->∀j:Nat,0<=p'.since.getD j 0/\p'.since.getD j 0<=100 * ((n+1:Nat):Int):=by
  intro m a b k p' hp';rcases cA hp' with⟨rfl,rfl,hl⟩|⟨_,e⟩
  ·have e:s.ps[k]?=some s.ps[k]:=List.getElem?_eq_getElem hl;have hg:s.ps.getD k default=s.ps[k]:=(by simp [List.getD,hl]);rw [hg];intro j;exact h' k _ e j
  ·exact h' k p' e
 by_cases k1:w.kind=1
 ·have hf:s.iN w.a w.b w.c=true:=by simpa [HG.eu,k1]using hw
  simp only [HG.lJ,k1,if_true];simp only [HG.iN,Bool.and_eq_true,decide_eq_true_eq]at hf;obtain⟨f1,f2,f3,f4⟩:=hf;simp only [au,decide_eq_true_eq]at f2 f3;intro k p' hp';have v0:(s.ps.map (kB s.aX w.a w.b w.c))[k]?=some p':=hp';rw [List.getElem?_map]at v0;cases hq:s.ps[k]? with
  | none=>rw [hq]at v0;simp at v0
  | some q=>
   rw [hq]at v0;simp only [Option.map_some,Option.some.injEq]at v0;subst v0;have hL:=h k q hq;unfold kB;by_cases hm:q.a=w.a
   case neg=>rw [if_neg hm];exact h' k q hq
   rw [if_pos hm];intro j;have:=(aAz (aX:=s.aX) (fun j=>⟨(hL j).1,by have:=(hL j).2;omega⟩) f2 s.aX.length).1 j;have:=hL j;simp only;omega
 by_cases k2:w.kind=2
 ·simp only [HG.lJ,k2,Int.reduceEq,if_false,if_true];unfold HG.pN;split<;>exact fun k p' hp'=>v1 w.a.toNat w.b w.c k p' hp'
 by_cases k5:w.kind=5
 ·simp only [HG.lJ,k5,Int.reduceEq,if_false,if_true];intro k p' hp';rcases cA hp' with⟨hk,e,hl⟩|⟨_,e⟩
  ·subst hk;have e2:s.ps[w.a.toNat]?=some s.ps[w.a.toNat]:=List.getElem?_eq_getElem hl;have hg:s.ps.getD w.a.toNat default=s.ps[w.a.toNat]:=(by simp [List.getD,hl]);rw [hg]at e;have hL:=h' _ _ e2;subst e;exact hL
  ·exact h' k p' e
 by_cases k3:w.kind=3
 ·simp only [HG.lJ,k3,Int.reduceEq,if_false,if_true];exact fun k p' hp'=>v1 w.a.toNat (-1) (-1) k p' hp'
 by_cases k4:w.kind=4
 ·simp only [HG.lJ,k4,Int.reduceEq,if_false,if_true];exact h'
 by_cases k6:w.kind=6
 ·simp only [HG.lJ,k6,Int.reduceEq,if_false,if_true];exact fun k p' hp'=>v1 w.a.toNat (-2) (-2) k p' hp'
 ·simp [HG.eu,k1,k2,k5,k3,k4,k6]at hw
theorem aAw{x y:HI}(hr:y.r=x.r)(hi:y.aX=x.aX)(p:PS):∀i,y.fe p i=x.fe p i
 | 0=>by have e:∀z:HI,z.fe p 0=cM (z.r.kinds.getD p.kind.toNat default).hours p.hours:=fun _=>rfl;rw [e,e,hr]
 | i+1=>by
  have e:∀z:HI,z.fe p (i+1)=if z.Ed p i=true then xR (z.fe p i) (cM (z.r.az.getD i default).within (p.since.getD i 0))else z.fe p i:=fun _=>rfl;have e2:y.Ed p i=x.Ed p i:=by unfold HI.Ed;rw [hr,hi]
  rw [e,e,aAw hr hi p i,e2,hr]
theorem aBr{α β:Type}(l:List α)(g:α->β)(p:β->Bool):eB (l.map g) p=eB l fun x=>p (g x):=by simp [eB,List.findIdx?_map,Function.comp_def]
section
variable {x y:HI} {m h c:Int} {aX:List Bool}
theorem aBN(hps:y.ps=x.ps.map (kB aX m h c))(k a b:Int):y.at k a b=x.at k a b:=by unfold HI.at;rw [hps,aBr];congr 1;funext p;unfold oM kB;split<;>rfl
theorem aAJ(hr:y.r=x.r)(hps:y.ps=x.ps.map (kB aX m h c))(n:Int):y.ga n=x.ga n:=by
 have e1:∀k j:Nat,y.emp n k j=x.emp n k j:=fun k j=>by unfold HI.emp;rw [aBN hps]
 have e2:∀k j:Nat,y.eS n k j=x.eS n k j:=fun k j=>by
  induction j with
  | zero=>rfl
  | succ j ih=>simp only [HI.eS,ih,e1]
 have e3:∀k:Nat,y.places k=x.places k:=fun k=>by unfold HI.places;rw [hr]
 have e4:∀k:Nat,y.ej n k=x.ej n k:=fun k=>by
  induction k with
  | zero=>rfl
  | succ k ih=>simp only [HI.ej,ih,e2,e3]
 unfold HI.ga;rw [hr,e4]
theorem aAH(hr:y.r=x.r)(hi:y.aX=x.aX)(hps:y.ps=x.ps.map (kB aX m h c)){n:Int}(hn:n≠m)(lM:Int):y.cE n lM=x.cE n lM:=by
 have eC:∀p,y.iL p=x.iL p:=fun p=>by unfold HI.iL;rw [hr]
 have eT:∀p,y.jt p=x.jt p:=fun p=>by unfold HI.jt;rw [hr,aAw hr hi]
 have key:∀(l:List PS) (most:Int),y.mu n lM (l.map (kB aX m h c)) most=x.mu n lM l most:=fun l=>by
  induction l with
  | nil=>intro most;rfl
  | cons p l ih=>
   intro most;have ha:(kB aX m h c p).a=p.a:=(by unfold kB;split<;>rfl);simp only [List.map_cons,HI.mu,ha];by_cases e:p.a=n
   ·have hp:kB aX m h c p=p:=(by unfold kB;rw [if_neg (by omega)]);rw [if_pos e,if_pos e,hp,eC,eT,ih]
   ·rw [if_neg e,if_neg e,ih]
 unfold HI.cE;rw [aAJ hr hps,hps,key]
end
section
variable {r:aZ} {l:List Wk} {w:Wk}
theorem aAG(h:jA r l=0)(hl:l.length<200)(hk:w.kind=1)(h2:jA r (l++[w])=0):(sP r l).iN w.a w.b w.c=true/\(sP r (l++[w])).i.r=(sP r l).i.r/\(sP r (l++[w])).i.aX=(sP r l).i.aX/\(sP r (l++[w])).i.ps=(sP r l).i.ps.map (kB (sP r l).aX w.a w.b w.c):=by
 have hd:(sP r l).eu w=true:=by
  rw [TS h hl]at h2;cases c:(sP r l).eu w
  ·rw [c]at h2;simp at h2
  ·rfl
 have hf:(sP r l).iN w.a w.b w.c=true:=by simpa [HG.eu,hk]using hd
 have v2:(sP r (l++[w]))={(sP r l).lJ w with wk:=eZ (sP r l).wk 1}:=by rw [aBs];simp only [HG.step,HG.after,hd,if_true]
 refine⟨hf,?_,?_,?_⟩<;>rw [v2]<;>simp only [HG.lJ,hk,if_true]<;>rfl
end
def more(f:Fl)(w:Wk):Fl:={f with ko:=f.ko++[w]}
section
variable {f:Fl} {w:Wk} (v3:jA f.eH f.ko=0) (hl:f.ko.length<200) (hk:w.kind=1) (h2:jA f.eH (f.ko++[w])=0)
include v3 hl hk h2
end
theorem gu.more{f:Fl}(hf:gu f){w:Wk}(h2:jA f.eH (f.ko++[w])=0):gu (more f w):={hf with op:=h2}
end Go.Sx
end
