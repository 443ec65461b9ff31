/- TopLess: for every input the law returns true, and its input reads as it did; its package variables v5 what the program's text lays. No conditions. -/
import Derived.Test.YtegiclpanpmkdaaGreatDoorRows
import Derived.Test.YtegiclpanpmkdaaGreatDoorTie
import Derived.Test.YtegiclpanpmkdaaGreatDoorCards
import Derived.Test.YtegiclpanpmkdaaGreatDoorR62
import Derived.Test.YtegiclpanpmkdaaGreatDoorR55
import Derived.Lay
import Derived.SevenTiedAt
set_option linter.all false
set_option maxRecDepth 100000
set_option maxHeartbeats 8000000
noncomputable section
namespace Go.Proofs.YtegiclpanpmkdaaGreatDoor
open Go.Sx Go.ChangeShapes Go.WideShapes Go.ChangeAt Go.RowKit

theorem TopLess_lifted(os:Os)(started:os.Started)(H:Type)(enc:TypeId × Value->H) :
  ReturnsInHanded {} Tryz.checked os 9 .any (fun w args=>(Rows.topLessSpec.pre enc Tryz.prog Tryz.f9 Rows.topLessRow.domain false w args/\laidMetH Tryz.prog Rows.topLessRow.laid w)/\sizedMet enc Tryz.prog Tryz.f9 (OpenSpec.ofChange Rows.topLessSpec) false w args)
   (Rows.topLessSpec.post enc Tryz.prog Tryz.f9 false true false false):=by
 refine yF (C:=Tryz.checked) (fn:=Tryz.f9) (S:=Les.ayn) (X:=fun w _=>laidMetH Tryz.prog Rows.topLessRow.laid w) started 8 4 (fun _ _ _ hh h=>h.of_heap hh) (fun w _ h=>yG h) (by kernel_rfl) (by kernel_rfl) (by kernel_rfl) (by kernel_rfl) Les.ok9 rfl ?_ rfl (by kernel_rfl) (by kernel_rfl) ?_
  (ChangeSpec.witness_shaped (enc:=enc) (C:=Tryz.checked) (os:=os) (X:=fun w _=>laidMetH Tryz.prog Rows.topLessRow.laid w) false (World.laidAll Tryz.prog os Rows.topLessRow.laid) #[.agg #[.int .i64 0,.int .i64 0,.int .i64 0,.int .i64 0,.int .i64 0,.int .i64 0,.int .i64 0,.bool false,.bool false,.int .i64 0,.int .i64 0,.int .i64 0,.slice none 0 0,.slice none 0 0,.int .i64 0,.int .i64 0,.int .i64 0,.bool false,.bool false,.slice none 0 0,.slice none 0 0,.slice none 0 0,.int .i64 0,.slice none 0 0,.slice none 0 0,.slice none 0 0,.int .i64 0,.int .i64 0,.int .i64 0,.int .i64 0,.int .i64 0,.slice none 0 0,.slice none 0 0,.slice none 0 0,.int .i64 0,.int .i64 0,.int .i64 0,.int .i64 0,.slice none 0 0],.slice none 0 0,.agg #[.int .i64 0,.int .i64 0,.int .i64 0,.int .i64 0]] 8 (World.laidAll_os _ _ _)
   (World.shaped_of_ZipB (by kernel_rfl) (by kernel_rfl)) (by kernel_rfl) (by kernel_rfl) (by kernel_rfl)
   (by rw [MakeChecks.laidMetH_plain _ _ _ (by kernel_rfl)];exact laidMet_laidAll _ (by kernel_rfl) (by kernel_rfl)))
 ·intro ds hd;have hd':ds.length=3:=hd
  match ds,hd' with
  | [d0,d1,d2],_=>rfl
 ·intro xs hl hx;have hl':xs.length=3:=hl
  match xs,hl' with
  | [x0,x1,x2],_=>
   obtain⟨v0,h0,f0⟩:=yH (g:=1) (hx 0 46 x0 rfl rfl);obtain⟨v1,h1,l0⟩:=CQ (g:=5) (hx 1 47 x1 rfl rfl);obtain⟨v2,h2⟩:=aBx (g:=6) (hx 2 86 x2 rfl rfl);exact⟨⟨⟨v0,v1⟩,v2⟩,⟨⟨f0,l0⟩⟩,rfl,by subst h0 h1 h2;rfl⟩
theorem TopLess_closed:joinedFacts Tryz.prog 9 Tryz.f9 Rows.topLessSpec Rows.topLessRow=true:=by
 unfold joinedFacts;repeat' with_reducible refine Bool.and_eq_true_iff.2 ⟨?_,?_⟩
 all_goals as_aux_lemma=>kernel_rfl
theorem TopLess_said:Rows.TopLessSaid:=
 OpenClaim.holds_of_wide 9 Tryz.f9 rfl rfl rfl rfl rfl rfl rfl ⟨rfl,rfl,rfl,rfl,rfl⟩ rfl rfl rfl rfl rfl (by kernel_rfl) (by kernel_rfl) TopLess_closed
  (of_decide_eq_true (by kernel_rfl)) (by unfold Func.isWrapper;first|(rw [if_pos (by decide +kernel)];kernel_rfl)|(rw [if_neg (by decide +kernel)];exact⟨rfl,rfl⟩))
  (fun os started H enc _=>TopLess_lifted os started H enc)
theorem TopLess_holds:Rows.TopLessCardSaid:=
 Claim7.holds_tied_plain_at .later [] [.data,.data] true Rows.topLessCard.stood.harness false
  TopLess_said (fun _ h=>by cases h) (by as_aux_lemma=>kernel_rfl) (fun _ h=>by cases h) topLess_row_tie rfl ⟨rfl,rfl⟩ (by as_aux_lemma=>kernel_rfl) rfl
  (fun f fn hf v4=>by
   obtain rfl:f=9:=Option.some.inj ((show Tryz.prog.funcNamed Rows.topLessRow.func=some 9 by as_aux_lemma=>kernel_rfl).symm.trans hf) |>.symm;obtain rfl:fn=Tryz.f9:=(Option.some.inj ((show Tryz.prog.funcs[9]?=some Tryz.f9 by as_aux_lemma=>kernel_rfl).symm.trans v4)).symm;exact⟨by as_aux_lemma=>kernel_rfl,fun j t ht=>by
    have v3:(Tryz.f9.params.toList.all fun t=>!Tryz.prog.wantsStandIn t)=true:=(by as_aux_lemma=>kernel_rfl);have hm:t∈Tryz.f9.params.toList:=by obtain⟨h,e⟩:=Array.getElem?_eq_some_iff.1 ht;rw [<-e];exact Array.mem_toList_iff.2 (Array.getElem_mem h)
    have:=List.all_eq_true.1 v3 t hm;exact(show Tryz.prog.wantsStandIn t=false by simpa using this)⟩)
  (by as_aux_lemma=>kernel_rfl)
#print axioms TopLess_holds
end Go.Proofs.YtegiclpanpmkdaaGreatDoor
end
