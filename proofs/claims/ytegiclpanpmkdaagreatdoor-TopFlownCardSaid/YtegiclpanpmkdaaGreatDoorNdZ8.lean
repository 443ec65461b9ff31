/- TopFlown: for every input the law returns true, and its input reads as it did; its package variables v4 what the program's text lays. No conditions. -/
import Derived.Test.YtegiclpanpmkdaaGreatDoorRows
import Derived.Test.YtegiclpanpmkdaaGreatDoorTie
import Derived.Test.YtegiclpanpmkdaaGreatDoorCards
import Derived.Test.YtegiclpanpmkdaaGreatDoorR61
import Derived.Test.YtegiclpanpmkdaaGreatDoorR55
import Derived.Lay
import Derived.SevenTiedAt
set_option linter.all false
set_option maxRecDepth 100000
set_option maxHeartbeats 8000000
noncomputable section
namespace Go.Proofs.YtegiclpanpmkdaaGreatDoor
open Go.Sx Go.ChangeShapes Go.WideShapes Go.ChangeAt Go.RowKit

theorem TopFlown_lifted(os:Os)(started:os.Started)(H:Type)(enc:TypeId × Value->H) :
  ReturnsInHanded {} Tryz.checked os 8 .any (fun w args=>(Rows.topFlownSpec.pre enc Tryz.prog Tryz.f8 Rows.topFlownRow.domain false w args/\laidMetH Tryz.prog Rows.topFlownRow.laid w)/\sizedMet enc Tryz.prog Tryz.f8 (OpenSpec.ofChange Rows.topFlownSpec) false w args)
   (Rows.topFlownSpec.post enc Tryz.prog Tryz.f8 false true false false):=by
 refine yF (C:=Tryz.checked) (fn:=Tryz.f8) (S:=Fln.ayn) (X:=fun w _=>laidMetH Tryz.prog Rows.topFlownRow.laid w) started 8 4 (fun _ _ _ hh h=>h.of_heap hh) (fun w _ h=>yG h) (by kernel_rfl) (by kernel_rfl) (by kernel_rfl) (by kernel_rfl) Fln.ok8 rfl ?_ rfl (by kernel_rfl) (by kernel_rfl) ?_
  (ChangeSpec.witness_shaped (enc:=enc) (C:=Tryz.checked) (os:=os) (X:=fun w _=>laidMetH Tryz.prog Rows.topFlownRow.laid w) false (World.laidAll Tryz.prog os Rows.topFlownRow.laid) #[.agg #[.int .i64 0,.int .i64 0,.int .i64 0,.int .i64 0,.int .i64 0,.int .i64 0,.int .i64 0,.bool false,.bool false,.int .i64 0,.int .i64 0,.int .i64 0,.slice none 0 0,.slice none 0 0,.int .i64 0,.int .i64 0,.int .i64 0,.bool false,.bool false,.slice none 0 0,.slice none 0 0,.slice none 0 0,.int .i64 0,.slice none 0 0,.slice none 0 0,.slice none 0 0,.int .i64 0,.int .i64 0,.int .i64 0,.int .i64 0,.int .i64 0,.slice none 0 0,.slice none 0 0,.slice none 0 0,.int .i64 0,.int .i64 0,.int .i64 0,.int .i64 0,.slice none 0 0],.slice none 0 0] 8 (World.laidAll_os _ _ _)
   (World.shaped_of_ZipB (by kernel_rfl) (by kernel_rfl)) (by kernel_rfl) (by kernel_rfl) (by kernel_rfl)
   (by rw [MakeChecks.laidMetH_plain _ _ _ (by kernel_rfl)];exact laidMet_laidAll _ (by kernel_rfl) (by kernel_rfl)))
 ·intro ds hd;have hd':ds.length=2:=hd
  match ds,hd' with
  | [d0,d1],_=>rfl
 ·intro xs hl hx;have hl':xs.length=2:=hl
  match xs,hl' with
  | [x0,x1],_=>
   obtain⟨v0,h0,f0⟩:=yH (g:=1) (hx 0 46 x0 rfl rfl);obtain⟨v1,h1,l0⟩:=CQ (g:=5) (hx 1 47 x1 rfl rfl);exact⟨⟨v0,v1⟩,⟨f0,l0⟩,rfl,by subst h0 h1;rfl⟩
theorem TopFlown_closed:joinedFacts Tryz.prog 8 Tryz.f8 Rows.topFlownSpec Rows.topFlownRow=true:=by
 unfold joinedFacts;repeat' with_reducible refine Bool.and_eq_true_iff.2 ⟨?_,?_⟩
 all_goals as_aux_lemma=>kernel_rfl
theorem TopFlown_said:Rows.TopFlownSaid:=
 OpenClaim.holds_of_wide 8 Tryz.f8 rfl rfl rfl rfl rfl rfl rfl ⟨rfl,rfl,rfl,rfl,rfl⟩ rfl rfl rfl rfl rfl (by kernel_rfl) (by kernel_rfl) TopFlown_closed
  (of_decide_eq_true (by kernel_rfl)) (by unfold Func.isWrapper;first|(rw [if_pos (by decide +kernel)];kernel_rfl)|(rw [if_neg (by decide +kernel)];exact⟨rfl,rfl⟩))
  (fun os started H enc _=>TopFlown_lifted os started H enc)
theorem TopFlown_holds:Rows.TopFlownCardSaid:=
 Claim7.holds_tied_plain_at .later [] [.data,.data] true Rows.topFlownCard.stood.harness false
  TopFlown_said (fun _ h=>by cases h) (by as_aux_lemma=>kernel_rfl) (fun _ h=>by cases h) topFlown_row_tie rfl ⟨rfl,rfl⟩ (by as_aux_lemma=>kernel_rfl) rfl
  (fun f fn hf v3=>by
   obtain rfl:f=8:=Option.some.inj ((show Tryz.prog.funcNamed Rows.topFlownRow.func=some 8 by as_aux_lemma=>kernel_rfl).symm.trans hf) |>.symm;obtain rfl:fn=Tryz.f8:=(Option.some.inj ((show Tryz.prog.funcs[8]?=some Tryz.f8 by as_aux_lemma=>kernel_rfl).symm.trans v3)).symm;exact⟨by as_aux_lemma=>kernel_rfl,fun j t ht=>by
    have v2:(Tryz.f8.params.toList.all fun t=>!Tryz.prog.wantsStandIn t)=true:=(by as_aux_lemma=>kernel_rfl);have hm:t∈Tryz.f8.params.toList:=by obtain⟨h,e⟩:=Array.getElem?_eq_some_iff.1 ht;rw [<-e];exact Array.mem_toList_iff.2 (Array.getElem_mem h)
    have:=List.all_eq_true.1 v2 t hm;exact(show Tryz.prog.wantsStandIn t=false by simpa using this)⟩)
  (by as_aux_lemma=>kernel_rfl)
#print axioms TopFlown_holds
end Go.Proofs.YtegiclpanpmkdaaGreatDoor
end
