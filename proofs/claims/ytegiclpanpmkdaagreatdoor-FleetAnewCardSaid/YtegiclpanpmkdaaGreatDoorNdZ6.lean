/- FleetAnew: for every input the law returns true, and its input reads as it did; its package variables hold what the program's text lays. No conditions. -/
import Derived.Test.YtegiclpanpmkdaaGreatDoorRows
import Derived.Test.YtegiclpanpmkdaaGreatDoorTie
import Derived.Test.YtegiclpanpmkdaaGreatDoorCards
import Derived.Test.YtegiclpanpmkdaaGreatDoorP48
import Derived.Test.YtegiclpanpmkdaaGreatDoorP55
import Derived.Lay
import Derived.SevenTiedAt
set_option linter.all false
set_option maxRecDepth 100000
set_option maxHeartbeats 8000000
noncomputable section
namespace Go.Proofs.YtegiclpanpmkdaaGreatDoor
open Go.Sx Go.ChangeShapes Go.WideShapes Go.ChangeAt Go.RowKit

theorem FleetAnew_lifted (os:Os) (started:os.Started) (H:Type) (enc:TypeId × Value->H) :
  ReturnsInHanded {} Tryz.checked os 6 .any (fun w args=>(Rows.fleetAnewSpec.pre enc Tryz.prog Tryz.f6 Rows.fleetAnewRow.domain false w args/\laidMetH Tryz.prog Rows.fleetAnewRow.laid w)/\sizedMet enc Tryz.prog Tryz.f6 (OpenSpec.ofChange Rows.fleetAnewSpec) false w args)
   (Rows.fleetAnewSpec.post enc Tryz.prog Tryz.f6 false true false false):=by
 refine yF (C:=Tryz.checked) (fn:=Tryz.f6) (S:=avB) (X:=fun w _=>laidMetH Tryz.prog Rows.fleetAnewRow.laid w) started 8 4 (fun _ _ _ hh h=>h.of_heap hh) (fun w _ h=>yG h) (by kernel_rfl) (by kernel_rfl) (by kernel_rfl) (by kernel_rfl) ok6 rfl ?_ rfl (by kernel_rfl) (by kernel_rfl) ?_
  (ChangeSpec.witness_shaped (enc:=enc) (C:=Tryz.checked) (os:=os) (X:=fun w _=>laidMetH Tryz.prog Rows.fleetAnewRow.laid w) false (World.laidAll Tryz.prog os Rows.fleetAnewRow.laid) #[.agg #[.int .i64 0,.int .i64 0,.int .i64 0,.int .i64 0,.int .i64 0,.int .i64 0,.int .i64 0,.bool false,.bool false,.int .i64 0,.int .i64 0,.int .i64 0,.slice none 0 0,.slice none 0 0,.int .i64 0,.int .i64 0,.int .i64 0,.bool false,.bool false,.slice none 0 0,.slice none 0 0,.slice none 0 0,.int .i64 0,.slice none 0 0,.slice none 0 0,.slice none 0 0,.int .i64 0,.int .i64 0,.int .i64 0,.int .i64 0,.int .i64 0,.slice none 0 0,.slice none 0 0,.slice none 0 0,.int .i64 0,.int .i64 0,.int .i64 0,.int .i64 0,.slice none 0 0],.slice none 0 0,.int .i64 0] 8 (World.laidAll_os _ _ _)
   (World.shaped_of_ZipB (by kernel_rfl) (by kernel_rfl)) (by kernel_rfl) (by kernel_rfl) (by kernel_rfl)
   (by rw [MakeChecks.laidMetH_plain _ _ _ (by kernel_rfl)]; exact laidMet_laidAll _ (by kernel_rfl) (by kernel_rfl)))
 ·intro ds hd;have hd':ds.length=3:=hd
  match ds,hd' with
  | [d0,d1,d2],_=>rfl
 ·intro xs hl hx;have hl':xs.length=3:=hl
  match xs,hl' with
  | [x0,x1,x2],_=>
   obtain⟨v0,h0,f0⟩:=yH (g:=1) (hx 0 46 x0 rfl rfl);obtain⟨v1,h1,l0⟩:=CQ (g:=5) (hx 1 47 x1 rfl rfl);obtain⟨v2,h2⟩:=acs (g:=7) (hx 2 3 x2 rfl rfl);exact⟨⟨⟨v0,v1⟩,v2⟩,⟨⟨f0,l0⟩⟩,rfl,by subst h0 h1 h2; rfl⟩
theorem FleetAnew_closed:joinedFacts Tryz.prog 6 Tryz.f6 Rows.fleetAnewSpec Rows.fleetAnewRow=true:=by
 unfold joinedFacts;repeat' with_reducible refine Bool.and_eq_true_iff.2 ⟨?_,?_⟩
 all_goals as_aux_lemma=>kernel_rfl
theorem FleetAnew_said:Rows.FleetAnewSaid:=
 OpenClaim.holds_of_wide 6 Tryz.f6 rfl rfl rfl rfl rfl rfl rfl ⟨rfl,rfl,rfl,rfl,rfl⟩ rfl rfl rfl rfl rfl (by kernel_rfl) (by kernel_rfl) FleetAnew_closed
  (of_decide_eq_true (by kernel_rfl)) (by unfold Func.isWrapper; first|(rw [if_pos (by decide +kernel)]; kernel_rfl)|(rw [if_neg (by decide +kernel)]; exact⟨rfl,rfl⟩))
  (fun os started H enc _=>FleetAnew_lifted os started H enc)
theorem FleetAnew_holds:Rows.FleetAnewCardSaid:=
 Claim7.holds_tied_plain_at .later [] [.data,.data] true Rows.fleetAnewCard.stood.harness false
  FleetAnew_said (fun _ h=>by cases h) (by as_aux_lemma=>kernel_rfl) (fun _ h=>by cases h) fleetAnew_row_tie rfl ⟨rfl,rfl⟩ (by as_aux_lemma=>kernel_rfl) rfl
  (fun f fn hf hfn=>by
   obtain rfl:f=6:=Option.some.inj ((show Tryz.prog.funcNamed Rows.fleetAnewRow.func=some 6 by as_aux_lemma=>kernel_rfl).symm.trans hf) |>.symm;obtain rfl:fn=Tryz.f6:=(Option.some.inj ((show Tryz.prog.funcs[6]?=some Tryz.f6 by as_aux_lemma=>kernel_rfl).symm.trans hfn)).symm;exact⟨by as_aux_lemma=>kernel_rfl,fun j t ht=>by
    have hall:(Tryz.f6.params.toList.all fun t=>!Tryz.prog.wantsStandIn t)=true:=(by as_aux_lemma=>kernel_rfl);have hm:t∈Tryz.f6.params.toList:=by obtain⟨h,e⟩:=Array.getElem?_eq_some_iff.1 ht;rw [<-e]; exact Array.mem_toList_iff.2 (Array.getElem_mem h)
    have:=List.all_eq_true.1 hall t hm;exact(show Tryz.prog.wantsStandIn t=false by simpa using this)⟩)
  (by as_aux_lemma=>kernel_rfl)
#print axioms FleetAnew_holds
end Go.Proofs.YtegiclpanpmkdaaGreatDoor
end
