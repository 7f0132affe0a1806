/- The law FnLieOther. No condition. -/
import Derived.Test.YtokgbpkbaoeeoaaGreatDoorG10
import Derived.Test.YtokgbpkbaoeeoaaGreatDoorHeard
import Derived.Test.YtokgbpkbaoeeoaaGreatDoorEnter
import Derived.Test.YtokgbpkbaoeeoaaGreatDoorMake
set_option maxRecDepth 100000
set_option maxHeartbeats 8000000
namespace Go.Proofs.YtokgbpkbaoeeoaaGreatDoor.lawot
open Go.RowKit Go.ChangeShapes Go.WideShapes Go.ChangeAt
theorem lifted (os:Os) (started:os.Started) (H:Type) (enc:TypeId×Value->H) :
  ReturnsInLeavingWide {} Tryz.checked os 3 .any (λw args=>(Rows.fnLieOtherSpec.pre enc Tryz.prog Tryz.f3 Rows.fnLieOtherRow.domain false w args/\laidMetH Tryz.prog laidL w)/\sizedMet enc Tryz.prog Tryz.f3 (OpenSpec.ofChange Rows.fnLieOtherSpec) false w args) (Rows.fnLieOtherSpec.post enc Tryz.prog Tryz.f3 false true false false):=by
 refine xh xF xv (X:=λw _=>laidMetH Tryz.prog laidL w) (λ_ _ _ hh h=>h.of_heap hh) own started (by kernel_rfl) Tryz.func3 qF3 (by unfold gH;kernel_rfl) Tryz.results3 xM (by kernel_rfl) rfl Tryz.underlying4 (by kernel_rfl) (λds gs hl hg=> ?_)
  (ChangeSpec.witness_shaped (enc:=enc) (C:=Tryz.checked) (os:=os) (X:=λw _=>laidMetH Tryz.prog laidL w) false (World.laidAll Tryz.prog os laidL) #[.slice none 0 0,.slice none 0 0] 8 (World.laidAll_os _ _ _) (World.shaped_of_ZipB (by kernel_rfl) (by kernel_rfl)) (by kernel_rfl) (by kernel_rfl) (by kernel_rfl) (xG os _)) ?_
 .match ds,hl,gs,hg with
  |[_,_],_,[_,_],_=>rfl
 intro W base args ds p hval0 hA hlt hX;have hval:∀(j:Nat) t v,Tryz.f3.params[j]?=some t->args[j]?=some v->Value.okWide Tryz.prog W .any base t v:=hval0;rw[Tryz.params3] at hA hval;obtain⟨v0,v1,d0,d1,p0,p1,rfl,rfl,rfl,h0,h1⟩:=trodAll_two hA;obtain⟨a0_0,r0⟩:=we (hval 0 22 v0 rfl rfl) h0 (by first|exact hlt|exact λx hx=>hlt x (by simp[hx]));obtain⟨a1_0,r1⟩:=we (hval 1 22 v1 rfl rfl) h1 (by first|exact hlt|exact λx hx=>hlt x (by simp[hx]));exact xN hX (hval 0 22 v0 rfl rfl) (hval 1 22 v1 rfl rfl) r0 r1 (λw hg h0 h1=>walk hg a0_0 a1_0 h0 h1 w)
theorem factsHold:joinedFacts Tryz.pinned.checked.prog 3 Tryz.f3 Rows.fnLieOtherSpec Rows.fnLieOtherRow=true:=by
 unfold joinedFacts;rw[liftsFinal,mayEnter,makeIs]
 kernel_rfl
theorem proved:Rows.FnLieOtherSaid:=
 OpenClaim.holds_of_wide_leaving 3 Tryz.f3 rfl rfl rfl rfl rfl rfl rfl ⟨rfl,rfl,rfl,rfl,rfl⟩ rfl rfl rfl rfl rfl (by kernel_rfl) Tryz.func3 factsHold
  (sZ (by kernel_rfl)) (by unfold Func.isWrapper;first|(rw[du (by decide+kernel)];kernel_rfl)|(rw[be (by decide+kernel)];exact⟨rfl,rfl⟩))
  (λos started H enc _=>lifted os started H enc)
theorem goes_:true=Rows.fnLieOtherRow.goesBy Tryz.pinned.checked.prog:=by kernel_rfl
theorem wf_:Rows.fnLieOtherRow.wfByText (OpenSpec.ofChange Rows.fnLieOtherSpec)=true:=by kernel_rfl
theorem named_:Tryz.prog.funcNamed "loop.example/depositary/laws.FnLieOther" =some 3:=by kernel_rfl
theorem wants_:(Tryz.f3.params.toList.all λu=>!Tryz.prog.wantsStandIn u)=true:=by kernel_rfl
theorem carded:Rows.FnLieOtherCardSaid:=
 xy .later [] [.data,.sentinel,.sentinel,.pinned] true (true, "6fd9bce905e188d4ecec166b82026233179ea897e70883651107d0e060ad50b0") false
  proved (λ_ h=>by cases h) wf_ (λ_ h=>by cases h) fnLieOther_row_tie rfl ⟨rfl,rfl⟩ xL rfl
  (λf fn hf hfn=>by
   obtain rfl:f=3:=dq (named_.symm.trans hf) |>.symm
   obtain rfl:fn=Tryz.f3:=(dq (Tryz.func3.symm.trans hfn)).symm;exact⟨yn,λj t ht=>by
    rw[Tryz.params3] at ht;have hm:t∈Tryz.f3.params.toList:=by have:=qI ht;simpa[Tryz.params3] using this
    exact(show Tryz.prog.wantsStandIn t=false by simpa using lE.1 wants_ t hm)⟩)
  goes_
#print axioms carded
end Go.Proofs.YtokgbpkbaoeeoaaGreatDoor.lawot
