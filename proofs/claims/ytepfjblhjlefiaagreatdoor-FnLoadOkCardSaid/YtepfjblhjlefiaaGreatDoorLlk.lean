/- The law FnLoadOk. No condition. -/
import Derived.Test.YtepfjblhjlefiaaGreatDoorG10
import Derived.Test.YtepfjblhjlefiaaGreatDoorHeard
import Derived.Test.YtepfjblhjlefiaaGreatDoorEnter
import Derived.Test.YtepfjblhjlefiaaGreatDoorMake
set_option maxRecDepth 100000
set_option maxHeartbeats 8000000
namespace Go.Proofs.YtepfjblhjlefiaaGreatDoor.lawlk
open Go.RowKit Go.ChangeShapes Go.WideShapes Go.ChangeAt
theorem lifted (os:Os) (started:os.Started) (H:Type) (enc:TypeId×Value->H) :
  ReturnsInLeavingWide {} Tryz.checked os 3 .any (λw args=>(Rows.fnLoadOkSpec.pre enc Tryz.prog Tryz.f3 Rows.fnLoadOkRow.domain false w args/\laidMetH Tryz.prog laidL w)/\sizedMet enc Tryz.prog Tryz.f3 (OpenSpec.ofChange Rows.fnLoadOkSpec) false w args) (Rows.fnLoadOkSpec.post enc Tryz.prog Tryz.f3 false true false false):=by
 refine wu wS wJ (X:=λw _=>laidMetH Tryz.prog laidL w) (λ_ _ _ hh h=>h.of_heap hh) own started (by kernel_rfl) Tryz.func3 qF3 (by unfold gH;kernel_rfl) Tryz.results3 wZ (by kernel_rfl) rfl Tryz.underlying4 (by kernel_rfl) (λds gs hl hg=> ?_)
  (ChangeSpec.witness_shaped (enc:=enc) (C:=Tryz.checked) (os:=os) (X:=λw _=>laidMetH Tryz.prog laidL w) false (World.laidAll Tryz.prog os laidL) #[.slice none 0 0] 8 (World.laidAll_os _ _ _) (World.shaped_of_ZipB (by kernel_rfl) (by kernel_rfl)) (by kernel_rfl) (by kernel_rfl) (by kernel_rfl) (wT os _)) ?_
 .match ds,hl,gs,hg with
  |[_],_,[_,_],_=>rfl
 intro W base args ds p hval0 hA hlt hX;have hval:∀(j:Nat) t v,Tryz.f3.params[j]?=some t->args[j]?=some v->Value.okWide Tryz.prog W .any base t v:=hval0;rw[Tryz.params3] at hA hval;obtain⟨v0,d0,rfl,rfl,h0⟩:=trodAll_one hA;obtain⟨a0_0,r0⟩:=we (hval 0 22 v0 rfl rfl) h0 (by first|exact hlt|exact λx hx=>hlt x (by simp[hx]));exact xc hX (hval 0 22 v0 rfl rfl) r0 (λw hg h0=>walk hg a0_0 h0 w)
theorem factsHold:joinedFacts Tryz.pinned.checked.prog 3 Tryz.f3 Rows.fnLoadOkSpec Rows.fnLoadOkRow=true:=by
 unfold joinedFacts;rw[liftsFinal,mayEnter,makeIs]
 kernel_rfl
theorem proved:Rows.FnLoadOkSaid:=
 OpenClaim.holds_of_wide_leaving 3 Tryz.f3 rfl rfl rfl rfl rfl rfl rfl ⟨rfl,rfl,rfl,rfl,rfl⟩ rfl rfl rfl rfl rfl (by kernel_rfl) Tryz.func3 factsHold
  (sH (by kernel_rfl)) (by unfold Func.isWrapper;first|(rw[dj (by decide+kernel)];kernel_rfl)|(rw[bd (by decide+kernel)];exact⟨rfl,rfl⟩))
  (λos started H enc _=>lifted os started H enc)
theorem goes_:true=Rows.fnLoadOkRow.goesBy Tryz.pinned.checked.prog:=by kernel_rfl
theorem wf_:Rows.fnLoadOkRow.wfByText (OpenSpec.ofChange Rows.fnLoadOkSpec)=true:=by kernel_rfl
theorem named_:Tryz.prog.funcNamed "loop.example/depositary/laws.FnLoadOk" =some 3:=by kernel_rfl
theorem wants_:(Tryz.f3.params.toList.all λu=>!Tryz.prog.wantsStandIn u)=true:=by kernel_rfl
theorem carded:Rows.FnLoadOkCardSaid:=
 wM .later [] [.data,.sentinel,.sentinel,.pinned] true (true, "cbac059e7f396e72d0f5f9fb310fd776be4b16704b364c47eeac12ad9bed4585") false
  proved (λ_ h=>by cases h) wf_ (λ_ h=>by cases h) fnLoadOk_row_tie rfl ⟨rfl,rfl⟩ wY rfl
  (λf fn hf hfn=>by
   obtain rfl:f=3:=dl (named_.symm.trans hf) |>.symm
   obtain rfl:fn=Tryz.f3:=(dl (Tryz.func3.symm.trans hfn)).symm;exact⟨xt,λj t ht=>by
    rw[Tryz.params3] at ht;have hm:t∈Tryz.f3.params.toList:=by have:=qw ht;simpa[Tryz.params3] using this
    exact(show Tryz.prog.wantsStandIn t=false by simpa using kw.1 wants_ t hm)⟩)
  goes_
#print axioms carded
end Go.Proofs.YtepfjblhjlefiaaGreatDoor.lawlk
