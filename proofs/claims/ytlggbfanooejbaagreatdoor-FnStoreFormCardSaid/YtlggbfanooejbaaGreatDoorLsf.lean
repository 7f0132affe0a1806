/- The law FnStoreForm. No condition. -/
import Derived.Test.YtlggbfanooejbaaGreatDoorG10
import Derived.Test.YtlggbfanooejbaaGreatDoorHeard
import Derived.Test.YtlggbfanooejbaaGreatDoorEnter
import Derived.Test.YtlggbfanooejbaaGreatDoorMake
set_option maxRecDepth 100000
set_option maxHeartbeats 8000000
namespace Go.Proofs.YtlggbfanooejbaaGreatDoor.lawsf
open Go.RowKit Go.ChangeShapes Go.WideShapes Go.ChangeAt
theorem lifted (os:Os) (started:os.Started) (H:Type) (enc:TypeId×Value->H) :
  ReturnsInLeavingWide {} Tryz.checked os 3 .any (λw args=>(Rows.fnStoreFormSpec.pre enc Tryz.prog Tryz.f3 Rows.fnStoreFormRow.domain false w args/\laidMetH Tryz.prog laidL w)/\sizedMet enc Tryz.prog Tryz.f3 (OpenSpec.ofChange Rows.fnStoreFormSpec) false w args) (Rows.fnStoreFormSpec.post enc Tryz.prog Tryz.f3 false true false false):=by
 refine wG xc wT (X:=λw _=>laidMetH Tryz.prog laidL w) (λ_ _ _ hh h=>h.of_heap hh) own started (by kernel_rfl) Tryz.func3 qF3 (by unfold gH;kernel_rfl) Tryz.results3 xo (by kernel_rfl) rfl Tryz.underlying4 (by kernel_rfl) (λds gs hl hg=> ?_)
  (ChangeSpec.witness_shaped (enc:=enc) (C:=Tryz.checked) (os:=os) (X:=λw _=>laidMetH Tryz.prog laidL w) false (World.laidAll Tryz.prog os laidL) #[.slice none 0 0,.slice none 0 0] 8 (World.laidAll_os _ _ _) (World.shaped_of_ZipB (by kernel_rfl) (by kernel_rfl)) (by kernel_rfl) (by kernel_rfl) (by kernel_rfl) (xd os _)) ?_
 .match ds,hl,gs,hg with
  |[_,_],_,[_,_],_=>rfl
 intro W base args ds p hval0 hA hlt hX;have hval:∀(j:Nat) t v,Tryz.f3.params[j]?=some t->args[j]?=some v->Value.okWide Tryz.prog W .any base t v:=hval0;rw[Tryz.params3] at hA hval;obtain⟨v0,v1,d0,d1,p0,p1,rfl,rfl,rfl,h0,h1⟩:=trodAll_two hA;obtain⟨a0_0,r0⟩:=vD (hval 0 22 v0 rfl rfl) h0 (by first|exact hlt|exact λx hx=>hlt x (by simp[hx]));obtain⟨a1_0,r1⟩:=vD (hval 1 22 v1 rfl rfl) h1 (by first|exact hlt|exact λx hx=>hlt x (by simp[hx]));exact xp hX (hval 0 22 v0 rfl rfl) (hval 1 22 v1 rfl rfl) r0 r1 (λw hg h0 h1=>walk hg a0_0 a1_0 h0 h1 w)
theorem factsHold:joinedFacts Tryz.pinned.checked.prog 3 Tryz.f3 Rows.fnStoreFormSpec Rows.fnStoreFormRow=true:=by
 unfold joinedFacts;rw[liftsFinal,mayEnter,makeIs]
 kernel_rfl
theorem proved:Rows.FnStoreFormSaid:=
 OpenClaim.holds_of_wide_leaving 3 Tryz.f3 rfl rfl rfl rfl rfl rfl rfl ⟨rfl,rfl,rfl,rfl,rfl⟩ rfl rfl rfl rfl rfl (by kernel_rfl) Tryz.func3 factsHold
  (sR (by kernel_rfl)) (by unfold Func.isWrapper;first|(rw[dj (by decide+kernel)];kernel_rfl)|(rw[bv (by decide+kernel)];exact⟨rfl,rfl⟩))
  (λos started H enc _=>lifted os started H enc)
theorem goes_:true=Rows.fnStoreFormRow.goesBy Tryz.pinned.checked.prog:=by kernel_rfl
theorem wf_:Rows.fnStoreFormRow.wfByText (OpenSpec.ofChange Rows.fnStoreFormSpec)=true:=by kernel_rfl
theorem named_:Tryz.prog.funcNamed "loop.example/depositary/laws.FnStoreForm" =some 3:=by kernel_rfl
theorem wants_:(Tryz.f3.params.toList.all λu=>!Tryz.prog.wantsStandIn u)=true:=by kernel_rfl
theorem carded:Rows.FnStoreFormCardSaid:=
 wV .later [] [.data,.sentinel,.sentinel,.pinned] true (true, "4b07ddab0e2aa06f1e07655ecf29eb2407f2fb79b122da1f2d08244689efd3a4") false
  proved (λ_ h=>by cases h) wf_ (λ_ h=>by cases h) fnStoreForm_row_tie rfl ⟨rfl,rfl⟩ xm rfl
  (λf fn hf hfn=>by
   obtain rfl:f=3:=ef (named_.symm.trans hf) |>.symm
   obtain rfl:fn=Tryz.f3:=(ef (Tryz.func3.symm.trans hfn)).symm;exact⟨xB,λj t ht=>by
    rw[Tryz.params3] at ht;have hm:t∈Tryz.f3.params.toList:=by have:=qB ht;simpa[Tryz.params3] using this
    exact(show Tryz.prog.wantsStandIn t=false by simpa using lc.1 wants_ t hm)⟩)
  goes_
#print axioms carded
end Go.Proofs.YtlggbfanooejbaaGreatDoor.lawsf
