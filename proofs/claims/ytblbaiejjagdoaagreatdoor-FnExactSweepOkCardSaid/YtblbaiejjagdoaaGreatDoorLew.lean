/- The law FnExactSweepOk. No condition. -/
import Derived.Test.YtblbaiejjagdoaaGreatDoorG9
import Derived.Test.YtblbaiejjagdoaaGreatDoorHeard
import Derived.Test.YtblbaiejjagdoaaGreatDoorEnter
import Derived.Test.YtblbaiejjagdoaaGreatDoorMake
set_option maxRecDepth 100000
set_option maxHeartbeats 8000000
namespace Go.Proofs.YtblbaiejjagdoaaGreatDoor.lawew
open Go.RowKit Go.ChangeShapes Go.WideShapes Go.ChangeAt
theorem lifted (os:Os) (started:os.Started) (H:Type) (enc:TypeId×Value->H) :
  ReturnsInLeavingWide {} Tryz.checked os 3 .any (λw args=>(Rows.fnExactSweepOkSpec.pre enc Tryz.prog Tryz.f3 Rows.fnExactSweepOkRow.domain false w args/\laidMetH Tryz.prog laidL w)/\sizedMet enc Tryz.prog Tryz.f3 (OpenSpec.ofChange Rows.fnExactSweepOkSpec) false w args) (Rows.fnExactSweepOkSpec.post enc Tryz.prog Tryz.f3 false true false false):=by
 refine vT wJ wu (X:=λw _=>laidMetH Tryz.prog laidL w) (λ_ _ _ hh h=>h.of_heap hh) own started (by kernel_rfl) Tryz.func3 qF3 (by unfold gH;kernel_rfl) Tryz.results3 xe (by kernel_rfl) rfl Tryz.underlying4 (by kernel_rfl) (λds gs hl hg=> ?_)
  (ChangeSpec.witness_shaped (enc:=enc) (C:=Tryz.checked) (os:=os) (X:=λw _=>laidMetH Tryz.prog laidL w) false (World.laidAll Tryz.prog os laidL) #[.int .i64 0,.agg #[.slice none 0 0,.slice none 0 0,.slice none 0 0,.slice none 0 0,.slice none 0 0]] 8 (World.laidAll_os _ _ _) (World.shaped_of_ZipB (by kernel_rfl) (by kernel_rfl)) (by kernel_rfl) (by kernel_rfl) (by kernel_rfl) (wK os _)) ?_
 .match ds,hl,gs,hg with
  |[_,_],_,[_,_],_=>rfl
 intro W base args ds p hval0 hA hlt hX;have hval:∀(j:Nat) t v,Tryz.f3.params[j]?=some t->args[j]?=some v->Value.okWide Tryz.prog W .any base t v:=hval0;rw[Tryz.params3] at hA hval;obtain⟨v0,v1,d0,d1,p0,p1,rfl,rfl,rfl,h0,h1⟩:=trodAll_two hA;obtain⟨a0,rfl,rfl,rfl,w0⟩:=open_int Tryz.underlying3 (hval 0 3 v0 rfl rfl) h0;obtain⟨hr,hg⟩:=wI hX;refine⟨0,vF vR,yY,hr,(.cons (.int _ _) (.cons (xf (hval 1 29 v1 rfl rfl)) .nil)),λWL hV t=> ?_⟩;obtain⟨s1,hs1⟩:=vS hV (hval 1 29 v1 rfl rfl) h1 (by first|exact hlt|exact λx hx=>hlt x (by simp[hx]));have hgl:=hV.glo hr hg (vF vR) (vF vQ);exact(walk a0 (vJ w0) s1 (w:=WL.tap t) ⟨hgl.key,hgl.piece⟩ (xc (w:=WL) (w':=WL.tap t) rfl hs1) (WL.tap t)).mono λe w' h=>⟨_,h.1,rfl⟩
theorem factsHold:joinedFacts Tryz.pinned.checked.prog 3 Tryz.f3 Rows.fnExactSweepOkSpec Rows.fnExactSweepOkRow=true:=by
 unfold joinedFacts;rw[liftsFinal,mayEnter,makeIs]
 kernel_rfl
theorem proved:Rows.FnExactSweepOkSaid:=
 OpenClaim.holds_of_wide_leaving 3 Tryz.f3 rfl rfl rfl rfl rfl rfl rfl ⟨rfl,rfl,rfl,rfl,rfl⟩ rfl rfl rfl rfl rfl (by kernel_rfl) Tryz.func3 factsHold
  (tG (by kernel_rfl)) (by unfold Func.isWrapper;first|(rw[dl (by decide+kernel)];kernel_rfl)|(rw[bd (by decide+kernel)];exact⟨rfl,rfl⟩))
  (λos started H enc _=>lifted os started H enc)
theorem goes_:true=Rows.fnExactSweepOkRow.goesBy Tryz.pinned.checked.prog:=by kernel_rfl
theorem wf_:Rows.fnExactSweepOkRow.wfByText (OpenSpec.ofChange Rows.fnExactSweepOkSpec)=true:=by kernel_rfl
theorem named_:Tryz.prog.funcNamed "loop.example/depositary/laws.FnExactSweepOk" =some 3:=by kernel_rfl
theorem wants_:(Tryz.f3.params.toList.all λu=>!Tryz.prog.wantsStandIn u)=true:=by kernel_rfl
theorem carded:Rows.FnExactSweepOkCardSaid:=
 wv .later [] [.data,.sentinel,.sentinel,.pinned] true (true, "8720c8034a1f78e76f1a60cca0f6fbcbfb914b9970f33341c2d8743d42a0a2ef") false
  proved (λ_ h=>by cases h) wf_ (λ_ h=>by cases h) fnExactSweepOk_row_tie rfl ⟨rfl,rfl⟩ xd rfl
  (λf fn hf hfn=>by
   obtain rfl:f=3:=dj (named_.symm.trans hf) |>.symm
   obtain rfl:fn=Tryz.f3:=(dj (Tryz.func3.symm.trans hfn)).symm;exact⟨xF,λj t ht=>by
    rw[Tryz.params3] at ht;have hm:t∈Tryz.f3.params.toList:=by have:=pX ht;simpa[Tryz.params3] using this
    exact(show Tryz.prog.wantsStandIn t=false by simpa using jp.1 wants_ t hm)⟩)
  goes_
#print axioms carded
end Go.Proofs.YtblbaiejjagdoaaGreatDoor.lawew
