/- The law FnExactStoreOk. No condition. -/
import Derived.Test.YtlggbfanooejbaaGreatDoorG9
import Derived.Test.YtlggbfanooejbaaGreatDoorHeard
import Derived.Test.YtlggbfanooejbaaGreatDoorEnter
import Derived.Test.YtlggbfanooejbaaGreatDoorMake
set_option maxRecDepth 100000
set_option maxHeartbeats 8000000
namespace Go.Proofs.YtlggbfanooejbaaGreatDoor.laweo
open Go.RowKit Go.ChangeShapes Go.WideShapes Go.ChangeAt
theorem lifted (os:Os) (started:os.Started) (H:Type) (enc:TypeId×Value->H) :
  ReturnsInLeavingWide {} Tryz.checked os 4 .any (λw args=>(Rows.fnExactStoreOkSpec.pre enc Tryz.prog Tryz.f4 Rows.fnExactStoreOkRow.domain false w args/\laidMetH Tryz.prog laidL w)/\sizedMet enc Tryz.prog Tryz.f4 (OpenSpec.ofChange Rows.fnExactStoreOkSpec) false w args) (Rows.fnExactStoreOkSpec.post enc Tryz.prog Tryz.f4 false true false false):=by
 refine vI wu vY (X:=λw _=>laidMetH Tryz.prog laidL w) (λ_ _ _ hh h=>h.of_heap hh) own started (by kernel_rfl) Tryz.func4 qF4 (by unfold gH;kernel_rfl) Tryz.results4 wQ (by kernel_rfl) rfl Tryz.underlying4 (by kernel_rfl) (λds gs hl hg=> ?_)
  (ChangeSpec.witness_shaped (enc:=enc) (C:=Tryz.checked) (os:=os) (X:=λw _=>laidMetH Tryz.prog laidL w) false (World.laidAll Tryz.prog os laidL) #[.int .i64 0,.agg #[.slice none 0 0,.slice none 0 0,.slice none 0 0]] 8 (World.laidAll_os _ _ _) (World.shaped_of_ZipB (by kernel_rfl) (by kernel_rfl)) (by kernel_rfl) (by kernel_rfl) (by kernel_rfl) (wv os _)) ?_
 .match ds,hl,gs,hg with
  |[_,_],_,[_,_],_=>rfl
 intro W base args ds p hval0 hA hlt hX;have hval:∀(j:Nat) t v,Tryz.f4.params[j]?=some t->args[j]?=some v->Value.okWide Tryz.prog W .any base t v:=hval0;rw[Tryz.params4] at hA hval;obtain⟨v0,v1,d0,d1,p0,p1,rfl,rfl,rfl,h0,h1⟩:=trodAll_two hA;obtain⟨a0,rfl,rfl,rfl,w0⟩:=open_int Tryz.underlying3 (hval 0 3 v0 rfl rfl) h0;obtain⟨hr,hg⟩:=wt hX;refine⟨0,vq vG,yy,hr,(.cons (.int _ _) (.cons (wR (hval 1 46 v1 rfl rfl)) .nil)),λWL hV t=> ?_⟩;obtain⟨s1,hs1⟩:=vH hV (hval 1 46 v1 rfl rfl) h1 (by first|exact hlt|exact λx hx=>hlt x (by simp[hx]));have hgl:=hV.glo hr hg (vq vG) (vq vF);exact(walk a0 (vy w0) s1 (w:=WL.tap t) ⟨hgl.key,hgl.piece⟩ (wN (w:=WL) (w':=WL.tap t) rfl hs1) (WL.tap t)).mono λe w' h=>⟨_,h.1,rfl⟩
theorem factsHold:joinedFacts Tryz.pinned.checked.prog 4 Tryz.f4 Rows.fnExactStoreOkSpec Rows.fnExactStoreOkRow=true:=by
 unfold joinedFacts;rw[liftsFinal,mayEnter,makeIs]
 kernel_rfl
theorem proved:Rows.FnExactStoreOkSaid:=
 OpenClaim.holds_of_wide_leaving 4 Tryz.f4 rfl rfl rfl rfl rfl rfl rfl ⟨rfl,rfl,rfl,rfl,rfl⟩ rfl rfl rfl rfl rfl (by kernel_rfl) Tryz.func4 factsHold
  (tz (by kernel_rfl)) (by unfold Func.isWrapper;first|(rw[dj (by decide+kernel)];kernel_rfl)|(rw[bd (by decide+kernel)];exact⟨rfl,rfl⟩))
  (λos started H enc _=>lifted os started H enc)
theorem goes_:true=Rows.fnExactStoreOkRow.goesBy Tryz.pinned.checked.prog:=by kernel_rfl
theorem wf_:Rows.fnExactStoreOkRow.wfByText (OpenSpec.ofChange Rows.fnExactStoreOkSpec)=true:=by kernel_rfl
theorem named_:Tryz.prog.funcNamed "loop.example/depositary/laws.FnExactStoreOk" =some 4:=by kernel_rfl
theorem wants_:(Tryz.f4.params.toList.all λu=>!Tryz.prog.wantsStandIn u)=true:=by kernel_rfl
theorem carded:Rows.FnExactStoreOkCardSaid:=
 vZ .later [] [.data,.sentinel,.sentinel,.pinned] true (true, "4b07ddab0e2aa06f1e07655ecf29eb2407f2fb79b122da1f2d08244689efd3a4") false
  proved (λ_ h=>by cases h) wf_ (λ_ h=>by cases h) fnExactStoreOk_row_tie rfl ⟨rfl,rfl⟩ wO rfl
  (λf fn hf hfn=>by
   obtain rfl:f=4:=de (named_.symm.trans hf) |>.symm
   obtain rfl:fn=Tryz.f4:=(de (Tryz.func4.symm.trans hfn)).symm;exact⟨xp,λj t ht=>by
    rw[Tryz.params4] at ht;have hm:t∈Tryz.f4.params.toList:=by have:=pS ht;simpa[Tryz.params4] using this
    exact(show Tryz.prog.wantsStandIn t=false by simpa using ip.1 wants_ t hm)⟩)
  goes_
#print axioms carded
end Go.Proofs.YtlggbfanooejbaaGreatDoor.laweo
