/- A part. -/
import Derived.Test.YtlggbfanooejbaaGreatDoorG5
import Derived.Below
set_option maxRecDepth 100000
set_option maxHeartbeats 8000000
set_option linter.all false
open Go Go.Conc Go.ConcN Go.RowKit Go.Proofs.Tryz Go.Proofs.YtlggbfanooejbaaGreatDoor
variable {c g i j n:Nat} {d t:Tmp} {ρ:Ren} {V:Type} {A:Addr} {a b:Code} {o:Oper} {q:Bool} {W w w' w2:World} {u v:Value} {x y:Frame} {X t0:TypeId} {f:FuncId} {pos:String} {P:Program} {R rest:List Nat} {k k2:List Item} {Z:Array Oper} {Y l l' xs:List Frame} {af:Array Edge} {U T':Array Value} {S:Array Field} {B:Option Addr} {es:Array Event} {e:Operand→Value} {Post:Value→World→Prop} {gd:Option (Nat × Bool)}
namespace Go.Proofs.YtlggbfanooejbaaGreatDoor
def rQ:=@List.not_mem_nil
def so:=@List.mem_toArray
def sW:=@Array.size_replicate
def sZ:=@Go.Conc.mem_seen
def tf:=@Relation.TransGen.trans
def tu:=@List.contains_cons
def tQ:=@Go.World.cell?_setCell_other
def uw:=@or_false
def uD:=@Go.World.frozen?_setCell
def vC:=@Array.mem_append
def vV:=@Array.mem_iff_getElem
section
open Go.Conc Go.ConcN
section
variable {P:Program} {main:Bool} {Rl Rl':aq->World->World->Prop} {Gr Gr':aq->aq->World->World->Array Event->Prop} {Stop afG:aq->Goroutine->World->Prop}
def GoT.weak(i:∀S w a,Rl' S w a->Rl S w a)(k:∀S e w c d,Gr S e w c d->Gr' S e w c d)(j:∀S g w,Stop S g w->afG S g w):∀{T:jH} {S:aq} {g:Goroutine} {w:World},GoT P main Rl Gr Stop T S g w->GoT P main Rl' Gr' afG T S g w
 |.leaf,_,_,_,h=>λa b=>j _ _ _ (h a (i _ _ _ b))
 |.node f,_,_,_,h=>Or.imp (λh a b=>j _ _ _ (h a (i _ _ _ b))) (λx=>⟨x.1,λa b=>let⟨o,c,d,e,n,l,m⟩:=x.2 a (i _ _ _ b);⟨o,c,d,e,n,k _ _ _ _ _ l,GoT.weak i k j m⟩⟩) h
def bK.weak(i:∀S w a,Rl' S w a->Rl S w a)(e:∀S d w b c,Gr S d w b c->Gr' S d w b c)(f:∀S g w,Stop S g w->afG S g w){S:aq}{g:Goroutine}(h:bK P main Rl Gr Stop S g w):bK P main Rl' Gr' afG S g w:=
 let⟨T,h⟩:=h;⟨T,GoT.weak i e f h⟩
end
def RlB(_:aq)(w w₁:World):Prop:=AtRel w w₁
def GrB(aV:aq)(_ _:aq)(w w':World)(es:Array Event):Prop:=
 w.heap.size<=w'.heap.size/\∀e∈es,(∀x,(MemAct.ofEvent e).touch?=some x->¬ShL aV x.loc)/\e.loc ≠ .mark .disable/\e.loc ≠ .mark .enable/\(MemAct.ofEvent e).low w'.heap.size
section
variable {aV:aq} {K B B':Nat} {t u:Trace}
def eW.own(h:eW aV K B t)(u:B<=B'){fn:FuncId}(d:∀e∈es,(∀x,(MemAct.ofEvent e).touch?=some x->¬ShL aV x.loc)/\e.loc ≠ .mark .disable/\e.loc ≠ .mark .enable/\(MemAct.ofEvent e).low B') :
  eW aV K B' (t++MemOp.ofEvents 0 fn pos es):=by
 have k:∀op∈MemOp.ofEvents 0 fn pos es,op.g=0:=λop c=>by obtain⟨e,_,rfl⟩:=lE c;rfl
 refine⟨λg=>noRace_append (h.clean g) k λi a s op c b q v=> ?_,λi op x j n r=> ?_,h.quiet.app λop c x n m=> ?_,handedOver_app h.over λop c=>.inl (k op c), ?_,seen_app (ada h.seen u) λop c=> ?_,λop c=> ?_⟩
 .obtain⟨e,f,rfl⟩:=lE c;obtain⟨op,j,o⟩:=touch_of s;exact h.known i op a j o λm=>(d e f).1 b q (v.1▸m)
 .rcases rA j with⟨_,p⟩|⟨_,l⟩
  .exact(h.known i op x p n r).app _
  .have:=knows_own j;rwa [k op l] at this
 .obtain⟨e,f,rfl⟩:=lE c;exact absurd m ((d e f).1 x n)
 .rw[Deaf_own,h.hears];exact deafBehind_still (λe f=>⟨(d e f).2.1,(d e f).2.2.1⟩) 0
 .obtain⟨e,f,rfl⟩:=lE c;exact(d e f).2.2.2
 .rcases vC.1 c with c|c
  .exact h.gs op c
  .rw[k op c];exact fa _
def eW.mute(h:eW aV K B t)(m:g≠0)(n:g<=K){fn:FuncId}(q:∀e∈es,e.mute=true):eW aV K B (t++MemOp.ofEvents g fn pos es):=by
 have l:∀op∈MemOp.ofEvents g fn pos es,op.g=g:=λop c=>by obtain⟨e,_,rfl⟩:=lE c;rfl
 have j:∀op∈MemOp.ofEvents g fn pos es,op.act.touch?=none:=λop c=>by obtain⟨e,o,rfl⟩:=lE c;exact touch_mute (q e o)
 refine⟨λf=>noRace_append (h.clean f) l λi a _ op c b p _=>(by rw[j op c] at p;cases p),λi op x r d u=> ?_,h.quiet.app λop c x d _=>(by rw[j op c] at d;cases d),handedOver_app h.over λop c=>.inr (j op c),(rr t m _ l).trans h.hears,seen_app h.seen λop c=> ?_,λop c=> ?_⟩
 .rcases rA r with⟨_,s⟩|⟨_,k⟩
  .exact(h.known i op x s d u).app _
  .rw[j op k] at d;cases d
 .obtain⟨e,o,rfl⟩:=lE c;exact low_mute (q e o) B
 .rcases vC.1 c with c|c
  .exact h.gs op c
  .rw[l op c];exact n
def eW.nil(B:Nat):eW (λ_=>False) 0 B #[]:=
 ⟨λd=>by rintro⟨i,j,_,⟨a,b,e,_⟩,_⟩;simp[Trace.act?] at e,λi op x c=>by simp at c,λi op x c=>by simp at c,λi g f=>by simp[Trace.g?] at f,rfl,by simp,by simp⟩
end
structure ayT (Gr:aq->aq->World->World->Array Event->Prop) (TQ:Nat->Nat->Trace->Prop):Prop where
 own:∀{K:Nat} {t:Trace} {S S':aq} {w w':World} {es:Array Event} (fn:FuncId) (pos:String),Gr S S' w w' es->TQ K w.heap.size t->TQ K w'.heap.size (t++MemOp.ofEvents 0 fn pos es)
 mute:∀{K B:Nat} {t:Trace} {g:Nat} {es:Array Event} (fn:FuncId) (pos:String),g≠0->g<=K->(∀e∈es,e.mute=true)->TQ K B t->TQ K B (t++MemOp.ofEvents g fn pos es)
def abn{aV:aq}:ayT (GrB aV) (eW aV):=⟨λ_ _ b a=>a.own b.1 b.2,λ_ _ e c d a=>a.mute e c d⟩
section
variable {P:Program} {TQ:Nat->Nat->Trace->Prop} {Gr:aq->aq->World->World->Array Event->Prop} (HT:ayT Gr TQ) {Stop:aq->Goroutine->World->Prop}
include HT
theorem akg(T:jH):∀(M:Nat) (l:Array Goroutine) (a:Goroutine) (w:World) (sl:Option (Nat×Nat)) (t:Trace) (q:Nat->Nat) (S:aq),sumTo l.size q<=M->l[0]?=some a->Leavers P t l q->TQ (l.size-1) w.heap.size t->
  GoT P true RlB Gr Stop T S a w->
  ∃(N:Nat) (o:Array Goroutine) (z:Goroutine) (L:World) (r:Option (Nat×Nat)) (X:Trace) (q':Nat->Nat) (S':aq),
   runNT P N (crowd l w sl) t=(.next (crowd o L r),X)/\o.size=l.size/\o[0]?=some z/\Stop S' z L/\Leavers P X o q'/\TQ (l.size-1) L.heap.size X:=by
 induction T using jH.wf.induction with
 |_ T a3=>
 intro M
 induction M with
 |zero=> 
  intro l a w sl t q S hM W B hP hG;rcases hG.cases with bZ|⟨f,rfl,p,v⟩
  .exact⟨0,l,a,w,sl,t,q,S,rfl,rfl,W,bZ w (atRel_refl w),B,hP⟩
  have a0:∀g∈l,awake g:=by
   intro g O;obtain⟨i,s,rfl⟩:=vV.1 O;rcases nf i with rfl|iu
   .have:l[0]=a:=by simpa[gt s] using W
    rw[this];exact uA (.inl p)
   .exact uA ((B.old i _ iu (gt s)).status.elim .inl λx=>.inr (.inr x))
  obtain⟨i,g,d,r,s,O,Z⟩:=crowd_pick (P:=P) (w:=w) (sl:=sl) a0 ⟨0,a,W,p⟩;have C:i<l.size:=(dq.1 s).1;rcases nf i with rfl|iu
  .obtain rfl:g=a:=by rw[W] at s;exact(ef s).symm
   obtain⟨z,L,es,S',a2,hD,a1⟩:=v (w.at d) ⟨d,rfl⟩;have Q:=tj (P:=P) (sl:=r) (i:=0) s (show stepG P (0 ==0) g (w.at d)=_ from a2);have m:((l.map (woken P g z L)).setIfInBounds 0 z).size=l.size:=by simp
   obtain⟨N,o,K,G,R,X,q',I,hr,F,J,hS,H,u⟩:=a3 _ ⟨f,w.at d,rfl,rfl⟩ _ ((l.map (woken P g z L)).setIfInBounds 0 z) z L r (t++MemOp.ofEvents 0 g.frame.fn g.frame.place es) q S' (am _) (by simp[C])
    ⟨λj x A V=>by
     have E:0≠j:=by omega
     rw[jn E,rm] at V;obtain⟨y,hy,rfl⟩:=iS.1 V;have D:=B.old j y A hy;rw[sY D,rr t (by omega) _ (λop n=>by obtain⟨e,_,rfl⟩:=lE n;rfl)];exact D,λj A=>by
     rw[rr t (g':=0) (by simp at A;omega) _ (λop n=>by obtain⟨e,_,rfl⟩:=lE n;rfl)];exact B.above j (by simpa using A)⟩
    (by rw[m];exact HT.own _ _ hD hP) a1
   exact⟨N+1,o,K,G,R,X,q',I,by simp only[runNT,Z,Q];exact hr,F.trans m,J,hS,H,by rw[m] at u;exact u⟩
  .have D:=B.old i g iu s;have:q i<=sumTo l.size q:=le_sumTo C;have U:q i=0:=by omega
   rw[U] at D;rw[D.1] at O;cases O
 |succ M ih=>
  intro l a w sl t q S hM W B hP hG;rcases hG.cases with bZ|⟨f,rfl,p,v⟩
  .exact⟨0,l,a,w,sl,t,q,S,rfl,rfl,W,bZ w (atRel_refl w),B,hP⟩
  have a0:∀g∈l,awake g:=by
   intro g O;obtain⟨i,s,rfl⟩:=vV.1 O;rcases nf i with rfl|iu
   .have:l[0]=a:=by simpa[gt s] using W
    rw[this];exact uA (.inl p)
   .exact uA ((B.old i _ iu (gt s)).status.elim .inl λx=>.inr (.inr x))
  obtain⟨i,g,d,r,s,O,Z⟩:=crowd_pick (P:=P) (w:=w) (sl:=sl) a0 ⟨0,a,W,p⟩;have C:i<l.size:=(dq.1 s).1;rcases nf i with rfl|iu
  .obtain rfl:g=a:=by rw[W] at s;exact(ef s).symm
   obtain⟨z,L,es,S',a2,hD,a1⟩:=v (w.at d) ⟨d,rfl⟩;have Q:=tj (P:=P) (sl:=r) (i:=0) s (show stepG P (0 ==0) g (w.at d)=_ from a2);have m:((l.map (woken P g z L)).setIfInBounds 0 z).size=l.size:=by simp
   obtain⟨N,o,K,G,R,X,q',I,hr,F,J,hS,H,u⟩:=a3 _ ⟨f,w.at d,rfl,rfl⟩ _ ((l.map (woken P g z L)).setIfInBounds 0 z) z L r (t++MemOp.ofEvents 0 g.frame.fn g.frame.place es) q S' (am _) (by simp[C])
    ⟨λj x A V=>by
     have E:0≠j:=by omega
     rw[jn E,rm] at V;obtain⟨y,hy,rfl⟩:=iS.1 V;have D:=B.old j y A hy;rw[sY D,rr t (by omega) _ (λop n=>by obtain⟨e,_,rfl⟩:=lE n;rfl)];exact D,λj A=>by
     rw[rr t (g':=0) (by simp at A;omega) _ (λop n=>by obtain⟨e,_,rfl⟩:=lE n;rfl)];exact B.above j (by simpa using A)⟩
    (by rw[m];exact HT.own _ _ hD hP) a1
   exact⟨N+1,o,K,G,R,X,q',I,by simp only[runNT,Z,Q];exact hr,F.trans m,J,hS,H,by rw[m] at u;exact u⟩
  .have D:=B.old i g iu s;have a6:(i ==0)=false:=by simp;omega
   cases U:q i with
   |zero=>rw[U] at D;rw[D.1] at O;cases O
   |succ k=>
    rw[U] at D;rcases D with⟨hf,_⟩|⟨_,g',es,hm,a7,a5⟩
    .rw[hf] at O;cases O
    have Q:=tj (P:=P) (sl:=r) (i:=i) s (by rw[a6];exact a7 (w.at d));have m:((l.map (woken P g g' (w.at d))).setIfInBounds i g').size=l.size:=by simp
    have a9:sumTo l.size (upd q i k)+(k+1)=sumTo l.size q+k:=by
     have:=sumTo_upd q k id C;simpa[U] using this
    have a8:∀S a b c,RlB S a b->RlB S b c->RlB S a c:=λ_ a b c=>atRel_trans a b c;obtain⟨N,o,K,G,R,X,q',I,hr,F,J,hS,H,u⟩:=ih ((l.map (woken P g g' (w.at d))).setIfInBounds i g') a (w.at d) r (t++MemOp.ofEvents i g.frame.fn g.frame.place es) (upd q i k) S (by rw[m];omega)
     (by
      have E:i≠0:=by omega
      rw[jn E,rm,W];simp[woken_run p])
     ⟨λj x A V=>by
      by_cases Y:i=j
      .subst Y;rw[qb (by simpa using C)] at V;obtain rfl:=ef V;rw[ql,Deaf_own];exact a5
      .rw[jn Y,rm] at V;obtain⟨y,hy,rfl⟩:=iS.1 V;have a4:=B.old j y A hy;rw[sY a4,qN q k (sj Y),rr t Y _ (λop n=>by obtain⟨e,_,rfl⟩:=lE n;rfl)];exact a4,λj A=>by
      rw[rr t (g':=i) (by simp at A;omega) _ (λop n=>by obtain⟨e,_,rfl⟩:=lE n;rfl)];exact B.above j (by simpa using A)⟩
     (by rw[m];exact HT.mute _ _ (by omega) (by omega) hm hP) (GoT.rely a8 hG ⟨d,rfl⟩)
    exact⟨N+1,o,K,G,R,X,q',I,by simp only[runNT,Z,Q];exact hr,F.trans m,J,hS,H,by rw[m] at u;exact u⟩
theorem aas{gs:Array Goroutine}{a:Goroutine}{sl:Option (Nat×Nat)}{t:Trace}{q:Nat->Nat}{S:aq}(i:gs[0]?=some a)(m:Leavers P t gs q)(k:TQ (gs.size-1) w.heap.size t)(e:bK P true RlB Gr Stop S a w) :
  ∃(N:Nat) (b:Array Goroutine) (g:Goroutine) (c:World) (f:Option (Nat×Nat)) (d:Trace) (l:Nat->Nat) (j:aq),
   runNT P N (crowd gs w sl) t=(.next (crowd b c f),d)/\b.size=gs.size/\b[0]?=some g/\Stop j g c/\Leavers P d b l/\TQ (gs.size-1) c.heap.size d:=
 let⟨T,e⟩:=e;akg HT T _ gs a w sl t q S (am _) i m k e
end
def iG(P:Program):Cfg->Cfg->Prop:=Relation.TransGen λa b=>ae7 P b a
def Rng(ρ:Ren)(w:World)(S Rr:aq):Prop:=∀b a,ρ.r b a->S a\/(Rr a/\bJ w b/\NoB w b)
def ni(S Rr:aq)(B:Nat)(e:Event):Prop:=
 (∀x,(MemAct.ofEvent e).touch?=some x->In S x.loc\/(In Rr x.loc/\x.write=false))/\(∀m,e.loc=.mark m->(∃f,m=.extern f)\/m=.noRoom)/\(MemAct.ofEvent e).low B
def PkG(ρ:Ren)(w w' w1 cZ:World):Prop:=∀b a,ρ.r b a->Rw w b->Rw w1 b/\∀i u,aev u->w1.cell? ⟨b,i,none⟩=some u->w.cell? ⟨b,i,none⟩=some u/\cZ.cell? ⟨a,i,none⟩=w'.cell? ⟨a,i,none⟩
def PkG.rely(h:∀b a,ρ.r b a->W.heap[a]?=w'.heap[a]?):PkG ρ w w' w W:=λ_ _ d c=>⟨c,λ_ _ _ e=>⟨e,jf (h _ _ d)⟩⟩
def PkG.aos{k : Ren}{f : World}(d:Kept ρ k w w' W f)(h:∀b e,ρ.r b e->w2.heap[e]?=f.heap[e]?):PkG ρ w w' W w2:=λ_ _ a c=>
 ⟨(d.poi a c).1,λi u g j=>⟨((d.poi a c).2 i u g j).1,(jf (h _ _ a)).trans ((d.poi a c).2 i u g j).2⟩⟩
def PkG.trans{g : Ren}{j a : World}(h:PkG ρ w w' W j)(c:ρ.Le g)(k:PkG g W j w2 a):PkG ρ w w' w2 a:=λb f d m=>by
 obtain⟨q,r⟩:=h b f d m;obtain⟨o,p⟩:=k b f (c.r d) q;refine⟨o,λi u e t=> ?_⟩;obtain⟨v,l⟩:=p i u e t;obtain⟨s,n⟩:=r i u e v;exact⟨s,l.trans n⟩
structure akh (P:Program) (R:List Frame->World->Prop) (Rr S:aq) (ρ:Ren) (c:Cfg) (l':List Frame) (w':World):Prop where
 st:iJ P ρ c.l l'
 wr:WR ρ c.w w'
 gl:GlR ρ
 will:ku P R c
 rng:Rng ρ c.w S Rr
def Rt(P':Program)(J:Nat->Bool)(l l':List Frame):Prop:=
 l'=l\/∃c d a,l=c::a/\l'=d::a/\a≠[]/\JR J c d/\∃fn,P'.funcs[c.fn]?=some fn/\∀t b:Array Value,b.size=t.size->(∀i,J i=false->b[i]?=t[i]?)->results fn b=results fn t
def mA.mem{ρ:Ren}:∀{l b:List Event},mA ρ l b->∀a∈b,∃e∈l,EvR ρ e a
 |_,_,.nil,_,h=>by cases h
 |_,_,.cons x y,a,h=>by
  rcases me.1 h with rfl|h
  .exact⟨_,qV ..,x⟩
  .obtain⟨e,c,d⟩:=mA.mem y a h;exact⟨e,qL _ c,d⟩
section
variable {P P':Program} {R:List Frame->World->Prop} {Rr S:aq} {ρ σ:Ren} {w w' w1 cZ:World} {es es':Array Event}
def Rng.step(h:Rng ρ w S Rr)(j:WR σ w1 cZ)(d:Kept ρ σ w w' w1 cZ):Rng σ w1 (λb=>S b\/(w'.heap.size<=b/\b<cZ.heap.size)) Rr:=λb k i=>by
 rcases d.new i with f|⟨_,a⟩
 .rcases h b k f with c|⟨c,a,g⟩
  .exact .inl (.inl c)
  .have e:=(d.still f a g).1;exact .inr ⟨c,a.of_eq e,g.of_eq e⟩
 .exact .inl (.inr ⟨a,(j.lt i).2⟩)
def asx(h:Rng ρ w S Rr)(u:WR σ w1 cZ)(D:Kept ρ σ w w' w1 cZ)(v:EvW w σ es es'):∀e∈es',ni (λb=>S b\/(w'.heap.size<=b/\b<cZ.heap.size)) Rr cZ.heap.size e:=by
 intro E t;obtain⟨e,A,j⟩:=v.ev.mem E (by simpa using t);have p:∀{b i},σ.r b i->(S i\/(w'.heap.size<=i/\i<cZ.heap.size))\/(Rr i/\bJ w b):=λ{b i} y=>by
  rcases D.new y with C|⟨_,g⟩
  .rcases h b i C with c|⟨c,g,_⟩
   .exact .inl (.inl c)
   .exact .inr ⟨c,g⟩
  .exact .inl (.inr ⟨g,(u.lt y).2⟩)
 cases j with
 |mk n wr q=>
  cases n with
  |@cell a z G=>
   have j:σ.r a.block z.block:=by cases G with|mk h o s=>exact h
   refine⟨λx k=> ?_,λm l=>(by cases l),(u.lt j).2⟩;have d:x=⟨.cell z,wr,if q then .atomic else .plain⟩:=by simp[MemAct.ofEvent,MemAct.touch?] at k;exact k.symm
   subst d;rcases p j with c|⟨c,g⟩
   .exact .inl c
   .cases wr with
    |false=>exact .inr ⟨c,rfl⟩
    |true=>exact absurd rfl ((v.nw _ g _ A rfl).1 _ rfl)
  |@obj r B j=>
   refine⟨λx k=> ?_,λm l=>(by cases l), ?_⟩
   .have d:x.loc=.obj B/\x.write=wr:=by
     cases wr<;>cases q<;>simp[MemAct.ofEvent,MemAct.touch?] at k<;>(subst k;exact⟨rfl,rfl⟩)
    obtain⟨H,F⟩:=d;rw[H];rcases p j with c|⟨c,g⟩
    .exact .inl c
    .cases wr with
     |false=>exact .inr ⟨c,F⟩
     |true=>exact absurd rfl ((v.nw _ g _ A rfl).2 _ rfl)
   .have:=(u.lt j).2;cases wr<;>cases q<;>exact this
  |mark l=>
   refine⟨λx k=> ?_,λm e=> ?_, ?_⟩
   .cases l<;>simp[MemAct.ofEvent,MemAct.touch?] at k
   .cases e;cases l with
    |extern f=>exact .inl ⟨f,rfl⟩
    |noRoom=>exact .inr rfl
   .cases l<;>trivial
def aki(h:Rng ρ w S Rr)(d:Kept ρ σ w w' w1 cZ):∀b,b<w'.heap.size->¬S b->cZ.heap[b]?=w'.heap[b]?:=λb l i=>by
 by_cases f:∃a,ρ.r a b
 .obtain⟨a,e⟩:=f;rcases h a b e with j|⟨_,g,k⟩
  .exact absurd j i
  .exact(d.still e g k).2
 .exact d.out' l λc m=>f ⟨c,m⟩
def WR.rely(h:WR ρ w w')(g:Rng ρ w S Rr)(i:∀b,S b\/Rr b->cZ.heap[b]?=w'.heap[b]?)(e:w'.heap.size<=cZ.heap.size)(j:cZ.ou=w'.ou):WR ρ w cZ:=
 ⟨λ{b a} c=>by
  obtain⟨o,l,f,d,k⟩:=h.obj c;exact⟨o,l,f,(i a ((g b a c).imp id (·.1))).trans d,k⟩,h.os.trans j.symm,h.kW.1,db h.kW.2 e⟩
end
def iJ.ne'   :iJ P ρ l l'->∃x b y a,l=x::b/\l'=y::a
 |.one .. =>⟨_,_,_,_,rfl,rfl⟩
 |.cons .. =>⟨_,_,_,_,rfl,rfl⟩
def iJ.hd   :iJ P ρ l l'->∀{y a},l'=y::a->(y.mode=.run\/y.mode=.returning)/\y.kind=.normal
 |.one hx _,_,_,e=>by cases e;exact⟨hx.mode.elim (λy=>.inl y.2) (λy=>.inr y.2),hx.kind.2⟩
 |.cons hx _,_,_,e=>by cases e;exact⟨hx.mode.elim (λy=>.inl y.2) (λy=>.inr y.2),hx.kind.2⟩
def iJ.lone   :iJ P ρ l l'->∀{x},l=[x]->∀{y a},l'=y::a->a=[]
 |.one ..,_,_,_,_,e=>by cases e;rfl
 |.cons _ hl,_,e,_,_,_=>by
  obtain⟨_,_,_,_,b,_⟩:=hl.ne';cases e;cases b
section
variable {P P':Program} {R:List Frame->World->Prop} {Rr:aq} {main:Bool} {Rl:aq->World->World->Prop} {Gr:aq->aq->World->World->Array Event->Prop} {J:Nat->Bool} {base:List Frame}
def asy(P P':Program)(R:List Frame->World->Prop)(Rr:aq)(base:List Frame)(c0:Cfg)(iH:Ren)(w0:World)(S0 S:aq)(g:Goroutine)(w1:World):Prop:=
 ∃c d e,(c=c0\/iG P c c0)/\iH.Le d/\(∀b,S0 b->S b)/\g=Gl e base/\WR d c.w w1/\GlR d/\ku P R c/\Rng d c.w S Rr/\PkG iH c0.w w0 c.w w1/\
  ((pD c.l/\iJ P d c.l e)\/∃a f m i,dm d a f/\iJ P d m i/\c.l=Frame.enter P cD a .normal::m/\e=Frame.enter P' cD f .normal::i)
def wY(P P':Program)(R:List Frame->World->Prop)(Rr:aq)(main:Bool)(Rl:aq->World->World->Prop)(Gr:aq->aq->World->World->Array Event->Prop)(base:List Frame):Prop:=
 ∀(f:FuncId) (c:Cfg) (ρ:Ren) (a l:Array Value) (m o:List Frame) (e:World) (S:aq),gH f=true->f≠cD->dm ρ a l->iJ P ρ m o->c.l=Frame.enter P f a .normal::m->WR ρ c.w e->GlR ρ->ku P R c->Rng ρ c.w S Rr->
  bK P' main Rl Gr (λn g j=>∃i d k,iG P i c/\ρ.Le d/\(∀b,S b->n b)/\g=Gl k base/\akh P R Rr n d i k j/\PkG ρ c.w e i.w j) S (Gl (Frame.enter P' f l .normal::o) base) e
def akj (T:Twin P P') (X:ai6 P P') (fZ:∀S w,Rl S w w) (tr:∀S a b c,Rl S a b->Rl S b c->Rl S a c)
  (rl:∀S w o,Rl S w o->(∀b,S b\/Rr b->o.heap[b]?=w.heap[b]?)/\w.heap.size<=o.heap.size/\o.ou=w.ou)
  (gr:∀S w l es,(∀b,b<w.heap.size->¬S b->l.heap[b]?=w.heap[b]?)->w.heap.size<=l.heap.size->l.ou=w.ou->(∀e∈es,ni (λb=>S b\/(w.heap.size<=b/\b<l.heap.size)) Rr l.heap.size e)->
   Gr S (λb=>S b\/(w.heap.size<=b/\b<l.heap.size)) w l es)
  (al:∀f,gH f=true->∀a,(Frame.enter P' f a .normal).todo.all (mv J)=false)
  (a0:wY P P' R Rr main Rl Gr base) {c:Cfg} (aQ:Acc (iG P) c) :
  ∀{ρ:Ren} {l' lR:List Frame} {l:World} {S:aq},akh P R Rr S ρ c l' l->Rt P' J l' lR->bK P' main Rl Gr (asy P P' R Rr base c ρ l S) S (Gl lR base) l:=by
 induction aQ with
 |intro c _ ih=>
  intro ρ l' lR l S h hR;have on:∀{s:Cfg} {I:Ren} {l1 lR1:List Frame} {o:World} {S1:aq},iG P s c->ρ.Le I->(∀b,S b->S1 b)->akh P R Rr S1 I s l1 o->PkG ρ c.w l s.w o->Rt P' J l1 lR1->bK P' main Rl Gr (asy P P' R Rr base c ρ l S) S1 (Gl lR1 base) o:=λ{s I l1 lR1 o S1} hl d hS h1 V A=>
   bK.weak (λ_ _ _ x=>x) (λ_ _ _ _ _ x=>x) (λS2 g w2 ⟨c2,ρ2,l2,a1,a2,a3,a4,a5,a6,a7,a8,a9,a10⟩=>⟨c2,ρ2,l2,.inr (a1.elim (λe=>e▸hl) λx=>tf x hl),d.trans a2,λb n=>a3 b (hS b n),a4,a5,a6,a7,a8,V.trans d a9,a10⟩) (ih s hl h1 A)
  have b4:∀{x:Frame} {xs:List Frame},(Gl (x::xs) base).status=.running:=rfl;by_cases hf:pD c.l
  .-- at its end: one frame,and it is clean
   refine .stop λo hr=> ?_;obtain⟨r1,r2,r3⟩:=rl _ _ _ hr;have aP:lR=l':=by
    rcases hR with e|⟨fr,cG,j,K,_,b3,_⟩
    .exact e
    .exfalso;obtain⟨f0,hl,_⟩:=hf;exact b3 (h.st.lone hl K)
   subst aP;exact⟨c,ρ,_,.inl rfl,Ren.Le.refl _,λ_ n=>n,rfl,h.wr.rely h.rng r1 r2 r3,h.gl,h.will,h.rng,.rely λb E n=>r1 E ((h.rng b E n).imp id (·.1)),.inl ⟨hf,h.st⟩⟩
  .obtain⟨_,_,x0,b6,_,b0⟩:=h.st.ne';have ax:(Gl lR base).status=.running:=by
    rcases hR with e|⟨fr,cG,j,_,B,_⟩
    .rw[e,b0];rfl
    .rw[B];rfl
   refine .step ax λo hr=> ?_;obtain⟨r1,r2,r3⟩:=rl _ _ _ hr;have bq:=h.wr.rely h.rng r1 r2 r3;obtain⟨s,σ,p,D,es,v,hs,G,d,k,t,N,hE,z⟩:=sim T X h.gl main h.st bq hf h.will;have L:iG P s c:=.single hs;have U:=h.rng.step t N;have b1:PkG ρ c.w l c.w o:=.rely λb E n=>r1 E ((h.rng b E n).imp id (·.1));have V:PkG ρ c.w l s.w D:=b1.trans (.refl _) (.aos N λ_ _ _=>rfl);have hG:=gr S o D v (aki h.rng N) N.size' N.os.2 (asx h.rng t N hE);have after:∀{lR1:List Frame},(Rt P' J p lR1/\(iJ P σ s.l p\/lR1=p))->bK P' main Rl Gr (asy P P' R Rr base c ρ l S) (λb=>S b\/(o.heap.size<=b/\b<D.heap.size)) (Gl lR1 base) D:=λ{lR1} ⟨A,hor⟩=>by
    rcases z with i|⟨f,a,H,m,m',u,Y,i,K,B⟩
    .exact on L d (λb n=>.inl n) ⟨i,t,h.gl.mono d,G,U⟩ V A
    .have kh:lR1=p:=by
      rcases hor with b5|e
      .rcases A with e|⟨fr,cG,j,O,_,_,M,_⟩
       .exact e
       .exfalso;rw[B] at O;injection O with e4 e5
        have:=M.items;rw[<-e4,al f u H] at this;cases this
      .exact e
     subst kh;by_cases Q:f=cD
     .subst Q;refine .stop λw2 ao=> ?_;obtain⟨q1,q2,q3⟩:=rl _ _ _ ao;exact⟨s,σ,_,.inr L,d,λb n=>.inl n,rfl,t.rely U q1 q2 q3,h.gl.mono d,G,U,V.trans d (.rely λb E n=>q1 E ((U b E n).imp id (·.1))),.inr ⟨a,H,m,m',Y,i,K,B⟩⟩
     .rw[B];refine bK.bind fZ tr (a0 f s σ a H m m' D _ u Q Y i K t (h.gl.mono d) G U) λS2 g w2 ⟨c2,ρ2,l2,a1,a2,a3,a4,a5,a6⟩=> ?_;rw[a4];exact on (tf a1 L) (d.trans a2) (λb n=>a3 b (.inl n)) a5 (V.trans d a6) (.inl rfl)
   rcases hR with e|⟨fr,cG,j,K,B,an,M,fn,aa,C⟩
   .subst e;exact⟨_,D,v,_,k base,hG,after ⟨.inl rfl,.inr rfl⟩⟩
   .rw[K] at k;have bj:=h.st.hd K;obtain⟨y,F,hy⟩:∃y F,p=y::F:=by
     rcases z with i|⟨f,a,H,m,m',_,_,_,_,e⟩
     .obtain⟨_,_,y,F,_,e⟩:=i.ne';exact⟨y,F,e⟩
     .exact⟨_,_,e⟩
    have ad:(y.mode=.run\/y.mode=.returning)/\y.kind=.normal:=by
     rcases z with i|⟨f,a,H,m,m',_,_,_,_,e⟩
     .exact i.hd hy
     .rw[hy] at e;injection e with O e4
      subst O;exact⟨.inl rfl,rfl⟩
    rcases bj.1 with hm|hm
    .have q:=k base;rw[hy] at q;obtain⟨b2,aV,W,af,ay⟩:=asp M hm q ad.1 ad.2;have aG:F=j:=List.append_cancel_right b2;subst aG;refine⟨_,D,v,_,by rw[B];exact ay (F++base),hG, ?_⟩;have:=after (lR1:=W::F) ⟨.inr ⟨y,W,F,hy,rfl,an,af,fn,by rw[aV];exact aa,C⟩, ?_⟩
     .exact this
     .rcases z with i|⟨f,a,H,m,m',u,_,_,_,e⟩
      .exact .inl i
      .exfalso;rw[hy] at e;injection e with O e4
       have:=af.items;rw[O,al f u H] at this;cases this
    .obtain⟨r0,rs,Z⟩:∃r rs,j=r::rs:=by
      cases j with
      |nil=>exact absurd rfl an
      |cons r rs=>exact⟨r,rs,rfl⟩
     have aK:=asq (P:=P') M hm ⟨fn,aa,C _ _ M.size M.agree⟩ (c:=r0) (cs:=rs++base) (main:=main) (w:=o);refine⟨_,D,v,_, ?_,hG,after (lR1:=p) ⟨.inl rfl,.inr rfl⟩⟩;rw[B,Z];have q:=k base;rw[Z] at q;exact aK.trans q
end
section
variable {P P':Program} {ρ:Ren} {w w':World}
def avx(T:Twin P P'){fr : Frame}(hS:iJ P ρ [fr] [x])(X:WR ρ w w'){t0:Tape}(J:∀t,(∀i q,i<w.drawn->t i q=t0 i q)->∃v,fr.leaving P (w.dN t) (.returned v)/\Post v (w.dN t)) :
  ∃j v M l o es u t,ρ.Le j/\Post v (w.dN t)/\(∀i q,i<w.drawn->t i q=t0 i q)/\l.dN t=w.dN t/\VR j v M/\WR j l o/\Kept ρ j w w' l o/\EvW w j es u/\∀m c z,stepG P' m (Gl [x] (c::z)) w'=.go ⟨c.finish M,z,.running,none,none⟩ o u:=by
 have mG:=hS.head;obtain⟨f,tm,L,d,md,kd,r⟩:=fr;obtain⟨f',a0,fR,Z,A,a1,r'⟩:=x;obtain⟨O,G,h3,I,n,R,h7⟩:=mG;dsimp only at O G h3 I n R h7;subst O;obtain⟨v0,⟨Q,hd,N,fn,E,hr⟩,hp⟩:=J t0 λ_ _ _=>rfl;dsimp only at Q hd N E hr;subst Q hd N;obtain rfl:A=.returning:=by
  rcases n with n|n
  .cases n.1
  .exact n.2
 obtain⟨-,rfl⟩:=R;obtain rfl:Z=[]:=by cases I;rfl
 obtain⟨dt,C,hR⟩:=T.func f fn E;have good:∀t:Tape,(∀i q,i<w.drawn->t i q=t0 i q)->∃v,(results fn tm).run P (w.dN t)=.ok v (w.dN t)/\Post v (w.dN t):=λt y=>by
  obtain⟨v,⟨_,_,_,V,k,g⟩,B⟩:=J t y;dsimp only at k g;rw[E] at k;cases k;exact⟨v,g,B⟩
 obtain⟨b,D,H⟩:=(agQ T hR.results G).run w w' #[] #[] X;have s:Agr w D b λi q=>if i<w.drawn then t0 i q else b i q:=λi q K _=>bv (by omega)
 have y:∀i q,i<w.drawn->(λi q=>if i<w.drawn then t0 i q else b i q) i q=t0 i q:=λi q K=>dj K;obtain⟨v,p,F⟩:=good _ y;rcases H with H|⟨j,a,l,U,o,us,S,g1,g2,g3,Y,g5,g6,W,g8⟩
 .exfalso;obtain⟨h,l,nu,g, -⟩:=H _ s;rw[<-ru _ _ _ #[],g] at p;cases p
 .have e:=g1 _ s;rw[<-ru _ _ _ #[],e] at p;simp only[sH] at p;obtain⟨rfl,bq⟩:=p;refine⟨j,a,U,l,o,_,_,_,g3,F,y,bq,g5,g6,W,aaZ T f g8,λm c z=> ?_⟩;simp only[Gl,stepG,unwind,C,Y,ry];simp[doReturn,GStep.after]
end
end
section
def aot(a:FuncId->Bool)(b:List Nat)(c:TypeId)(o:Oper):(aav a b c o).op=o.op:=by unfold aav;split<;>rfl
def ap2(a:FuncId->Bool)(b:List Nat)(c:TypeId)(o:Oper):aav a b c (aav a b c o)=aav a b c o:=by
 by_cases h:aau a b o.op=true
 .unfold aav;simp[h]
 .unfold aav;simp[h]
def adb(P:Program)(c:FuncId->Bool)(d:List Nat)(e:TypeId)(id:Nat)(a:Array Oper)(b:Bool):bQ P c d e (.region id a b)=if(a.toList.all λo=>mz P c d o.op)=true then .region id a b
  else if(a.toList.all λo=>mz P c d o.op||aau c d o.op)=true then .region id (a.map (aav c d e)) b else .refuse "" :=rfl
def aou(P:Program)(d:FuncId->Bool)(e:List Nat)(f:TypeId)(c:Operand)(a b:Code):bQ P d e f (.cond c a b)=if bN d e c=true then .cond c (bQ P d e f a) (bQ P d e f b) else .refuse "" :=rfl
def akk(P:Program)(d:FuncId->Bool)(c:List Nat)(e:TypeId)(f:Operand)(g:Array Tmp)(a b:Code):bQ P d c e (.rangeFunc f g a b)=if bN d c f=true then .rangeFunc f g (bQ P d c e a) (bQ P d c e b) else .refuse "" :=rfl
def asz(P:Program)(c:FuncId->Bool)(d:List Nat)(e:TypeId)(a b:Code):bQ P c d e (.seq a b)=.seq (bQ P c d e a) (bQ P c d e b):=rfl
def amJ(P:Program)(e:FuncId->Bool)(d:List Nat)(l:TypeId):∀c:Code,bQ P e d l (bQ P e d l c)=bQ P e d l c:=by
 intro c
 induction c with
 |region id i draw=>
  rw[adb];by_cases h:(i.toList.all λo=>mz P e d o.op)=true
  .rw[dj h,adb,dj h]
  .rw[bv h];by_cases n:(i.toList.all λo=>mz P e d o.op||aau e d o.op)=true
   .rw[dj n,adb];have p:((i.map (aav e d l)).toList.all λo=>mz P e d o.op)=i.toList.all λo=>mz P e d o.op:=by
     rw[qI,List.all_map];congr 1;funext o;simp only[Function.comp,aot]
    have q:((i.map (aav e d l)).toList.all λo=>mz P e d o.op||aau e d o.op)=i.toList.all λo=>mz P e d o.op||aau e d o.op:=by
     rw[qI,List.all_map];congr 1;funext o;simp only[Function.comp,aot]
    rw[p,q,bv h,dj n,Array.map_map];exact gn (λg=>Code.region id (Array.map g i) draw) (funext λo=>ap2 e d l o)
   .rw[bv n];rfl
 |seq a b k j=>rw[asz,asz,k,j]
 |cond c a b k j=>
  rw[aou];by_cases h:bN e d c=true
  .rw[dj h,aou,dj h,k,j]
  .rw[bv h];rfl
 |rangeFunc f r a b k j=>
  rw[akk];by_cases h:bN e d f=true
  .rw[dj h,akk,dj h,k,j]
  .rw[bv h];rfl
 |block id a m=>exact gn (Code.block id) m
 |loop a m=>exact gn Code.loop m
 |scope a m=>exact gn Code.scope m
 |_=>rfl
def avy(c:Code):gP (gP c)=gP c:=by unfold gP;exact amJ _ _ _ _ c
def aDi:gb prog (alw prog) gL nI=true:=by unfold gL;kernel_rfl
def aDj:gb prog (alw prog) gL ki=true:=by unfold gL;kernel_rfl
def asA{c:Code}(h:gb prog (alw prog) gL c=true):gP c=c:=by
 have e:gA=alw prog:=by unfold gA;rfl
 unfold gP;rw[e];exact aiY _ _ _ _ c h
section
variable (β:Bool)
def asB{fn:Func}{c:Code}(h:(ai β).funcs[f]?=some fn)(a:fn.body=some c):gP c=c:=by
 by_cases d:f=nCC
 .subst d;rw[acT] at h;obtain rfl:=ef h;obtain rfl:nI=c:=ef a;exact asA aDi
 by_cases b:f=cD
 .subst b;rw[acU] at h;obtain rfl:=ef h;cases β with
  |true=>obtain rfl:ki=c:=ef a;exact asA aDj
  |false=>obtain rfl:Code.refuse "" =c:=ef a;exact asA rfl
 rw[alF β d b] at h;obtain⟨k,j,rfl⟩:=iS.1 h;have e:k.body.map gP=some c:=a;obtain⟨i,g,rfl⟩:=iS.1 e;exact avy i
def avz(f:FuncId)(fn:Func)(h:(ai β).funcs[f]?=some fn):∃b,(ai β).funcs[f]?=some b/\FnR (gH f) fn b:=by
 obtain⟨g,e,d⟩:=ah4 β f fn h;exact⟨fn,h,rfl,d.azQ,rfl,rfl,rfl,λ_=>rfl,λc a=>⟨c,a,λ_=>(asB β h a).symm⟩⟩
def aiy:Twin (ai β) (ai β) where
 info _:=rfl
 under _:=rfl
 rt:=rfl
 depth:=rfl
 globals:=⟨(mb β).globals.1,(mb β).globals.1⟩
 zero:=(mb β).zero
 stood _:=rfl
 awH:=rfl
 cellAt _ _ _ _ _:=rfl
 lies _ _ _ _ _ _:=rfl
 ala _ _:=rfl
 follows _:=rfl
 pc:=(mb β).pc
 auc:=(mb β).auc
 func:=avz β
 ai1:=rfl
 nB:=(mb β).nB
def ayU:ai6 (ai β) (ai β):=λf fn c i k o a j h=>by
 obtain⟨p,b,n⟩:=ah4 β f fn c;obtain rfl:=n.none i;have g:=(dq.1 b).1;have d:=lc.1 ae8 f (qn.2 g);have d:=agU b d;have m:alw prog f=true:=by
  have:gA f=alw prog f:=by unfold gA;rfl
  rw[<-this];exact k
 rw[m,i] at d;simp only[uY,tn,ut,uu,qQ,mt] at d;rcases d with rfl|rfl
 .have e:=b.symm.trans func210;obtain rfl:=ef e;exact ab1 c c anU anU (cL func210) (cL func210) anW anW anX anX (λl a j h=>ab0 (aiy β) _ _ h) h
 .have e:=b.symm.trans func226;obtain rfl:=ef e;exact ab1 c c anV anV (cL func226) (cL func226) adz adz anY anY (λl a j h=>ady h) h
def afJ{a : Array Value}(g:dm ρ a U):FrR (ai β) ρ (Frame.enter (ai β) f a .normal) (Frame.enter (ai β) f U .normal):=by
 have i:∀n,dm ρ (a++Array.replicate (n-a.size) undef) (U++Array.replicate (n-U.size) undef):=λn=>by
  rw[g.size];exact dm.app g (bU.kI λv d=>by simp at d;rw[d.2];exact VR.undef)
 cases b:(ai β).funcs[f]? with
 |none=>
  unfold Frame.enter;rw[b];exact⟨rfl,i _,abV (aiy β) _,.nil,.inl ⟨rfl,rfl⟩,⟨rfl,rfl⟩,.none⟩
 |some fn=>
  unfold Frame.enter;rw[b];refine⟨rfl,i _, ?_,.nil,.inl ⟨rfl,rfl⟩,⟨rfl,rfl⟩,.none⟩;show jO (ai β) ρ [.code (fn.body.getD _)] [.code (fn.body.getD _)];cases j:fn.body with
  |none=>exact abV (aiy β) _
  |some c=>
   have e:gP c=c:=asB β b j;have:ItR (ai β) ρ (.code (gP c)) (.code c):=.code c;rw[e] at this;exact .cons this .nil
def ayV(h:GoR (ai β) (ai β) ρ l l'):iJ (ai β) ρ l l':=by
 rcases h with h|⟨f,a,d,m,e, -,c,b,rfl,rfl⟩
 .exact h
 .exact .cons (afJ β c) b
def aDk{R:List Frame->World->Prop}(m:GlR ρ){c:Cfg}(m':Bool)(q:iJ (ai β) ρ c.l l')(i:WR ρ c.w w')(n:¬pD c.l)(o:ku (ai β) R c) :
  ∃e d a f g b,ae7 (ai β) c e/\ku (ai β) R e/\ρ.Le d/\(∀base,stepG (ai β) m' (Gl l' base) w'=.go (Gl a base) f b)/\WR d e.w f/\Kept ρ d c.w w' e.w f/\EvW c.w d g b/\iJ (ai β) d e.l a:=by
 obtain⟨e,d,a,f,g,b,s,k,l,r,u,p,t,j⟩:=sim (aiy β) (ayU β) m m' q i n o;exact⟨e,d,a,f,g,b,s,k,l,r,u,p,t,ayV β j⟩
end
end
section
open Go.Conc Go.ConcN Go.RowKit Go.Lib
def dU{β : Type}{s:Sem V}{f:V->Sem β}{v:β}(h:(Bind.bind s f).run P w=.ok v w2):∃a b,s.run P w=.ok a b/\(f a).run P b=.ok v w2:=by
 have h:(s.bind f).run P w=.ok v w2:=h;rw[qO] at h;cases c:s.run P w with
 |ok a b=>rw[c] at h;exact⟨a,b,rfl,h⟩
 |halt q b=>rw[c] at h;cases h
def NoV(P:Program)(w:World)(A:Addr):Prop:=(∀s a,(viewAt A.block).run P w ≠ .ok (some s) a)/\(w.cell? A=none->(∀b,∃e,w.farLoad P A b=.error e)/\∀v b,∃e,w.farStore P A v b=.error e)
def asC{m:String}{v:V}:(runtimePanic (.error m):Sem V).run P w ≠ .ok v w2:=by
 intro h;unfold runtimePanic at h;simp[goPanic] at h
structure CcT (P:Program):Prop where
 u:P.underlying 225=some (.pointer 227)
 up:P.underlying 212=some .unsafePointer
 i6:∃i,P.info? 225=some i/\i.size=1
 i8:∃i,P.info? 227=some i/\i.size=2/\i.bytes<1000
 f:∃fs g,P.underlying 227=some (.struct fs)/\fs[0]?=some g/\g.offset=0/\g.type=225
section
variable {P:Program} (T:CcT P) {w w2:World} {x v:Value}
include T
theorem asD{y:Value}(D:y=.int .i64 1)(k:∀A,x=.pointer (some A)->NoV P w A)(h:(Builtin.unsafeSlice_ #[225,3] 0 #[x,y]).run P w=.ok v w2) :
  w2=w/\∃A e n,x=.pointer (some A)/\w.shape? A.block=some (e,n)/\liesAt P P.depth e (n / P.cellsOf e) A.off 227 1=true:=by
 obtain⟨i,u,t,F⟩:=T.i8;have o:¬IntKind.i64.max<1:=by decide
 have j:¬18446744073709551616<=i.bytes:=by omega
 have c:∃l,l=[x,y]:=⟨_,rfl⟩;obtain⟨l,c⟩:=c;replace h:(Builtin.unsafeSlice_ #[225,3] 0 ⟨l⟩).run P w=.ok v w2:=by rw[c];exact h
 unfold Builtin.unsafeSlice_ at h;cases l with
 |nil=>cases c
 |cons a l=>
  cases l with
  |nil=>cases c
  |cons b l=>
   cases l with
   |cons=>cases c
   |nil=>
    injection c with E m
    injection m with m G
    cases a with
    |pointer a=>
     subst E m;subst D;obtain⟨n,C,r,B⟩:=dU (s:=asInt (.int .i64 1)) h;clear h;obtain⟨rfl,rfl⟩:(1:Int)=n/\w=C:=by simpa[asInt,asIntOf] using r
     obtain⟨e,g,p,h⟩:=dU (s:=elemOf 225) B;clear B;obtain⟨rfl,rfl⟩:227=e/\w=g:=by simpa[elemOf,lw T.u] using p
     clear r p;cases a with
     |none=>
      simp[o] at h;exact absurd h asC
     |some A=>
      have k:=(k A rfl).1;cases f:w.shape? A.block with
      |none=>
       simp[o,j,typeInfo,sizeOf,u,t,variablesAt,f] at h;cases d:(viewAt A.block).run P w with
       |halt q g=>rw[d] at h;cases h
       |ok z g=>
        cases z with
        |some z=>exact absurd d (k _ _)
        |none=>rw[d] at h;cases h
      |some z=>
       obtain⟨e,n⟩:=z;simp[o,j,typeInfo,sizeOf,u,t,variablesAt,f] at h;by_cases c:liesAt P P.depth e (n / P.cellsOf e) A.off 227 1=true
       .simp only[c,pr,sH] at h;exact⟨h.2.symm,A,e,n,rfl,f,c⟩
       .simp only[c,qG,jp] at h;cases d:(viewAt A.block).run P w with
        |halt q g=>rw[d] at h;cases h
        |ok z g=>
         cases z with
         |some z=>exact absurd d (k _ _)
         |none=>rw[d] at h;cases h
    |_=>cases(show Result.halt _ _=Result.ok v w2 from h)
theorem asE(A:Addr):(Instr.fieldAt 227 (.pointer (some A)) 0).run P w=.ok (.pointer (some A)) w:=by
 obtain⟨j,g,c,a,d,b⟩:=T.f;obtain⟨i,e,f⟩:=T.i6;simp[Instr.fieldAt,Instr.sureAddr,lw c,a,fieldPlace,sizeOf,typeInfo,b,e,f,d,Addr.add]
theorem avA(b:NoV P w A)(h:(Instr.loadAt 225 (.pointer (some A))).run P w=.ok v w2):w2=w/\w.cell? A=some v:=by
 have h:(Sem.load .plain A Sem.pure).run P w=.ok v w2:=by simpa[Instr.loadAt,Instr.sureAddr,loadVar,isAgg,lw T.u,load] using h
 unfold Sem.run at h;cases a:w.cell? A with
 |some u=>
  simp only[a,Sem.run,sH] at h;exact⟨h.2.symm,by rw[h.1]⟩
 |none=>
  obtain⟨e,c⟩:=(b.2 a).1 (Mode.plain ==.atomic);simp only[a,c] at h;cases h
theorem asF{u:Option Addr}{r:Unit}(c:NoV P w A)(h:(Instr.storeAt 225 (.pointer (some A)) (.pointer u)).run P w=.ok r w2):w2=w.setCell A (.pointer u)/\w.frozen? A=false/\∃v,w.cell? A=some v:=by
 obtain⟨i,f,g⟩:=T.i6;have h:(Sem.store .plain A (.pointer u) (Sem.pure ())).run P w=.ok r w2:=by
  simpa[Instr.storeAt,Instr.sureAddr,storeVar,sizeOf,typeInfo,f,g,Value.cells,storeCells,store,Addr.add] using h
 unfold Sem.run at h;cases a:w.cell? A with
 |some v=>
  simp only[a] at h;cases b:w.frozen? A with
  |true=>rw[b] at h;cases h
  |false=>
   rw[b] at h;simp only[jp,qG,Sem.run,sH] at h;exact⟨h.2.symm,rfl,v,rfl⟩
 |none=>
  obtain⟨e,d⟩:=(c.2 a).2 (.pointer u) (Mode.plain ==.atomic);simp only[a,d] at h;cases h
theorem ayW{b:Value}(h:(binOp .eql 225 v (.pointer none)).run P w=.ok b w2):w2=w/\((v=.pointer none/\b=.bool true)\/∃B,v=.pointer (some B)/\b=.bool false):=by
 have i:∀(d:Nat) (a:Option Addr),(Op.equalIn (d+1) 225 (.pointer a) (.pointer none)).run P w=.ok a.isNone w:=λd a=>by
  cases a<;>simp[Op.equalIn,lw T.u]
 have j:∀(d:Nat) (r:Bool) (c:World),(∀a,v ≠ .pointer a)->(Op.equalIn (d+1) 225 v (.pointer none)).run P w ≠ .ok r c:=λd r c l=>by
  cases v with
  |pointer a=>exact absurd rfl (l a)
  |_=>simp[Op.equalIn,lw T.u,stuck]
 simp only[binOp] at h;by_cases g:∃a,v=.pointer a
 .obtain⟨a,rfl⟩:=g;simp[Op.equal,Op.maxDepth,i 9999] at h;refine⟨h.2.symm, ?_⟩;cases a with
  |none=>exact .inl ⟨rfl,h.1.symm⟩
  |some B=>exact .inr ⟨B,rfl,h.1.symm⟩
 .exfalso;have f:∀a,v ≠ .pointer a:=λa e=>g ⟨a,e⟩;obtain⟨r,c,k, -⟩:=dU h;exact j 9999 r c f k
end
end
section
open Go.Conc Go.ConcN
def aA8:(prog.info? 225).map (·.size ==1)=some true:=by kernel_rfl
def aA9:(prog.info? 227).map (λi=>i.size ==2&&decide (i.bytes<1000))=some true:=by kernel_rfl
def aBa:prog.underlying 225=some (.pointer 227):=by kernel_rfl
def aBb:prog.underlying 212=some .unsafePointer:=by kernel_rfl
def aBc:(match prog.underlying 227 with
 |some (.struct fs)=>(match fs[0]? with
  |some g=>g.offset ==0&&g.type ==225
  |none=>false)
 |_=>false)=true:=by kernel_rfl
def ccT:CcT prog where
 u:=aBa
 up:=aBb
 i6:=by
  obtain⟨i,c,a⟩:=iS.1 aA8;exact⟨i,c,by simpa using a⟩
 i8:=by
  obtain⟨i,c,a⟩:=iS.1 aA9;simp only[fk,mt,qJ] at a;exact⟨i,c,a⟩
 f:=by
  have h:=aBc;generalize prog.underlying 227=q at h;cases q with
  |none=>cases h
  |some d=>
   cases d with
   |struct e=>
    dsimp only at h;cases b:e[0]? with
    |none=>rw[b] at h;cases h
    |some g=>
     rw[b] at h;simp only[fk,mt] at h;exact⟨e,g,rfl,b,h⟩
   |_=>cases h
def ccQ(β:Bool):CcT (ai β) where
 u:=(cP prog _ 225).trans ccT.u
 up:=(cP prog _ 212).trans ccT.up
 i6:=let⟨i,h,k⟩:=ccT.i6;⟨i,(ko prog _ 225).trans h,k⟩
 i8:=let⟨i,h,k⟩:=ccT.i8;⟨i,(ko prog _ 227).trans h,k⟩
 f:=let⟨a,g,h,k⟩:=ccT.f;⟨a,g,(cP prog _ 227).trans h,k⟩
def WR.noV(h:WR ρ w w'){a : Addr}(f:AR ρ a A):NoV P w' A:=by
 obtain⟨d,o,s⟩:=f;obtain⟨x,j,i,b,c⟩:=h.obj d;refine⟨λs g=> ?_,λk=> ?_⟩
 .intro e;unfold viewAt at e;cases c<;>simp[World.shape?,b,shape,getObj,Sem.run] at e
 .unfold World.farLoad World.farStore;simp only[b];cases c<;>exact⟨λ_=>⟨_,rfl⟩,λ_ _=>⟨_,rfl⟩⟩
section
variable {β m:Bool} {fr:Frame} {xs base:List Frame} {ops:Array Oper} {i:Nat} {rest:List Nat} {k:List Item} {o:Oper} {w w2:World} {l2:List Frame} {es:Array Event}
def xq (H:fr.mode=.run) (F:fr.kind=.normal) (l:fr.roundOf=none) (D:fr.todo=.inRegion ops (i::rest)::k) (P:ops[i]?=some o) (L:o.guard=none)
  (a:stepG (ai β) m (Gl (fr::xs) base) w=.go (Gl l2 base) w2 es) (e:∀y f,l2=y::f->(y.mode=.run\/y.mode=.returning)/\y.kind=.normal) (B:l2≠[])
  (E:∀n j,(execOp fr.eval o).run (ai β) w=.ok n j->(∃v,n=.value v)\/n=.skip) :
  (∃v,(execOp fr.eval o).run (ai β) w=.ok (.value v) w2/\l2=fr.finish v::xs)\/((execOp fr.eval o).run (ai β) w=.ok .skip w2/\l2=fr.finish undef::xs):=by
 obtain⟨fn,b,I,p,V,U,T⟩:=fr;dsimp only at H F l D;subst H F l D;have O:∀y,Region.wanted o y=true:=λy=>by unfold Region.wanted;rw[L]
 have Q:stepG (ai β) m (Gl (⟨fn,b,.inRegion ops (i::rest)::k,p,.run,.normal,none⟩::xs) base) w =
   stepG.apply (ai β) true ⟨fn,b,.inRegion ops (i::rest)::k,p,.run,.normal,none⟩ (xs++base) none (execOp (Frame.eval ⟨fn,b,.inRegion ops (i::rest)::k,p,.run,.normal,none⟩) o) w:=by
  simp[Gl,stepG,stepG.exec,stepG.oper,Frame.oper?,P,O]
 rw[Q] at a;generalize execOp (Frame.eval ⟨fn,b,.inRegion ops (i::rest)::k,p,.run,.normal,none⟩) o=s at a E ⊢;have C:(CallKind.normal ==CallKind.early)=false:=rfl;cases t:s.runT (ai β) w #[] with
 |mk r N=>
  have d:s.run (ai β) w=r:=by rw[<-ru _ _ _ #[],t]
  cases r with
  |ok n j=>
   rcases E n j d with⟨v,rfl⟩|rfl
   .unfold stepG.apply at a;simp only[t,pr] at a;simp[GStep.after,C] at a;obtain⟨A,x, -⟩:=a;refine .inl ⟨v,by rw[d,x], ?_⟩;exact(nK (base:=base) (by simp) B (by rw[<-A];rfl)).symm
   .unfold stepG.apply at a;simp only[t,pr] at a;simp[GStep.after,C] at a;obtain⟨A,x, -⟩:=a;refine .inr ⟨by rw[d,x], ?_⟩;exact(nK (base:=base) (by simp) B (by rw[<-A];rfl)).symm
  |halt q j=>
   exfalso;obtain⟨y,f,rfl⟩:∃y f,l2=y::f:=by cases l2 with|nil=>exact absurd rfl B|cons y f=>exact⟨y,f,rfl⟩
   obtain⟨e,K⟩:=e y f rfl;unfold stepG.apply at a;simp only[t,pr] at a;cases q with
   |unsupported u=>
    cases u with
    |initOrder g=>
     have R:=(mb β).nB.1;have S:=(mb β).nB.2;simp[C,early,R,S,GStep.after] at a
    |_=>simp[GStep.after] at a
   |panic v=>simp[GStep.after,Gl] at a;obtain⟨⟨rfl, -⟩, -⟩:=a;rcases e with h|h<;>simp[Frame.raise] at h
   |goexit=>simp[GStep.after,Gl] at a;obtain⟨⟨rfl, -⟩, -⟩:=a;rcases e with h|h<;>simp[Frame.raise] at h
   |blocked=>simp[GStep.after,Gl] at a
   |waiting=>simp[GStep.after,Gl] at a
   |exit c=>simp[GStep.after] at a
   |stuck c=>simp[GStep.after] at a
   |throw J=>simp[GStep.after,endThrow,dieOf,Gl] at a
   |fatal J=>
    dsimp only at a;unfold endFatal at a;dsimp only at a;generalize Sem.run (ai β) _ j=z at a;cases z with
    |ok G M=>simp[GStep.after,dieOf,Gl] at a
    |halt G M=>cases G<;>simp[GStep.after] at a
end
structure ik (β:Bool) (R:List Frame->World->Prop) (c0:Cfg) (iH:Ren) (w0:World) (c:Cfg) (ρ:Ren) (l:List Frame) (w:World):Prop where
 later:c=c0\/iG (ai β) c c0
 le:iH.Le ρ
 st:iJ (ai β) ρ c.l l
 wr:WR ρ c.w w
 gl:GlR ρ
 will:ku (ai β) R c
 kept:Kept iH ρ c0.w w0 c.w w
section
variable {β:Bool} {R:List Frame->World->Prop} {c0 c:Cfg} {iH ρ:Ren} {w0 w w2:World} {l l2:List Frame}
def iJ.two(h:iJ P ρ l l')(e:l'=x::y::Y):¬pD l:=λ⟨b,a,_⟩=>by
 have:=h.lone a e;cases this
def ik.adz(h:ik β R c0 iH w0 c ρ l w)(m:Bool)(q:¬pD c.l) :
  ∃a d f b n,ik β R c0 iH w0 a d f b/\iG (ai β) a c0/\ρ.Le d/\(∀base,stepG (ai β) m (Gl l base) w=.go (Gl f base) b n)/\ae7 (ai β) c a:=by
 obtain⟨a,d,f,b,n,j,i,p,g,s,t,r,u,o⟩:=aDk β h.gl m h.st h.wr q h.will;have k:iG (ai β) a c0:=h.later.elim (λe=>e ▸ .single i) λx=>tf (.single i) x;exact⟨a,d,f,b,j,⟨.inr k,h.le.trans g,o,t,h.gl.mono g,p,h.kept.trans r⟩,k,g,s,i⟩
def ik.next(h:ik β R c0 iH w0 c ρ l w)(m:Bool)(e:l=x::y::Y) :
  ∃f b d a g,ik β R c0 iH w0 f b d a/\iG (ai β) f c0/\ρ.Le b/\∀base,stepG (ai β) m (Gl l base) w=.go (Gl d base) a g:=
 let⟨f,b,d,a,g,n,i,j,k,_⟩:=h.adz m (h.st.two e);⟨f,b,d,a,g,n,i,j,k⟩
def ik.go(h:ik β R c0 iH w0 c ρ l w)(e:l=x::y::Y)(m:Bool){x2:Frame}{xs2:List Frame}(i:∀base,stepG (ai β) m (Gl l base) w=.go (Gl (x2::xs2) base) w2 es) :
  ∃b a,ik β R c0 iH w0 b a (x2::xs2) w2/\iG (ai β) b c0/\ρ.Le a:=by
 obtain⟨b,a,n,r,s,d,f,g,o⟩:=h.next m e
 have:=o [];rw[i []] at this;injection this with j q u
 obtain⟨_,_,t,k,_,p⟩:=d.st.ne';have:x2::xs2=n:=nK (base:=[]) (by simp) (by rw[p];simp) j;subst this q;exact⟨b,a,d,f,g⟩
def ik.no(h:ik β R c0 iH w0 c ρ l w)(e:l=x::y::Y)(m:Bool){o:Outcome}(b:stepG (ai β) m (Gl l []) w=.ended o w2):False:=by
 obtain⟨p,n,f,d,i,j,g,k,a⟩:=h.next m e
 have:=a [];rw[b] at this;cases this
abbrev FQ(f:FuncId)(T:Array Value)(k:List Item):Frame:=⟨f,T,k,[],.run,.normal,none⟩
abbrev FC(T:Array Value)(k:List Item):Frame:=FQ nCC T k
def iJ.hdL   :iJ P ρ l l'->∀{y a},l=y::a->(y.mode=.run\/y.mode=.returning)/\y.kind=.normal
 |.one hx _,_,_,e=>by cases e;exact⟨hx.mode.elim (λy=>.inl y.1) (λy=>.inr y.1),hx.kind.1⟩
 |.cons hx _,_,_,e=>by cases e;exact⟨hx.mode.elim (λy=>.inl y.1) (λy=>.inr y.1),hx.kind.1⟩
def ik.ap3 {T:Array Value}       (h:ik β R c0 iH w0 c ρ (FQ f T (.inRegion Z (i::rest)::k)::y::Y) w)
  (A:Z[i]?=some o) (X:o.guard=none) (r:aau gA gL o.op=false) (t:Tmp) (d:∀(e:Operand->Value) (w:World),e (.tmp t)=.tuple #[]->∀q S,(execOp e o).run (ai β) w ≠ .ok q S) :
  ∃x,VR ρ x (T.getD t undef)/\x ≠ .tuple #[]:=by
 obtain⟨c1,σ,l1,w1,es,F, -, -, -,hR⟩:=h.adz true (h.st.two rfl);obtain⟨E,a0,_,_,C,e2⟩:=h.st.ne';have I:=h.st;rw[C] at I;have G:=I.head;have N:VR ρ (E.eval (.tmp t)) (T.getD t undef):=G.env h.gl (.tmp t) rfl;refine⟨_,N,λp=> ?_⟩;obtain⟨x1,U,_,_,e3,_⟩:=F.st.ne';obtain⟨a1,a⟩:=hR.step;have a:=a [] c1.t λ_ _ _=>rfl;rw[C] at a;obtain⟨fn,P,D,ds,K,kd,V⟩:=E;obtain⟨L,O,J,Q,B,H,u⟩:=G;dsimp only at L O J Q B H u;obtain rfl:K=.run:=B.elim (·.1) λx=>by cases x.2
 obtain rfl:V=none:=by cases u;rfl
 cases J with
 |cons x hl=>
  cases x with
  |@inRegion g _ z l=>
   have M:i<g.size:=by rw[z.1];exact(dq.1 A).1
   have b:g[i]?=some o:=by
    obtain⟨s,b⟩:∃s,g[i]?=some s:=⟨_,gt M⟩;rcases z.2 i s o b A with⟨rfl,_⟩|⟨j,_⟩
    .exact b
    .rw[r] at j;cases j
   have hq:=xq (β:=β) (m:=true) (fr:=⟨fn,P,_,ds,.run,kd,none⟩) rfl H.1 rfl rfl b X a (λy Y e=>F.st.hdL e) (by rw[e3];simp) (λq W n=>absurd n (d _ _ p q W));rcases hq with⟨v,n,_⟩|⟨n,_⟩
   .exact d _ _ p _ _ n
   .exact d _ _ p _ _ n
def ik.op {T:Array Value}       (h:ik β R c0 iH w0 c ρ (FQ f T (.inRegion Z (i::rest)::k)::y::Y) w)
  (p:Z[i]?=some o) (s:o.guard=none) (t:∀m r,(execOp (FQ f T (.inRegion Z (i::rest)::k)).eval o).run (ai β) w=.ok m r->(∃v,m=.value v)\/m=.skip) :
  ∃v a j g,((execOp (FQ f T (.inRegion Z (i::rest)::k)).eval o).run (ai β) w=.ok (.value v) a\/((execOp (FQ f T (.inRegion Z (i::rest)::k)).eval o).run (ai β) w=.ok .skip a/\v=undef))/\
   ik β R c0 iH w0 j g (FQ f (match o.dst with|some d=>T.setIfInBounds d v|none=>T) (.inRegion Z rest::k)::y::Y) a/\ρ.Le g:=by
 obtain⟨j,g,D,a,C,b,A,q,u⟩:=h.next true rfl
 obtain⟨_,_,B,x,_,z⟩:=b.st.ne';have n:∀v,Frame.finish (FQ f T (.inRegion Z (i::rest)::k)) v=FQ f (match o.dst with|some d=>T.setIfInBounds d v|none=>T) (.inRegion Z rest::k):=λv=>by
  simp only[Frame.finish,p,qH];cases o.dst<;>rfl
 rcases xq (base:=[]) rfl rfl rfl rfl p s (u []) (λy Y e=>b.st.hd e) (by rw[z];simp) t with⟨v,l,rfl⟩|⟨l,rfl⟩
 .rw[n] at b;exact⟨v,a,j,g,.inl l,b,q⟩
 .rw[n] at b;exact⟨undef,a,j,g,.inr ⟨l,rfl⟩,b,q⟩
section
variable {T:Array Value} {k:List Item} {y:Frame} {ys:List Frame}
def ik.seq(h:ik β R c0 iH w0 c ρ (FC T (.code (.seq a b)::k)::y::ys) w):∃e d,ik β R c0 iH w0 e d (FC T (.code a :: .code b::k)::y::ys) w/\ρ.Le d:=by
 obtain⟨e,d,g, -,f⟩:=h.go rfl true (es:=#[]) (x2:=FC T (.code a :: .code b::k)) (xs2:=y::ys) (w2:=w) λbase=>by simp[Gl,stepG,stepG.exec]
 exact⟨e,d,g,f⟩
def ik.region{id:Nat}(h:ik β R c0 iH w0 c ρ (FC T (.code (.region id Z false)::k)::y::ys) w):∃b a,ik β R c0 iH w0 b a (FC T (.inRegion Z (List.range Z.size)::k)::y::ys) w/\ρ.Le a:=by
 obtain⟨b,a,e, -,d⟩:=h.go rfl true (es:=#[]) (x2:=FC T (.inRegion Z (List.range Z.size)::k)) (xs2:=y::ys) (w2:=w) λbase=>by simp[Gl,stepG,stepG.exec]
 exact⟨b,a,e,d⟩
def ik.jc(h:ik β R c0 iH w0 c ρ (FC T (.inRegion Z []::k)::y::ys) w):∃b a,ik β R c0 iH w0 b a (FC T k::y::ys) w/\ρ.Le a:=by
 obtain⟨b,a,d, -,e⟩:=h.go rfl true (es:=#[]) (x2:=FC T k) (xs2:=y::ys) (w2:=w) λbase=>by simp[Gl,stepG,stepG.exec]
 exact⟨b,a,d,e⟩
def ik.skip(h:ik β R c0 iH w0 c ρ (FC T (.code .skip::k)::y::ys) w):∃b a,ik β R c0 iH w0 b a (FC T k::y::ys) w/\ρ.Le a:=by
 obtain⟨b,a,d, -,e⟩:=h.go rfl true (es:=#[]) (x2:=FC T k) (xs2:=y::ys) (w2:=w) λbase=>by simp[Gl,stepG,stepG.exec]
 exact⟨b,a,d,e⟩
def ik.cond(f:T.getD t undef=.bool q)(h:ik β R c0 iH w0 c ρ (FC T (.code (.cond (.tmp t) a b)::k)::y::ys) w):∃e d,ik β R c0 iH w0 e d (FC T (.code (if q then a else b)::k)::y::ys) w/\ρ.Le d:=by
 have g:Frame.eval (FC T (.code (.cond (.tmp t) a b)::k)) (.tmp t)=.bool q:=f;obtain⟨e,d,j, -,i⟩:=h.go rfl true (es:=#[]) (x2:=FC T (.code (if q then a else b)::k)) (xs2:=y::ys) (w2:=w) λbase=>by simp[Gl,stepG,stepG.exec,g]
 exact⟨e,d,j,i⟩
def ik.ret(h:ik β R c0 iH w0 c ρ (FC T (.code .ret::k)::y::ys) w):∃d b,ik β R c0 iH w0 d b (y.finish (.tuple #[])::ys) w/\ρ.Le b/\iG (ai β) d c0:=by
 obtain⟨d,b,l, -,g⟩:=h.go rfl true (es:=#[]) (x2:=⟨nCC,T,.code .ret::k,[],.returning,.normal,none⟩) (xs2:=y::ys) (w2:=w) λbase=>by simp[Gl,stepG,stepG.exec]
 have f:(ai β).funcs[nCC]?=some qCC:=acT β;have a:qCC.results=#[]:=rfl;obtain⟨e,n,o,i,m⟩:=l.go rfl true (es:=#[]) (x2:=y.finish (.tuple #[])) (xs2:=ys) (w2:=w) λbase=>by
  have j:(results qCC T).runT (ai β) w #[]=(.ok (.tuple #[]) w,#[]):=by
   simp[results,a,Sem.runT]
  simp only[Gl,stepG,unwind,f,j];simp[doReturn,GStep.after,seen]
 exact⟨e,n,o,g.trans m,i⟩
end
end
section
variable {β:Bool} {R:List Frame->World->Prop} {c0 c:Cfg} {iH ρ:Ren} {w0 w w2:World} {T:Array Value} {k:List Item} {y:Frame} {ys:List Frame}
def ik.noV(h:ik β R c0 iH w0 c ρ (FC T k::y::ys) w)(e:T.getD t undef=.pointer (some A))(b:∃x,VR ρ x (T.getD t undef)/\x ≠ .tuple #[]):(∃d,AR ρ d A)/\NoV (ai β) w A:=by
 obtain⟨x,b,f⟩:=b;rw[e] at b;cases b with
 |pointer a=>cases a with
  |some a=>exact⟨⟨_,a⟩,h.wr.noV a⟩
 |fV=>exact absurd rfl f
def aH{T:Array Value}{d t:Nat}(a:d<T.size):(T.setIfInBounds d v).getD t undef=if t=d then v else T.getD t undef:=by
 rw[ip,ip,qk];by_cases e:d=t
 .subst e;simp[a]
 .rw[bv e,bv (λx=>e x.symm)]
def eqG{x y:Operand} :eqGuard .eql 225 x y v (.pointer none)=Sem.pure ():=by
 unfold eqGuard;cases v<;>rfl
def ik.slice(h:ik β R c0 iH w0 c ρ (FC T (.inRegion pE (0::rest)::k)::y::ys) w) :
  ∃A e n q i,T.getD 0 undef=.pointer (some A)/\(∃x,AR ρ x A)/\w.shape? A.block=some (e,n)/\liesAt (ai β) (ai β).depth e (n / (ai β).cellsOf e) A.off 227 1=true/\ik β R c0 iH w0 q i (FC T (.inRegion pE rest::k)::y::ys) w/\ρ.Le i:=by
 have a:∀d g,(execOp (FC T (.inRegion pE (0::rest)::k)).eval (iE none (.call ⟨.builtin .unsafeSlice,#[.tmp 0,.const (.int .i64 1)],#[225,3]⟩) 0)).run (ai β) w=.ok d g->
   ∃v,(Builtin.unsafeSlice_ #[225,3] 0 #[T.getD 0 undef,.int .i64 1]).run (ai β) w=.ok v g/\d=.value v:=λd g b=>by
  have j:execOp (FC T (.inRegion pE (0::rest)::k)).eval (iE none (.call ⟨.builtin .unsafeSlice,#[.tmp 0,.const (.int .i64 1)],#[225,3]⟩) 0) =
    (Builtin.unsafeSlice_ #[225,3] 0 #[T.getD 0 undef,.int .i64 1]).bind λv=>Sem.pure (.value v):=by
   have p:Array.map (FC T (.inRegion pE (0::rest)::k)).eval #[.tmp 0,.const (.int .i64 1)]=#[T.getD 0 undef,.int .i64 1]:=by simp[Frame.eval]
   simp only[execOp,iE,resolve];rw[p];rfl
  rw[j] at b;obtain⟨v,z,f,l⟩:=dU (s:=Builtin.unsafeSlice_ #[225,3] 0 #[T.getD 0 undef,.int .i64 1]) b;cases(show Result.ok (Next.value v) z=Result.ok d g from l);exact⟨v,f,rfl⟩
 obtain⟨v,B,q,i,m,f,l⟩:=h.op (o:=iE none (.call ⟨.builtin .unsafeSlice,#[.tmp 0,.const (.int .i64 1)],#[225,3]⟩) 0) rfl rfl λd g b=>.inl (let⟨v,_,e⟩:=a d g b;⟨v,e⟩);have G:∃u,(Builtin.unsafeSlice_ #[225,3] 0 #[T.getD 0 undef,.int .i64 1]).run (ai β) w=.ok u B:=by
  rcases m with b|⟨b, -⟩
  .obtain⟨u,f, -⟩:=a _ _ b;exact⟨u,f⟩
  .obtain⟨u,f, -⟩:=a _ _ b;exact⟨u,f⟩
 obtain⟨u,E⟩:=G;have r:=h.ap3 (o:=iE none (.call ⟨.builtin .unsafeSlice,#[.tmp 0,.const (.int .i64 1)],#[225,3]⟩) 0) rfl rfl rfl 0 λe w H d C b=>by
  have j:execOp e (iE none (.call ⟨.builtin .unsafeSlice,#[.tmp 0,.const (.int .i64 1)],#[225,3]⟩) 0)=(Builtin.unsafeSlice_ #[225,3] 0 #[.tuple #[],e (.const (.int .i64 1))]).bind λv=>Sem.pure (.value v):=by
   have p:Array.map e #[.tmp 0,.const (.int .i64 1)]=#[.tuple #[],e (.const (.int .i64 1))]:=by simp[H]
   simp only[execOp,iE,resolve];rw[p];rfl
  rw[j] at b;cases(show Result.halt _ _=Result.ok d C from b)
 obtain⟨rfl,A,e,n,t,D,F⟩:=asD (ccQ β) rfl (λA e=>(h.noV e r).2) E;exact⟨A,e,n,q,i,t,(h.noV t r).1,D,F,f,l⟩
def ik.field(h:ik β R c0 iH w0 c ρ (FC T (.inRegion Z (i::rest)::k)::y::ys) w)(l:Z[i]?=some (iE (some d) (.fieldAddr 227 (.tmp t) 0) 0))(e:T.getD t undef=.pointer (some A)) :
  ∃j g,ik β R c0 iH w0 j g (FC (T.setIfInBounds d (.pointer (some A))) (.inRegion Z rest::k)::y::ys) w/\ρ.Le g:=by
 have a:(execOp (FC T (.inRegion Z (i::rest)::k)).eval (iE (some d) (.fieldAddr 227 (.tmp t) 0) 0)).run (ai β) w=.ok (.value (.pointer (some A))) w:=by
  have:(execOp (FC T (.inRegion Z (i::rest)::k)).eval (iE (some d) (.fieldAddr 227 (.tmp t) 0) 0))=(Instr.fieldAt 227 (T.getD t undef) 0).bind λv=>Sem.pure (.value v):=rfl;rw[this,e,qO,asE (ccQ β)];rfl
 obtain⟨v,o,j,g,f,n,m⟩:=h.op l rfl λq p b=>by rw[a] at b;cases b;exact .inl ⟨_,rfl⟩
 rw[a] at f;rcases f with b|⟨b, -⟩
 .cases b;exact⟨j,g,n,m⟩
 .cases b
def ik.load(h:ik β R c0 iH w0 c ρ (FC T (.inRegion Z (i::rest)::k)::y::ys) w)(x:Z[i]?=some (iE (some d) (.load 225 (.tmp t)) 225))(e:T.getD t undef=.pointer (some A)) :
  ∃v r m,w.cell? A=some v/\ik β R c0 iH w0 r m (FC (T.setIfInBounds d v) (.inRegion Z rest::k)::y::ys) w/\ρ.Le m:=by
 have a:∀g j,(execOp (FC T (.inRegion Z (i::rest)::k)).eval (iE (some d) (.load 225 (.tmp t)) 225)).run (ai β) w=.ok g j->∃v,j=w/\w.cell? A=some v/\g=.value v:=λg j b=>by
  obtain⟨v,n,f,l⟩:=dU (s:=Instr.loadAt 225 (T.getD t undef)) b;rw[e] at f;have z:=h.ap3 x rfl rfl t λe w B g D b=>by
   obtain⟨v,n,f,l⟩:=dU (s:=Instr.loadAt 225 (e (.tmp t))) b;rw[B] at f;cases(show Result.halt _ _=Result.ok v n from f)
  obtain⟨rfl,p⟩:=avA (ccQ β) (h.noV e z).2 f;cases(show Result.ok (Next.value v) n=Result.ok g j from l);exact⟨v,rfl,p,rfl⟩
 obtain⟨v,C,r,m,o,f,l⟩:=h.op x rfl λg j b=>.inl (let⟨v,_,_,e⟩:=a g j b;⟨v,e⟩);rcases o with b|⟨b, -⟩
 .obtain⟨u,rfl,p,q⟩:=a _ _ b;cases q;exact⟨v,r,m,p,f,l⟩
 .obtain⟨u, -, -,q⟩:=a _ _ b;cases q
def ik.eql(h:ik β R c0 iH w0 c ρ (FC T (.inRegion Z (i::rest)::k)::y::ys) w)(A:Z[i]?=some (iE (some d) (.binOp .eql 225 (.tmp t) (.const (.pointer none)) 225) 4)) :
  ∃b x l,((T.getD t undef=.pointer none/\b=true)\/∃B,T.getD t undef=.pointer (some B)/\b=false)/\ik β R c0 iH w0 x l (FC (T.setIfInBounds d (.bool b)) (.inRegion Z rest::k)::y::ys) w/\ρ.Le l:=by
 have a:∀j g,(execOp (FC T (.inRegion Z (i::rest)::k)).eval (iE (some d) (.binOp .eql 225 (.tmp t) (.const (.pointer none)) 225) 4)).run (ai β) w=.ok j g->
   ∃b,g=w/\((T.getD t undef=.pointer none/\b=true)\/∃B,T.getD t undef=.pointer (some B)/\b=false)/\j=.value (.bool b):=λj g f=>by
  have:(execOp (FC T (.inRegion Z (i::rest)::k)).eval (iE (some d) (.binOp .eql 225 (.tmp t) (.const (.pointer none)) 225) 4))=((eqGuard .eql 225 (.tmp t) (.const (.pointer none)) (T.getD t undef) (.pointer none)).bind λ_=>binOp .eql 225 (T.getD t undef) (.pointer none)).bind λv=>Sem.pure (.value v):=rfl;rw[this,eqG] at f;obtain⟨v,z,r,m⟩:=dU (s:=binOp .eql 225 (T.getD t undef) (.pointer none)) f;obtain⟨rfl,o⟩:=ayW (ccQ β) r;cases(show Result.ok (Next.value v) z=Result.ok j g from m);rcases o with⟨p,rfl⟩|⟨B,p,rfl⟩
  .exact⟨true,rfl,.inl ⟨p,rfl⟩,rfl⟩
  .exact⟨false,rfl,.inr ⟨B,p,rfl⟩,rfl⟩
 obtain⟨v,C,x,l,n,r,m⟩:=h.op A rfl λj g f=>.inl (let⟨b,_,_,e⟩:=a j g f;⟨_,e⟩);rcases n with f|⟨f, -⟩
 .obtain⟨u,rfl,o,q⟩:=a _ _ f;cases q;exact⟨u,x,l,o,r,m⟩
 .obtain⟨u, -, -,q⟩:=a _ _ f;cases q
def ik.store    {x:Operand} (h:ik β R c0 iH w0 c ρ (FC T (.inRegion Z (i::rest)::k)::y::ys) w) (r:Z[i]?=some (iE none (.store 225 (.tmp t) x) 0)) {u:Option Addr}
  (e:T.getD t undef=.pointer (some A)) (z:(FC T (.inRegion Z (i::rest)::k)).eval x=.pointer u) :
  ∃n l,w.frozen? A=false/\(∃v,w.cell? A=some v)/\ik β R c0 iH w0 n l (FC T (.inRegion Z rest::k)::y::ys) (w.setCell A (.pointer u))/\ρ.Le l:=by
 have a:∀d f,(execOp (FC T (.inRegion Z (i::rest)::k)).eval (iE none (.store 225 (.tmp t) x) 0)).run (ai β) w=.ok d f->f=w.setCell A (.pointer u)/\w.frozen? A=false/\(∃v,w.cell? A=some v)/\d=.skip:=λd f b=>by
  have:(execOp (FC T (.inRegion Z (i::rest)::k)).eval (iE none (.store 225 (.tmp t) x) 0))=(Instr.storeAt 225 (T.getD t undef) ((FC T (.inRegion Z (i::rest)::k)).eval x)).bind λ_=>Sem.pure .skip:=rfl;rw[this,e,z] at b;obtain⟨v,q,g,j⟩:=dU (s:=Instr.storeAt 225 (.pointer (some A)) (.pointer u)) b;have B:=h.ap3 r rfl rfl t λe w D d F b=>by
   obtain⟨v,q,g,j⟩:=dU (s:=Instr.storeAt 225 (e (.tmp t)) (e x)) b;rw[D] at g;cases(show Result.halt _ _=Result.ok v q from g)
  obtain⟨rfl,p,m⟩:=asF (ccQ β) (h.noV e B).2 g;cases(show Result.ok Next.skip _=Result.ok d f from j);exact⟨rfl,p,m,rfl⟩
 obtain⟨v,E,n,l,o,g,j⟩:=h.op r rfl λd f b=>.inr (a d f b).2.2.2;rcases o with b|⟨b, -⟩
 .obtain⟨-, -, -,C⟩:=a _ _ b;cases C
 .obtain⟨rfl,p,m, -⟩:=a _ _ b;exact⟨n,l,p,m,g,j⟩
end
abbrev T0C(a:Array Value):Array Value:=a++Array.replicate (20-a.size) undef
section
variable {β:Bool} {R:List Frame->World->Prop} {c0 c:Cfg} {iH ρ:Ren} {w0 w w2:World} {T:Array Value} {k:List Item} {y:Frame} {ys m:List Frame} {a a':Array Value}
def avB:Frame.enter (ai β) nCC a' .normal=FC (T0C a') [.code nI]:=by
 have a:(ai β).funcs[nCC]?=some qCC:=acT β;unfold Frame.enter;rw[a];rfl
def gK(e:W.heap[A.block]?=w.heap[A.block]?):W.cell? A=w.cell? A:=by
 unfold World.cell?;rw[e]
def wS{xs:Array Obj}{f:Obj->Obj}(h:∀o,xs[i]?=some o->f o=o):xs.modify i f=xs:=by
 apply sF;intro j;rw[pe];by_cases e:i=j
 .subst e;rw[dj rfl];cases a:xs[i]? with
  |none=>rfl
  |some o=>simp[h o a]
 .rw[bv e]
def aiz{xs:Array Obj}{f g:Obj->Obj}(h:∀o,g (f o)=g o):(xs.modify i f).modify i g=xs.modify i g:=by
 apply sF;intro j;rw[pe,pe,pe];by_cases e:i=j
 .simp only[e,pr,Option.map_map]
  congr 1
  funext o
  exact h o
 .simp only[e,qG]
def aiA(h:w.cell? A=some v):w.setCell A v=w:=by
 unfold World.setCell;rw[wS];intro o b;unfold World.cell? at h;rw[b] at h;cases o with
 |cells c t z=>
  cases a:A.spot with
  |some s=>simp[a] at h
  |none=>
   simp[a] at h;simp only[tn,jp,qG]
   congr 1
   apply sF;intro j;rw[qk];by_cases e:A.off=j
   .subst e;rw[dj rfl,h];rw[dj (dq.1 h).1]
   .rw[bv e]
 |_=>rfl
def agt   :(w.setCell A u).setCell A v=w.setCell A v:=by
 unfold World.setCell;dsimp only;rw[aiz];intro o;cases o with
 |cells c t z=>
  dsimp only;split
  .rfl
  .simp
 |_=>rfl
def avC(Q:dm iH a a')(N:iJ (ai β) iH m (y::ys))(hc:c0.l=Frame.enter (ai β) nCC a .normal::m)(hw:WR iH c0.w w0)(X:GlR iH)(Y:ku (ai β) R c0) :
  ∃A v e n g σ,(T0C a').getD 0 undef=.pointer (some A)/\w0.shape? A.block=some (e,n)/\liesAt (ai β) (ai β).depth e (n / (ai β).cellsOf e) A.off 227 1=true/\w0.cell? A=some v/\w0.frozen? A=false/\(v=.pointer none\/v=.pointer (some A))/\
   (∃x,AR iH x A)/\(∀E,iH.r E A.block->bJ c0.w E->NoB c0.w E->False)/\ik β R c0 iH w0 g σ (y.finish (.tuple #[])::ys) (w0.setCell A (.pointer (some A)))/\iG (ai β) g c0:=by
 have hz:20<=(T0C a').size:=by simp only[T0C,rZ,sW];omega
 have h:ik β R c0 iH w0 c0 iH (FC (T0C a') [.code nI]::y::ys) w0:=⟨.inl rfl,.refl _,by rw[hc,<-avB (β:=β)];exact .cons (afJ β Q) N,hw,X,Y,Kept.refl _ _ _⟩;generalize T0C a'=T at hz h ⊢;unfold nI at h;obtain⟨g,c,h, -⟩:=h.seq;obtain⟨g,c,h, -⟩:=h.region;have l:List.range pE.size=[0,1,2,3]:=rfl;rw[l] at h;obtain⟨A,e,n,S,p,C,⟨x,P⟩,i,D,h', -⟩:=h.slice;have z:∃x,AR iH x A:=by
  refine⟨x, ?_⟩;obtain⟨l,o,s⟩:=P;rename_i bl br;rcases h.kept.new l with r|⟨_,r⟩
  .exact .mk r o s
  .exfalso;dsimp only at i;simp only[World.shape?] at i;cases k:w0.heap[br]? with
   |none=>rw[k] at i;cases i
   |some q=>have:=(dq.1 k).1;omega
 replace h:=h';obtain⟨g,c,h, -⟩:=h.field rfl C;obtain⟨v,g,c,f,h, -⟩:=h.load (A:=A) rfl (by rw[aH (by omega)];rfl);obtain⟨b,g,c,k,h, -⟩:=h.eql rfl;obtain⟨g,c,h, -⟩:=h.jc;obtain⟨g,c,h, -⟩:=h.seq;have W:((T.setIfInBounds 4 (.pointer (some A))).setIfInBounds 5 v).getD 5 undef=v:=by rw[aH (by simp;omega)];rfl
 rw[W] at k;obtain⟨g,c,h, -⟩:=h.cond (q:=b) (by rw[aH (by simp;omega)];rfl);have tail:∀{I:Array Value} {S:Cfg} {p:Ren} {w2:World},ik β R c0 iH w0 S p (FC I [.code (.seq (.region 1 ah1 false) .ret)]::y::ys) w2->I.getD 4 undef=.pointer (some A)->I.getD 0 undef=.pointer (some A)->
   ∃w j,w2.frozen? A=false/\ik β R c0 iH w0 w j (y.finish (.tuple #[])::ys) (w2.setCell A (.pointer (some A)))/\iG (ai β) w c0:=λ{I S p w2} h g4 g0=>by
  obtain⟨g,c,h, -⟩:=h.seq;obtain⟨g,c,h, -⟩:=h.region;have l:List.range ah1.size=[0]:=rfl;rw[l] at h;obtain⟨g,c,G, -,h, -⟩:=h.store (A:=A) (u:=some A) rfl g4 g0;obtain⟨g,c,h, -⟩:=h.jc;obtain⟨g,c,h, -,F⟩:=h.ret;exact⟨g,c,G,h,F⟩
 rcases k with⟨rfl,rfl⟩|⟨B,rfl,rfl⟩
 .simp only[pr] at h;obtain⟨g,c,h, -⟩:=h.skip;obtain⟨w,j,G,h,F⟩:=tail h (by rw[aH (by simp;omega),bv (by decide),aH (by simp;omega),bv (by decide),aH (by omega),dj rfl]) (by rw[aH (by simp;omega),bv (by decide),aH (by simp;omega),bv (by decide),aH (by omega),bv (by decide)];exact C);refine⟨A,_,e,n,w,j,C,i,D,f,G,.inl rfl,z,λE r K U=> ?_,h,F⟩;have:=(h.kept.still r K U).2;have V:(w0.setCell A (.pointer (some A))).cell? A=some (.pointer (some A)):=World.cell?_setCell_same _ _ _ f;rw[gK this,f] at V;cases V
 .simp only[qG,jp] at h;obtain⟨g,c,h, -⟩:=h.seq;obtain⟨g,c,h, -⟩:=h.region;have l:List.range alE.size=[0,1,2,3]:=rfl;rw[l] at h;obtain⟨g,c,h, -⟩:=h.field (A:=B) (t:=5) (d:=7) rfl (by rw[aH (by simp;omega),bv (by decide)];exact W);obtain⟨g,c,M,⟨vB,a0⟩,h, -⟩:=h.store (A:=B) (u:=none) (t:=7) rfl (by rw[aH (by simp;omega)];rfl) rfl;have Z:=h.kept;obtain⟨u,g,c,H,h, -⟩:=h.load (A:=A) (t:=4) (d:=8) rfl (by rw[aH (by simp;omega),bv (by decide),aH (by simp;omega),bv (by decide),aH (by simp;omega),bv (by decide),aH (by omega),dj rfl]);obtain⟨b,g,c,k,h, -⟩:=h.eql (t:=8) (d:=9) rfl;rw[aH (by simp;omega),dj rfl] at k;obtain⟨g,c,h, -⟩:=h.jc;obtain⟨g,c,h, -⟩:=h.cond (q:=b) (by rw[aH (by simp;omega)];rfl);rcases k with⟨rfl,rfl⟩|⟨B',rfl,rfl⟩
  .have O:A=B:=by
    refine qF λJ=> ?_;rw[tQ _ _ _ _ (λe=>J e.symm),f] at H;cases H
   subst O;simp only[pr] at h;obtain⟨g,c,h, -⟩:=h.skip;obtain⟨w,j,G,h,F⟩:=tail h
    (by rw[aH (by simp;omega),bv (by decide),aH (by simp;omega),bv (by decide),aH (by simp;omega),bv (by decide),aH (by simp;omega),bv (by decide),aH (by simp;omega),bv (by decide),aH (by omega),dj rfl])
    (by rw[aH (by simp;omega),bv (by decide),aH (by simp;omega),bv (by decide),aH (by simp;omega),bv (by decide),aH (by simp;omega),bv (by decide),aH (by simp;omega),bv (by decide),aH (by omega),bv (by decide)];exact C)
   have L:(w0.setCell A (.pointer none)).setCell A (.pointer (some A))=w0.setCell A (.pointer (some A)):=agt;rw[L] at h;refine⟨A,_,e,n,w,j,C,i,D,f,M,.inr rfl,z,λE r K U=> ?_,h,F⟩;have:=(Z.still r K U).2;rw[gK this,f] at H;cases H
  .exfalso;simp only[qG,jp] at h;exact h.no rfl true (o:=_) (w2:=w0.setCell B (.pointer none)) (by simp only[Gl,stepG,stepG.exec];rfl)
end
end
section
open Go.Conc Go.ConcN Go.RowKit Go.Lib
section
variable {P:Program} (T:CcT P) {w:World} {e:Operand->Value} {x y:Operand} {A:Addr} {v:Value} {dst:Option Tmp} {ty:TypeId} {pos:String} {af:Array Edge} {gd:Option (Nat×Bool)}
def avD:(execOp e ⟨dst,.move x,ty,pos,af,gd⟩).runT P w #[]=(.ok (.value (e x)) w,#[]):=rfl
def amK(h:e x=.pointer (some A)):(execOp e ⟨dst,.nilCheck x,ty,pos,af,gd⟩).runT P w #[]=(.ok (.value (.pointer (some A))) w,#[]):=by
 simp only[execOp,h];rfl
include T
theorem afK(h:e x=.pointer (some A)):(execOp e ⟨dst,.fieldAddr 227 x 0,ty,pos,af,gd⟩).runT P w #[]=(.ok (.value (.pointer (some A))) w,#[]):=by
 obtain⟨k,g,c,a,d,b⟩:=T.f;obtain⟨i,f,j⟩:=T.i6;simp[execOp,h,Instr.fieldAt,Instr.sureAddr,lw c,a,fieldPlace,sizeOf,typeInfo,b,f,j,d,Addr.add]
theorem aov(h:e x=.pointer (some A))(a:w.cell? A=some v):(execOp e ⟨dst,.load 225 x,ty,pos,af,gd⟩).runT P w #[]=(.ok (.value v) w,#[⟨.cell A,false,false⟩]):=by
 simp[execOp,h,Instr.loadAt,Instr.sureAddr,loadVar,isAgg,lw T.u,a]
theorem ayX{a:Option Addr}(h:e x=.pointer a)(f:e y=.pointer none):(execOp e ⟨dst,.binOp .eql 225 x y 225,ty,pos,af,gd⟩).runT P w #[]=(.ok (.value (.bool a.isNone)) w,#[]):=by
 have b:∀(d:Nat),(Op.equalIn (d+1) 225 (.pointer a) (.pointer none)).run P w=.ok a.isNone w:=λd=>by
  cases a<;>simp[Op.equalIn,lw T.u]
 have c:∀(d:Nat),(Op.equalIn (d+1) 225 (.pointer a) (.pointer none)).events P w #[]=#[]:=λd=>by
  cases a<;>simp[Op.equalIn,lw T.u]
 simp only[execOp,h,f,eqG,binOp];simp[Op.equal,Op.maxDepth,b 9999,c 9999]
theorem ayY(h:e x=.pointer (some A))(g:e y=.pointer (some A)):(execOp e ⟨dst,.binOp .neq 225 x y 225,ty,pos,af,gd⟩).runT P w #[]=(.ok (.value (.bool false)) w,#[]):=by
 obtain⟨i,a,j, -⟩:=T.i8;have b:∀(d:Nat),(Op.equalIn (d+1) 225 (.pointer (some A)) (.pointer (some A))).run P w=.ok true w:=λd=>by
  simp[Op.equalIn,lw T.u,sizeOf,typeInfo,a,run_sameAddr_same]
 have f:∀(d:Nat),(Op.equalIn (d+1) 225 (.pointer (some A)) (.pointer (some A))).events P w #[]=#[]:=λd=>by
  simp[Op.equalIn,lw T.u,sizeOf,typeInfo,a,j,sameAddr]
 have c:eqGuard .neq 225 x y (.pointer (some A)) (.pointer (some A))=Sem.pure ():=rfl;simp only[execOp,h,g,c,binOp];simp[Op.equal,Op.maxDepth,b 9999,f 9999]
theorem ayZ(h:e x=.pointer (some A))(a:w.shape? A.block=some (X,n))(f:A.off<n):(execOp e ⟨dst,.convert 225 212 x,ty,pos,af,gd⟩).runT P w #[]=(.ok (.value (.pointer (some A))) w,#[]):=by
 obtain⟨i,b,d, -⟩:=T.i8;have c:¬n<=A.off:=by omega
 simp[execOp,h,convert,lw T.u,lw T.up,Conv.unsafePointer,Conv.seenAt,viewAt,cellsIn,a,sizeOf,typeInfo,b,d,c]
theorem asG(h:e x=.pointer (some A))(a:w.shape? A.block=some (X,n))(b:liesAt P P.depth X (n / P.cellsOf X) A.off 227 1=true):(execOp e ⟨dst,.convert 212 225 x,ty,pos,af,gd⟩).runT P w #[]=(.ok (.value (.pointer (some A))) w,#[]):=by
 obtain⟨i,c,d, -⟩:=T.i8;simp[execOp,h,convert,lw T.u,lw T.up,Conv.unsafePointer,Conv.seenAt,viewAt,a,variablesAt,b,sizeOf,typeInfo,c,d]
theorem asH{u:Option Addr}(h:e x=.pointer (some A))(d:e y=.pointer u)(g:w.cell? A=some v)(c:w.frozen? A=false):(execOp e ⟨dst,.store 225 x y,ty,pos,af,gd⟩).runT P w #[]=(.ok .skip (w.setCell A (.pointer u)),#[⟨.cell A,true,false⟩]):=by
 obtain⟨i,j,k⟩:=T.i6;have a:(Sem.store .plain A (.pointer u) (Sem.pure ())).runT P w #[]=(.ok () (w.setCell A (.pointer u)),#[⟨.cell A,true,false⟩]):=by
  unfold Sem.runT;simp only[g,c,jp,qG];rfl
 have f:(store A (.pointer u)).run P w=.ok () (w.setCell A (.pointer u)):=by
  rw[<-ru _ _ _ #[]];exact gn Prod.fst a
 have b:(store A (.pointer u)).events P w #[]=#[⟨.cell A,true,false⟩]:=gn Prod.snd a;simp[execOp,h,d,Instr.storeAt,Instr.sureAddr,storeVar,sizeOf,typeInfo,j,k,Value.cells,storeCells,Addr.add,f,b]
end
end
section
open Go.Conc Go.ConcN
abbrev nNE:FuncId:=209
def avE:f209.body.isNone=true:=by kernel_rfl
def ne_next:Extern.findNext f209=none:=by kernel_rfl
def avF:Extern.find f209=some Extern.AbiNoEscape.same:=by kernel_rfl
def agu{fn:Func}{s:Array Value->Sem Value}{args:Array Value}(c:P.funcs[f]?=some fn)(e:(fn.name == "runtime.NumGoroutine")=false)(g:fn.body.isNone=true)(j:Extern.findNext fn=none)(d:Extern.find fn=some s)(i:s args=Sem.pure v) :
  (callFunc f args).runT P w #[]=(.ok (.value v) w,#[⟨.mark (.extern f),false,true⟩]):=by
 unfold callFunc;have a:¬fn.name= "runtime.NumGoroutine" :=by simpa using e
 have b:fn.body=none:=by simpa using g
 simp[c,a,b,j,d,i]
section
variable {w:World} {e:Operand->Value} {x:Operand} {v:Value} {dst:Option Tmp} {ty:TypeId} {pos:String} {af:Array Edge} {gd:Option (Nat×Bool)} {ts:Array TypeId}
def asI(d:e (.func nNE)=.func (.func nNE) #[] #[]):(execOp e ⟨dst,.call ⟨.value (.func nNE),#[x],ts⟩,ty,pos,af,gd⟩).runT prog w #[]=(.ok (.value (e x)) w,#[⟨.mark (.extern nNE),false,true⟩]):=by
 have a:Array.map e #[x]=#[e x]:=by simp
 have b:execOp e ⟨dst,.call ⟨.value (.func nNE),#[x],ts⟩,ty,pos,af,gd⟩=callFunc nNE #[e x]:=by
  simp only[execOp,resolve,a,d];simp[Deferred.ofValue,invoke];try rfl
 rw[b];exact agu func209 (cL func209) avE ne_next avF rfl
def ap4(a:e (.func nNE)=.func (.func nNE) #[] #[])(h:e x=v):(execOp e ⟨dst,.call ⟨.value (.func nNE),#[x],ts⟩,ty,pos,af,gd⟩).runT prog w #[]=(.ok (.value v) w,#[⟨.mark (.extern nNE),false,true⟩]):=by
 rw[asI a,h]
end
section
variable {P:Program} {m:Bool} {fr:Frame} {xs base:List Frame} {ops:Array Oper} {i:Nat} {rest:List Nat} {k:List Item} {o:Oper} {w w2:World} {es:Array Event} {v:Value}
def aow (e:fr.mode=.run) (f:fr.kind=.normal) (b:fr.roundOf=none) (d:fr.todo=.inRegion ops (i::rest)::k) (l:ops[i]?=some o) (p:o.guard=none)
  (n:(execOp fr.eval o).runT P w #[]=(.ok (.value v) w2,es)):stepG P m (Gl (fr::xs) base) w=.go (Gl (fr.finish v::xs) base) w2 (seen P fr.fn es):=by
 obtain⟨fn,a,g,c,u,t,s⟩:=fr;dsimp only at e f b d;subst e f b d;have j:∀y,Region.wanted o y=true:=λy=>by unfold Region.wanted;rw[p]
 have r:stepG P m (Gl (⟨fn,a,.inRegion ops (i::rest)::k,c,.run,.normal,none⟩::xs) base) w =
   stepG.apply P true ⟨fn,a,.inRegion ops (i::rest)::k,c,.run,.normal,none⟩ (xs++base) none (execOp (Frame.eval ⟨fn,a,.inRegion ops (i::rest)::k,c,.run,.normal,none⟩) o) w:=by
  simp[Gl,stepG,stepG.exec,stepG.oper,Frame.oper?,l,j]
 rw[r];unfold stepG.apply;simp only[n,pr];have q:(CallKind.normal ==CallKind.early)=false:=rfl;simp[GStep.after,q,Gl]
def afL (e:fr.mode=.run) (f:fr.kind=.normal) (b:fr.roundOf=none) (d:fr.todo=.inRegion ops (i::rest)::k) (l:ops[i]?=some o) (p:o.guard=none)
  (n:(execOp fr.eval o).runT P w #[]=(.ok .skip w2,es)):stepG P m (Gl (fr::xs) base) w=.go (Gl (fr.finish undef::xs) base) w2 (seen P fr.fn es):=by
 obtain⟨fn,a,g,c,u,t,s⟩:=fr;dsimp only at e f b d;subst e f b d;have j:∀y,Region.wanted o y=true:=λy=>by unfold Region.wanted;rw[p]
 have r:stepG P m (Gl (⟨fn,a,.inRegion ops (i::rest)::k,c,.run,.normal,none⟩::xs) base) w =
   stepG.apply P true ⟨fn,a,.inRegion ops (i::rest)::k,c,.run,.normal,none⟩ (xs++base) none (execOp (Frame.eval ⟨fn,a,.inRegion ops (i::rest)::k,c,.run,.normal,none⟩) o) w:=by
  simp[Gl,stepG,stepG.exec,stepG.oper,Frame.oper?,l,j]
 rw[r];unfold stepG.apply;simp only[n,pr];have q:(CallKind.normal ==CallKind.early)=false:=rfl;simp[GStep.after,q,Gl]
end
section
variable {P:Program} {main:Bool} {Rl:aq->World->World->Prop} {Gr:aq->aq->World->World->Array Event->Prop} {St:aq->Goroutine->World->Prop} {S Rr:aq} {w0:World}
structure Cmp (Rl:aq->World->World->Prop) (Gr:aq->aq->World->World->Array Event->Prop) (Rr:aq):Prop where
 fZ:∀S w,Rl S w w
 tr:∀S a b c,Rl S a b->Rl S b c->Rl S a c
 rl:∀S w w1,Rl S w w1->(∀b,S b\/Rr b->w1.heap[b]?=w.heap[b]?)/\w.heap.size<=w1.heap.size/\w1.ou=w.ou
 gr:∀S w w' es,(∀b,b<w.heap.size->¬S b->w'.heap[b]?=w.heap[b]?)->w.heap.size<=w'.heap.size->w'.ou=w.ou->(∀e∈es,ni (λb=>S b\/(w.heap.size<=b/\b<w'.heap.size)) Rr w'.heap.size e)->
   Gr S (λb=>S b\/(w.heap.size<=b/\b<w'.heap.size)) w w' es
def Cmp.same(C:Cmp Rl Gr Rr)(c:∀b,b<w.heap.size->¬S b->w'.heap[b]?=w.heap[b]?)(a:w'.heap.size=w.heap.size)(d:w'.ou=w.ou)(f:∀e∈es,ni S Rr w.heap.size e):Gr S S w w' es:=by
 have e:(λb=>S b\/(w.heap.size<=b/\b<w'.heap.size))=S:=by
  funext b
  rw[a];exact propext ⟨λh=>h.elim id λh=>absurd h.1 (by omega),.inl⟩
 have:=C.gr S w w' es c (mu a.symm) d (by rw[e,a];exact f);rw[e] at this;exact this
def bK.still (C:Cmp Rl Gr Rr) {fr:Frame} {base l2 : List Frame} {es:World->Array Event} (f:∀w,Rl S w0 w->stepG P main (Gl (fr::xs) base) w=.go (Gl l2 base) w (es w)) (d:∀w,Rl S w0 w->∀e∈es w,ni S Rr w.heap.size e)
  (g:∀w,Rl S w0 w->bK P main Rl Gr St S (Gl l2 base) w):∀w,Rl S w0 w->bK P main Rl Gr St S (Gl (fr::xs) base) w:=λw a=>
 .step rfl λb c=>⟨_,_,_,S,f b (C.tr _ _ _ _ a c),C.same (λ_ _ _=>rfl) rfl rfl (d b (C.tr _ _ _ _ a c)),g b (C.tr _ _ _ _ a c)⟩
variable {f:FuncId} {T:Array Value} {k:List Item} {xs base:List Frame}
def eI(C:Cmp Rl Gr Rr)(c:∀w,Rl S w0 w->bK P main Rl Gr St S (Gl (FQ f T (.code a :: .code b::k)::xs) base) w):∀w,Rl S w0 w->bK P main Rl Gr St S (Gl (FQ f T (.code (.seq a b)::k)::xs) base) w:=
 bK.still C (es:=λ_=>#[]) (λw _=>by simp[Gl,stepG,stepG.exec]) (λ_ _ e h=>by cases(by simpa using h:False)) c
def gz(C:Cmp Rl Gr Rr){id:Nat}{l:List Nat}(a:List.range Z.size=l)(b:∀w,Rl S w0 w->bK P main Rl Gr St S (Gl (FQ f T (.inRegion Z l::k)::xs) base) w):∀w,Rl S w0 w->bK P main Rl Gr St S (Gl (FQ f T (.code (.region id Z false)::k)::xs) base) w:=
 bK.still C (es:=λ_=>#[]) (λw _=>by subst a;simp[Gl,stepG,stepG.exec]) (λ_ _ e h=>by cases(by simpa using h:False)) b
def iz(C:Cmp Rl Gr Rr)(a:∀w,Rl S w0 w->bK P main Rl Gr St S (Gl (FQ f T k::xs) base) w):∀w,Rl S w0 w->bK P main Rl Gr St S (Gl (FQ f T (.inRegion Z []::k)::xs) base) w:=
 bK.still C (es:=λ_=>#[]) (λw _=>by simp[Gl,stepG,stepG.exec]) (λ_ _ e h=>by cases(by simpa using h:False)) a
def aox(C:Cmp Rl Gr Rr)(a:∀w,Rl S w0 w->bK P main Rl Gr St S (Gl (FQ f T k::xs) base) w):∀w,Rl S w0 w->bK P main Rl Gr St S (Gl (FQ f T (.code .skip::k)::xs) base) w:=
 bK.still C (es:=λ_=>#[]) (λw _=>by simp[Gl,stepG,stepG.exec]) (λ_ _ e h=>by cases(by simpa using h:False)) a
def acv(C:Cmp Rl Gr Rr)(c:T.getD t undef=.bool q)(g:∀w,Rl S w0 w->bK P main Rl Gr St S (Gl (FQ f T (.code (if q then a else b)::k)::xs) base) w):∀w,Rl S w0 w->bK P main Rl Gr St S (Gl (FQ f T (.code (.cond (.tmp t) a b)::k)::xs) base) w:=
 have d:Frame.eval (FQ f T (.code (.cond (.tmp t) a b)::k)) (.tmp t)=.bool q:=c
 bK.still C (es:=λ_=>#[]) (λw _=>by simp[Gl,stepG,stepG.exec,d]) (λ_ _ e h=>by cases(by simpa using h:False)) g
def aBe (C:Cmp Rl Gr Rr)       (a:Z[i]?=some o) (l:o.guard=none) (b:o.dst=some d)
  (j:∀w,Rl S w0 w->(execOp (FQ f T (.inRegion Z (i::rest)::k)).eval o).runT P w #[]=(.ok (.value v) w,es)) (g:∀w,Rl S w0 w->∀e∈seen P f es,ni S Rr w.heap.size e)
  (m:∀w,Rl S w0 w->bK P main Rl Gr St S (Gl (FQ f (T.setIfInBounds d v) (.inRegion Z rest::k)::xs) base) w):∀w,Rl S w0 w->bK P main Rl Gr St S (Gl (FQ f T (.inRegion Z (i::rest)::k)::xs) base) w:=
 bK.still C (l2:=FQ f (T.setIfInBounds d v) (.inRegion Z rest::k)::xs) (es:=λ_=>seen P f es) (λw c=>by
  rw[aow rfl rfl rfl rfl a l (j w c)];have:Frame.finish (FQ f T (.inRegion Z (i::rest)::k)) v=FQ f (T.setIfInBounds d v) (.inRegion Z rest::k):=by
   simp only[Frame.finish,a,qH,b]
  rw[this]) g m
def akl(C:Cmp Rl Gr Rr){fn:Func}(b:P.funcs[f]?=some fn)(a:fn.results=#[])(d:∀w,Rl S w0 w->bK P main Rl Gr St S (Gl (y.finish (.tuple #[])::Y) base) w):∀w,Rl S w0 w->bK P main Rl Gr St S (Gl (FQ f T []::y::Y) base) w:=
 bK.still C (l2:=⟨f,T,[],[],.returning,.normal,none⟩::y::Y) (es:=λ_=>#[]) (λw _=>by simp[Gl,stepG,stepG.exec]) (λ_ _ e h=>by cases(by simpa using h:False))
  (bK.still C (es:=λ_=>#[]) (λw _=>by
   have c:(results fn T).runT P w #[]=(.ok (.tuple #[]) w,#[]):=by simp[results,a]
   simp only[Gl,stepG,unwind,b,c];simp[doReturn,GStep.after,seen]) (λ_ _ e h=>by cases(by simpa using h:False)) d)
def afM(C:Cmp Rl Gr Rr){id:Nat}(b:∀w,Rl S w0 w->bK P main Rl Gr St S (Gl (FQ f T (.code a :: .inBlock id::k)::xs) base) w):∀w,Rl S w0 w->bK P main Rl Gr St S (Gl (FQ f T (.code (.block id a)::k)::xs) base) w:=
 bK.still C (es:=λ_=>#[]) (λw _=>by simp[Gl,stepG,stepG.exec]) (λ_ _ e h=>by cases(by simpa using h:False)) b
def aoy(C:Cmp Rl Gr Rr)(b:∀w,Rl S w0 w->bK P main Rl Gr St S (Gl (FQ f T (.code a :: .inLoop a::k)::xs) base) w):∀w,Rl S w0 w->bK P main Rl Gr St S (Gl (FQ f T (.code (.loop a)::k)::xs) base) w:=
 bK.still C (es:=λ_=>#[]) (λw _=>by simp[Gl,stepG,stepG.exec]) (λ_ _ e h=>by cases(by simpa using h:False)) b
def asJ(C:Cmp Rl Gr Rr)(b:∀w,Rl S w0 w->bK P main Rl Gr St S (Gl (FQ f T (.code a :: .inLoop a::k)::xs) base) w):∀w,Rl S w0 w->bK P main Rl Gr St S (Gl (FQ f T (.inLoop a::k)::xs) base) w:=
 bK.still C (es:=λ_=>#[]) (λw _=>by simp[Gl,stepG,stepG.exec]) (λ_ _ e h=>by cases(by simpa using h:False)) b
def akm(C:Cmp Rl Gr Rr){id:Nat}(a:∀w,Rl S w0 w->bK P main Rl Gr St S (Gl (FQ f T k::xs) base) w):∀w,Rl S w0 w->bK P main Rl Gr St S (Gl (FQ f T (.inBlock id::k)::xs) base) w:=
 bK.still C (es:=λ_=>#[]) (λw _=>by simp[Gl,stepG,stepG.exec]) (λ_ _ e h=>by cases(by simpa using h:False)) a
def aoz(C:Cmp Rl Gr Rr){id:Nat}(a:exitTo id k=some k2)(b:∀w,Rl S w0 w->bK P main Rl Gr St S (Gl (FQ f T k2::xs) base) w):∀w,Rl S w0 w->bK P main Rl Gr St S (Gl (FQ f T (.code (.exit id)::k)::xs) base) w:=
 bK.still C (es:=λ_=>#[]) (λw _=>by simp[Gl,stepG,stepG.exec,a]) (λ_ _ e h=>by cases(by simpa using h:False)) b
end
section
variable {P:Program} {w:World} {e:Operand->Value} {x:Operand} {v:Value} {dst:Option Tmp} {ty:TypeId} {pos:String} {af:Array Edge} {gd:Option (Nat×Bool)}
def fI(h:e x=v):(execOp e ⟨dst,.move x,ty,pos,af,gd⟩).runT P w #[]=(.ok (.value v) w,#[]):=by rw[avD,h]
end
section
variable {P:Program} {main:Bool} {Rl:aq->World->World->Prop} {Gr:aq->aq->World->World->Array Event->Prop} {St:aq->Goroutine->World->Prop} {S Rr:aq} {w0:World}
def bA(B:Nat):∀e∈seen P f #[],ni S Rr B e:=λe a=>by cases(by simpa using sZ a:False)
def acw{wr:Bool}{B:Nat}(d:S A.block)(g:A.block<B):∀e∈seen P f #[⟨.cell A,wr,false⟩],ni S Rr B e:=λe c=>by
 have h:=sZ c;simp only[so,me,rQ,uw] at h;subst h;refine⟨λx a=>.inl ?_,λm b=>(by cases b),g⟩;simp[MemAct.ofEvent,MemAct.touch?] at a;rw[<-a];exact d
def ay0{g : FuncId}{B:Nat}:∀e∈seen P f #[⟨.mark (.extern g),false,true⟩],ni S Rr B e:=λe b=>by
 have h:=sZ b;simp only[so,me,rQ,uw] at h;subst h;refine⟨λx c=> ?_,λm a=>.inl ⟨g,by cases a;rfl⟩,trivial⟩;simp[MemAct.ofEvent,MemAct.touch?] at c
def afN(C:Cmp Rl Gr Rr)(a:S A.block)(h:Rl S w0 w):w.cell? A=w0.cell? A/\w.frozen? A=w0.frozen? A/\w.shape? A.block=w0.shape? A.block/\w0.heap.size<=w.heap.size:=by
 obtain⟨b,c, -⟩:=C.rl _ _ _ h;have e:=b A.block (.inl a);refine⟨gK e, ?_, ?_,c⟩
 .unfold World.frozen?;rw[e]
 .unfold World.shape?;rw[e]
def bm(w:World)(A:Addr)(v:Value){b:Nat}(h:A.block≠b):(w.setCell A v).heap[b]?=w.heap[b]?:=by
 unfold World.setCell;simp only[pe,bv h]
def afO (C:Cmp Rl Gr Rr) {T:Array Value} {base : List Frame}       (g:Z[i]?=some o) (n:o.guard=none) (j:o.dst=none)
  (m:∀w,Rl S w0 w->(execOp (FQ f T (.inRegion Z (i::rest)::k)).eval o).runT P w #[]=(.ok .skip (w.setCell A u),es)) (s:S A.block) (r:∀w,Rl S w0 w->∀e∈seen P f es,ni S Rr w.heap.size e)
  (q:∀w,Rl S w0 w->∀a,Rl S (w.setCell A u) a->bK P main Rl Gr St S (Gl (FQ f T (.inRegion Z rest::k)::xs) base) a):∀w,Rl S w0 w->bK P main Rl Gr St S (Gl (FQ f T (.inRegion Z (i::rest)::k)::xs) base) w:=λw l=>by
 refine .step rfl λa c=> ?_;have d:=C.tr _ _ _ _ l c;refine⟨_,_,_,S,afL rfl rfl rfl rfl g n (m a d),C.same (λb _ p=>bm _ _ _ (λe=>p (e▸s))) (fd _ _ _) rfl (r a d), ?_⟩;have:Frame.finish (FQ f T (.inRegion Z (i::rest)::k)) undef=FQ f T (.inRegion Z rest::k):=by
  simp only[Frame.finish,g,qH,j]
 rw[this];exact q a d _ (C.fZ _ _)
def bP (C:Cmp Rl Gr Rr) {T:Array Value} {base : List Frame}       (b:d<T.size) (c:Z[i]?=some o) (l:o.guard=none) (a:o.dst=some d)
  (g:∀w,Rl S w0 w->(execOp (FQ f T (.inRegion Z (i::rest)::k)).eval o).runT P w #[]=(.ok (.value v) w,es)) (n:∀w,Rl S w0 w->∀e∈seen P f es,ni S Rr w.heap.size e)
  (m:∀T':Array Value,T'.size=T.size->T'.getD d undef=v->(∀t,t≠d->T'.getD t undef=T.getD t undef)->∀w,Rl S w0 w->bK P main Rl Gr St S (Gl (FQ f T' (.inRegion Z rest::k)::xs) base) w):∀w,Rl S w0 w->bK P main Rl Gr St S (Gl (FQ f T (.inRegion Z (i::rest)::k)::xs) base) w:=
 aBe C c l a g n (m _ (by simp) (by rw[aH b,dj rfl]) λt j=>by rw[aH b,bv j])
def asK:Code->Code
 |.seq _ (.cond _ a _)=>a
 |c=>c
def asL:Code->Code
 |.seq _ (.cond _ _ b)=>b
 |c=>c
def aBf(C:Cmp Rl Gr Rr){T:Array Value}{base : List Frame}(c:20<=T.size)(e:T.getD 0 undef=.pointer (some A))(p:S A.block)(D:A.block<w0.heap.size)(q:w0.shape? A.block=some (X,n))(x:A.off<n)(z:liesAt prog prog.depth X (n / prog.cellsOf X) A.off 227 1=true)(E:w0.cell? A=some (.pointer none))(t:w0.frozen? A=false)(B:∀w,Rl S w0 w->∀s,Rl S (w.setCell A (.pointer (some A))) s->bK prog main Rl Gr St S (Gl (y.finish (.tuple #[])::Y) base) s) :
  ∀w,Rl S w0 w->bK prog main Rl Gr St S (Gl (FC T [.code (asK (f198.body.getD .skip))]::y::Y) base) w:=by
 have F:=λw (h:Rl S w0 w)=>afN (A:=A) C p h;simp only[f198,qo,asK];refine gz C (l:=[0,1,2,3,4,5,6,7]) rfl ?_;refine bP C (d:=7) (v:=.pointer (some A)) (es:=#[]) (bd (by decide) c) rfl rfl rfl (λw b=>fI e) (λw b=>bA _) ?_;intro T a g o;replace c:=db c (mu a.symm);replace e:=(o 0 (by decide)).trans e;clear o a;refine bP C (d:=8) (v:=.pointer (some A)) (es:=#[]) (bd (by decide) c) rfl rfl rfl (λw b=>fI e) (λw b=>bA _) ?_;intro T a j o;replace c:=db c (mu a.symm);replace e:=(o 0 (by decide)).trans e;replace g:=(o 7 (by decide)).trans g;clear o a;refine bP C (d:=9) (v:=.pointer (some A)) (es:=#[]) (bd (by decide) c) rfl rfl rfl (λw b=>ayZ ccT j ((F w b).2.2.1.trans q) x) (λw b=>bA _) ?_;intro T a k o;replace c:=db c (mu a.symm);replace e:=(o 0 (by decide)).trans e;replace g:=(o 7 (by decide)).trans g;replace j:=(o 8 (by decide)).trans j;clear o a;refine bP C (d:=10) (v:=.pointer (some A)) (bd (by decide) c) rfl rfl rfl (λw b=>ap4 rfl k) (λw b=>ay0) ?_;intro T a f o;replace c:=db c (mu a.symm);replace e:=(o 0 (by decide)).trans e;replace g:=(o 7 (by decide)).trans g;replace j:=(o 8 (by decide)).trans j;replace k:=(o 9 (by decide)).trans k;clear o a;refine bP C (d:=11) (v:=.pointer (some A)) (es:=#[]) (bd (by decide) c) rfl rfl rfl (λw b=>asG ccT f ((F w b).2.2.1.trans q) z) (λw b=>bA _) ?_;intro T a i o;replace c:=db c (mu a.symm);replace e:=(o 0 (by decide)).trans e;replace g:=(o 7 (by decide)).trans g;replace j:=(o 8 (by decide)).trans j;replace k:=(o 9 (by decide)).trans k;replace f:=(o 10 (by decide)).trans f;clear o a;refine bP C (d:=12) (v:=.pointer (some A)) (es:=#[]) (bd (by decide) c) rfl rfl rfl (λw b=>amK g) (λw b=>bA _) ?_;intro T a m o;replace c:=db c (mu a.symm);replace e:=(o 0 (by decide)).trans e;replace g:=(o 7 (by decide)).trans g;replace j:=(o 8 (by decide)).trans j;replace k:=(o 9 (by decide)).trans k;replace f:=(o 10 (by decide)).trans f;replace i:=(o 11 (by decide)).trans i;clear o a;refine bP C (d:=13) (v:=.pointer (some A)) (es:=#[]) (bd (by decide) c) rfl rfl rfl (λw b=>afK ccT m) (λw b=>bA _) ?_;intro T a r o;replace c:=db c (mu a.symm);replace e:=(o 0 (by decide)).trans e;replace g:=(o 7 (by decide)).trans g;replace j:=(o 8 (by decide)).trans j;replace k:=(o 9 (by decide)).trans k;replace f:=(o 10 (by decide)).trans f;replace i:=(o 11 (by decide)).trans i;replace m:=(o 12 (by decide)).trans m;clear o a;refine afO C (A:=A) (u:=.pointer (some A)) rfl rfl rfl (λw b=>asH ccT (A:=A) (u:=some A) r i ((F w b).1.trans E) ((F w b).2.1.trans t)) p (λw b=>acw p (bd D (F w b).2.2.2)) ?_;intro w b;exact iz C (akl C func198 rfl (B w b))
def aBg(C:Cmp Rl Gr Rr){T:Array Value}{base : List Frame}(e:20<=T.size)(i:T.getD 0 undef=.pointer (some A))(m:S A.block)(t:A.block<w0.heap.size)(r:w0.cell? A=some (.pointer (some A)))(s:∀w,Rl S w0 w->∀p,Rl S (w.setCell A (.pointer (some A))) p->bK prog main Rl Gr St S (Gl (y.finish (.tuple #[])::Y) base) p) :
  ∀w,Rl S w0 w->bK prog main Rl Gr St S (Gl (FC T [.code (asL (f198.body.getD .skip))]::y::Y) base) w:=by
 have F:=λw (h:Rl S w0 w)=>afN (A:=A) C m h;simp only[f198,qo,asL];refine eI C ?_;refine gz C (l:=[0,1,2,3,4,5]) rfl ?_;refine bP C (d:=14) (v:=.pointer (some A)) (es:=#[]) (bd (by decide) e) rfl rfl rfl (λw f=>fI i) (λw f=>bA _) ?_;intro T a b o;replace e:=db e (mu a.symm);replace i:=(o 0 (by decide)).trans i;clear o a;refine bP C (d:=15) (v:=.pointer (some A)) (es:=#[]) (bd (by decide) e) rfl rfl rfl (λw f=>amK b) (λw f=>bA _) ?_;intro T a c o;replace e:=db e (mu a.symm);replace i:=(o 0 (by decide)).trans i;replace b:=(o 14 (by decide)).trans b;clear o a;refine bP C (d:=16) (v:=.pointer (some A)) (es:=#[]) (bd (by decide) e) rfl rfl rfl (λw f=>afK ccT c) (λw f=>bA _) ?_;intro T a g o;replace e:=db e (mu a.symm);replace i:=(o 0 (by decide)).trans i;replace b:=(o 14 (by decide)).trans b;replace c:=(o 15 (by decide)).trans c;clear o a;refine bP C (d:=17) (v:=.pointer (some A)) (bd (by decide) e) rfl rfl rfl (λw f=>aov ccT g ((F w f).1.trans r)) (λw f=>acw m (bd t (F w f).2.2.2)) ?_;intro T a j o;replace e:=db e (mu a.symm);replace i:=(o 0 (by decide)).trans i;replace b:=(o 14 (by decide)).trans b;replace c:=(o 15 (by decide)).trans c;replace g:=(o 16 (by decide)).trans g;clear o a;refine bP C (d:=18) (v:=.pointer (some A)) (es:=#[]) (bd (by decide) e) rfl rfl rfl (λw f=>fI i) (λw f=>bA _) ?_;intro T a k o;replace e:=db e (mu a.symm);replace i:=(o 0 (by decide)).trans i;replace b:=(o 14 (by decide)).trans b;replace c:=(o 15 (by decide)).trans c;replace g:=(o 16 (by decide)).trans g;replace j:=(o 17 (by decide)).trans j;clear o a;refine bP C (d:=19) (v:=.bool false) (es:=#[]) (bd (by decide) e) rfl rfl rfl (λw f=>ayY ccT (A:=A) j k) (λw f=>bA _) ?_;intro T a n o;replace e:=db e (mu a.symm);replace i:=(o 0 (by decide)).trans i;replace b:=(o 14 (by decide)).trans b;replace c:=(o 15 (by decide)).trans c;replace g:=(o 16 (by decide)).trans g;replace j:=(o 17 (by decide)).trans j;replace k:=(o 18 (by decide)).trans k;clear o a;refine iz C ?_;refine acv C (q:=false) n ?_;simp only[qG,jp];refine aox C ?_;refine akl C func198 rfl ?_;intro w f;refine s w f w ?_;rw[aiA ((F w f).1.trans r)];exact C.fZ _ _
def asM(C:Cmp Rl Gr Rr){T:Array Value}{base : List Frame}(c:20<=T.size)(g:T.getD 0 undef=.pointer (some A))(j:S A.block)(u:A.block<w0.heap.size)(t:w0.shape? A.block=some (X,n))(I:A.off<n)(J:liesAt prog prog.depth X (n / prog.cellsOf X) A.off 227 1=true)(x:w0.cell? A=some v)(H:w0.frozen? A=false)(G:v=.pointer none\/v=.pointer (some A))(D:∀w,Rl S w0 w->∀B,Rl S (w.setCell A (.pointer (some A))) B->bK prog main Rl Gr St S (Gl (y.finish (.tuple #[])::Y) base) B) :
  ∀w,Rl S w0 w->bK prog main Rl Gr St S (Gl (FC T [.code (f198.body.getD .skip)]::y::Y) base) w:=by
 have F:=λw (h:Rl S w0 w)=>afN (A:=A) C j h;obtain⟨a,rfl⟩:∃a,v=.pointer a:=G.elim (λe=>⟨_,e⟩) λe=>⟨_,e⟩;have z:=λ(p:Array Value) (b:20<=p.size) (f:p.getD 0 undef=.pointer (some A)) (k:w0.cell? A=some (.pointer none))=>aBf (T:=p) C b f j u t I J k H D
 have E:=λ(p:Array Value) (b:20<=p.size) (f:p.getD 0 undef=.pointer (some A)) (k:w0.cell? A=some (.pointer (some A)))=>aBg (T:=p) C b f j u k D
 simp only[f198,qo,asK,asL] at z E ⊢;refine eI C ?_;refine gz C (l:=[0,1,2,3,4]) rfl ?_;refine bP C (d:=2) (v:=.pointer (some A)) (es:=#[]) (bd (by decide) c) rfl rfl rfl (λw i=>fI g) (λw i=>bA _) ?_;intro T b f o;replace c:=db c (mu b.symm);replace g:=(o 0 (by decide)).trans g;clear o b;refine bP C (d:=3) (v:=.pointer (some A)) (es:=#[]) (bd (by decide) c) rfl rfl rfl (λw i=>amK f) (λw i=>bA _) ?_;intro T b m o;replace c:=db c (mu b.symm);replace g:=(o 0 (by decide)).trans g;replace f:=(o 2 (by decide)).trans f;clear o b;refine bP C (d:=4) (v:=.pointer (some A)) (es:=#[]) (bd (by decide) c) rfl rfl rfl (λw i=>afK ccT m) (λw i=>bA _) ?_;intro T b r o;replace c:=db c (mu b.symm);replace g:=(o 0 (by decide)).trans g;replace f:=(o 2 (by decide)).trans f;replace m:=(o 3 (by decide)).trans m;clear o b;refine bP C (d:=5) (v:=.pointer a) (bd (by decide) c) rfl rfl rfl (λw i=>aov ccT r ((F w i).1.trans x)) (λw i=>acw j (bd u (F w i).2.2.2)) ?_;intro T b s o;replace c:=db c (mu b.symm);replace g:=(o 0 (by decide)).trans g;replace f:=(o 2 (by decide)).trans f;replace m:=(o 3 (by decide)).trans m;replace r:=(o 4 (by decide)).trans r;clear o b;refine bP C (d:=6) (v:=.bool a.isNone) (bd (by decide) c) rfl rfl rfl (λw i=>ayX ccT (a:=a) s rfl) (λw i=>bA _) ?_;intro T b K o;replace c:=db c (mu b.symm);replace g:=(o 0 (by decide)).trans g;replace f:=(o 2 (by decide)).trans f;replace m:=(o 3 (by decide)).trans m;replace r:=(o 4 (by decide)).trans r;replace s:=(o 5 (by decide)).trans s;clear o b;refine iz C ?_;refine acv C (q:=a.isNone) K ?_;rcases G with e|e
 .cases e;simp only[Option.isNone_none,pr];exact z _ c g x
 .cases e;simp only[Option.isNone_some,qG,jp];exact E _ c g x
end
noncomputable def asN(f:FuncId):Bool:=match prog.funcs[f]? with
 |some fn=>!(fn.name == "loop.example/depositary/impl.fetchAll" || fn.name == "(*strings.Builder).copyCheck")||f ==cD||f ==nCC
 |none=>true
def amL:(List.range prog.funcs.size).all asN=true:=by kernel_rfl
def xl(h:gH f=true):f=cD\/f=nCC:=by
 unfold gH at h;cases b:prog.funcs[f]? with
 |none=>rw[b] at h;cases h
 |some fn=>
  rw[b] at h;have a:=lc.1 amL f (qn.2 (dq.1 b).1);unfold asN at a;rw[b] at a;dsimp only at h a;rw[h] at a;simpa using a
def asO :Frame.enter prog nCC U .normal=FC (T0C U) [.code (f198.body.getD .skip)]:=by
 unfold Frame.enter;rw[func198];rfl
def asP{e:TypeId}(d:w.shape? A.block=some (e,n))(a:w.cell? A=some v):A.off<n:=by
 unfold World.shape? at d;unfold World.cell? at a;cases f:w.heap[A.block]? with
 |none=>rw[f] at a;simp at a
 |some o=>
  rw[f] at d a;cases o with
  |cells c t z=>
   cases b:A.spot with
   |some s=>simp[b] at a
   |none=>
    simp[b] at a d;have:=(dq.1 a).1;omega
  |_=>simp at a
def aaN{b:Nat}(h:W.heap[b]?=w.heap[b]?):(W.setCell A u).heap[b]?=(w.setCell A u).heap[b]?:=by
 unfold World.setCell;simp only[pe,h]
section
variable {β main:Bool} {Rl:aq->World->World->Prop} {Gr:aq->aq->World->World->Array Event->Prop} {Rr:aq} {R:List Frame->World->Prop}
def ahh(C:Cmp Rl Gr Rr){base:List Frame}:wY (ai β) prog R Rr main Rl Gr base:=by
 intro f c ρ a Q m m' l S hf t Z M hc I hg hW G;obtain rfl:f=nCC:=(xl hf).resolve_left t;obtain⟨_,_,y,ys,rfl,rfl⟩:=M.ne';obtain⟨A,v,e,n,c1,W,h0,r,U,d,mG,Y,⟨N,u⟩,E,i,x⟩:=avC Z M hc I hg hW;have j:ρ.r N.block A.block:=by cases u with|mk h o s=>exact h
 have D:S A.block:=by
  rcases G _ _ j with h|⟨_,P,V⟩
  .exact h
  .exact(E _ j P V).elim
 have hB:A.block<l.heap.size:=(I.lt j).2;have T:20<=(T0C Q).size:=by simp only[T0C,rZ,sW];omega
 rw[asO];have H:liesAt prog prog.depth e (n / prog.cellsOf e) A.off 227 1=true:=by
  rw[<-U];exact(arw prog _ _ _ _ _ _ _).symm
 refine asM C T h0 D hB r (asP r d) H d mG Y (λw bq w1 B=> ?_) l (C.fZ _ _);refine .stop λw2 z=> ?_;have L:=i.kept;have p:(l.setCell A (.pointer (some A))).heap.size=l.heap.size:=fd _ _ _;have g:=G.step i.wr L;have hS:(λb=>S b\/(l.heap.size<=b/\b<(l.setCell A (.pointer (some A))).heap.size))=S:=by
  funext b
  rw[p];exact propext ⟨λh=>h.elim id λh=>absurd h.1 (by omega),.inl⟩
 rw[hS] at g;obtain⟨K,r2,O⟩:=C.rl _ _ _ bq;obtain⟨J,s2,X⟩:=C.rl _ _ _ (C.tr _ _ _ _ B z);refine⟨c1,W,_,x,i.le,λ_ k=>k,rfl,⟨i.st, ?_,i.gl,i.will,g⟩,.aos L λb F k=> ?_⟩
 case refine_2=>
  have q:=(G b F k).imp (λh=>h) (λh=>h.1);exact(J F q).trans (aaN (K F q))
 refine i.wr.rely g (λb k=>(J b k).trans (aaN (K b k))) ?_ ?_
 .rw[p];have:(w.setCell A (.pointer (some A))).heap.size=w.heap.size:=fd _ _ _;omega
 .exact X.trans O
end
structure FaT (P:Program):Prop where
 u3:P.underlying 3=some (.int .i64)
 u9:P.underlying 9=some .string
 u23:P.underlying 23=some (.slice 40)
 u31:P.underlying 31=some (.slice 3)
 u38:P.underlying 38=some (.slice 64)
 aiB:P.underlying 160=some (.slice 171)
 avG:∃ms,P.underlying 207=some (.interface ms)
 u40:∃fs g0 g1,P.underlying 40=some (.struct fs)/\fs[0]?=some g0/\fs[1]?=some g1/\g0.offset=0/\g0.type=3/\g1.offset=1/\g1.type=38
 avH:∃fs g0 g1,P.underlying 64=some (.struct fs)/\fs[0]?=some g0/\fs[1]?=some g1/\g0.offset=0/\g0.type=3/\g1.offset=1/\g1.type=9
 avI:∃fs,P.underlying 171=some (.struct fs)
 i3:∃i,P.info? 3=some i/\i.size=1
 i40:∃i,P.info? 40=some i/\i.size=2
 i110:∃i,P.info? 64=some i/\i.size=2
 i258:∃i,P.info? 171=some i/\i.size=2/\i.bytes=24/\i.zero=some (.agg #[.string ⟨#[]⟩,.bool false])
 i247:∃i,P.info? 160=some i/\i.size=1/\i.zero=some (.slice none 0 0)
def avJ:((prog.info? 3).map (·.size ==1)=some true/\(prog.info? 40).map (·.size ==2)=some true)/\((prog.info? 64).map (·.size ==2)=some true/\(prog.info? 171).map (λi=>i.size ==2&&i.bytes ==24)=some true):=by
 refine⟨⟨?_, ?_⟩, ?_, ?_⟩<;>kernel_rfl
def aBh:(prog.info? 171).map (·.zero)=some (some (.agg #[.string ⟨#[]⟩,.bool false])):=by kernel_rfl
def aBi:(prog.info? 160).map (λi=>(i.size,i.zero))=some (1,some (.slice none 0 0)):=by kernel_rfl
def faT:FaT prog where
 u3:=underlying3
 u9:=underlying9
 u23:=underlying23
 u31:=underlying31
 u38:=underlying38
 aiB:=underlying160
 avG:=⟨_,underlying207⟩
 u40:=⟨_,_,_,underlying40,rfl,rfl,rfl,rfl,rfl,rfl⟩
 avH:=⟨_,_,_,underlying64,rfl,rfl,rfl,rfl,rfl,rfl⟩
 avI:=⟨_,underlying171⟩
 i3:=let⟨i,h,k⟩:=iS.1 avJ.1.1;⟨i,h,by simpa using k⟩
 i40:=let⟨i,h,k⟩:=iS.1 avJ.1.2;⟨i,h,by simpa using k⟩
 i110:=let⟨i,h,k⟩:=iS.1 avJ.2.1;⟨i,h,by simpa using k⟩
 i258:=by
  obtain⟨i,h,k⟩:=iS.1 avJ.2.2;have z:=aBh;rw[h] at z;simp only[fk,mt] at k;exact⟨i,h,k.1,k.2,by simpa using z⟩
 i247:=by
  obtain⟨i,h,k⟩:=iS.1 aBi;simp only[uU] at k;exact⟨i,h,k.1,k.2⟩
def faQ(β:Bool):FaT (ai β) where
 u3:=(cP prog _ _).trans faT.u3
 u9:=(cP prog _ _).trans faT.u9
 u23:=(cP prog _ _).trans faT.u23
 u31:=(cP prog _ _).trans faT.u31
 u38:=(cP prog _ _).trans faT.u38
 aiB:=(cP prog _ _).trans faT.aiB
 avG:=let⟨d,h⟩:=faT.avG;⟨d,(cP prog _ _).trans h⟩
 u40:=let⟨a,b,c,h,k⟩:=faT.u40;⟨a,b,c,(cP prog _ _).trans h,k⟩
 avH:=let⟨a,b,c,h,k⟩:=faT.avH;⟨a,b,c,(cP prog _ _).trans h,k⟩
 avI:=let⟨d,h⟩:=faT.avI;⟨d,(cP prog _ _).trans h⟩
 i3:=let⟨i,h,k⟩:=faT.i3;⟨i,(ko prog _ _).trans h,k⟩
 i40:=let⟨i,h,k⟩:=faT.i40;⟨i,(ko prog _ _).trans h,k⟩
 i110:=let⟨i,h,k⟩:=faT.i110;⟨i,(ko prog _ _).trans h,k⟩
 i258:=let⟨i,h,k⟩:=faT.i258;⟨i,(ko prog _ _).trans h,k⟩
 i247:=let⟨i,h,k⟩:=faT.i247;⟨i,(ko prog _ _).trans h,k⟩
def lG{s:Sem Value}{a:Next}(h:(s.bind λv=>Sem.pure (Next.value v)).run P w=.ok a W):∃v,a=.value v/\s.run P w=.ok v W:=by
 obtain⟨v,b,d,c⟩:=dU (s:=s) h;cases(show Result.ok (Next.value v) b=Result.ok a W from c);exact⟨v,rfl,d⟩
section
variable {P:Program} {w w3:World} {e:Operand->Value} {x y:Operand} {nx:Next} {a b:Int} {dst:Option Tmp} {ty:TypeId} {pos:String} {af:Array Edge} {gd:Option (Nat×Bool)}
def jz(h:(execOp e ⟨dst,.assign x,ty,pos,af,gd⟩).run P w=.ok nx w3):∃v,nx=.value v/\(v=e x/\w3=w):=by
 cases(show Result.ok (Next.value (e x)) w=Result.ok nx w3 from h);exact⟨_,rfl,rfl,rfl⟩
def aiC(h:(execOp e ⟨dst,.move x,ty,pos,af,gd⟩).run P w=.ok nx w3):∃v,nx=.value v/\(v=e x/\w3=w):=by
 cases(show Result.ok (Next.value (e x)) w=Result.ok nx w3 from h);exact⟨_,rfl,rfl,rfl⟩
def asR(f:e y=.int .i64 b)(h:(execOp e ⟨dst,.binOp .lss 3 x y 3,ty,pos,af,gd⟩).run P w=.ok nx w3):∃v,nx=.value v/\(∃a,e x=.int .i64 a/\v=.bool (decide (a<b))/\w3=w):=by
 obtain⟨v,rfl,d⟩:=lG (s:=binOp .lss 3 (e x) (e y)) h;clear h;have h:=d;clear d;refine⟨v,rfl, ?_⟩;rw[f] at h;generalize e x=u at h ⊢;cases u with
 |int k n=>
  by_cases c:k=.i64
  .subst c;cases(show Result.ok (.bool (decide (n<b))) w=Result.ok v w3 from h);exact⟨_,rfl,rfl,rfl⟩
  .simp only[binOp,c,ne_eq,not_false_eq_true,pr] at h;cases(show Result.halt _ _=Result.ok v w3 from h)
 |pointer p=>cases p<;>cases(show Result.halt _ _=Result.ok v w3 from h)
 |_=>cases(show Result.halt _ _=Result.ok v w3 from h)
def gM(i:e x=.int .i64 a)(d:e y=.int .i64 b)(h:(execOp e ⟨dst,.binOp .lss 3 x y 3,ty,pos,af,gd⟩).run P w=.ok nx w3):∃v,nx=.value v/\(v=.bool (decide (a<b))/\w3=w):=by
 obtain⟨v,rfl,j,c,f,g⟩:=asR d h;rw[i] at c;cases c;exact⟨_,rfl,f,g⟩
def amM(h:(execOp e ⟨dst,.binOp .mul 3 x (.const (.int .i64 1)) 3,ty,pos,af,gd⟩).run P w=.ok nx w3)(d:e (.const (.int .i64 1))=.int .i64 1):∃v,nx=.value v/\(∃a,e x=.int .i64 a/\v=.int .i64 (IntKind.i64.wrap (a*1))/\w3=w):=by
 obtain⟨v,rfl,c⟩:=lG (s:=binOp .mul 3 (e x) (e (.const (.int .i64 1)))) h;clear h;have h:=c;clear c;refine⟨v,rfl, ?_⟩;rw[d] at h;generalize e x=u at h ⊢;cases u with
 |int k n=>
  by_cases b:k=.i64
  .subst b;cases(show Result.ok (.int .i64 (IntKind.i64.wrap (n*1))) w=Result.ok v w3 from h);exact⟨_,rfl,rfl,rfl⟩
  .simp only[binOp,b,ne_eq,not_false_eq_true,pr] at h;cases(show Result.halt _ _=Result.ok v w3 from h)
 |pointer p=>cases p<;>cases(show Result.halt _ _=Result.ok v w3 from h)
 |_=>cases(show Result.halt _ _=Result.ok v w3 from h)
def amN(d:e x=.int .i64 a)(c:e (.const (.int .i64 1))=.int .i64 1)(h:(execOp e ⟨dst,.binOp .add 3 x (.const (.int .i64 1)) 3,ty,pos,af,gd⟩).run P w=.ok nx w3):∃v,nx=.value v/\(v=.int .i64 (IntKind.i64.wrap (a+1))/\w3=w):=by
 obtain⟨v,rfl,b⟩:=lG (s:=binOp .add 3 (e x) (e (.const (.int .i64 1)))) h;clear h;have h:=b;clear b;rw[d,c] at h;cases(show Result.ok (.int .i64 (IntKind.i64.wrap (a+1))) w=Result.ok v w3 from h);exact⟨_,rfl,rfl,rfl⟩
def amO(f:e x=.int .i64 a)(d:e y=.int .i64 b)(h:(execOp e ⟨dst,.binOp .eql 3 x y 3,ty,pos,af,gd⟩).run P w=.ok nx w3):∃v,nx=.value v/\(v=.bool (a ==b)/\w3=w):=by
 have g:eqGuard .eql 3 x y (e x) (e y)=Sem.pure ():=by rw[f,d];rfl
 have c:(((eqGuard .eql 3 x y (e x) (e y)).bind λ_=>binOp .eql 3 (e x) (e y)).bind λv=>Sem.pure (Next.value v)).run P w=.ok nx w3:=h;clear h;rw[g] at c;obtain⟨v,rfl,h⟩:=lG (s:=binOp .eql 3 (e x) (e y)) c;clear c;rw[f,d] at h;cases(show Result.ok (.bool (a ==b)) w=Result.ok v w3 from h);exact⟨_,rfl,rfl,rfl⟩
def pS{a:Builtin}{s:Value->Sem Value}(d:∀c v,builtin a #[t0] ty c #[v]=(s v).bind λu=>Sem.pure (.value u)):execOp e ⟨dst,.call ⟨.builtin a,#[.tmp t],#[t0]⟩,ty,pos,af,gd⟩=(s (e (.tmp t))).bind λu=>Sem.pure (.value u):=by
 have b:Array.map e #[.tmp t]=#[e (.tmp t)]:=by simp
 simp only[execOp,resolve];rw[b];exact d _ _
def aiD(k:P.underlying t0=some (.slice X))(h:(execOp e ⟨dst,.call ⟨.builtin .len,#[.tmp t],#[t0]⟩,ty,pos,af,gd⟩).run P w=.ok nx w3) :
  ∃v,nx=.value v/\(∃A n c,e (.tmp t)=.slice A n c/\v=.int .i64 n/\w3=w):=by
 rw[pS (s:=λv=>Builtin.len_ #[t0] ty #[v]) λ_ v=>rfl] at h;obtain⟨v,rfl,g⟩:=lG h;clear h;have h:=g;clear g;refine⟨v,rfl, ?_⟩;generalize e (.tmp t)=u at h ⊢;obtain⟨d,l,g,j⟩:=dU (s:=underlying t0) (f:=λd=>match d,u with
  |.string,.string s=>pure (goInt s.size)
  |.array n _,_=>pure (goInt n)
  |.pointer arr,_=>(underlying arr).bind λd=>match d with
   |.array n _=>pure (goInt n)
   |_=>stuck "len: pointer to array expected"
  |.slice _,.slice _ n _=>pure (goInt n)
  |.map _ _,.map none|.chan _ _,.chan none=>pure (goInt 0)
  |.map _ _,.map (some r)=>(getObj r).bind λo=>match o with
   |.map a _=>pure (goInt a.size)
   |_=>stuck "len: map expected"
  |.chan _ _,.chan (some r)=>(getObj r).bind λo=>match o with
   |.chan _ i _ _ _ b=>pure (goInt (if b then 0 else i.size))
   |_=>stuck "len: channel expected"
  |_,_=>stuck "len: string, array, pointer to array, slice, map or channel expected") h
 rw[lw k] at g;cases g;cases u with
 |slice A n c=>
  cases(show Result.ok (.int .i64 n) w=Result.ok v w3 from j);exact⟨A,n,c,rfl,rfl,rfl⟩
 |_=>cases(show Result.halt _ _=Result.ok v w3 from j)
end
def ako:TypeDesc->Bool
 |.struct _|.array .. =>false
 |_=>true
def avK{s:Sem V}(h:kX P s){v:V}:s.run P w ≠ .ok v w':=λe=>by
 obtain⟨q,b,c,a, -⟩:=Leaves.awG h w #[];rw[<-ru _ _ _ #[],a] at e;cases e
def akp(k:IntKind)(x y:Int)(c:BoundsCode):kX P (boundsPanic k x y c:Sem V):=by
 rw[acN];refine iK ?_ λa=>eG _;split
 .exact λ_=>trivial
 .exact trivial
section
variable {P:Program} (F:FaT P) {w w3:World} {e:Operand->Value} {x y:Operand} {nx:Next} {dst:Option Tmp} {ty:TypeId} {pos:String} {af:Array Edge} {gd:Option (Nat×Bool)}
def amP{A:Option Addr}(b:P.underlying t0=some (.slice X))(d:e (.tmp t)=.slice A n c)(h:(execOp e ⟨dst,.call ⟨.builtin .cap,#[.tmp t],#[t0]⟩,ty,pos,af,gd⟩).run P w=.ok nx w3) :
  ∃v,nx=.value v/\(v=.int .i64 c/\w3=w):=by
 rw[pS (s:=λv=>Builtin.cap_ #[t0] ty #[v]) λ_ v=>rfl,d] at h;obtain⟨v,rfl,a⟩:=lG h;refine⟨v,rfl, ?_⟩;have:(Builtin.cap_ #[t0] ty #[.slice A n c]).run P w=.ok (.int .i64 c) w:=by
  simp[Builtin.cap_,lw b,goInt]
 rw[this] at a;cases a;exact⟨rfl,rfl⟩
include F in
theorem avL(h:(execOp e ⟨dst,.call ⟨.builtin .len,#[.tmp t],#[9]⟩,ty,pos,af,gd⟩).run P w=.ok nx w3) :
  ∃v,nx=.value v/\(∃s:ByteArray,e (.tmp t)=.string s/\v=.int .i64 s.size/\w3=w):=by
 rw[pS (s:=λv=>Builtin.len_ #[9] ty #[v]) λ_ v=>rfl] at h;obtain⟨v,rfl,a⟩:=lG h;refine⟨v,rfl, ?_⟩;generalize e (.tmp t)=u at a ⊢;cases u with
 |string s=>
  have:(Builtin.len_ #[9] ty #[.string s]).run P w=.ok (.int .i64 s.size) w:=by
   simp[Builtin.len_,lw F.u9,goInt]
  rw[this] at a;cases a;exact⟨s,rfl,rfl,rfl⟩
 |_=>simp[Builtin.len_,lw F.u9,stuck] at a
theorem aaO{t:TypeId}{a:TypeDesc}(b:P.underlying t=some a):Leaves P (λd=>d=a) (underlying t):=by
 unfold underlying;show Leaves P (λd=>d=a) (match P.underlying t with
  |some d=>pure d
  |none=>stuck "no such type")
 rw[b];exact rfl
theorem avM{t:TypeId}(a:P.underlying t=some (.struct S)):(isAgg t).run P w=.ok true w:=by simp[isAgg,lw a]
theorem akq{t:TypeId}{d:TypeDesc}(a:P.underlying t=some d)(b:ako d=true):(isAgg t).run P w=.ok false w:=by
 cases d<;>first|(cases b;done)|simp[isAgg,lw a]
theorem afP(b:NoV P w A)(h:(load A).run P w=.ok v w3):w3=w/\w.cell? A=some v:=by
 have h:(Sem.load .plain A Sem.pure).run P w=.ok v w3:=h;unfold Sem.run at h;cases a:w.cell? A with
 |some u=>
  simp only[a,Sem.run,sH] at h;exact⟨h.2.symm,by rw[h.1]⟩
 |none=>
  obtain⟨e,c⟩:=(b.2 a).1 (Mode.plain ==.atomic);simp only[a,c] at h;cases h
theorem aiE{t:TypeId}{d:TypeDesc}(j:P.underlying t=some d)(i:ako d=true)(l:e x=.pointer (some A))(m:NoV P w A)(h:(execOp e ⟨dst,.load t x,ty,pos,af,gd⟩).run P w=.ok nx w3) :
  ∃v,nx=.value v/\(w.cell? A=some v/\w3=w):=by
 obtain⟨v,rfl,g⟩:=lG (s:=Instr.loadAt t (e x)) h;refine⟨v,rfl, ?_⟩;rw[l] at g;obtain⟨q,r,a,k⟩:=dU (s:=isAgg t) (f:=λb=>if b then(sizeOf t).bind λn=>(loadCells A n).bind λc=>Sem.pure (Value.agg c) else load A) g;rw[akq j i] at a;cases a;obtain⟨o,p⟩:=afP m k;exact⟨p,o⟩
theorem akr{t:TypeId}{i:TypeInfo}(D:P.underlying t=some (.struct S))(hi:P.info? t=some i)(B:i.size=2)(F:e x=.pointer (some A))(I:NoV P w A)(k:NoV P w (A.add 1))(h:(execOp e ⟨dst,.load t x,ty,pos,af,gd⟩).run P w=.ok nx w3) :
  ∃v,nx=.value v/\(∃d a,v=.agg #[d,a]/\w.cell? A=some d/\w.cell? (A.add 1)=some a/\w3=w):=by
 obtain⟨v,rfl,u⟩:=lG (s:=Instr.loadAt t (e x)) h;refine⟨v,rfl, ?_⟩;rw[F] at u;obtain⟨q,g,p,E⟩:=dU (s:=isAgg t) (f:=λb=>if b then(sizeOf t).bind λn=>(loadCells A n).bind λc=>Sem.pure (Value.agg c) else load A) u;rw[avM D] at p;cases p;obtain⟨n,g,r,z⟩:=dU (s:=sizeOf t) (f:=λn=>(loadCells A n).bind λc=>Sem.pure (Value.agg c)) E;have:(sizeOf t).run P w=.ok 2 w:=by simp[sizeOf,typeInfo,hi,B]
 rw[this] at r;cases r;obtain⟨c,g,G,y⟩:=dU (s:=loadCells A 2) (f:=λc=>Sem.pure (Value.agg c)) z;cases(show Result.ok (.agg c) g=Result.ok v w3 from y);obtain⟨d,K,C,H⟩:=dU (s:=load (A.add 0)) (f:=λd=>(load (A.add 1)).bind λa=>Sem.pure #[d,a]) G;obtain⟨rfl,l⟩:=afP I C;obtain⟨a,J,o,m⟩:=dU (s:=load (A.add 1)) (f:=λa=>Sem.pure #[d,a]) H;obtain⟨rfl,j⟩:=afP k o;cases(show Result.ok #[d,a] _=Result.ok c _ from m);exact⟨d,a,rfl,l,j,rfl⟩
theorem acx{t:TypeId}{g:Field}{f:Nat}{d:TypeDesc}{cs:Array Value}(i:P.underlying t=some (.struct S))(c:S[f]?=some g)(j:P.underlying g.type=some d)(b:ako d=true)(l:e x=.agg cs)(k:cs[g.offset]?=some u)(h:(execOp e ⟨dst,.field t x f,ty,pos,af,gd⟩).run P w=.ok nx w3) :
  ∃v,nx=.value v/\(v=u/\w3=w):=by
 obtain⟨v,rfl,a⟩:=lG (s:=Instr.field t (e x) f) h;refine⟨v,rfl, ?_⟩;rw[l] at a;have:(Instr.field t (.agg cs) f).run P w=.ok u w:=by
  simp[Instr.field,lw i,c,asAgg,part,akq j b,k]
 rw[this] at a;cases a;exact⟨rfl,rfl⟩
theorem acy{t : TypeId}{i:TypeInfo}{A:Option Addr}{k : Nat}(f:P.underlying t=some (.slice X))(hi:P.info? X=some i)(l:e x=.slice A n c)(j:e y=.int .i64 k)(m:k<n)(h:(execOp e ⟨dst,.indexAddr t x y,ty,pos,af,gd⟩).run P w=.ok nx w3) :
  ∃v,nx=.value v/\(∃a,A=some a/\v=.pointer (some (a.add (k*i.size)))/\w3=w):=by
 obtain⟨v,rfl,b⟩:=lG (s:=Instr.indexAt t (e x) (e y)) h;refine⟨v,rfl, ?_⟩;rw[l,j] at b;have o:(0:Int)<=k/\(k:Int)<n:=by omega
 cases A with
 |none=>
  exfalso;have hd:kX P (Instr.indexAt t (.slice none n c) (.int .i64 k)):=by
   unfold Instr.indexAt;refine Leaves.bind (A:=λq=>q=(IntKind.i64,(k:Int))) rfl λq g=> ?_;subst g;refine Leaves.bind (aaO f) λd hd=> ?_;subst hd;refine Leaves.bind (s:=Sem.pure (none,n,X)) (A:=λq=>q=(none,n,X)) rfl λq g=> ?_;subst g;exact Leaves.bind (aaO f) λd hd=>akp _ _ _ _
  exact avK hd b
 |some a=>
  have:(Instr.indexAt t (.slice (some a) n c) (.int .i64 k)).run P w=.ok (.pointer (some (a.add (k*i.size)))) w:=by
   simp[Instr.indexAt,asIntOf,lw f,m,sizeOf,typeInfo,hi]
  rw[this] at b;cases b;exact⟨a,rfl,rfl,rfl⟩
end
def amQ:Value->Bool
 |.agg _|.tuple _=>false
 |_=>true
section
variable {P:Program} (F:FaT P) {w w3:World} {e:Operand->Value} {x y:Operand} {nx:Next} {dst:Option Tmp} {ty:TypeId} {pos:String} {af:Array Edge} {gd:Option (Nat×Bool)}
def ade{c : Value}(b:amQ u=true)(f:w.cell? A=some c)(d:w.frozen? A=false)(k:Sem V):(Sem.store .plain A u k).run P w=k.run P (w.setCell A u):=by
 have a:(∀x,u ≠ .agg x)/\∀x,u ≠ .tuple x:=⟨λx e=>(by subst e;cases b),λx e=>(by subst e;cases b)⟩;rw[<-ru _ _ _ #[],sb _ _ _ _ _ _ _ a.1 a.2];simp only[f,d,jp,qG];rw[ru]
def asS :A.add 1≠A:=by
 unfold Addr.add;intro e;have:=gn Addr.off e;simp at this
include F in
theorem ap5{u0 u1 c0 c1:Value}(k:amQ u0=true)(r:amQ u1=true)(o:e x=.pointer (some A))(j:e y=.agg #[u0,u1])(a:w.cell? A=some c0)(d:w.frozen? A=false)(f:w.cell? (A.add 1)=some c1)(b:w.frozen? (A.add 1)=false) :
  (execOp e ⟨dst,.store 171 x y,ty,pos,af,gd⟩).run P w=.ok .skip ((w.setCell A u0).setCell (A.add 1) u1):=by
 obtain⟨i,m,t, -⟩:=F.i258;have p:(storeCells A [u0,u1] 0).run P w=.ok () ((w.setCell A u0).setCell (A.add 1) u1):=by
  show(Sem.store .plain (A.add 0) u0 (Sem.store .plain (A.add 1) u1 (Sem.pure ()))).run P w=_;have g:A.add 0=A:=by unfold Addr.add;simp
  rw[g,ade k a d,ade r (c:=c1) (by rw[tQ _ _ _ _ (λe=>asS e.symm)];exact f) (by rw[uD];exact b)];rfl
 have s:(storeVar 171 A (.agg #[u0,u1])).run P w=.ok () ((w.setCell A u0).setCell (A.add 1) u1):=by
  have l:(sizeOf 171).run P w=.ok 2 w:=by simp[sizeOf,typeInfo,m,t]
  unfold storeVar;show((sizeOf 171).bind λn=>if(Value.agg #[u0,u1]).cells.size≠n then stuck _ else storeCells A (Value.agg #[u0,u1]).cells.toList 0).run P w=_;rw[qO,l];exact p
 have:execOp e ⟨dst,.store 171 x y,ty,pos,af,gd⟩=(Instr.storeAt 171 (e x) (e y)).bind λ_=>Sem.pure .skip:=rfl;rw[this,o,j,qO];have q:(Instr.storeAt 171 (.pointer (some A)) (.agg #[u0,u1])).run P w=.ok () ((w.setCell A u0).setCell (A.add 1) u1):=s;rw[q];rfl
include F in
theorem ap6{c0 : Value}(j:∃a n c,u=.slice a n c)(o:e x=.pointer (some A))(g:e y=u)(b:w.cell? A=some c0)(d:w.frozen? A=false) :
  (execOp e ⟨dst,.store 160 x y,ty,pos,af,gd⟩).run P w=.ok .skip (w.setCell A u):=by
 obtain⟨i,l,s, -⟩:=F.i247;obtain⟨a,n,c,rfl⟩:=j;have p:(storeCells A [.slice a n c] 0).run P w=.ok () (w.setCell A (.slice a n c)):=by
  show(Sem.store .plain (A.add 0) (.slice a n c) (Sem.pure ())).run P w=_;have f:A.add 0=A:=by unfold Addr.add;simp
  rw[f,ade rfl b d];rfl
 have r:(storeVar 160 A (.slice a n c)).run P w=.ok () (w.setCell A (.slice a n c)):=by
  have k:(sizeOf 160).run P w=.ok 1 w:=by simp[sizeOf,typeInfo,l,s]
  unfold storeVar;show((sizeOf 160).bind λm=>if(Value.slice a n c).cells.size≠m then stuck _ else storeCells A (Value.slice a n c).cells.toList 0).run P w=_;rw[qO,k];exact p
 have:execOp e ⟨dst,.store 160 x y,ty,pos,af,gd⟩=(Instr.storeAt 160 (e x) (e y)).bind λ_=>Sem.pure .skip:=rfl;rw[this,o,g,qO];have q:(Instr.storeAt 160 (.pointer (some A)) (.slice a n c)).run P w=.ok () (w.setCell A (.slice a n c)):=r;rw[q];rfl
include F in
theorem asT:(execOp e ⟨dst,.alloc 160,ty,pos,af,gd⟩).run P w=.ok (.value (.pointer (some ⟨w.heap.size,0,none⟩))) (w.alloc (.cells #[.slice none 0 0] 160)):=by
 obtain⟨i,b,c,a⟩:=F.i247;have:execOp e ⟨dst,.alloc 160,ty,pos,af,gd⟩=(Instr.alloc 160 true (.tuple #[])).bind λv=>Sem.pure (.value v):=rfl;rw[this,qO];have:(Instr.alloc 160 true (.tuple #[])).run P w=.ok (.pointer (some ⟨w.heap.size,0,none⟩)) (w.alloc (.cells #[.slice none 0 0] 160)):=by
  simp[Instr.alloc,zeroValue,typeInfo,b,a,newVar,newRow,Value.cells]
 rw[this];rfl
include F in
theorem aoA(t:(n:Int)<=2147483647)(o:e x=.int .i64 n):∃c:Array Value,c.size=2*n/\(execOp e ⟨dst,.makeSlice 160 x x,ty,pos,af,gd⟩).run P w=.ok (.value (.slice (some ⟨w.heap.size,0,none⟩) n n)) (w.alloc (.cells c 171)):=by
 obtain⟨i,a,r,g,p⟩:=F.i258;have k:IntKind.i64.wrap (n:Int)=n:=by
  unfold IntKind.wrap;simp[IntKind.signed,IntKind.bits];omega
 have q:¬(n:Int)<0:=by omega
 have s:¬(2:Int) ^ 48<24*n:=by omega
 have:execOp e ⟨dst,.makeSlice 160 x x,ty,pos,af,gd⟩=(Instr.makeSlice 160 (e x) (e x)).bind λv=>Sem.pure (.value v):=rfl;rw[this,o];have l:¬(281474976710656:Int)<24*n:=by omega
 have j:∀w,(sizeOf 171).run P w=.ok 2 w:=λw=>by simp[sizeOf,typeInfo,a,r]
 have d:∀m:Nat,(askRoom m).run P w=.ok () w:=λm=>by
  unfold askRoom;split<;>rfl
 by_cases f:n=0
 .subst f;refine⟨(Array.range 0).map λ_=>default,by simp, ?_⟩;rw[qO];have:(Instr.makeSlice 160 (.int .i64 (0:Nat)) (.int .i64 (0:Nat))).run P w=.ok (.slice (some ⟨w.heap.size,0,none⟩) 0 0) (w.alloc (.cells ((Array.range 0).map λ_=>default) 171)):=by
   simp[Instr.makeSlice,lw F.aiB,asInt,asIntOf,typeInfo,a,g,d,j,newRow,(show IntKind.i64.wrap 0=0 by decide)]
  rw[this];rfl
 .refine⟨(Array.range (n*2)).map λi=>(#[.string ⟨#[]⟩,.bool false]:Array Value)[i % 2]!,by simp;omega, ?_⟩;rw[qO];have:(Instr.makeSlice 160 (.int .i64 n) (.int .i64 n)).run P w=.ok (.slice (some ⟨w.heap.size,0,none⟩) n n) (w.alloc (.cells ((Array.range (n*2)).map λi=>(#[.string ⟨#[]⟩,.bool false]:Array Value)[i % 2]!) 171)):=by
   have b:∀w,(zeroValue 171).run P w=.ok (.agg #[.string ⟨#[]⟩,.bool false]) w:=λw=>by simp[zeroValue,typeInfo,a,p]
   simp[Instr.makeSlice,lw F.aiB,asInt,asIntOf,typeInfo,a,g,k,q,l,d,j,b,newRow,f,Value.cells];intro h;omega
  rw[this];rfl
end
def gO(h:w.cell? A=some v):A.block<w.heap.size:=by
 unfold World.cell? at h;cases a:w.heap[A.block]? with
 |none=>rw[a] at h;simp at h
 |some o=>exact(dq.1 a).1
structure Cx where
 R:List Frame->World->Prop
 c0:Cfg
 iH:Ren
 w0:World
 y:Frame
 ys:List Frame
def At(X:Cx)(T:Array Value)(k:List Item)(w:World):Prop:=45<=T.size/\∃c a,ik true X.R X.c0 X.iH X.w0 c a (FQ cD T k::X.y::X.ys) w
structure Tm (M:List Nat) (T T':Array Value):Prop where
 size:T'.size=T.size
 same:∀t,M.contains t=false->T'.getD t undef=T.getD t undef
def Tm.refl(M:List Nat)(T:Array Value):Tm M T T:=⟨rfl,λ_ _=>rfl⟩
def Tm.trans{T : Array Value}(h:Tm R T T')(k:Tm R T' U):Tm R T U:=⟨k.size.trans h.size,λt a=>(k.same t a).trans (h.same t a)⟩
def Tm.mono{T : Array Value}(h:Tm R T T')(b:∀t,R.contains t=true->rest.contains t=true):Tm rest T T':=⟨h.size,λt a=>h.same t (by
 cases e:R.contains t with
 |false=>rfl
 |true=>rw[b t e] at a;cases a)⟩
def Tm.sw{T : Array Value}{d:Nat}(h:Tm [d] T T')(b:cU.contains d=true):Tm cU T T':=h.mono λt a=>by
 simp at a;subst a;exact b
def Tm.one{T : Array Value}{d:Nat}(b:T'.size=T.size)(h:∀t,t≠d->T'.getD t undef=T.getD t undef):Tm [d] T T':=⟨b,λt a=>h t λe=>by subst e;simp at a⟩
def afQ{n:Tmp}{t ty:TypeId}{dst:Option Tmp}(f:e (.tmp n)=.tuple #[]):∀c a,(execOp e ⟨dst,.load t (.tmp n),ty,pos,af,gd⟩).run P w ≠ .ok c a:=λc a g=>by
 obtain⟨v,d,b,i⟩:=dU (s:=Instr.loadAt t (e (.tmp n))) g;rw[f] at b;cases(show Result.halt _ _=Result.ok v d from b)
section
variable {X:Cx} {T:Array Value} {k:List Item} {w w2:World}
def At.go(h:At X T k w)(b:∀base,stepG (ai true) true (Gl (FQ cD T k::X.y::X.ys) base) w=.go (Gl (FQ cD T k2::X.y::X.ys) base) w2 es):At X T k2 w2:=
 let⟨e,_,_,h⟩:=h;let⟨d,c,a,_,_⟩:=h.go rfl true b;⟨e,d,c,a⟩
def At.seq(h:At X T (.code (.seq a b)::k) w):At X T (.code a :: .code b::k) w:=h.go (es:=#[]) λbase=>by simp[Gl,stepG,stepG.exec]
def At.region{id:Nat}{l:List Nat}(a:List.range Z.size=l)(h:At X T (.code (.region id Z false)::k) w):At X T (.inRegion Z l::k) w:=h.go (es:=#[]) λbase=>by subst a;simp[Gl,stepG,stepG.exec]
def At.jc(h:At X T (.inRegion Z []::k) w):At X T k w:=h.go (es:=#[]) λbase=>by simp[Gl,stepG,stepG.exec]
def AtL(X:Cx)(T:Array Value)(k:List Item)(w:World):Prop:=45<=T.size/\∃c a,ik true X.R X.c0 X.iH X.w0 c a (FQ cD T k::X.y::X.ys) w/\iG (ai true) c X.c0
def At.aBj(h:At X T (.inRegion Z []::k) w):AtL X T k w:=
 let⟨e,_,_,h⟩:=h;let⟨d,c,b,a,_⟩:=h.go (w2:=w) (x2:=FQ cD T k) (xs2:=X.y::X.ys) (es:=#[]) rfl true λbase=>by simp[Gl,stepG,stepG.exec]
 ⟨e,d,c,b,a⟩
def At.skip(h:At X T (.code .skip::k) w):At X T k w:=h.go (es:=#[]) λbase=>by simp[Gl,stepG,stepG.exec]
def At.cond(d:T.getD t undef=.bool q)(h:At X T (.code (.cond (.tmp t) a b)::k) w):At X T (.code (if q then a else b)::k) w:=h.go (es:=#[]) λbase=>by
 have c:Frame.eval (FQ cD T (.code (.cond (.tmp t) a b)::k)) (.tmp t)=.bool q:=d;simp[Gl,stepG,stepG.exec,c]
def At.block{id:Nat}(h:At X T (.code (.block id a)::k) w):At X T (.code a :: .inBlock id::k) w:=h.go (es:=#[]) λbase=>by simp[Gl,stepG,stepG.exec]
def At.loop(h:At X T (.code (.loop a)::k) w):At X T (.code a :: .inLoop a::k) w:=h.go (es:=#[]) λbase=>by simp[Gl,stepG,stepG.exec]
def At.again(h:At X T (.inLoop a::k) w):At X T (.code a :: .inLoop a::k) w:=h.go (es:=#[]) λbase=>by simp[Gl,stepG,stepG.exec]
def At.exit{id:Nat}(a:exitTo id k=some k2)(h:At X T (.code (.exit id)::k) w):At X T k2 w:=h.go (es:=#[]) λbase=>by simp[Gl,stepG,stepG.exec,a]
def At.no(h:At X T (.code (.refuse "")::k) w):False:=by
 obtain⟨a,c,b,h⟩:=h;exact h.no rfl true (o:=_) (w2:=w) (by simp only[Gl,stepG,stepG.exec];rfl)
def At.jA     {Φ:Value->World->Prop} (h:At X T (.inRegion Z (i::rest)::k) w) (A:Z[i]?=some o) (y:o.guard=none) (s:o.dst=some d) (l:d<45)
  (a:∀m j,(execOp (FQ cD T (.inRegion Z (i::rest)::k)).eval o).run (ai true) w=.ok m j->∃v,m=.value v/\Φ v j) :
  ∃v b n,Φ v b/\Tm [d] T n/\n.getD d undef=v/\At X n (.inRegion Z rest::k) b:=by
 obtain⟨f,c,D,h⟩:=h;obtain⟨v,b,z,C,q,r, -⟩:=h.op A y λm j g=>.inl (let⟨v,e,_⟩:=a m j g;⟨v,e⟩);have p:Φ v b:=by
  rcases q with g|⟨g, -⟩
  .obtain⟨u,e,B⟩:=a _ _ g;cases e;exact B
  .obtain⟨u,e, -⟩:=a _ _ g;cases e
 rw[s] at r;replace l:d<T.size:=bd l f;exact⟨v,b,_,p,.one (by simp) (λt x=>by rw[aH l,bv x]),by rw[aH l,dj rfl],by simpa using f,z,C,r⟩
def At.opk    (h:At X T (.inRegion Z (i::rest)::k) w) (j:Z[i]?=some o) (l:o.guard=none) (g:o.dst=none)
  (b:(execOp (FQ cD T (.inRegion Z (i::rest)::k)).eval o).run (ai true) w=.ok .skip w2):At X T (.inRegion Z rest::k) w2:=by
 obtain⟨d,c,q,h⟩:=h;obtain⟨v,p,n,m,e,f, -⟩:=h.op j l λs r a=>.inr (by rw[b] at a;cases a;rfl);rw[g] at f;rcases e with a|⟨a, -⟩
 .rw[b] at a;cases a
 .rw[b] at a;cases a;exact⟨d,n,m,f⟩
def At.noV      (h:At X T (.inRegion Z (i::rest)::k) w) (g:Z[i]?=some o) (m:o.guard=none) (b:aau gA gL o.op=false) (e:T.getD t undef=.pointer (some A))
  (d:∀(e:Operand->Value) (w:World),e (.tmp t)=.tuple #[]->∀p j,(execOp e o).run (ai true) w ≠ .ok p j):NoV (ai true) w A/\NoV (ai true) w (A.add 1):=by
 obtain⟨l,c,q,h⟩:=h;obtain⟨x,f,n⟩:=h.ap3 g m b t d;rw[e] at f;cases f with
 |pointer a=>cases a with
  |some a=>exact⟨h.wr.noV a,h.wr.noV (a.add 1)⟩
 |fV=>exact absurd rfl n
def At.aBk(b:g∈gL)(h:At X T k w):NoV (ai true) w ⟨g,0,none⟩:=by
 obtain⟨a,c,d,h⟩:=h;exact h.wr.noV (.mk (h.gl g b) 0 none)
def At.chk(a:T.getD t undef=.bool q)(h:At X T (.code (.cond (.tmp t) (.refuse "") .skip)::k) w):q=false/\At X T k w:=by
 have h:=h.cond a;cases q with
 |true=>exact(h.no).elim
 |false=>exact⟨rfl,h.skip⟩
def At.ay1(a:T.getD t undef=.bool q)(h:At X T (.code (.cond (.tmp t) .skip (.refuse ""))::k) w):q=true/\At X T k w:=by
 have h:=h.cond a;cases q with
 |false=>exact(h.no).elim
 |true=>exact⟨rfl,h.skip⟩
end
def In_(x:Int):Prop:= -9223372036854775808<=x/\x<=9223372036854775807
def abo{x:Int}(h:(IntKind.i64.wrap (x*1) ==x)=true):In_ x:=by
 rw[mt] at h;unfold IntKind.wrap at h;simp[IntKind.signed,IntKind.bits] at h;unfold In_;omega
def afR(h:(n:Int)<9223372036854775807):IntKind.i64.wrap ((n:Int)+1)=((n+1:Nat):Int):=by
 unfold IntKind.wrap;simp[IntKind.signed,IntKind.bits];omega
def eX{a b:Int}(h:decide (a<b)=false):b<=a:=by simpa using h
structure aiF (w:World) (B:Option Addr) (i:Nat) (x:Int×ByteArray):Prop where
 c:∃a,B=some a/\w.cell? (a.add (i*2))=some (.int .i64 x.1)/\w.cell? ((a.add (i*2)).add 1)=some (.string x.2)
 i:In_ x.1
 s:(x.2.size:Int)<=9223372036854775807
def RdI(w:World)(B:Option Addr)(j:Nat)(l:List (Int×ByteArray)):Prop:=∀i x,l[i]?=some x->aiF w B (j+i) x
abbrev inC(k:List Item):List Item:=.inLoop aa3 :: .inBlock 52::k
abbrev mI:List Nat:=[4,5,9,10,11,13,15,26,25,22]
def Tm.mi{T : Array Value}{d:Nat}(h:Tm [d] T T')(b:mI.contains d=true):Tm mI T T':=h.mono λt a=>by
 simp at a;subst a;exact b
section
variable {X:Cx} {T:Array Value} {k:List Item} {w:World}
def At.aBl{m : Nat}(h:At X T (.code aa3::inC k) w)(M:T.getD 27 undef=.slice B m c)(ja:T.getD 28 undef=.int .i64 m)(n:T.getD 5 undef=.int .i64 j)(hj:j<=m)(hm:(m:Int)<=9223372036854775807) :
  (j=m/\∃T',Tm mI T T'/\At X T' k w)\/(j<m/\∃x T',aiF w B j x/\Tm mI T T'/\T'.getD 5 undef=.int .i64 (j+1:Nat)/\At X T' (.code aa3::inC k) w):=by
 have o:=Tm.refl mI T;unfold Go.Proofs.YtlggbfanooejbaaGreatDoor.aa3 at h;have h:=h.seq;replace h:=h.region (l:=[0]) rfl;obtain⟨v,A,T1,⟨g,f⟩,m,s4,b⟩:=h.jA (d:=4) (Φ:=λv i=>v=.bool (decide ((j:Int)<m))/\i=w) rfl rfl rfl (by decide) λy i q=>gM (by exact n) (by exact ja) q;rw[g] at s4;rw[f] at b;clear g f;replace n:=(m.same 5 rfl).trans n;replace M:=(m.same 27 rfl).trans M;replace o:=o.trans (m.mi rfl);clear m;replace h:=b;clear b;replace h:=h.jc.seq.cond s4;by_cases F:(j:Int)<m
 .right;rw[de F] at h;simp only[pr] at h;replace h:=h.skip.seq.seq;replace h:=h.region (l:=[0,1,2,3,4]) rfl;obtain⟨ii,hi,hz⟩:=(faQ true).i110;obtain⟨fs,g0,g1,P,V,Y,Z,W,R,N⟩:=(faQ true).avH;obtain⟨v,A,T2,⟨a,hB,g,f⟩,m,S,b⟩:=h.jA (d:=9) (Φ:=λv i=>∃a,B=some a/\v=.pointer (some (a.add (j*ii.size)))/\i=w) rfl rfl rfl (by decide) λy i q=>acy (faQ true).u38 hi (by exact M) (by exact n) (by omega) q;rw[g,hz] at S;rw[f] at b;clear g f;replace n:=(m.same 5 rfl).trans n;replace o:=o.trans (m.mi rfl);clear m;replace h:=b;clear b;have hv:=h.noV (t:=9) rfl rfl rfl S (λe w he=>afQ he);obtain⟨v,A,T3,⟨E,C,g,L,a1,f⟩,m,r,b⟩:=h.jA (d:=10) (Φ:=λv i=>∃E C,v=.agg #[E,C]/\w.cell? (a.add (j*2))=some E/\w.cell? ((a.add (j*2)).add 1)=some C/\i=w) rfl rfl rfl (by decide) λy i q=>akr P hi hz (by exact S) hv.1 hv.2 q;rw[g] at r;rw[f] at b;clear g f;replace n:=(m.same 5 rfl).trans n;replace o:=o.trans (m.mi rfl);clear m;replace h:=b;clear b;obtain⟨v,A,T4,⟨g,f⟩,m,u,b⟩:=h.jA (d:=11) (Φ:=λv i=>v=E/\i=w) rfl rfl rfl (by decide) λy i q=>acx P V (by rw[W];exact(faQ true).u3) rfl (by exact r) (by rw[Z];rfl) q;rw[g] at u;rw[f] at b;clear g f;replace n:=(m.same 5 rfl).trans n;replace r:=(m.same 10 rfl).trans r;replace o:=o.trans (m.mi rfl);clear m;replace h:=b;clear b;obtain⟨v,A,T5,⟨z,Q,g,f⟩,m,I,b⟩:=h.jA (d:=13) (Φ:=λv i=>∃z,E=.int .i64 z/\v=.int .i64 (IntKind.i64.wrap (z*1))/\i=w) rfl rfl rfl (by decide) λy i q=>let⟨v,J,z,D,H,O⟩:=amM q rfl;⟨v,J,z,u.symm.trans D,H,O⟩
  rw[g] at I;rw[f] at b;clear g f;replace n:=(m.same 5 rfl).trans n;replace r:=(m.same 10 rfl).trans r;replace u:=(m.same 11 rfl).trans u;replace o:=o.trans (m.mi rfl);clear m;replace h:=b;clear b;subst Q;obtain⟨v,A,T6,⟨g,f⟩,m,p,b⟩:=h.jA (d:=15) (Φ:=λv i=>v=.bool (IntKind.i64.wrap (z*1) ==z)/\i=w) rfl rfl rfl (by decide) λy i q=>amO (by exact I) (by exact u) q;rw[g] at p;rw[f] at b;clear g f;replace n:=(m.same 5 rfl).trans n;replace r:=(m.same 10 rfl).trans r;replace o:=o.trans (m.mi rfl);clear m;replace h:=b;clear b;obtain⟨hq,b⟩:=h.jc.ay1 p;replace h:=b.seq.seq;clear b;replace h:=h.region (l:=[0,1,2]) rfl;obtain⟨v,A,T7,⟨g,f⟩,m,G,b⟩:=h.jA (d:=26) (Φ:=λv i=>v=C/\i=w) rfl rfl rfl (by decide) λy i q=>acx P Y (by rw[N];exact(faQ true).u9) rfl (by exact r) (by rw[R];rfl) q;rw[g] at G;rw[f] at b;clear g f;replace n:=(m.same 5 rfl).trans n;replace p:=(m.same 15 rfl).trans p;replace o:=o.trans (m.mi rfl);clear m;replace h:=b;clear b;obtain⟨v,A,T8,⟨s,U,g,f⟩,m,K,b⟩:=h.jA (d:=25) (Φ:=λv i=>∃s:ByteArray,C=.string s/\v=.int .i64 s.size/\i=w) rfl rfl rfl (by decide) λy i q=>let⟨v,J,z,D,H,O⟩:=avL (faQ true) q;⟨v,J,z,G.symm.trans D,H,O⟩
  rw[g] at K;rw[f] at b;clear g f;replace n:=(m.same 5 rfl).trans n;replace p:=(m.same 15 rfl).trans p;replace o:=o.trans (m.mi rfl);clear m;replace h:=b;clear b;subst U;clear p;obtain⟨v,A,T9,⟨g,f⟩,m,p,b⟩:=h.jA (d:=15) (Φ:=λv i=>v=.bool (decide ((9223372036854775807:Int)<s.size))/\i=w) rfl rfl rfl (by decide) λy i q=>gM rfl (by exact K) q;rw[g] at p;rw[f] at b;clear g f;replace n:=(m.same 5 rfl).trans n;replace o:=o.trans (m.mi rfl);clear m;replace h:=b;clear b;obtain⟨a0,b⟩:=h.jc.chk p;replace h:=b.region (l:=[0,1]) rfl;clear b;obtain⟨v,A,a3,⟨g,f⟩,m,oX,b⟩:=h.jA (d:=22) (Φ:=λv i=>v=.int .i64 (IntKind.i64.wrap ((j:Int)+1))/\i=w) rfl rfl rfl (by decide) λy i q=>amN (by exact n) rfl q;rw[g] at oX;rw[f] at b;clear g f;replace n:=(m.same 5 rfl).trans n;replace o:=o.trans (m.mi rfl);clear m;replace h:=b;clear b;clear n;obtain⟨v,A,a2,⟨g,f⟩,m,n,b⟩:=h.jA (d:=5) (Φ:=λv i=>v=.int .i64 (IntKind.i64.wrap ((j:Int)+1))/\i=w) rfl rfl rfl (by decide) λy i q=>let⟨v,J,D,H⟩:=aiC q;⟨v,J,D.trans oX,H⟩
  rw[g] at n;rw[f] at b;clear g f;replace o:=o.trans (m.mi rfl);clear m;replace h:=b;clear b;rw[afR (by omega)] at n;exact⟨by omega,(z,s),_,⟨⟨a,hB,L,a1⟩,abo hq,eX a0⟩,o,n,h.jc.again⟩
 .left;rw[da F] at h;simp only[jp,qG] at h;exact⟨by omega,_,o,h.exit rfl⟩
def At.axq{B:Option Addr}{m c:Nat}(g:(m:Int)<=9223372036854775807):∀(n j:Nat) {T:Array Value},m=j+n->At X T (.code Go.Proofs.YtlggbfanooejbaaGreatDoor.aa3::inC k) w->T.getD 27 undef=.slice B m c->T.getD 28 undef=.int .i64 m->T.getD 5 undef=.int .i64 j->
  ∃l T',l.length=n/\RdI w B j l/\Tm mI T T'/\At X T' k w
 |0,j,T,e,h,iY,ja,s5=>by
  rcases h.aBl iY ja s5 (by omega) g with⟨_,T',u,t⟩|⟨d,_⟩
  .exact⟨[],T',rfl,λi x b=>by simp at b,u,t⟩
  .omega
 |n+1,j,T,e,h,iY,ja,s5=>by
  rcases h.aBl iY ja s5 (by omega) g with⟨A,_⟩|⟨d,x,z,s,a,o,v⟩
  .omega
  .obtain⟨l,T',p,r,f,q⟩:=At.axq g n (j+1) (by omega) v ((a.same 27 rfl).trans iY) ((a.same 28 rfl).trans ja) o;refine⟨x::l,T',by simp[p],λi y b=> ?_,a.trans f,q⟩;cases i with
   |zero=>simp at b;subst b;exact s
   |succ i=>
    have:=r i y (by simpa using b);have e:j+1+i=j+(i+1):=by omega
    rwa [e] at this
end
structure aBm (w:World) (A:Option Addr) (i:Nat) (x:Int×List (Int×ByteArray)):Prop where
 c:∃a B c,A=some a/\w.cell? (a.add (i*2))=some (.int .i64 x.1)/\w.cell? ((a.add (i*2)).add 1)=some (.slice B x.2.length c)/\1<=x.2.length/\x.2.length<=c/\(c:Int)<=9223372036854775807/\RdI w B 0 x.2
 i:In_ x.1
def RdP(w:World)(A:Option Addr)(j:Nat)(l:List (Int×List (Int×ByteArray))):Prop:=∀i x,l[i]?=some x->aBm w A (j+i) x
def Rgd(X:Cx)(b:Nat):Prop:=(∃a,X.iH.r a b)\/X.w0.heap.size<=b
def PkR(X:Cx)(w:World)(A:Option Addr)(i:Nat):Prop:=∀a b n c,A=some a->w.cell? ((a.add (i*2)).add 1)=some (.slice (some b) n c)->Rgd X b.block
abbrev inB(k:List Item):List Item:=.inLoop aa4 :: .inBlock 51::k
def aBn(t:Nat)(h:mI.contains t=true):cU.contains t=true:=by
 simp only[mI,tu,List.contains_nil,ut,qQ,mt] at h;rcases h with rfl|rfl|rfl|rfl|rfl|rfl|rfl|rfl|rfl|rfl<;>rfl
section
variable {X:Cx} {T:Array Value} {k:List Item} {w:World}
def aes{n:Tmp}{i ty : TypeId}{dst:Option Tmp}(g:P.underlying t0=some (.slice i))(j:e (.tmp n)=.tuple #[]):∀d a,(execOp e ⟨dst,.call ⟨.builtin .len,#[.tmp n],#[t0]⟩,ty,pos,af,gd⟩).run P w ≠ .ok d a:=λd a f=>by
 obtain⟨v,_,A,m,c,b,_⟩:=aiD g f;rw[j] at b;cases b
def At.avN     (h:At X T (.inRegion Z (i::rest)::k) w) (j:Z[i]?=some o) (q:o.guard=none) (b:aau gA gL o.op=false)
  (d:∀(e:Operand->Value) (w:World),e (.tmp t)=.tuple #[]->∀s l,(execOp e o).run (ai true) w ≠ .ok s l):∀a n c,T.getD t undef=.slice (some a) n c->a.block<w.heap.size:=λa n c e=>by
 obtain⟨p,c,u,h⟩:=h;obtain⟨x,g,r⟩:=h.ap3 j q b t d;rw[e] at g;cases g with
 |slice f=>cases f with
  |some f=>obtain⟨m,_,_⟩:=f;exact(h.wr.lt m).2
 |fV=>exact absurd rfl r
def At.aiG     (h:At X T (.inRegion Z (i::rest)::k) w) (j:Z[i]?=some o) (q:o.guard=none) (b:aau gA gL o.op=false)
  (d:∀(e:Operand->Value) (w:World),e (.tmp t)=.tuple #[]->∀s l,(execOp e o).run (ai true) w ≠ .ok s l):∀a n c,T.getD t undef=.slice (some a) n c->Rgd X a.block:=λa n c e=>by
 obtain⟨p,c,u,h⟩:=h;obtain⟨x,g,r⟩:=h.ap3 j q b t d;rw[e] at g;cases g with
 |slice f=>cases f with
  |some f=>
   obtain⟨m,_,_⟩:=f;exact(h.kept.new m).imp (λh=>⟨_,h⟩) (·.2)
 |fV=>exact absurd rfl r
def At.aBo{A:Option Addr}{c0 : Nat}(h:At X T (.code aa4::inB k) w)(s1:T.getD 1 undef=.slice A n c0)(D:T.getD 16 undef=.int .i64 n)(y:T.getD 20 undef=.int .i64 j)(hj:j<=n)(hm:(n:Int)<=9223372036854775807) :
  (j=n/\∃T',Tm cU T T'/\At X T' k w)\/(j<n/\∃x T',aBm w A j x/\PkR X w A j/\Tm cU T T'/\T'.getD 16 undef=.int .i64 n/\T'.getD 20 undef=.int .i64 (j+1:Nat)/\At X T' (.code aa4::inB k) w):=by
 have C:=Tm.refl cU T;unfold Go.Proofs.YtlggbfanooejbaaGreatDoor.aa4 at h;have h:=h.seq;replace h:=h.region (l:=[0]) rfl;obtain⟨v,K,af,⟨r,q⟩,m,g,f⟩:=h.jA (d:=21) (Φ:=λv s=>v=.bool (decide ((j:Int)<n))/\s=w) rfl rfl rfl (by decide) λJ s E=>gM (by exact y) (by exact D) E;rw[r] at g;rw[q] at f;clear r q;replace s1:=(m.same 1 rfl).trans s1;replace D:=(m.same 16 rfl).trans D;replace y:=(m.same 20 rfl).trans y;replace C:=C.trans (m.sw rfl);clear m;replace h:=f;clear f;replace h:=h.jc.seq.cond g;by_cases V:(j:Int)<n
 .right;rw[de V] at h;simp only[pr] at h;replace h:=h.skip.seq.seq;replace h:=h.region (l:=[0,1,2,3,4]) rfl;obtain⟨ii,hi,hz⟩:=(faQ true).i40;obtain⟨fs,g0,g1,hu,a8,aa,ad,a9,a6,a3⟩:=(faQ true).u40;obtain⟨v,K,aK,⟨a,hB,r,q⟩,m,i,f⟩:=h.jA (d:=23) (Φ:=λv s=>∃a,A=some a/\v=.pointer (some (a.add (j*ii.size)))/\s=w) rfl rfl rfl (by decide) λJ s E=>acy (faQ true).u23 hi (by exact s1) (by exact y) (by omega) E;rw[r,hz] at i;rw[q] at f;clear r q;replace s1:=(m.same 1 rfl).trans s1;replace D:=(m.same 16 rfl).trans D;replace y:=(m.same 20 rfl).trans y;replace g:=(m.same 21 rfl).trans g;replace C:=C.trans (m.sw rfl);clear m;replace h:=f;clear f;have hv:=h.noV (t:=23) rfl rfl rfl i (λe w he=>afQ he);obtain⟨v,K,al,⟨S,P,r,a2,a0,q⟩,m,o,f⟩:=h.jA (d:=24) (Φ:=λv s=>∃S P,v=.agg #[S,P]/\w.cell? (a.add (j*2))=some S/\w.cell? ((a.add (j*2)).add 1)=some P/\s=w) rfl rfl rfl (by decide) λJ s E=>akr hu hi hz (by exact i) hv.1 hv.2 E;rw[r] at o;rw[q] at f;clear r q;replace s1:=(m.same 1 rfl).trans s1;replace D:=(m.same 16 rfl).trans D;replace y:=(m.same 20 rfl).trans y;replace g:=(m.same 21 rfl).trans g;replace i:=(m.same 23 rfl).trans i;replace C:=C.trans (m.sw rfl);clear m;replace h:=f;clear f;obtain⟨v,K,ao,⟨r,q⟩,m,p,f⟩:=h.jA (d:=25) (Φ:=λv s=>v=S/\s=w) rfl rfl rfl (by decide) λJ s E=>acx hu a8 (by rw[a9];exact(faQ true).u3) rfl (by exact o) (by rw[ad];rfl) E;rw[r] at p;rw[q] at f;clear r q;replace s1:=(m.same 1 rfl).trans s1;replace D:=(m.same 16 rfl).trans D;replace y:=(m.same 20 rfl).trans y;replace g:=(m.same 21 rfl).trans g;replace i:=(m.same 23 rfl).trans i;replace o:=(m.same 24 rfl).trans o;replace C:=C.trans (m.sw rfl);clear m;replace h:=f;clear f;obtain⟨v,K,ax,⟨z,a5,r,q⟩,m,u,f⟩:=h.jA (d:=26) (Φ:=λv s=>∃z,S=.int .i64 z/\v=.int .i64 (IntKind.i64.wrap (z*1))/\s=w) rfl rfl rfl (by decide) λJ s E=>let⟨v,a1,z,O,Y,a4⟩:=amM E rfl;⟨v,a1,z,p.symm.trans O,Y,a4⟩
  rw[r] at u;rw[q] at f;clear r q;replace s1:=(m.same 1 rfl).trans s1;replace D:=(m.same 16 rfl).trans D;replace y:=(m.same 20 rfl).trans y;replace g:=(m.same 21 rfl).trans g;replace i:=(m.same 23 rfl).trans i;replace o:=(m.same 24 rfl).trans o;replace p:=(m.same 25 rfl).trans p;replace C:=C.trans (m.sw rfl);clear m;replace h:=f;clear f;subst a5;obtain⟨v,K,aP,⟨r,q⟩,m,G,f⟩:=h.jA (d:=22) (Φ:=λv s=>v=.bool (IntKind.i64.wrap (z*1) ==z)/\s=w) rfl rfl rfl (by decide) λJ s E=>amO (by exact u) (by exact p) E;rw[r] at G;rw[q] at f;clear r q;replace s1:=(m.same 1 rfl).trans s1;replace D:=(m.same 16 rfl).trans D;replace y:=(m.same 20 rfl).trans y;replace g:=(m.same 21 rfl).trans g;replace i:=(m.same 23 rfl).trans i;replace o:=(m.same 24 rfl).trans o;replace p:=(m.same 25 rfl).trans p;replace u:=(m.same 26 rfl).trans u;replace C:=C.trans (m.sw rfl);clear m;replace h:=f;clear f;obtain⟨hq,f⟩:=h.jc.ay1 G;replace h:=f.seq.seq;clear f;replace h:=h.region (l:=[0,1,2,3]) rfl;obtain⟨v,K,an,⟨r,q⟩,m,H,f⟩:=h.jA (d:=27) (Φ:=λv s=>v=P/\s=w) rfl rfl rfl (by decide) λJ s E=>acx hu aa (by rw[a3];exact(faQ true).u38) rfl (by exact o) (by rw[a6];rfl) E;rw[r] at H;rw[q] at f;clear r q;replace s1:=(m.same 1 rfl).trans s1;replace D:=(m.same 16 rfl).trans D;replace y:=(m.same 20 rfl).trans y;replace g:=(m.same 21 rfl).trans g;replace G:=(m.same 22 rfl).trans G;replace i:=(m.same 23 rfl).trans i;replace o:=(m.same 24 rfl).trans o;replace p:=(m.same 25 rfl).trans p;replace u:=(m.same 26 rfl).trans u;replace C:=C.trans (m.sw rfl);clear m;replace h:=f;clear f;have W:=h.aiG (t:=27) rfl rfl rfl λe w he=>aes (faQ true).u38 he;rw[H] at W;obtain⟨v,K,aV,⟨B,m,c,a7,r,q⟩,m,I,f⟩:=h.jA (d:=28) (Φ:=λv s=>∃B m c,P=.slice B m c/\v=.int .i64 m/\s=w) rfl rfl rfl (by decide) λJ s E=>let⟨v,a1,B,m,c,O,Y,a4⟩:=aiD (faQ true).u38 E;⟨v,a1,B,m,c,H.symm.trans O,Y,a4⟩
  rw[r] at I;rw[q] at f;clear r q;replace s1:=(m.same 1 rfl).trans s1;replace D:=(m.same 16 rfl).trans D;replace y:=(m.same 20 rfl).trans y;replace g:=(m.same 21 rfl).trans g;replace G:=(m.same 22 rfl).trans G;replace i:=(m.same 23 rfl).trans i;replace o:=(m.same 24 rfl).trans o;replace p:=(m.same 25 rfl).trans p;replace u:=(m.same 26 rfl).trans u;replace H:=(m.same 27 rfl).trans H;replace C:=C.trans (m.sw rfl);clear m;replace h:=f;clear f;subst a7;obtain⟨v,K,b0,⟨r,q⟩,m,M,f⟩:=h.jA (d:=3) (Φ:=λv s=>v=.int .i64 c/\s=w) rfl rfl rfl (by decide) λJ s E=>amP (faQ true).u38 (by exact H) E;rw[r] at M;rw[q] at f;clear r q;replace s1:=(m.same 1 rfl).trans s1;replace D:=(m.same 16 rfl).trans D;replace y:=(m.same 20 rfl).trans y;replace g:=(m.same 21 rfl).trans g;replace G:=(m.same 22 rfl).trans G;replace i:=(m.same 23 rfl).trans i;replace o:=(m.same 24 rfl).trans o;replace p:=(m.same 25 rfl).trans p;replace u:=(m.same 26 rfl).trans u;replace H:=(m.same 27 rfl).trans H;replace I:=(m.same 28 rfl).trans I;replace C:=C.trans (m.sw rfl);clear m;replace h:=f;clear f;obtain⟨v,K,aG,⟨r,q⟩,m,L,f⟩:=h.jA (d:=4) (Φ:=λv s=>v=.bool (decide ((m:Int)<1))/\s=w) rfl rfl rfl (by decide) λJ s E=>gM (by exact I) rfl E;rw[r] at L;rw[q] at f;clear r q;replace s1:=(m.same 1 rfl).trans s1;replace M:=(m.same 3 rfl).trans M;replace D:=(m.same 16 rfl).trans D;replace y:=(m.same 20 rfl).trans y;replace g:=(m.same 21 rfl).trans g;replace G:=(m.same 22 rfl).trans G;replace i:=(m.same 23 rfl).trans i;replace o:=(m.same 24 rfl).trans o;replace p:=(m.same 25 rfl).trans p;replace u:=(m.same 26 rfl).trans u;replace H:=(m.same 27 rfl).trans H;replace I:=(m.same 28 rfl).trans I;replace C:=C.trans (m.sw rfl);clear m;replace h:=f;clear f;obtain⟨U,f⟩:=h.jc.chk L;replace h:=f.seq.seq;clear f;replace h:=h.region (l:=[0]) rfl;clear L;obtain⟨v,K,b3,⟨r,q⟩,m,L,f⟩:=h.jA (d:=4) (Φ:=λv s=>v=.bool (decide ((9223372036854775807:Int)<c))/\s=w) rfl rfl rfl (by decide) λJ s E=>gM rfl (by exact M) E;rw[r] at L;rw[q] at f;clear r q;replace s1:=(m.same 1 rfl).trans s1;replace M:=(m.same 3 rfl).trans M;replace D:=(m.same 16 rfl).trans D;replace y:=(m.same 20 rfl).trans y;replace g:=(m.same 21 rfl).trans g;replace G:=(m.same 22 rfl).trans G;replace i:=(m.same 23 rfl).trans i;replace o:=(m.same 24 rfl).trans o;replace p:=(m.same 25 rfl).trans p;replace u:=(m.same 26 rfl).trans u;replace H:=(m.same 27 rfl).trans H;replace I:=(m.same 28 rfl).trans I;replace C:=C.trans (m.sw rfl);clear m;replace h:=f;clear f;obtain⟨N,f⟩:=h.jc.chk L;replace h:=f.seq.seq;clear f;replace h:=h.region (l:=[0]) rfl;clear L;obtain⟨v,K,b1,⟨r,q⟩,m,L,f⟩:=h.jA (d:=4) (Φ:=λv s=>v=.bool (decide ((c:Int)<m))/\s=w) rfl rfl rfl (by decide) λJ s E=>gM (by exact M) (by exact I) E;rw[r] at L;rw[q] at f;clear r q;replace s1:=(m.same 1 rfl).trans s1;replace M:=(m.same 3 rfl).trans M;replace D:=(m.same 16 rfl).trans D;replace y:=(m.same 20 rfl).trans y;replace g:=(m.same 21 rfl).trans g;replace G:=(m.same 22 rfl).trans G;replace i:=(m.same 23 rfl).trans i;replace o:=(m.same 24 rfl).trans o;replace p:=(m.same 25 rfl).trans p;replace u:=(m.same 26 rfl).trans u;replace H:=(m.same 27 rfl).trans H;replace I:=(m.same 28 rfl).trans I;replace C:=C.trans (m.sw rfl);clear m;replace h:=f;clear f;obtain⟨R,f⟩:=h.jc.chk L;replace h:=f.seq;clear f;replace h:=h.region (l:=[0]) rfl;obtain⟨v,K,b2,⟨r,q⟩,m,s5,f⟩:=h.jA (d:=5) (Φ:=λv s=>v=.int .i64 (0:Nat)/\s=w) rfl rfl rfl (by decide) λJ s E=>jz E;rw[r] at s5;rw[q] at f;clear r q;replace s1:=(m.same 1 rfl).trans s1;replace M:=(m.same 3 rfl).trans M;replace L:=(m.same 4 rfl).trans L;replace D:=(m.same 16 rfl).trans D;replace y:=(m.same 20 rfl).trans y;replace g:=(m.same 21 rfl).trans g;replace G:=(m.same 22 rfl).trans G;replace i:=(m.same 23 rfl).trans i;replace o:=(m.same 24 rfl).trans o;replace p:=(m.same 25 rfl).trans p;replace u:=(m.same 26 rfl).trans u;replace H:=(m.same 27 rfl).trans H;replace I:=(m.same 28 rfl).trans I;replace C:=C.trans (m.sw rfl);clear m;replace h:=f;clear f;replace U:=eX U;replace N:=eX N;replace R:=eX R;replace h:=h.jc.seq.block.loop;obtain⟨l,T2,hl,E,F,f⟩:=At.axq (by omega) m 0 (by omega) h H I s5;replace h:=f.region (l:=[0,1]) rfl;clear f;replace s1:=(F.same 1 rfl).trans s1;replace M:=(F.same 3 rfl).trans M;clear L;clear s5;replace D:=(F.same 16 rfl).trans D;replace y:=(F.same 20 rfl).trans y;replace g:=(F.same 21 rfl).trans g;clear G;replace i:=(F.same 23 rfl).trans i;replace o:=(F.same 24 rfl).trans o;clear p;clear u;replace H:=(F.same 27 rfl).trans H;replace I:=(F.same 28 rfl).trans I;replace C:=C.trans (F.mono aBn);clear F;obtain⟨v,K,ay,⟨r,q⟩,m,G,f⟩:=h.jA (d:=22) (Φ:=λv s=>v=.int .i64 (IntKind.i64.wrap ((j:Int)+1))/\s=w) rfl rfl rfl (by decide) λJ s E=>amN (by exact y) rfl E;rw[r] at G;rw[q] at f;clear r q;replace D:=(m.same 16 rfl).trans D;replace y:=(m.same 20 rfl).trans y;replace C:=C.trans (m.sw rfl);clear m;replace h:=f;clear f;clear y;obtain⟨v,K,aQ,⟨r,q⟩,m,y,f⟩:=h.jA (d:=20) (Φ:=λv s=>v=.int .i64 (IntKind.i64.wrap ((j:Int)+1))/\s=w) rfl rfl rfl (by decide) λJ s E=>let⟨v,a1,O,Y⟩:=aiC E;⟨v,a1,O.trans G,Y⟩
  rw[r] at y;rw[q] at f;clear r q;replace D:=(m.same 16 rfl).trans D;replace C:=C.trans (m.sw rfl);clear m;replace h:=f;clear f;rw[afR (by omega)] at y;subst hl;exact⟨by omega,(z,l),_,⟨⟨a,B,c,hB,a2,a0,(by show 1<=l.length;omega),(by show l.length<=c;omega),N,E⟩,abo hq⟩,λO b n2 c2 Q Z=>(by rw[hB] at Q;cases Q;rw[a0] at Z;exact W b n2 c2 (ef Z)),C,D,y,h.jc.again⟩
 .left;rw[da V] at h;simp only[jp,qG] at h;exact⟨by omega,_,C,h.exit rfl⟩
def At.axr{A:Option Addr}{m c:Nat}(o:(m:Int)<=9223372036854775807):∀(n j:Nat) {T:Array Value},m=j+n->At X T (.code aa4::inB k) w->T.getD 1 undef=.slice A m c->T.getD 16 undef=.int .i64 m->T.getD 20 undef=.int .i64 j->
  ∃l T',l.length=n/\RdP w A j l/\(∀i,i<n->PkR X w A (j+i))/\Tm cU T T'/\At X T' k w
 |0,j,T,e,h,s1,dB,iA=>by
  rcases h.aBo s1 dB iA (by omega) o with⟨_,T',B,v⟩|⟨d,_⟩
  .exact⟨[],T',rfl,λi x a=>by simp at a,λi a=>absurd a (sI i),B,v⟩
  .omega
 |n+1,j,T,e,h,s1,dB,iA=>by
  rcases h.aBo s1 dB iA (by omega) o with⟨E,_⟩|⟨d,x,D,u,q,b,p,f,C⟩
  .omega
  .obtain⟨l,T',r,t,z,g,s⟩:=At.axr o n (j+1) (by omega) C ((b.same 1 rfl).trans s1) p f;refine⟨x::l,T',by simp[r],λi y a=> ?_,λi a=> ?_,b.trans g,s⟩
   case refine_2=>
    cases i with
    |zero=>exact q
    |succ i=>
     have:=z i (by omega);have e:j+1+i=j+(i+1):=by omega
     rwa [e] at this
   cases i with
   |zero=>simp at a;subst a;exact u
   |succ i=>
    have:=t i y (by simpa using a);have e:j+1+i=j+(i+1):=by omega
    rwa [e] at this
end
def asU:gL.contains 0=true:=by unfold gL;kernel_rfl
def aks:gL.contains 1=true:=by unfold gL;kernel_rfl
def aiH(h:gL.contains g=true):g∈gL:=by simpa using h
abbrev mH:List Nat:=6::7::cU
def Tm.mh{T : Array Value}{d:Nat}(h:Tm [d] T T')(b:mH.contains d=true):Tm mH T T':=h.mono λt a=>by
 simp at a;subst a;exact b
def aBp(t:Nat)(h:cU.contains t=true):mH.contains t=true:=by
 simp only[mH,tu,qQ];exact .inr (.inr h)
noncomputable def akt:Code:=.seq (.region 58 ajn false) (.seq (.region 59 adu false) cT)
noncomputable def asV:Code:=.seq (aa1 54 ars 19) (.seq (aa1 55 art 19) (.seq (aa1 56 aru 19) (.seq (.region 57 anQ false) (.seq (.block 53 (.loop mJ)) akt))))
section
variable {X:Cx} {T:Array Value} {k:List Item} {w:World}
def At.head(h:At X T (.code ki::k) w):∃x A n c l T',T.getD 0 undef=.int .i64 x/\1<=x/\x<=99/\(∃v,w.cell? ⟨0,0,none⟩=some v)/\(∃v,w.cell? ⟨1,0,none⟩=some v)/\
  T.getD 1 undef=.slice A n c/\n<=c/\(c:Int)<=9223372036854775807/\l.length=n/\RdP w A 0 l/\(∀i,i<n->PkR X w A i)/\(∀a,A=some a->Rgd X a.block)/\Tm mH T T'/\T'.getD 6 undef=.slice none 0 0/\T'.getD 7 undef=.bool false/\At X T' (.code asV::k) w:=by
 have o:=Tm.refl mH T;unfold ki at h;have h:=h.seq.seq;replace h:=h.region (l:=[0,1,2]) rfl;obtain⟨v,E,Z,⟨p,g⟩,m,s,f⟩:=h.jA (d:=6) (Φ:=λv j=>v=.slice none 0 0/\j=w) rfl rfl rfl (by decide) λD j q=>jz q;rw[p] at s;rw[g] at f;clear p g;replace o:=o.trans (m.mh rfl);clear m;replace h:=f;clear f;obtain⟨v,E,a1,⟨p,g⟩,m,u,f⟩:=h.jA (d:=7) (Φ:=λv j=>v=.bool false/\j=w) rfl rfl rfl (by decide) λD j q=>jz q;rw[p] at u;rw[g] at f;clear p g;replace s:=(m.same 6 rfl).trans s;replace o:=o.trans (m.mh rfl);clear m;replace h:=f;clear f;obtain⟨v,E,a2,⟨x,V,p,g⟩,m,r,f⟩:=h.jA (d:=16) (Φ:=λv j=>∃x,T.getD 0 undef=.int .i64 x/\v=.bool (decide (x<1))/\j=w) rfl rfl rfl (by decide) λD j q=>let⟨v,U,z,P,Q,O⟩:=asR (b:=1) rfl q;⟨v,U,z,(o.same 0 rfl).symm.trans P,Q,O⟩
 rw[p] at r;rw[g] at f;clear p g;replace s:=(m.same 6 rfl).trans s;replace u:=(m.same 7 rfl).trans u;replace o:=o.trans (m.mh rfl);clear m;replace h:=f;clear f;obtain⟨I,f⟩:=h.jc.chk r;replace h:=f.seq.seq;clear f;replace h:=h.region (l:=[0]) rfl;clear r;obtain⟨v,E,a6,⟨p,g⟩,m,r,f⟩:=h.jA (d:=16) (Φ:=λv j=>v=.bool (decide ((99:Int)<x))/\j=w) rfl rfl rfl (by decide) λD j q=>gM rfl (by exact(o.same 0 rfl).trans V) q;rw[p] at r;rw[g] at f;clear p g;replace s:=(m.same 6 rfl).trans s;replace u:=(m.same 7 rfl).trans u;replace o:=o.trans (m.mh rfl);clear m;replace h:=f;clear f;obtain⟨J,f⟩:=h.jc.chk r;replace h:=f.seq.seq;clear f;replace h:=h.region (l:=[0,1,2,3,4,5]) rfl;obtain⟨ms,W⟩:=(faQ true).avG;have hv:=h.aBk (aiH asU);clear r;obtain⟨v,E,a5,⟨R,g⟩,m,r,f⟩:=h.jA (d:=16) (Φ:=λv j=>w.cell? ⟨0,0,none⟩=some v/\j=w) rfl rfl rfl (by decide) λD j q=>aiE W rfl rfl hv q;rw[g] at f;clear g;replace s:=(m.same 6 rfl).trans s;replace u:=(m.same 7 rfl).trans u;replace o:=o.trans (m.mh rfl);clear m;replace h:=f;clear f;have N:=h.aBk (aiH aks);clear r;obtain⟨v,E,a0,⟨S,g⟩,m,r,f⟩:=h.jA (d:=16) (Φ:=λv j=>w.cell? ⟨1,0,none⟩=some v/\j=w) rfl rfl rfl (by decide) λD j q=>aiE W rfl rfl N q;rw[g] at f;clear g;replace s:=(m.same 6 rfl).trans s;replace u:=(m.same 7 rfl).trans u;replace o:=o.trans (m.mh rfl);clear m;replace h:=f;clear f;have M:=h.aiG (t:=1) rfl rfl rfl λe w he=>aes (faQ true).u23 he;rw[o.same 1 rfl] at M;clear r;obtain⟨v,E,a4,⟨A,n,c,F,p,g⟩,m,r,f⟩:=h.jA (d:=16) (Φ:=λv j=>∃A n c,T.getD 1 undef=.slice A n c/\v=.int .i64 n/\j=w) rfl rfl rfl (by decide) λD j q=>let⟨v,U,B,m,c,P,Q,O⟩:=aiD (faQ true).u23 q;⟨v,U,B,m,c,(o.same 1 rfl).symm.trans P,Q,O⟩
 rw[p] at r;rw[g] at f;clear p g;replace s:=(m.same 6 rfl).trans s;replace u:=(m.same 7 rfl).trans u;replace o:=o.trans (m.mh rfl);clear m;replace h:=f;clear f;obtain⟨v,E,a3,⟨p,g⟩,m,y,f⟩:=h.jA (d:=18) (Φ:=λv j=>v=.int .i64 c/\j=w) rfl rfl rfl (by decide) λD j q=>amP (faQ true).u23 (by exact(o.same 1 rfl).trans F) q;rw[p] at y;rw[g] at f;clear p g;replace s:=(m.same 6 rfl).trans s;replace u:=(m.same 7 rfl).trans u;replace r:=(m.same 16 rfl).trans r;replace o:=o.trans (m.mh rfl);clear m;replace h:=f;clear f;obtain⟨v,E,a7,⟨p,g⟩,m,K,f⟩:=h.jA (d:=20) (Φ:=λv j=>v=.int .i64 (0:Nat)/\j=w) rfl rfl rfl (by decide) λD j q=>jz q;rw[p] at K;rw[g] at f;clear p g;replace s:=(m.same 6 rfl).trans s;replace u:=(m.same 7 rfl).trans u;replace r:=(m.same 16 rfl).trans r;replace y:=(m.same 18 rfl).trans y;replace o:=o.trans (m.mh rfl);clear m;replace h:=f;clear f;obtain⟨v,E,a8,⟨p,g⟩,m,C,f⟩:=h.jA (d:=19) (Φ:=λv j=>v=.bool (decide ((9223372036854775807:Int)<c))/\j=w) rfl rfl rfl (by decide) λD j q=>gM rfl (by exact y) q;rw[p] at C;rw[g] at f;clear p g;replace s:=(m.same 6 rfl).trans s;replace u:=(m.same 7 rfl).trans u;replace r:=(m.same 16 rfl).trans r;replace y:=(m.same 18 rfl).trans y;replace K:=(m.same 20 rfl).trans K;replace o:=o.trans (m.mh rfl);clear m;replace h:=f;clear f;obtain⟨H,f⟩:=h.jc.chk C;replace h:=f.seq.seq;clear f;replace h:=h.region (l:=[0]) rfl;clear C;obtain⟨v,E,Y,⟨p,g⟩,m,C,f⟩:=h.jA (d:=19) (Φ:=λv j=>v=.bool (decide ((c:Int)<n))/\j=w) rfl rfl rfl (by decide) λD j q=>gM (by exact y) (by exact r) q;rw[p] at C;rw[g] at f;clear p g;replace s:=(m.same 6 rfl).trans s;replace u:=(m.same 7 rfl).trans u;replace r:=(m.same 16 rfl).trans r;replace K:=(m.same 20 rfl).trans K;replace o:=o.trans (m.mh rfl);clear m;replace h:=f;clear f;obtain⟨L,f⟩:=h.jc.chk C;replace h:=f.seq.block.loop;clear f;replace I:=eX I;replace J:=eX J;replace H:=eX H;replace L:=eX L;obtain⟨l,T2,hl,q,hR,G,f⟩:=At.axr (by omega) n 0 (by omega) h ((o.same 1 rfl).trans F) r K;exact⟨x,A,n,c,l,T2,V,I,J,⟨_,R⟩,⟨_,S⟩,F,by omega,H,hl,q,λi hi=>(by have:=hR i hi;rwa [lm] at this),λa e=>M a n c (by rw[F,e]),o.trans (G.mono aBp),(G.same 6 rfl).trans s,(G.same 7 rfl).trans u,f⟩
def At.names(h:At X T (.code asV::k) w):∃A n c C T',T.getD 2 undef=.slice A n c/\(∀a,A=some a->a.block<w.heap.size)/\(∀a,A=some a->Rgd X a.block)/\(n:Int)<=2147483647/\n<=c/\(c:Int)<=9223372036854775807/\C.size=2*n/\Tm cU T T'/\
  T'.getD 16 undef=.int .i64 n/\T'.getD 27 undef=.slice (some ⟨w.heap.size,0,none⟩) n n/\T'.getD 28 undef=.int .i64 (0:Nat)/\At X T' (.code (.block 53 (.loop mJ)) :: .code akt::k) (w.alloc (.cells C 171)):=by
 have p:=Tm.refl cU T;unfold asV at h;have h:=h.seq.seq;replace h:=h.region (l:=[0,1,2]) rfl;have G:=h.avN (t:=2) rfl rfl rfl λe w M=>aes (faQ true).u31 M;have J:=h.aiG (t:=2) rfl rfl rfl λe w M=>aes (faQ true).u31 M;obtain⟨v,z,Q,⟨A,n,c,u,j,i⟩,m,o,b⟩:=h.jA (d:=16) (Φ:=λv g=>∃A n c,T.getD 2 undef=.slice A n c/\v=.int .i64 n/\g=w) rfl rfl rfl (by decide) λD g r=>let⟨v,Y,B,m,c,Z,R,S⟩:=aiD (faQ true).u31 r;⟨v,Y,B,m,c,Z,R,S⟩
 rw[j] at o;rw[i] at b;clear j i;replace p:=p.trans (m.sw rfl);clear m;replace h:=b;clear b;obtain⟨v,z,O,⟨j,i⟩,m,q,b⟩:=h.jA (d:=18) (Φ:=λv g=>v=.int .i64 c/\g=w) rfl rfl rfl (by decide) λD g r=>amP (faQ true).u31 (by exact(p.same 2 rfl).trans u) r;rw[j] at q;rw[i] at b;clear j i;replace o:=(m.same 16 rfl).trans o;replace p:=p.trans (m.sw rfl);clear m;replace h:=b;clear b;obtain⟨v,z,U,⟨j,i⟩,m,f,b⟩:=h.jA (d:=19) (Φ:=λv g=>v=.bool (decide ((2147483647:Int)<n))/\g=w) rfl rfl rfl (by decide) λD g r=>gM rfl (by exact o) r;rw[j] at f;rw[i] at b;clear j i;replace o:=(m.same 16 rfl).trans o;replace q:=(m.same 18 rfl).trans q;replace p:=p.trans (m.sw rfl);clear m;replace h:=b;clear b;obtain⟨s,b⟩:=h.jc.chk f;replace h:=b.seq.seq;clear b;replace h:=h.region (l:=[0]) rfl;clear f;obtain⟨v,z,W,⟨j,i⟩,m,f,b⟩:=h.jA (d:=19) (Φ:=λv g=>v=.bool (decide ((9223372036854775807:Int)<c))/\g=w) rfl rfl rfl (by decide) λD g r=>gM rfl (by exact q) r;rw[j] at f;rw[i] at b;clear j i;replace o:=(m.same 16 rfl).trans o;replace q:=(m.same 18 rfl).trans q;replace p:=p.trans (m.sw rfl);clear m;replace h:=b;clear b;obtain⟨y,b⟩:=h.jc.chk f;replace h:=b.seq.seq;clear b;replace h:=h.region (l:=[0]) rfl;clear f;obtain⟨v,z,H,⟨j,i⟩,m,f,b⟩:=h.jA (d:=19) (Φ:=λv g=>v=.bool (decide ((c:Int)<n))/\g=w) rfl rfl rfl (by decide) λD g r=>gM (by exact q) (by exact o) r;rw[j] at f;rw[i] at b;clear j i;replace o:=(m.same 16 rfl).trans o;replace p:=p.trans (m.sw rfl);clear m;replace h:=b;clear b;obtain⟨E,b⟩:=h.jc.chk f;replace h:=b.seq;clear b;replace h:=h.region (l:=[0,1]) rfl;replace s:=eX s;replace y:=eX y;replace E:=eX E;obtain⟨C,L,K⟩:=aoA (faQ true) (w:=w) (e:=(FQ cD H (.inRegion anQ (0::[1]) :: .code (.seq (.block 53 (.loop mJ)) akt)::k)).eval) (x:=.tmp 16) (dst:=some 40) (ty:=160) (pos:= "") (af:=#[]) (gd:=none) s (by exact o);obtain⟨v,z,V,⟨j,i⟩,m,F,b⟩:=h.jA (d:=27) (Φ:=λv g=>v=.slice (some ⟨w.heap.size,0,none⟩) n n/\g=w.alloc (.cells C 171)) rfl rfl rfl (by decide) λD g r=>by have I:=K.symm.trans r;cases I;exact⟨_,rfl,rfl,rfl⟩
 rw[j] at F;rw[i] at b;clear j i;replace o:=(m.same 16 rfl).trans o;replace p:=p.trans (m.sw rfl);clear m;replace h:=b;clear b;obtain⟨v,z,P,⟨j,i⟩,m,N,b⟩:=h.jA (d:=28) (Φ:=λv g=>v=.int .i64 (0:Nat)/\g=w.alloc (.cells C 171)) rfl rfl rfl (by decide) λD g r=>jz r;rw[j] at N;rw[i] at b;clear j i;replace o:=(m.same 16 rfl).trans o;replace F:=(m.same 27 rfl).trans F;replace p:=p.trans (m.sw rfl);clear m;replace h:=b;clear b;exact⟨A,n,c,C,_,u,λa e=>G a n c (by rw[u,e]),λa e=>J a n c (by rw[u,e]),s,by omega,y,L,p,o,F,N,h.jc.seq⟩
end
section
variable {β:Bool} {R:List Frame->World->Prop} {c0 c:Cfg} {iH ρ:Ren} {w0 w w2:World} {l l2:List Frame}
def asW   :∃o a,step P (gZ ⟨(kq P).finish v,[],.running,none,none⟩ w)=.ended o a:=by
 have h:∃o a b,stepG P true ⟨(kq P).finish v,[],.running,none,none⟩ w=.ended o a b:=by
  simp only[kq,Frame.finish,stepG,stepG.exec,acY];exact⟨_,_,_,rfl⟩
 obtain⟨o,a,b,h⟩:=h;exact⟨o,a,cE rfl h⟩
def asX(g:iJ (ai β) ρ c.l l)(D:pD c.l):(∃o a,step (ai β) (gZ (Gl l [kq (ai β)]) w)=.ended o a)\/∃v a,step (ai β) (gZ (Gl l [kq (ai β)]) w)=.next (gZ ⟨(kq (ai β)).finish v,[],.running,none,none⟩ a):=by
 obtain⟨L,m,F,hd,K⟩:=D;obtain⟨x,M,y,O,N,k⟩:=g.ne';have G:=g.lone m k;subst G k;rw[m] at g;have J:=g.head;obtain⟨fn,s,e,C,A,u,t⟩:=y;obtain⟨B,E,I,j,b,p,z⟩:=J;dsimp only at B E I j b p z;obtain rfl:A=.returning:=by
  rcases b with b|b
  .rw[F] at b;cases b.1
  .exact b.2
 obtain rfl:C=[]:=by rw[hd] at j;cases j;rfl
 obtain rfl:u=.normal:=p.2;have i:∀{r:GStep},stepG (ai β) true (Gl [⟨fn,s,e,[],.returning,.normal,t⟩] [kq (ai β)]) w=r->(∃o a d,r=.ended o a d)\/(∃v a d,r=.go ⟨(kq (ai β)).finish v,[],.running,none,none⟩ a d):=by
  intro r n;subst n;simp only[Gl,stepG,unwind,ry];cases H:(ai β).funcs[fn]? with
  |none=>exact .inr ⟨_,_,_,rfl⟩
  |some f=>
   dsimp only;cases n:(results f s).runT (ai β) w #[] with
   |mk q d=>
    cases q with
    |ok v a=>exact .inr ⟨v,a,_,rfl⟩
    |halt q a=>cases q<;>exact .inl ⟨_,_,_,rfl⟩
 rcases i rfl with⟨o,a,d,h⟩|⟨v,a,d,h⟩
 .exact .inl ⟨o,a,cE rfl h⟩
 .exact .inr ⟨v,a,dK rfl h⟩
def ik.runs:∀(n:Nat) {c:Cfg} {ρ:Ren} {l:List Frame} {w:World},ik β R c0 iH w0 c ρ l w->runN (ai β) n (gZ (Gl l [kq (ai β)]) w)=.next (gZ (Gl l2 [kq (ai β)]) w2)->l2≠[]->∃i g,ik β R c0 iH w0 i g l2 w2
 |0,c,ρ,l,w,h,hr,hne=>by
  simp only[runN,qM] at hr;obtain⟨b,rfl⟩:=ij hr;obtain⟨_,_,y,m,_,a⟩:=h.st.ne';obtain rfl:=nK (by rw[a];simp) hne b;exact⟨c,ρ,h⟩
 |n+1,c,ρ,l,w,h,hr,hne=>by
  obtain⟨_,_,y,m,_,a⟩:=h.st.ne';have j:l≠[]:=by rw[a];simp
  unfold runN at hr;by_cases d:pD c.l
  .exfalso;rcases asX (w:=w) h.st d with⟨o,f,e⟩|⟨v,f,e⟩
   .rw[e] at hr;cases hr
   .rw[e] at hr;cases n with
    |zero=>
     simp only[runN,qM] at hr;obtain⟨b, -⟩:=ij hr;cases l2 with
     |nil=>exact hne rfl
     |cons x t=>
      have:=gn Goroutine.callers b;simp[Gl] at this
    |succ n=>
     unfold runN at hr;obtain⟨o,s,p⟩:=asW (P:=ai β) (v:=v) (w:=f);simp only[p] at hr;cases hr
  .obtain⟨i,g,z,r,u,q, -, -,k, -⟩:=h.adz true d;rw[dK (jl j _) (k _)] at hr;exact ik.runs n q hr hne
def ik.calls{args:Array Value}(h:ik β R c0 iH w0 c ρ (Frame.enter (ai β) f args .normal::y::Y) w)(t:Calls (ai β) f args w λe a=>∃v,e=.returned v/\Post v a) :
  ∃k o v i,ik β R c0 iH w0 k o (y.finish v::Y) i/\Post v i:=by
 obtain⟨e,a,g,⟨v,rfl,A⟩,⟨n,E⟩,F,C⟩:=t (y::Y++[kq (ai β)]);obtain⟨k,o,z⟩:=h.runs (l2:=g::y::Y) (w2:=a) n E (by simp);have d:∀base,stepG (ai β) true (Gl (g::y::Y) base) a=.go (Gl (y.finish v::Y) base) a (seen (ai β) g.fn ((results ((ai β).funcs[g.fn]?.getD default) g.tmps).runT (ai β) a #[]).2):=λbase=>by
  obtain⟨p,hd,j,fn,l,m⟩:=C;obtain⟨I,r,s,K,J,H,G⟩:=g;dsimp only at p hd j l m;subst p hd j;have b:((results fn r).runT (ai β) a #[]).1=.ok v a:=by rw[ru];exact m
  simp only[Gl,stepG,unwind,l,qo,qR];cases x:(results fn r).runT (ai β) a #[] with
  |mk q L=>
   rw[x] at b;dsimp only at b;subst b;simp[doReturn,GStep.after]
 obtain⟨B,D,u, -, -⟩:=z.go rfl true d;exact⟨B,D,v,a,u,A⟩
end
end
section
open Go.Conc Go.ConcN Go.RowKit
abbrev ig:=Int×List (Int×ByteArray)
def eM(fv:Int->List ig->Int->ByteArray×Bool):Prop:=∀(b:Bool) (w:World) (a:Int) (A:Option Addr) (n c:Nat) (l:List ig) (nm:Int),1<=a->a<=99->l.length=n->n<=c->(c:Int)<=9223372036854775807->RdP w A 0 l->In_ nm->
 Calls (ai b) 110 #[.int .i64 a,.slice A n c,.int .i64 nm] w λe d=>∃v,e=.returned v/\(v=.agg #[.string (fv a l nm).1,.bool (fv a l nm).2]/\Below w.heap.size w d)
def aku(w:World)(A:Option Addr)(i:Nat)(nm:Int):Prop:=∃a,A=some a/\w.cell? (a.add i)=some (.int .i64 nm)/\In_ nm
def aiF.below{x:Int×ByteArray}(h:aiF w B i x)(f:∀b,b<w.heap.size->w'.heap[b]?=w.heap[b]?):aiF w' B i x:=by
 obtain⟨⟨a,j,d,e⟩,g,l⟩:=h;have k:∀{A:Addr} {v:Value},w.cell? A=some v->w'.cell? A=some v:=λ{A v} c=>by
  rw[gK (f A.block (gO c))];exact c
 exact⟨⟨a,j,k d,k e⟩,g,l⟩
def RdP.below{A:Option Addr}{l:List ig}(h:RdP w A j l)(d:∀b,b<w.heap.size->w'.heap[b]?=w.heap[b]?):RdP w' A j l:=λi x o=>by
 obtain⟨⟨a,B,c,r,g,n,q,t,p,s⟩,f⟩:=h i x o;have k:∀{A:Addr} {v:Value},w.cell? A=some v->w'.cell? A=some v:=λ{A v} e=>by
  rw[gK (d A.block (gO e))];exact e
 exact⟨⟨a,B,c,r,k g,k n,q,t,p,λi y m=>(s i y m).below d⟩,f⟩
def rx(a:Addr)(n:Nat):(a.add n).block=a.block:=by unfold Addr.add;split<;>rfl
def iZ(b o n:Nat):(⟨b,o,none⟩:Addr).add n=⟨b,o+n,none⟩:=by
 unfold Addr.add;by_cases h:n=0
 .subst h;simp
 .simp[h]
section
variable {X:Cx} {T:Array Value} {k:List Item} {w:World}
def At.call      {args:Array Value} (h:At X T (.inRegion Z (i::rest)::k) w) (n:Z[i]?=some o) (u:o.guard=none) (p:o.dst=some d) (j:d<45)
  (D:∀w,(execOp (FQ cD T (.inRegion Z (i::rest)::k)).eval o).runT (ai true) w #[]=(.ok (.enter f args) w,#[])) (q:Calls (ai true) f args w λe r=>∃v,e=.returned v/\Post v r) :
  ∃v g l,Post v g/\Tm [d] T l/\l.getD d undef=v/\At X l (.inRegion Z rest::k) g:=by
 obtain⟨b,c,H,h⟩:=h;have a:∀base,stepG (ai true) true (Gl (FQ cD T (.inRegion Z (i::rest)::k)::X.y::X.ys) base) w=.go (Gl (Frame.enter (ai true) f args .normal::FQ cD T (.inRegion Z (i::rest)::k)::X.y::X.ys) base) w (seen (ai true) cD #[]):=λbase=>by
  have z:∀y,Region.wanted o y=true:=λy=>by unfold Region.wanted;rw[u]
  have F:stepG (ai true) true (Gl (FQ cD T (.inRegion Z (i::rest)::k)::X.y::X.ys) base) w =
    stepG.apply (ai true) true (FQ cD T (.inRegion Z (i::rest)::k)) (X.y::X.ys++base) none (execOp (FQ cD T (.inRegion Z (i::rest)::k)).eval o) w:=by
   simp[Gl,stepG,stepG.exec,stepG.oper,Frame.oper?,n,z]
  rw[F];unfold stepG.apply;simp only[D,pr];simp[GStep.after,Gl]
 obtain⟨G,I,x, -, -⟩:=h.go rfl true a;obtain⟨A,E,v,g,m,C⟩:=x.calls q;have B:Frame.finish (FQ cD T (.inRegion Z (i::rest)::k)) v=FQ cD (T.setIfInBounds d v) (.inRegion Z rest::k):=by
  simp only[Frame.finish,n,qH,p]
 rw[B] at m;replace j:d<T.size:=bd j b;exact⟨v,g,_,C,.one (by simp) (λt s=>by rw[aH j,bv s]),by rw[aH j,dj rfl],by simpa using b,A,E,m⟩
end
end
section
variable {β:Bool}
open Go.RowKit
def acz{a:Addr}(h:w.cell? a=some v):a.spot=none:=by
 unfold World.cell? at h;split at h
 .split at h
  .cases h
  .rename_i b;cases c:a.spot with
   |none=>rfl
   |some x=>rw[c] at b;exact absurd rfl b
 .cases h
def ItL(w:World)(A:Option Addr)(l:List (Int×ByteArray)):Prop:=∀i x,l[i]?=some x->∃b a,A=some ⟨b,a,none⟩/\b<w.heap.size/\w.cell? ⟨b,a+i*2,none⟩=some (.int .i64 x.1)/\w.cell? ⟨b,a+i*2+1,none⟩=some (.string x.2)/\bX x.1/\x.2.size<=maxLen
def ItL.of{A:Option Addr}{l:List (Int×ByteArray)}(h:RdI w A 0 l):ItL w A l:=λi x k=>by
 obtain⟨e,j⟩:∃e,l[0]?=some e:=ak (by have:=aI k;omega);obtain⟨⟨p,m,f, -⟩, -, -⟩:=h 0 e j;obtain⟨⟨a,rfl,d,c⟩,o,q⟩:=h i x k;obtain rfl:=ef m;rw[lm] at d c;obtain⟨b,g,n⟩:=a;obtain rfl:n=none:=by
  have:=acz f;unfold Addr.add at this;simpa using this
 rw[iZ] at d c;rw[iZ] at c;refine⟨b,g,rfl,gO d,d,c,o,by unfold maxLen;omega⟩
def ItL.below{A:Option Addr}{l:List (Int×ByteArray)}(h:ItL w A l)(d:Below w.heap.size w w'):ItL w' A l:=λi x g=>by
 obtain⟨b,a,k,c,f,j,m⟩:=h i x g;have e:=d.block b c;exact⟨b,a,k,bd c d.size,(qy e).trans f,(qy e).trans j,m⟩
def amR(n m:Int)(s:ByteArray)(g:Nat)(w:World)(b:w.cell? ⟨g,0,none⟩=some (.int .i64 m)) :
  Calls (ai β) 196 #[.agg #[.int .i64 n,.string s],.pointer (some ⟨g,0,none⟩)] w λe c=>e=.returned (.bool (decide (n=m)))/\Below w.heap.size w c:=by
 have i:g≠w.heap.size:=λe=>by
  have:=gO b;simp only at this;omega
 have a:=aC w (.cells #[.int .i64 n,.string s] 64);have d:(w.alloc (.cells #[.int .i64 n,.string s] 64)).cell? ⟨g,0,none⟩=some (.int .i64 m):=(qy (a.block g (gO b))).trans b;by_cases h:n=m
 .subst h;go_enter wJ,ntmps196;go_wp2;go_ret;exact⟨av (by simp),a⟩
 .have f:(n ==m)=false:=du.2 h;go_enter wJ,ntmps196;go_wp2;go_ret;exact⟨av (by simp[h]),a⟩
def eE(nm:Int):List (Int×ByteArray)->Int
 |[]=> -1
 |x::l=>if x.1=nm then 0 else let j:=eE nm l;if j<0 then -1 else j+1
def nD{nm:Int}:∀{l:List (Int×ByteArray)},(∀y∈l,y.1≠nm)->eE nm l=-1
 |[],_=>rfl
 |x::l,h=>by
  show(if x.1=nm then _ else _)=_;rw[bv (h x (by simp)),nD λy a=>h y (by simp[a])];rfl
def adf{nm:Int}{x:Int×ByteArray}:∀{l:List (Int×ByteArray)} {k:Nat},(∀y∈l.take k,y.1≠nm)->l[k]?=some x->x.1=nm->eE nm l=k
 |[],k,_,h,_=>by simp at h
 |y::l,0,_,h,hx=>by
  simp at h;subst h;show(if y.1=nm then _ else _)=_;rw[dj hx];rfl
 |y::l,k+1,hn,h,hx=>by
  show(if y.1=nm then _ else _)=_;rw[bv (hn y (by simp)),adf (l:=l) (k:=k) (λz a=>hn z (by simp[a])) (by simpa using h) hx];show(if((k:Nat):Int)<0 then _ else _)=_;rw[bv (by omega)];omega
end
section
variable {β:Bool}
open Go.RowKit
def ay3:auX (β:=β) 196:=ayl wJ (by kernel_rfl) rfl
def aiI(nm:Int)(l:List (Int×ByteArray))(A:Option Addr)(c g:Nat)(w:World)(E:ItL w A l)(G:l.length<=c)(I:c<=maxLen)(v:w.cell? ⟨g,0,none⟩=some (.int .i64 nm)) :
  Calls (ai β) 195 #[.slice A l.length c,.func (.func 196) #[] #[.pointer (some ⟨g,0,none⟩)]] w λe u=>e=.returned (.int .i64 (eE nm l))/\Below w.heap.size w u:=by
 unfold maxLen at I;have s:=gO v;go_enter yb,ntmps195;go_wp2;go_loopw [8] (λi wr=>∃k:Nat,k<=l.length/\i=.int .i64 k/\(∀y∈l.take k,y.1≠nm)/\Below w.heap.size w wr) (λi _=>l.length-(intOf i).toNat)
 case atStart=>exact⟨0,fa _,rfl,by simp,fm _ _⟩
 case round=>
  obtain⟨k,J,rfl,n,o⟩:=hrel;replace n:=ab n;have t:wr.cell? ⟨g,0,none⟩=some (.int .i64 nm):=(qy (o.block g s)).trans v;by_cases p:k<l.length
  .obtain⟨x,j⟩:=ak p;obtain⟨b,D,rfl,z,B,F,H,C⟩:=(E.below o) k x j;replace j:=ab j;have K:=ay3 (β:=β) (#[.agg #[.int .i64 x.1,.string x.2]]++#[.pointer (some ⟨g,0,none⟩)]) wr;go_wp2;refine(amR x.1 nm x.2 g wr t).mono ?_;rintro e u ⟨rfl,d⟩;replace d:=ae o d;by_cases h:x.1=nm
   .have a:eE nm l=k:=adf n.out j.out h;have r:=ab a;clear a;have m:decide (x.1=nm)=true:=de h;rw[m];clear h m;go_wp2;go_ret;exact⟨by rw[r.out];rfl,d⟩
   .have q:∀y∈l.take (k+1),y.1≠nm:=by
     intro y f;rw[mp j.out,io] at f;rcases f with f|f
     .exact n.out y f
     .rw[ge.1 f];exact h
    replace q:=ab q;have m:decide (x.1=nm)=false:=da h;rw[m];clear h m;go_wp2;go_roundw
    case rel=>exact⟨k+1,by omega,by go_num,q.out,d⟩
    simp[intOf];omega
  .obtain rfl:k=l.length:=by omega
   have a:eE nm l=-1:=nD (by have:=n.out;rwa [ga] at this);have r:=ab a;clear a;go_wp2;go_ret;exact⟨by rw[r.out];rfl,o⟩
end
section
variable {β:Bool}
open Go.RowKit
noncomputable def eh(key:Int)(l:List (Int×ByteArray))(nm:Int):ByteArray×Bool:=match l[(eE nm l).toNat]? with
 |some x=>if eE nm l<0 then(⟨#[]⟩,false) else dR key x
 |none=>(⟨#[]⟩,false)
def acA(nm:Int):∀l:List (Int×ByteArray),eE nm l=-1\/∃(k:Nat) (x:Int×ByteArray),eE nm l=k/\l[k]?=some x
 |[]=>.inl rfl
 |y::l=>by
  show(if y.1=nm then _ else _)=(-1:Int)\/∃(k:Nat) (x:Int×ByteArray),(if y.1=nm then _ else _:Int)=k/\_;by_cases h:y.1=nm
  .rw[dj h];exact .inr ⟨0,y,rfl,rfl⟩
  .rw[bv h];rcases acA nm l with a|⟨k,x,a,b⟩
   .rw[a];exact .inl rfl
   .rw[a];refine .inr ⟨k+1,x, ?_,by simpa using b⟩;show(if((k:Nat):Int)<0 then _ else _)=_;rw[bv (by omega)];omega
def ap7(key t nm:Int)(D:1<=key/\key<=99)(l:List (Int×ByteArray))(A:Option Addr)(c:Nat)(w:World)(G:ItL w A l)(p:l.length<=c)(u:c<=maxLen) :
  Calls (ai β) 163 #[.int .i64 key,.agg #[.int .i64 t,.slice A l.length c],.int .i64 nm] w λe z=>e=.returned (.tuple #[.string (eh key l nm).1,.bool (eh key l nm).2])/\Below w.heap.size w z:=by
 have HC:=ab u;unfold maxLen at u;go_enter ym,ntmps163;go_wp2;generalize d:(w.alloc (.cells #[.int .i64 t,.slice A l.length c] 40)).alloc (.cells #[.int .i64 nm] 3)=w0 at *;obtain⟨r,K,i,C,I,g,s,m⟩:=agc d;clear d;have f:=G.below r;refine(aiI nm l A c (w.heap.size+1) w0 f p HC.out (s 0)).mono ?_;rintro e v ⟨rfl,a⟩;have q:=f.below a;replace i:=ar i a;replace C:=i.cell;replace I:=i.frozen;replace g:=ar g a;replace s:=g.cell;replace m:=g.frozen;replace a:=ae r a;rcases acA nm l with h|⟨k,x,h,o⟩
 .have d:eh key l nm=(⟨#[]⟩,false):=by
   unfold eh;rw[h];split
   .rw[dj (by omega)]
   .rfl
  have HG:=ab d;clear d;rw[h];go_wp2;go_ret2;rw[HG.out];exact⟨rfl,a⟩
 .have d:eh key l nm=dR key x:=by
   unfold eh;rw[h,show((k:Nat):Int).toNat=k from rfl,o];show(if((k:Nat):Int)<0 then _ else _)=_;rw[bv (by omega)]
  have HG:=ab d;clear d;obtain⟨b,F,rfl,y,E,H,J,j⟩:=q k x o;have B:=aI o;have L:=da (show ¬((k:Int)<0) by omega);rw[h];go_wp2;refine(aon key x D j v).mono ?_;rintro e M ⟨rfl,n⟩;replace a:=ae a n;go_wp2;go_ret2;rw[HG.out];exact⟨rfl,a⟩
end
section
variable {β:Bool}
open Go.RowKit
noncomputable def bB(key:Int):List ig->Int->ByteArray×Bool
 |[],_=>(⟨#[]⟩,false)
 |p::l,nm=>if(eh key p.2 nm).2=true then((eh key p.2 nm).1,true) else bB key l nm
def aiJ{key nm:Int}:∀{l:List ig} {k:Nat},(∀p∈l.take k,(eh key p.2 nm).2=false)->bB key l nm=bB key (l.drop k) nm
 |[],k,_=>by simp
 |p::l,0,_=>rfl
 |p::l,k+1,h=>by
  show(if(eh key p.2 nm).2=true then _ else bB key l nm)=_;rw[bv (by rw[h p (by simp)];simp),List.drop_succ_cons];exact aiJ λq a=>h q (by simp[a])
def PkL(w:World)(A:Option Addr)(l:List ig):Prop:=∀i x,l[i]?=some x->∃b a B c,A=some ⟨b,a,none⟩/\b<w.heap.size/\w.cell? ⟨b,a+i*2,none⟩=some (.int .i64 x.1)/\w.cell? ⟨b,a+i*2+1,none⟩=some (.slice B x.2.length c)/\x.2.length<=c/\c<=maxLen/\ItL w B x.2
def PkL.of{A:Option Addr}{l:List ig}(h:RdP w A 0 l):PkL w A l:=λi x m=>by
 obtain⟨f,k⟩:∃f,l[0]?=some f:=ak (by have:=aI m;omega);obtain⟨⟨s,r,u,n,g, -⟩, -⟩:=h 0 f k;obtain⟨⟨a,B,c,rfl,e,d, -,q,t,p⟩, -⟩:=h i x m;obtain rfl:=ef n;rw[lm] at e d;obtain⟨b,j,o⟩:=a;obtain rfl:o=none:=by
  have:=acz g;unfold Addr.add at this;simpa using this
 rw[iZ] at e d;rw[iZ] at d;exact⟨b,j,B,c,rfl,gO e,e,d,q,by unfold maxLen;omega,ItL.of p⟩
def PkL.below{A:Option Addr}{l:List ig}(h:PkL w A l)(d:Below w.heap.size w w'):PkL w' A l:=λi x j=>by
 obtain⟨b,a,B,c,n,f,g,m,p,k,o⟩:=h i x j;have e:=d.block b f;exact⟨b,a,B,c,n,bd f d.size,(qy e).trans g,(qy e).trans m,p,k,o.below d⟩
def aoB(w:World)(key:Int)(A:Option Addr)(c:Nat)(l:List ig)(nm:Int)(U:1<=key)(P:key<=99)(Z:l.length<=c)(hc:(c:Int)<=9223372036854775807)(X:PkL w A l)(a1:In_ nm) :
  Calls (ai β) 110 #[.int .i64 key,.slice A l.length c,.int .i64 nm] w λe Q=>∃v,e=.returned v/\(v=.agg #[.string (bB key l nm).1,.bool (bB key l nm).2]/\Below w.heap.size w Q):=by
 go_enter yI,ntmps110;go_wp2;generalize r:w.alloc (.cells #[.string ⟨#[]⟩,.bool false] 171)=w0 at *;obtain⟨L,jh,a,C,G⟩:=gU r;clear r;go_loopw [13] (λi wr=>∃k:Nat,k<=l.length/\i=.int .i64 k/\(∀p∈l.take k,(eh key p.2 nm).2=false)/\Below w0.heap.size w0 wr) (λi _=>l.length-(intOf i).toNat)
 case atStart=>exact⟨0,fa _,rfl,by simp,fm _ _⟩
 case round=>
  obtain⟨k,hk,rfl,f,u⟩:=hrel;replace f:=ab f;replace a:=ar a u;replace C:=a.cell;replace G:=a.frozen;have I:=(X.below L).below u;have d:=ae L u;by_cases j:k<l.length
  .obtain⟨p,o⟩:=ak j;obtain⟨b,W,B,M,rfl,O,V,a0,K,z,F⟩:=I k p o;replace o:=ab o;go_wp2;generalize r:wr.alloc (.cells #[.int .i64 p.1,.slice B p.2.length M] 40)=w5 at *;obtain⟨g,S,q0,T,N⟩:=gU r;clear r;replace a:=ar a g;replace C:=a.cell;replace G:=a.frozen;replace d:=ae d g;refine(ap7 key p.1 nm ⟨U,P⟩ p.2 B M w5 (F.below g) K z).mono ?_;rintro e R ⟨rfl,J⟩;replace a:=ar a J;replace C:=a.cell;replace G:=a.frozen;replace d:=ae d J;cases x:eh key p.2 nm with
   |mk t Y=>
    cases Y with
    |true=>
     have q:bB key l nm=(t,true):=by
      rw[aiJ (k:=k) f.out,rz j];have e1:l[k]=p:=by have:=o.out;rw[ls j] at this;exact ef this
      rw[e1];show(if(eh key p.2 nm).2=true then _ else _)=_;rw[x];rfl
     have E:=ab q;clear q x;go_wp2;have s:=(a.bC 0 (.string t)).bC 1 (.bool true);simp only[be,dk,dl] at s;have m:=s.cell;exact oR (v:=.agg #[.string t,.bool true]) (by simp[results,results110,go_sem,m]) rfl ⟨_,rfl,by rw[E.out],(d.setCell (by simp) _).setCell (by simp) _⟩
    |false=>
     have D:∀y∈l.take (k+1),(eh key y.2 nm).2=false:=by
      intro y n;rw[mp o.out,io] at n;rcases n with n|n
      .exact f.out y n
      .rw[ge.1 n,x]
     replace D:=ab D;clear x;have H:Below w0.heap.size w0 R:=ae (ae u g) J;go_wp2;go_roundw
     case rel=>exact⟨k+1,by omega,by go_num,D.out,H⟩
     simp[intOf];omega
  .obtain rfl:k=l.length:=by omega
   have q:bB key l nm=(⟨#[]⟩,false):=by
    rw[aiJ (k:=l.length) f.out,vz];rfl
   have E:=ab q;clear q;go_wp2;have s:=(a.bC 0 (.string ⟨#[]⟩)).bC 1 (.bool false);simp only[be,dk,dl] at s;have m:=s.cell;exact oR (v:=.agg #[.string ⟨#[]⟩,.bool false]) (by simp[results,results110,go_sem,m]) rfl ⟨_,rfl,by rw[E.out],(d.setCell (by simp) _).setCell (by simp) _⟩
def xc:eM bB:=λ_ w a A n c l nm g e j b i f d=>by
 subst j;exact aoB w a A c l nm g e b i (PkL.of f) d
def wT(key nm:Int):bB key [] nm=(⟨#[]⟩,false):=rfl
end
end Go.Proofs.YtlggbfanooejbaaGreatDoor