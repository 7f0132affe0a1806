/- A part. -/
import Derived.Test.YtlggbfanooejbaaGreatDoorG4
import Derived.Below
set_option maxRecDepth 100000
set_option maxHeartbeats 8000000
set_option linter.all false
open Go Go.Conc Go.ConcN Go.RowKit Go.Proofs.Tryz Go.Proofs.YtlggbfanooejbaaGreatDoor
variable {c g i j n:Nat} {d t:Tmp} {ρ:Ren} {V:Type} {A:Addr} {a b:Code} {fn:Func} {o:Oper} {q:Bool} {W w w' w2:World} {u v:Value} {x y:Frame} {X t0:TypeId} {f:FuncId} {pos:String} {P:Program} {R rest:List Nat} {k k2:List Item} {Z:Array Oper} {Y l l' xs:List Frame} {af:Array Edge} {U T':Array Value} {S:Array Field} {B:Option Addr} {es:Array Event} {e:Operand→Value} {Post:Value→World→Prop} {gd:Option (Nat × Bool)}
namespace Go.Proofs.YtlggbfanooejbaaGreatDoor
def rc:=@List.not_mem_nil
def rD:=@List.mem_toArray
def rV:=@Array.size_replicate
def sd:=@Go.Conc.mem_seen
def sj:=@Relation.TransGen.trans
def sD:=@List.contains_cons
def sY:=@Go.World.cell?_setCell_other
def tO:=@or_false
def tR:=@Go.Conc.awake_of
def tT:=@Go.World.frozen?_setCell
def uA:=@Nat.sub_self
def uC:=@Nat.lt_succ_self
def uF:=@Array.mem_append
def uW:=@Array.mem_iff_getElem
section
open Go.Conc Go.ConcN
open Go.ConcR (KK wgBlock WgAt stA smA rd wr mk Payload DC0 Bk g_of_ofEvents ofEvent_mk ofEvent_loc_mark loc_of_ofEvent bk_of_mute again_blocked)
variable [Payload]
section
variable {P:Program} {ty:TypeId} {Wg C n K0:Nat} {val:Nat->Value} {aT:aq} {aP Fin:aq->aq->Goroutine->World->Prop}
 {gs:Array Goroutine} {w:World} {sl:Option (Nat×Nat)} {j:Nat} {D:Nat->WD} {TV:Nat->iE} {R S:aq} {O Rk:Nat->aq} {q:Nat->Nat} {tag:CTag} {f0 d0:Nat} {a:Goroutine} {t:Trace} {st sm:Int}
def aeR(e:∀R S g w,aP R S g w->g.status=.running)(r:gs[0]?=some a)(c:eB P ty Wg C n val aP Fin tag j R S (TV 0) f0 d0 a w)(k:MI P ty Wg C n K0 val aT j gs w t D TV R S O Rk q d0)(p:ConcN.Mode j D tag st sm) :
  ∃(i:Nat) (g:Goroutine),gs[i]?=some g/\g.status=.running:=by
 rcases c.status e with⟨b,_⟩|⟨_,rfl⟩
 .exact⟨0,a,r,b⟩
 .cases p with
  |opn f _ _=>exact f.elim
  |reg _ _ l=>
   obtain⟨i,o,s⟩:=exists_counted l;obtain⟨g,d,b⟩:=k.wk i o;exact⟨K0+1+i,g,d,b.running_of (by omega)⟩
  |last L _ m l _=>
   obtain⟨g,d,b⟩:=k.wk L m;exact⟨K0+1+L,g,d,b.running_of (by omega)⟩
  |fin f _=>exact f.elim
def akg(k:∀R S g w,aP R S g w->g.status=.running)(s:gs[0]?=some a)(e:eB P ty Wg C n val aP Fin tag j R S (TV 0) f0 d0 a w)(d:MI P ty Wg C n K0 val aT j gs w t D TV R S O Rk q d0):∀g∈gs,awake g:=by
 intro g r;obtain⟨i,c⟩:=uP.1 r;rcases mu i with rfl|o
 .rw[s] at c;cases c;rcases e.status k with⟨b,_⟩|⟨b,_⟩
  .exact tR (.inl b)
  .exact tR (.inr (.inl b))
 .by_cases l:i<=K0
  .exact tR ((d.old i g o l c).status.elim .inl λx=>.inr (.inr x))
  .have p:i<K0+1+j:=by have:=(db.1 c).1;rw[d.size] at this;exact this
   obtain⟨f,rfl⟩:∃f,i=K0+1+f:=⟨i-(K0+1),by omega⟩;obtain⟨u,m,b⟩:=d.wk f (by omega);rw[c] at m;cases m;exact tR (b.status.elim .inl λx=>.inr (.inr x))
def ah3 (G:n<2147483648) (f:∀R S g w,aP R S g w->g.status=.running) (z:∀R S g w,aP R S g w->∃m,GP P ty Wg C n R S (MW1 P ty Wg C n R S aP Fin) m g w) (B:Mu) (m:Machine) (t:Trace)
  (h:oq P ty Wg C n K0 val aT aP Fin B m t) :
  (∃b e,stepT P m=(.next b,e)/\al7 P ty Wg C n K0 val aT Fin b (t++e))\/(∃b e F,stepT P m=(.next b,e)/\pD (n+1) F B/\oq P ty Wg C n K0 val aT aP Fin F b (t++e)):=by
 obtain⟨gs,w,sl,j,D,TV,R,S,O,Rk,q,tag,f0,d0,a,st,sm,rfl,s,k,v,I,x,rfl⟩:=h;obtain⟨i,g,d,r,u,c,o⟩:=crowd_pick (P:=P) (w:=w) (sl:=sl) (akg f s k v) (aeR f s k v x);rw[o];have y:=k.rely (.at _ _ _ w d);have p:=v.at d;have l:WgAt ty Wg (w.at d) st sm:=I;rcases mu i with rfl|J
 .rw[s] at u;cases u;exact anu (sl:=r) G z s y p l x c
 .by_cases A:i<=K0
  .exact .inr (apC (sl:=r) f s y p l x J A u c)
  .have H:i<K0+1+j:=by have:=(db.1 u).1;rw[v.size] at this;exact this
   obtain⟨E,rfl⟩:∃E,i=K0+1+E:=⟨i-(K0+1),by omega⟩;exact .inr (ah1 (sl:=r) G f s y p l x (by omega) u c)
def ad4(p:n<2147483648)(l:∀R S g w,aP R S g w->g.status=.running)(i:∀R S g w,aP R S g w->∃m,GP P ty Wg C n R S (MW1 P ty Wg C n R S aP Fin) m g w) :
  ∀(c:Mu) (m:Machine) (t:Trace),oq P ty Wg C n K0 val aT aP Fin c m t->∃N e d,runNT P N m t=(.next e,d)/\al7 P ty Wg C n K0 val aT Fin e d:=by
 intro c
 induction c using(asj (n+1)).induction with
 |_ c q=>
  intro m t h;rcases ah3 p l i c m t h with⟨a,b,j,k⟩|⟨a,b,s,j,f,k⟩
  .exact⟨1,a,t++b,by rw[runNT_succ_next j];rfl,k⟩
  .obtain⟨N,e,d,r,o⟩:=q s f a (t++b) k;exact⟨N+1,e,d,by rw[runNT_succ_next j];exact r,o⟩
def ah4 (B:n<2147483648) (b:∀R S g w,aP R S g w->g.status=.running) (c:∀R S g w,aP R S g w->∃m,GP P ty Wg C n R S (MW1 P ty Wg C n R S aP Fin) m g w)
  (u:gs[0]?=some a) (p:gs.size=K0+1) (M:Leavers P t gs q) (Q:dU aT K0 w.heap.size t) (d:sS P ty Wg C n val aP n R a w) (v:WgAt ty Wg w 0 0) (o:PayAt C (2*n) w)
  (K:∀(i:Nat) (x:Touch),touchAt t i=some x->∀a,x.loc=.cell a->a.block≠Wg) (f:NoRelease (stA Wg) t) (U:Sets Wg C aT w R (λ_=>False) (λ_ _=>False) (λ_ _=>False)) :
  ∃N A s,runNT P N (crowd gs w sl) t=(.next A,s)/\al7 P ty Wg C n K0 val aT Fin A s:=by
 have y:∀T0,MI P ty Wg C n K0 val aT 0 gs w t (λ_=>⟨0,0,0⟩) (upd (λ_=>iE.leaf) 0 T0) R (λ_=>False) (λ_ _=>False) (λ_ _=>False) q 0:=λT0=>
  ⟨p,λi g z _ J=>M.old i g z J,λI H=>by omega,.begin Q K f,U,λI H=>by omega,o,λ_ _=>rfl⟩
 have E:∀tag,isOpen tag->pend tag=0->(∀l,tag ≠ .w2 l)->ConcN.Mode 0 (λ_=>(⟨0,0,0⟩:WD)) tag 0 0:=λtag L G O=>by
  have:=ConcN.Mode.opn (j:=0) (D:=λ_=>(⟨0,0,0⟩:WD)) L (λi z=>by omega) (λl e=>absurd e (O l));simpa[Vc,sumTo,G] using this
 cases n with
 |zero=>
  obtain⟨T,k⟩:=d;exact ad4 B b c _ _ _ ⟨gs,w,sl,0,_,_,R,_,_,_,q,.kd,0,0,a,0,0,rfl,u,.kd (by rw[pi];exact k),y T,v,E .kd trivial rfl (by simp),rfl⟩
 |succ r=>
  obtain⟨T,k⟩:=d;have F:=eB.skd (Fin:=Fin) (uC r) k;rw[uA] at F;exact ad4 B b c _ _ _ ⟨gs,w,sl,0,_,_,R,_,_,_,q,.sp r 5,0,0,a,0,0,rfl,u,by rw[pi];exact F,y T,v,E (.sp r 5) trivial rfl (by simp),rfl⟩
end
end
section
open Go.Conc Go.ConcN
section
variable {P:Program} {main:Bool} {Rl Rl':aq->World->World->Prop} {Gr Gr':aq->aq->World->World->Array Event->Prop} {Stop ad2:aq->Goroutine->World->Prop}
def nR.weak(i:∀S w a,Rl' S w a->Rl S w a)(k:∀S e w c d,Gr S e w c d->Gr' S e w c d)(j:∀S g w,Stop S g w->ad2 S g w):∀{T:iE} {S:aq} {g:Goroutine} {w:World},nR P main Rl Gr Stop T S g w->nR P main Rl' Gr' ad2 T S g w
 |.leaf,_,_,_,h=>λa b=>j _ _ _ (h a (i _ _ _ b))
 |.node f,_,_,_,h=>Or.imp (λh a b=>j _ _ _ (h a (i _ _ _ b))) (λx=>⟨x.1,λa b=>let⟨o,c,d,e,n,l,m⟩:=x.2 a (i _ _ _ b);⟨o,c,d,e,n,k _ _ _ _ _ l,nR.weak i k j m⟩⟩) h
def bB.weak(i:∀S w a,Rl' S w a->Rl S w a)(e:∀S d w b c,Gr S d w b c->Gr' S d w b c)(f:∀S g w,Stop S g w->ad2 S g w){S:aq}{g:Goroutine}(h:bB P main Rl Gr Stop S g w):bB P main Rl' Gr' ad2 S g w:=
 let⟨T,h⟩:=h;⟨T,nR.weak i e f h⟩
end
def RlB(_:aq)(w w₁:World):Prop:=AtRel w w₁
def GrB(aT:aq)(_ _:aq)(w w':World)(es:Array Event):Prop:=
 w.heap.size<=w'.heap.size/\∀e∈es,(∀x,(MemAct.ofEvent e).touch?=some x->¬ShL aT x.loc)/\e.loc ≠ .mark .disable/\e.loc ≠ .mark .enable/\(MemAct.ofEvent e).low w'.heap.size
section
variable {aT:aq} {K B B':Nat} {t u:Trace}
def dU.own(h:dU aT K B t)(u:B<=B'){fn:FuncId}(d:∀e∈es,(∀x,(MemAct.ofEvent e).touch?=some x->¬ShL aT x.loc)/\e.loc ≠ .mark .disable/\e.loc ≠ .mark .enable/\(MemAct.ofEvent e).low B') :
  dU aT K B' (t++MemOp.ofEvents 0 fn pos es):=by
 have k:∀op∈MemOp.ofEvents 0 fn pos es,op.g=0:=λop c=>by obtain⟨e,_,rfl⟩:=lc c;rfl
 refine⟨λg=>noRace_append (h.clean g) k λi a s op c b q v=> ?_,λi op x j n r=> ?_,h.quiet.app λop c x n m=> ?_,handedOver_app h.over λop c=>.inl (k op c), ?_,seen_app (abN h.seen u) λop c=> ?_,λop c=> ?_⟩
 .obtain⟨e,f,rfl⟩:=lc c;obtain⟨op,j,o⟩:=touch_of s;exact h.known i op a j o λm=>(d e f).1 b q (v.1▸m)
 .rcases qJ j with⟨_,p⟩|⟨_,l⟩
  .exact(h.known i op x p n r).app _
  .have:=knows_own j;rwa [k op l] at this
 .obtain⟨e,f,rfl⟩:=lc c;exact absurd m ((d e f).1 x n)
 .rw[Deaf_own,h.hears];exact deafBehind_still (λe f=>⟨(d e f).2.1,(d e f).2.2.1⟩) 0
 .obtain⟨e,f,rfl⟩:=lc c;exact(d e f).2.2.2
 .rcases uF.1 c with c|c
  .exact h.gs op c
  .rw[k op c];exact fb _
def dU.mute(h:dU aT K B t)(m:g≠0)(n:g<=K){fn:FuncId}(q:∀e∈es,e.mute=true):dU aT K B (t++MemOp.ofEvents g fn pos es):=by
 have l:∀op∈MemOp.ofEvents g fn pos es,op.g=g:=λop c=>by obtain⟨e,_,rfl⟩:=lc c;rfl
 have j:∀op∈MemOp.ofEvents g fn pos es,op.act.touch?=none:=λop c=>by obtain⟨e,o,rfl⟩:=lc c;exact touch_mute (q e o)
 refine⟨λf=>noRace_append (h.clean f) l λi a _ op c b p _=>(by rw[j op c] at p;cases p),λi op x r d u=> ?_,h.quiet.app λop c x d _=>(by rw[j op c] at d;cases d),handedOver_app h.over λop c=>.inr (j op c),(qC t m _ l).trans h.hears,seen_app h.seen λop c=> ?_,λop c=> ?_⟩
 .rcases qJ r with⟨_,s⟩|⟨_,k⟩
  .exact(h.known i op x s d u).app _
  .rw[j op k] at d;cases d
 .obtain⟨e,o,rfl⟩:=lc c;exact low_mute (q e o) B
 .rcases uF.1 c with c|c
  .exact h.gs op c
  .rw[l op c];exact n
def dU.nil(B:Nat):dU (λ_=>False) 0 B #[]:=
 ⟨λd=>by rintro⟨i,j,_,⟨a,b,e,_⟩,_⟩;simp[Trace.act?] at e,λi op x c=>by simp at c,λi op x c=>by simp at c,λi g f=>by simp[Trace.g?] at f,rfl,by simp,by simp⟩
end
structure avu (Gr:aq->aq->World->World->Array Event->Prop) (TQ:Nat->Nat->Trace->Prop):Prop where
 own:∀{K:Nat} {t:Trace} {S S':aq} {w w':World} {es:Array Event} (fn:FuncId) (pos:String),Gr S S' w w' es->TQ K w.heap.size t->TQ K w'.heap.size (t++MemOp.ofEvents 0 fn pos es)
 mute:∀{K B:Nat} {t:Trace} {g:Nat} {es:Array Event} (fn:FuncId) (pos:String),g≠0->g<=K->(∀e∈es,e.mute=true)->TQ K B t->TQ K B (t++MemOp.ofEvents g fn pos es)
def aad{aT:aq}:avu (GrB aT) (dU aT):=⟨λ_ _ b a=>a.own b.1 b.2,λ_ _ e c d a=>a.mute e c d⟩
section
variable {P:Program} {TQ:Nat->Nat->Trace->Prop} {Gr:aq->aq->World->World->Array Event->Prop} (HT:avu Gr TQ) {Stop:aq->Goroutine->World->Prop}
include HT
theorem ah5(T:iE):∀(M:Nat) (l:Array Goroutine) (a:Goroutine) (w:World) (sl:Option (Nat×Nat)) (t:Trace) (q:Nat->Nat) (S:aq),sumTo l.size q<=M->l[0]?=some a->Leavers P t l q->TQ (l.size-1) w.heap.size t->
  nR P true RlB Gr Stop T S a w->
  ∃(N:Nat) (o:Array Goroutine) (z:Goroutine) (O:World) (r:Option (Nat×Nat)) (X:Trace) (q':Nat->Nat) (S':aq),
   runNT P N (crowd l w sl) t=(.next (crowd o O r),X)/\o.size=l.size/\o[0]?=some z/\Stop S' z O/\Leavers P X o q'/\TQ (l.size-1) O.heap.size X:=by
 induction T using iE.wf.induction with
 |_ T a3=>
 intro M
 induction M with
 |zero=> 
  intro l a w sl t q S hM W B hP hG;rcases hG.cases with bN|⟨f,rfl,p,v⟩
  .exact⟨0,l,a,w,sl,t,q,S,rfl,rfl,W,bN w (atRel_refl w),B,hP⟩
  have a0:∀g∈l,awake g:=by
   intro g Q;obtain⟨i,s,rfl⟩:=uW.1 Q;rcases mu i with rfl|kI
   .have:l[0]=a:=by simpa[ff s] using W
    rw[this];exact tR (.inl p)
   .exact tR ((B.old i _ kI (ff s)).status.elim .inl λx=>.inr (.inr x))
  obtain⟨i,g,d,r,s,Q,Z⟩:=crowd_pick (P:=P) (w:=w) (sl:=sl) a0 ⟨0,a,W,p⟩;have C:i<l.size:=(db.1 s).1;rcases mu i with rfl|kI
  .obtain rfl:g=a:=by rw[W] at s;exact(de s).symm
   obtain⟨z,O,es,S',a2,hD,a1⟩:=v (w.at d) ⟨d,rfl⟩;have G:=su (P:=P) (sl:=r) (i:=0) s (show stepG P (0 ==0) g (w.at d)=_ from a2);have m:((l.map (woken P g z O)).setIfInBounds 0 z).size=l.size:=by simp
   obtain⟨N,o,L,H,R,X,q',J,hr,F,K,hS,I,u⟩:=a3 _ ⟨f,w.at d,rfl,rfl⟩ _ ((l.map (woken P g z O)).setIfInBounds 0 z) z O r (t++MemOp.ofEvents 0 g.frame.fn g.frame.place es) q S' (ap _) (by simp[C])
    ⟨λj x A V=>by
     have E:0≠j:=by omega
     rw[gc E,qB] at V;obtain⟨y,hy,rfl⟩:=ga.1 V;have D:=B.old j y A hy;rw[sb D,qC t (by omega) _ (λop n=>by obtain⟨e,_,rfl⟩:=lc n;rfl)];exact D,λj A=>by
     rw[qC t (g':=0) (by simp at A;omega) _ (λop n=>by obtain⟨e,_,rfl⟩:=lc n;rfl)];exact B.above j (by simpa using A)⟩
    (by rw[m];exact HT.own _ _ hD hP) a1
   exact⟨N+1,o,L,H,R,X,q',J,by simp only[runNT,Z,G];exact hr,F.trans m,K,hS,I,by rw[m] at u;exact u⟩
  .have D:=B.old i g kI s;have:q i<=sumTo l.size q:=le_sumTo C;have U:q i=0:=by omega
   rw[U] at D;rw[D.1] at Q;cases Q
 |succ M ih=>
  intro l a w sl t q S hM W B hP hG;rcases hG.cases with bN|⟨f,rfl,p,v⟩
  .exact⟨0,l,a,w,sl,t,q,S,rfl,rfl,W,bN w (atRel_refl w),B,hP⟩
  have a0:∀g∈l,awake g:=by
   intro g Q;obtain⟨i,s,rfl⟩:=uW.1 Q;rcases mu i with rfl|kI
   .have:l[0]=a:=by simpa[ff s] using W
    rw[this];exact tR (.inl p)
   .exact tR ((B.old i _ kI (ff s)).status.elim .inl λx=>.inr (.inr x))
  obtain⟨i,g,d,r,s,Q,Z⟩:=crowd_pick (P:=P) (w:=w) (sl:=sl) a0 ⟨0,a,W,p⟩;have C:i<l.size:=(db.1 s).1;rcases mu i with rfl|kI
  .obtain rfl:g=a:=by rw[W] at s;exact(de s).symm
   obtain⟨z,O,es,S',a2,hD,a1⟩:=v (w.at d) ⟨d,rfl⟩;have G:=su (P:=P) (sl:=r) (i:=0) s (show stepG P (0 ==0) g (w.at d)=_ from a2);have m:((l.map (woken P g z O)).setIfInBounds 0 z).size=l.size:=by simp
   obtain⟨N,o,L,H,R,X,q',J,hr,F,K,hS,I,u⟩:=a3 _ ⟨f,w.at d,rfl,rfl⟩ _ ((l.map (woken P g z O)).setIfInBounds 0 z) z O r (t++MemOp.ofEvents 0 g.frame.fn g.frame.place es) q S' (ap _) (by simp[C])
    ⟨λj x A V=>by
     have E:0≠j:=by omega
     rw[gc E,qB] at V;obtain⟨y,hy,rfl⟩:=ga.1 V;have D:=B.old j y A hy;rw[sb D,qC t (by omega) _ (λop n=>by obtain⟨e,_,rfl⟩:=lc n;rfl)];exact D,λj A=>by
     rw[qC t (g':=0) (by simp at A;omega) _ (λop n=>by obtain⟨e,_,rfl⟩:=lc n;rfl)];exact B.above j (by simpa using A)⟩
    (by rw[m];exact HT.own _ _ hD hP) a1
   exact⟨N+1,o,L,H,R,X,q',J,by simp only[runNT,Z,G];exact hr,F.trans m,K,hS,I,by rw[m] at u;exact u⟩
  .have D:=B.old i g kI s;have a6:(i ==0)=false:=by simp;omega
   cases U:q i with
   |zero=>rw[U] at D;rw[D.1] at Q;cases Q
   |succ k=>
    rw[U] at D;rcases D with⟨hf,_⟩|⟨_,g',es,hm,a7,a5⟩
    .rw[hf] at Q;cases Q
    have G:=su (P:=P) (sl:=r) (i:=i) s (by rw[a6];exact a7 (w.at d));have m:((l.map (woken P g g' (w.at d))).setIfInBounds i g').size=l.size:=by simp
    have a9:sumTo l.size (upd q i k)+(k+1)=sumTo l.size q+k:=by
     have:=sumTo_upd q k id C;simpa[U] using this
    have a8:∀S a b c,RlB S a b->RlB S b c->RlB S a c:=λ_ a b c=>atRel_trans a b c;obtain⟨N,o,L,H,R,X,q',J,hr,F,K,hS,I,u⟩:=ih ((l.map (woken P g g' (w.at d))).setIfInBounds i g') a (w.at d) r (t++MemOp.ofEvents i g.frame.fn g.frame.place es) (upd q i k) S (by rw[m];omega)
     (by
      have E:i≠0:=by omega
      rw[gc E,qB,W];simp[woken_run p])
     ⟨λj x A V=>by
      by_cases Y:i=j
      .subst Y;rw[oi (by simpa using C)] at V;obtain rfl:=de V;rw[pi,Deaf_own];exact a5
      .rw[gc Y,qB] at V;obtain⟨y,hy,rfl⟩:=ga.1 V;have a4:=B.old j y A hy;rw[sb a4,qf q k (rY Y),qC t Y _ (λop n=>by obtain⟨e,_,rfl⟩:=lc n;rfl)];exact a4,λj A=>by
      rw[qC t (g':=i) (by simp at A;omega) _ (λop n=>by obtain⟨e,_,rfl⟩:=lc n;rfl)];exact B.above j (by simpa using A)⟩
     (by rw[m];exact HT.mute _ _ (by omega) (by omega) hm hP) (nR.rely a8 hG ⟨d,rfl⟩)
    exact⟨N+1,o,L,H,R,X,q',J,by simp only[runNT,Z,G];exact hr,F.trans m,K,hS,I,by rw[m] at u;exact u⟩
theorem nU{gs:Array Goroutine}{a:Goroutine}{sl:Option (Nat×Nat)}{t:Trace}{q:Nat->Nat}{S:aq}(i:gs[0]?=some a)(m:Leavers P t gs q)(k:TQ (gs.size-1) w.heap.size t)(e:bB P true RlB Gr Stop S a w) :
  ∃(N:Nat) (b:Array Goroutine) (g:Goroutine) (c:World) (f:Option (Nat×Nat)) (d:Trace) (l:Nat->Nat) (j:aq),
   runNT P N (crowd gs w sl) t=(.next (crowd b c f),d)/\b.size=gs.size/\b[0]?=some g/\Stop j g c/\Leavers P d b l/\TQ (gs.size-1) c.heap.size d:=
 let⟨T,e⟩:=e;ah5 HT T _ gs a w sl t q S (ap _) i m k e
end
def gh(P:Program):Cfg->Cfg->Prop:=Relation.TransGen λa b=>adB P b a
def Rng(ρ:Ren)(w:World)(S Rr:aq):Prop:=∀b a,ρ.r b a->S a\/(Rr a/\bm w b/\NoB w b)
def kX(S Rr:aq)(B:Nat)(e:Event):Prop:=
 (∀x,(MemAct.ofEvent e).touch?=some x->In S x.loc\/(In Rr x.loc/\x.write=false))/\(∀m,e.loc=.mark m->(∃f,m=.extern f)\/m=.noRoom)/\(MemAct.ofEvent e).low B
def PkG(ρ:Ren)(w w' w1 cG:World):Prop:=(∀b a,ρ.r b a->Rw w b->Rw w1 b/\∀i u,amJ u->w1.cell? ⟨b,i,none⟩=some u->w.cell? ⟨b,i,none⟩=some u/\cG.cell? ⟨a,i,none⟩=w'.cell? ⟨a,i,none⟩)/\
 ∀b a,ρ.r b a->bm w b->NoB w b->w1.heap[b]?=w.heap[b]?/\cG.heap[a]?=w'.heap[a]?
def PkG.rely(h:∀b c,ρ.r b c->W.heap[c]?=w'.heap[c]?):PkG ρ w w' w W:=⟨λ_ _ a d=>⟨d,λ_ _ _ e=>⟨e,ib (h _ _ a)⟩⟩,λ_ _ a _ _=>⟨rfl,h _ _ a⟩⟩
def PkG.al9{m : Ren}{g : World}(c:Kept ρ m w w' W g)(h:∀b e,ρ.r b e->w2.heap[e]?=g.heap[e]?):PkG ρ w w' W w2:=⟨λ_ _ a d=>
 ⟨(c.poi a d).1,λi u j l=>⟨((c.poi a d).2 i u j l).1,(ib (h _ _ a)).trans ((c.poi a d).2 i u j l).2⟩⟩,λ_ _ a f k=>⟨(c.still a f k).1,(h _ _ a).trans (c.still a f k).2⟩⟩
def PkG.trans{m : Ren}{j c : World}(h:PkG ρ w w' W j)(e:ρ.Le m)(k:PkG m W j w2 c):PkG ρ w w' w2 c:=by
 refine⟨λb a d x=> ?_,λb a d g n=> ?_⟩
 .obtain⟨A,B⟩:=h.1 b a d x;obtain⟨p,y⟩:=k.1 b a (e.r d) A;refine⟨p,λi u l C=> ?_⟩;obtain⟨t,v⟩:=y i u l C;obtain⟨r,o⟩:=B i u l t;exact⟨r,v.trans o⟩
 .obtain⟨f,s⟩:=h.2 b a d g n;obtain⟨q,z⟩:=k.2 b a (e.r d) (g.of_eq f) (n.of_eq f);exact⟨q.trans f,z.trans s⟩
structure ah6 (P:Program) (R:List Frame->World->Prop) (Rr S:aq) (ρ:Ren) (c:Cfg) (l':List Frame) (w':World):Prop where
 st:gz P ρ c.l l'
 wr:WR ρ c.w w'
 gl:GlR ρ
 will:iY P R c
 rng:Rng ρ c.w S Rr
def Rt(P':Program)(J:Nat->Bool)(l l':List Frame):Prop:=
 l'=l\/∃d e a,l=d::a/\l'=e::a/\a≠[]/\JR J d e/\∃b,P'.funcs[d.fn]?=some b/\∀t c:Array Value,c.size=t.size->(∀i,J i=false->c[i]?=t[i]?)->results b c=results b t
def ky.mem{ρ:Ren}:∀{l b:List Event},ky ρ l b->∀a∈b,∃e∈l,EvR ρ e a
 |_,_,.nil,_,h=>by cases h
 |_,_,.cons x y,a,h=>by
  rcases lw.1 h with rfl|h
  .exact⟨_,qz ..,x⟩
  .obtain⟨e,c,d⟩:=ky.mem y a h;exact⟨e,qq _ c,d⟩
section
variable {P P':Program} {R:List Frame->World->Prop} {Rr S:aq} {ρ σ:Ren} {w w' w1 cG:World} {es es':Array Event}
def Rng.step(h:Rng ρ w S Rr)(j:WR σ w1 cG)(d:Kept ρ σ w w' w1 cG):Rng σ w1 (λb=>S b\/(w'.heap.size<=b/\b<cG.heap.size)) Rr:=λb k i=>by
 rcases d.new i with f|⟨_,a⟩
 .rcases h b k f with c|⟨c,a,g⟩
  .exact .inl (.inl c)
  .have e:=(d.still f a g).1;exact .inr ⟨c,a.of_eq e,g.of_eq e⟩
 .exact .inl (.inr ⟨a,(j.lt i).2⟩)
def apF(h:Rng ρ w S Rr)(u:WR σ w1 cG)(D:Kept ρ σ w w' w1 cG)(v:EvW w σ es es'):∀e∈es',kX (λb=>S b\/(w'.heap.size<=b/\b<cG.heap.size)) Rr cG.heap.size e:=by
 intro E t;obtain⟨e,A,j⟩:=v.ev.mem E (by simpa using t);have p:∀{b i},σ.r b i->(S i\/(w'.heap.size<=i/\i<cG.heap.size))\/(Rr i/\bm w b):=λ{b i} y=>by
  rcases D.new y with C|⟨_,g⟩
  .rcases h b i C with c|⟨c,g,_⟩
   .exact .inl (.inl c)
   .exact .inr ⟨c,g⟩
  .exact .inl (.inr ⟨g,(u.lt y).2⟩)
 cases j with
 |mk n wr q=>
  cases n with
  |@cell a z G=>
   have j:σ.r a.block z.block:=by cases G with|mk h o s=>exact h
   refine⟨λx k=> ?_,λm l=>(by cases l),(u.lt j).2⟩;have d:x=⟨.cell z,wr,if q then .atomic else .plain⟩:=by simp[MemAct.ofEvent,MemAct.touch?] at k;exact k.symm
   subst d;rcases p j with c|⟨c,g⟩
   .exact .inl c
   .cases wr with
    |false=>exact .inr ⟨c,rfl⟩
    |true=>exact absurd rfl ((v.nw _ g _ A rfl).1 _ rfl)
  |@obj r B j=>
   refine⟨λx k=> ?_,λm l=>(by cases l), ?_⟩
   .have d:x.loc=.obj B/\x.write=wr:=by
     cases wr<;>cases q<;>simp[MemAct.ofEvent,MemAct.touch?] at k<;>(subst k;exact⟨rfl,rfl⟩)
    obtain⟨H,F⟩:=d;rw[H];rcases p j with c|⟨c,g⟩
    .exact .inl c
    .cases wr with
     |false=>exact .inr ⟨c,F⟩
     |true=>exact absurd rfl ((v.nw _ g _ A rfl).2 _ rfl)
   .have:=(u.lt j).2;cases wr<;>cases q<;>exact this
  |mark l=>
   refine⟨λx k=> ?_,λm e=> ?_, ?_⟩
   .cases l<;>simp[MemAct.ofEvent,MemAct.touch?] at k
   .cases e;cases l with
    |extern f=>exact .inl ⟨f,rfl⟩
    |noRoom=>exact .inr rfl
   .cases l<;>trivial
def ah7(h:Rng ρ w S Rr)(d:Kept ρ σ w w' w1 cG):∀b,b<w'.heap.size->¬S b->cG.heap[b]?=w'.heap[b]?:=λb l i=>by
 by_cases f:∃a,ρ.r a b
 .obtain⟨a,e⟩:=f;rcases h a b e with j|⟨_,g,k⟩
  .exact absurd j i
  .exact(d.still e g k).2
 .exact d.out' l λc m=>f ⟨c,m⟩
def WR.rely(h:WR ρ w w')(g:Rng ρ w S Rr)(i:∀b,S b\/Rr b->cG.heap[b]?=w'.heap[b]?)(e:w'.heap.size<=cG.heap.size)(j:cG.ou=w'.ou):WR ρ w cG:=
 ⟨λ{b a} c=>by
  obtain⟨o,l,f,d,k⟩:=h.obj c;exact⟨o,l,f,(i a ((g b a c).imp id (·.1))).trans d,k⟩,h.os.trans j.symm,h.iG.1,am h.iG.2 e⟩
end
def gz.ne'   :gz P ρ l l'->∃x b y a,l=x::b/\l'=y::a
 |.one .. =>⟨_,_,_,_,rfl,rfl⟩
 |.cons .. =>⟨_,_,_,_,rfl,rfl⟩
def gz.hd   :gz P ρ l l'->∀{y a},l'=y::a->(y.mode=.run\/y.mode=.returning)/\y.kind=.normal
 |.one hx _,_,_,e=>by cases e;exact⟨hx.mode.elim (λy=>.inl y.2) (λy=>.inr y.2),hx.kind.2⟩
 |.cons hx _,_,_,e=>by cases e;exact⟨hx.mode.elim (λy=>.inl y.2) (λy=>.inr y.2),hx.kind.2⟩
def gz.lone   :gz P ρ l l'->∀{x},l=[x]->∀{y a},l'=y::a->a=[]
 |.one ..,_,_,_,_,e=>by cases e;rfl
 |.cons _ hl,_,e,_,_,_=>by
  obtain⟨_,_,_,_,b,_⟩:=hl.ne';cases e;cases b
section
variable {P P':Program} {R:List Frame->World->Prop} {Rr:aq} {main:Bool} {Rl:aq->World->World->Prop} {Gr:aq->aq->World->World->Array Event->Prop} {J:Nat->Bool} {base:List Frame}
def apG(P P':Program)(R:List Frame->World->Prop)(Rr:aq)(base:List Frame)(c0:Cfg)(gi:Ren)(w0:World)(S0 S:aq)(g:Goroutine)(w1:World):Prop:=
 ∃c d e,(c=c0\/gh P c c0)/\gi.Le d/\(∀b,S0 b->S b)/\g=Gl e base/\WR d c.w w1/\GlR d/\iY P R c/\Rng d c.w S Rr/\PkG gi c0.w w0 c.w w1/\
  ((mN c.l/\gz P d c.l e)\/∃a f m i,cM d a f/\gz P d m i/\c.l=Frame.enter P bX a .normal::m/\e=Frame.enter P' bX f .normal::i)
def wh(P P':Program)(R:List Frame->World->Prop)(Rr:aq)(main:Bool)(Rl:aq->World->World->Prop)(Gr:aq->aq->World->World->Array Event->Prop)(base:List Frame):Prop:=
 ∀(f:FuncId) (c:Cfg) (ρ:Ren) (a l:Array Value) (m o:List Frame) (e:World) (S:aq),gH f=true->f≠bX->cM ρ a l->gz P ρ m o->c.l=Frame.enter P f a .normal::m->WR ρ c.w e->GlR ρ->iY P R c->Rng ρ c.w S Rr->
  bB P' main Rl Gr (λn g j=>∃i d k,gh P i c/\ρ.Le d/\(∀b,S b->n b)/\g=Gl k base/\ah6 P R Rr n d i k j/\PkG ρ c.w e i.w j) S (Gl (Frame.enter P' f l .normal::o) base) e
def ah8 (T:Twin P P') (X:aho P P') (eN:∀S w,Rl S w w) (tr:∀S a b c,Rl S a b->Rl S b c->Rl S a c)
  (rl:∀S w o,Rl S w o->(∀b,S b\/Rr b->o.heap[b]?=w.heap[b]?)/\w.heap.size<=o.heap.size/\o.ou=w.ou)
  (gr:∀S w l es,(∀b,b<w.heap.size->¬S b->l.heap[b]?=w.heap[b]?)->w.heap.size<=l.heap.size->l.ou=w.ou->(∀e∈es,kX (λb=>S b\/(w.heap.size<=b/\b<l.heap.size)) Rr l.heap.size e)->
   Gr S (λb=>S b\/(w.heap.size<=b/\b<l.heap.size)) w l es)
  (al:∀f,gH f=true->∀a,(Frame.enter P' f a .normal).todo.all (kr J)=false)
  (Z:wh P P' R Rr main Rl Gr base) {c:Cfg} (b0:Acc (gh P) c) :
  ∀{ρ:Ren} {l' lR:List Frame} {l:World} {S:aq},ah6 P R Rr S ρ c l' l->Rt P' J l' lR->bB P' main Rl Gr (apG P P' R Rr base c ρ l S) S (Gl lR base) l:=by
 induction b0 with
 |intro c _ ih=>
  intro ρ l' lR l S h hR;have on:∀{s:Cfg} {I:Ren} {l1 lR1:List Frame} {o:World} {S1:aq},gh P s c->ρ.Le I->(∀b,S b->S1 b)->ah6 P R Rr S1 I s l1 o->PkG ρ c.w l s.w o->Rt P' J l1 lR1->bB P' main Rl Gr (apG P P' R Rr base c ρ l S) S1 (Gl lR1 base) o:=λ{s I l1 lR1 o S1} W d hS h1 Y A=>
   bB.weak (λ_ _ _ x=>x) (λ_ _ _ _ _ x=>x) (λS2 g w2 ⟨c2,ρ2,l2,a1,a2,a3,a4,a5,a6,a7,a8,a9,a10⟩=>⟨c2,ρ2,l2,.inr (a1.elim (λe=>e▸W) λx=>sj x W),d.trans a2,λb n=>a3 b (hS b n),a4,a5,a6,a7,a8,Y.trans d a9,a10⟩) (ih s W h1 A)
  have b2:∀{x:Frame} {xs:List Frame},(Gl (x::xs) base).status=.running:=rfl;by_cases hf:mN c.l
  .-- at its end: one frame,and it is clean
   refine .stop λo hr=> ?_;obtain⟨r1,r2,r3⟩:=rl _ _ _ hr;have aF:lR=l':=by
    rcases hR with e|⟨fr,cf,j,K,_,b1,_⟩
    .exact e
    .exfalso;obtain⟨f0,W,_⟩:=hf;exact b1 (h.st.lone W K)
   subst aF;exact⟨c,ρ,_,.inl rfl,Ren.Le.refl _,λ_ n=>n,rfl,h.wr.rely h.rng r1 r2 r3,h.gl,h.will,h.rng,.rely λb D n=>r1 D ((h.rng b D n).imp id (·.1)),.inl ⟨hf,h.st⟩⟩
  .obtain⟨_,_,x0,b3,_,aT⟩:=h.st.ne';have aI:(Gl lR base).status=.running:=by
    rcases hR with e|⟨fr,cf,j,_,B,_⟩
    .rw[e,aT];rfl
    .rw[B];rfl
   refine .step aI λo hr=> ?_;obtain⟨r1,r2,r3⟩:=rl _ _ _ hr;have aW:=h.wr.rely h.rng r1 r2 r3;obtain⟨s,σ,p,E,es,v,hs,G,d,k,t,N,hE,z⟩:=sim T X h.gl main h.st aW hf h.will;have L:gh P s c:=.single hs;have mZ:=h.rng.step t N;have aU:PkG ρ c.w l c.w o:=.rely λb D n=>r1 D ((h.rng b D n).imp id (·.1));have Y:PkG ρ c.w l s.w E:=aU.trans (.refl _) (.al9 N λ_ _ _=>rfl);have hG:=gr S o E v (ah7 h.rng N) N.size' N.os.2 (apF h.rng t N hE);have after:∀{lR1:List Frame},(Rt P' J p lR1/\(gz P σ s.l p\/lR1=p))->bB P' main Rl Gr (apG P P' R Rr base c ρ l S) (λb=>S b\/(o.heap.size<=b/\b<E.heap.size)) (Gl lR1 base) E:=λ{lR1} ⟨A,hor⟩=>by
    rcases z with i|⟨f,a,H,m,m',u,U,i,K,B⟩
    .exact on L d (λb n=>.inl n) ⟨i,t,h.gl.mono d,G,mZ⟩ Y A
    .have jR:lR1=p:=by
      rcases hor with b4|e
      .rcases A with e|⟨fr,cf,j,O,_,_,M,_⟩
       .exact e
       .exfalso;rw[B] at O;injection O with e4 e5
        have:=M.items;rw[<-e4,al f u H] at this;cases this
      .exact e
     subst jR;by_cases Q:f=bX
     .subst Q;refine .stop λw2 ao=> ?_;obtain⟨q1,q2,q3⟩:=rl _ _ _ ao;exact⟨s,σ,_,.inr L,d,λb n=>.inl n,rfl,t.rely mZ q1 q2 q3,h.gl.mono d,G,mZ,Y.trans d (.rely λb D n=>q1 D ((mZ b D n).imp id (·.1))),.inr ⟨a,H,m,m',U,i,K,B⟩⟩
     .rw[B];refine bB.bind eN tr (Z f s σ a H m m' E _ u Q U i K t (h.gl.mono d) G mZ) λS2 g w2 ⟨c2,ρ2,l2,a1,a2,a3,a4,a5,a6⟩=> ?_;rw[a4];exact on (sj a1 L) (d.trans a2) (λb n=>a3 b (.inl n)) a5 (Y.trans d a6) (.inl rfl)
   rcases hR with e|⟨fr,cf,j,K,B,an,M,fn,a0,C⟩
   .subst e;exact⟨_,E,v,_,k base,hG,after ⟨.inl rfl,.inr rfl⟩⟩
   .rw[K] at k;have aZ:=h.st.hd K;obtain⟨y,F,hy⟩:∃y F,p=y::F:=by
     rcases z with i|⟨f,a,H,m,m',_,_,_,_,e⟩
     .obtain⟨_,_,y,F,_,e⟩:=i.ne';exact⟨y,F,e⟩
     .exact⟨_,_,e⟩
    have aa:(y.mode=.run\/y.mode=.returning)/\y.kind=.normal:=by
     rcases z with i|⟨f,a,H,m,m',_,_,_,_,e⟩
     .exact i.hd hy
     .rw[hy] at e;injection e with O e4
      subst O;exact⟨.inl rfl,rfl⟩
    rcases aZ.1 with hm|hm
    .have q:=k base;rw[hy] at q;obtain⟨aV,ax,ad,af,aP⟩:=apx M hm q aa.1 aa.2;have av:F=j:=List.append_cancel_right aV;subst av;refine⟨_,E,v,_,by rw[B];exact aP (F++base),hG, ?_⟩;have:=after (lR1:=ad::F) ⟨.inr ⟨y,ad,F,hy,rfl,an,af,fn,by rw[ax];exact a0,C⟩, ?_⟩
     .exact this
     .rcases z with i|⟨f,a,H,m,m',u,_,_,_,e⟩
      .exact .inl i
      .exfalso;rw[hy] at e;injection e with O e4
       have:=af.items;rw[O,al f u H] at this;cases this
    .obtain⟨r0,rs,V⟩:∃r rs,j=r::rs:=by
      cases j with
      |nil=>exact absurd rfl an
      |cons r rs=>exact⟨r,rs,rfl⟩
     have ay:=apy (P:=P') M hm ⟨fn,a0,C _ _ M.size M.agree⟩ (c:=r0) (cs:=rs++base) (main:=main) (w:=o);refine⟨_,E,v,_, ?_,hG,after (lR1:=p) ⟨.inl rfl,.inr rfl⟩⟩;rw[B,V];have q:=k base;rw[V] at q;exact ay.trans q
end
section
variable {P P':Program} {ρ:Ren} {w w':World}
def asp(T:Twin P P'){fr : Frame}(hS:gz P ρ [fr] [x])(X:WR ρ w w'){t0:Tape}(I:∀t,(∀i q,i<w.drawn->t i q=t0 i q)->∃v,fr.leaving P (w.tap t) (.returned v)/\Post v (w.tap t)) :
  ∃j v L l u es s t,ρ.Le j/\Post v (w.tap t)/\(∀i q,i<w.drawn->t i q=t0 i q)/\l.tap t=w.tap t/\VR j v L/\WR j l u/\Kept ρ j w w' l u/\EvW w j es s/\∀m c z,stepG P' m (Gl [x] (c::z)) w'=.go ⟨c.finish L,z,.running,none,none⟩ u s:=by
 have S:=hS.head;obtain⟨f,tm,K,d,md,kd,r⟩:=fr;obtain⟨f',a0,eH,Z,A,a1,r'⟩:=x;obtain⟨N,F,h3,G,n,R,h7⟩:=S;dsimp only at N F h3 G n R h7;subst N;obtain⟨v0,⟨Q,hd,M,O,C,hr⟩,hp⟩:=I t0 λ_ _ _=>rfl;dsimp only at Q hd M C hr;subst Q hd M;obtain rfl:A=.returning:=by
  rcases n with n|n
  .cases n.1
  .exact n.2
 obtain⟨-,rfl⟩:=R;obtain rfl:Z=[]:=by cases G;rfl
 obtain⟨cR,B,hR⟩:=T.func f O C;have good:∀t:Tape,(∀i q,i<w.drawn->t i q=t0 i q)->∃v,(results O tm).run P (w.tap t)=.ok v (w.tap t)/\Post v (w.tap t):=λt y=>by
  obtain⟨v,⟨_,_,_,V,k,g⟩,jU⟩:=I t y;dsimp only at k g;rw[C] at k;cases k;exact⟨v,g,jU⟩
 obtain⟨b,D,H⟩:=(afa T hR.results F).run w w' #[] #[] X;have p:Agr w D b λi q=>if i<w.drawn then t0 i q else b i q:=λi q J _=>bd (by omega)
 have y:∀i q,i<w.drawn->(λi q=>if i<w.drawn then t0 i q else b i q) i q=t0 i q:=λi q J=>dj J;obtain⟨v,o,E⟩:=good _ y;rcases H with H|⟨j,a,l,U,u,us,nZ,g1,g2,g3,Y,g5,g6,W,g8⟩
 .exfalso;obtain⟨h,l,gT,g, -⟩:=H _ p;rw[<-qD _ _ _ #[],g] at o;cases o
 .have e:=g1 _ p;rw[<-qD _ _ _ #[],e] at o;simp only[rM] at o;obtain⟨rfl,aW⟩:=o;refine⟨j,a,U,l,u,_,_,_,g3,E,y,aW,g5,g6,W,oZ T f g8,λm c z=> ?_⟩;simp only[Gl,stepG,unwind,B,Y,qX];simp[doReturn,GStep.after]
end
end
section
def ama(a:FuncId->Bool)(b:List Nat)(c:TypeId)(o:Oper):(nY a b c o).op=o.op:=by unfold nY;split<;>rfl
def anv(a:FuncId->Bool)(b:List Nat)(c:TypeId)(o:Oper):nY a b c (nY a b c o)=nY a b c o:=by
 by_cases h:nX a b o.op=true
 .unfold nY;simp[h]
 .unfold nY;simp[h]
def abO(P:Program)(c:FuncId->Bool)(d:List Nat)(e:TypeId)(id:Nat)(a:Array Oper)(b:Bool):bF P c d e (.region id a b)=if(a.toList.all λo=>kx P c d o.op)=true then .region id a b
  else if(a.toList.all λo=>kx P c d o.op||nX c d o.op)=true then .region id (a.map (nY c d e)) b else .refuse "" :=rfl
def amb(P:Program)(d:FuncId->Bool)(e:List Nat)(f:TypeId)(c:Operand)(a b:Code):bF P d e f (.cond c a b)=if bD d e c=true then .cond c (bF P d e f a) (bF P d e f b) else .refuse "" :=rfl
def ah9(P:Program)(d:FuncId->Bool)(c:List Nat)(e:TypeId)(f:Operand)(g:Array Tmp)(a b:Code):bF P d c e (.rangeFunc f g a b)=if bD d c f=true then .rangeFunc f g (bF P d c e a) (bF P d c e b) else .refuse "" :=rfl
def apH(P:Program)(c:FuncId->Bool)(d:List Nat)(e:TypeId)(a b:Code):bF P c d e (.seq a b)=.seq (bF P c d e a) (bF P c d e b):=rfl
def aki(P:Program)(e:FuncId->Bool)(d:List Nat)(l:TypeId):∀c:Code,bF P e d l (bF P e d l c)=bF P e d l c:=by
 intro c
 induction c with
 |region id i draw=>
  rw[abO];by_cases h:(i.toList.all λo=>kx P e d o.op)=true
  .rw[dj h,abO,dj h]
  .rw[bd h];by_cases n:(i.toList.all λo=>kx P e d o.op||nX e d o.op)=true
   .rw[dj n,abO];have p:((i.map (nY e d l)).toList.all λo=>kx P e d o.op)=i.toList.all λo=>kx P e d o.op:=by
     rw[pZ,List.all_map];congr 1;funext o;simp only[Function.comp,ama]
    have q:((i.map (nY e d l)).toList.all λo=>kx P e d o.op||nX e d o.op)=i.toList.all λo=>kx P e d o.op||nX e d o.op:=by
     rw[pZ,List.all_map];congr 1;funext o;simp only[Function.comp,ama]
    rw[p,q,bd h,dj n,Array.map_map];exact ef (λg=>Code.region id (Array.map g i) draw) (funext λo=>anv e d l o)
   .rw[bd n];rfl
 |seq a b k j=>rw[apH,apH,k,j]
 |cond c a b k j=>
  rw[amb];by_cases h:bD e d c=true
  .rw[dj h,amb,dj h,k,j]
  .rw[bd h];rfl
 |rangeFunc f r a b k j=>
  rw[ah9];by_cases h:bD e d f=true
  .rw[dj h,ah9,dj h,k,j]
  .rw[bd h];rfl
 |block id a m=>exact ef (Code.block id) m
 |loop a m=>exact ef Code.loop m
 |scope a m=>exact ef Code.scope m
 |_=>rfl
def asq(c:Code):gP (gP c)=gP c:=by unfold gP;exact aki _ _ _ _ c
def ay0:eO prog (alw prog) gL lv=true:=by unfold gL;kernel_rfl
def ay1:eO prog (alw prog) gL iV=true:=by unfold gL;kernel_rfl
def apI{c:Code}(h:eO prog (alw prog) gL c=true):gP c=c:=by
 have e:gA=alw prog:=by unfold gA;rfl
 unfold gP;rw[e];exact ahg _ _ _ _ c h
section
variable (β:Bool)
def apJ{c:Code}(h:(aj β).funcs[f]?=some fn)(a:fn.body=some c):gP c=c:=by
 by_cases d:f=nCC
 .subst d;rw[abA] at h;obtain rfl:=de h;obtain rfl:lv=c:=de a;exact apI ay0
 by_cases b:f=bX
 .subst b;rw[abB] at h;obtain rfl:=de h;cases β with
  |true=>obtain rfl:iV=c:=de a;exact apI ay1
  |false=>obtain rfl:Code.refuse "" =c:=de a;exact apI rfl
 rw[ajt β d b] at h;obtain⟨j,k,rfl⟩:=ga.1 h;have e:j.body.map gP=some c:=a;obtain⟨i,g,rfl⟩:=ga.1 e;exact asq i
def asr(f:FuncId)(fn:Func)(h:(aj β).funcs[f]?=some fn):∃a,(aj β).funcs[f]?=some a/\FnR (gH f) fn a:=by
 obtain⟨g,e,d⟩:=agi β f fn h;exact⟨fn,h,rfl,d.awt,rfl,rfl,rfl,λ_=>rfl,λc b=>⟨c,b,λ_=>(apJ β h b).symm⟩⟩
def agF:Twin (aj β) (aj β) where
 info _:=rfl
 under _:=rfl
 rt:=rfl
 depth:=rfl
 globals:=⟨(kh β).globals.1,(kh β).globals.1⟩
 zero:=(kh β).zero
 stood _:=rfl
 atG:=rfl
 cellAt _ _ _ _ _:=rfl
 lies _ _ _ _ _ _:=rfl
 ajf _ _:=rfl
 follows _:=rfl
 pc:=(kh β).pc
 arp:=(kh β).arp
 func:=asr β
 ahj:=rfl
 lu:=(kh β).lu
def avv:aho (aj β) (aj β):=λf k c i l p a j h=>by
 obtain⟨q,b,o⟩:=agi β f k c;obtain rfl:=o.none i;have g:=(db.1 b).1;have d:=ip.1 adC f (ph.2 g);have d:=afe b d;have n:alw prog f=true:=by
  have:gA f=alw prog f:=by unfold gA;rfl
  rw[<-this];exact l
 rw[n,i] at d;simp only[un,sA,um,tM,qs,mT] at d;rcases d with rfl|rfl
 .have e:=b.symm.trans func210;obtain rfl:=de e;exact aaF c c alI alI (cu func210) (cu func210) alK alK alL alL (λm a j h=>aaE (agF β) _ _ h) h
 .have e:=b.symm.trans func226;obtain rfl:=de e;exact aaF c c alJ alJ (cu func226) (cu func226) ab9 ab9 alM alM (λm a j h=>ab8 h) h
def ad5{a : Array Value}(i:cM ρ a U):FrR (aj β) ρ (Frame.enter (aj β) f a .normal) (Frame.enter (aj β) f U .normal):=by
 have j:∀n,cM ρ (a++Array.replicate (n-a.size) undef) (U++Array.replicate (n-U.size) undef):=λn=>by
  rw[i.size];exact cM.app i (bG.jf λv g=>by simp at g;rw[g.2];exact VR.undef)
 cases d:(aj β).funcs[f]? with
 |none=>
  unfold Frame.enter;rw[d];exact⟨rfl,j _,aaz (agF β) _,.nil,.inl ⟨rfl,rfl⟩,⟨rfl,rfl⟩,.none⟩
 |some b=>
  unfold Frame.enter;rw[d];refine⟨rfl,j _, ?_,.nil,.inl ⟨rfl,rfl⟩,⟨rfl,rfl⟩,.none⟩;show iI (aj β) ρ [.code (b.body.getD _)] [.code (b.body.getD _)];cases k:b.body with
  |none=>exact aaz (agF β) _
  |some c=>
   have e:gP c=c:=apJ β d k;have:ItR (aj β) ρ (.code (gP c)) (.code c):=.code c;rw[e] at this;exact .cons this .nil
def avw(h:GoR (aj β) (aj β) ρ l l'):gz (aj β) ρ l l':=by
 rcases h with h|⟨f,a,d,m,e, -,c,b,rfl,rfl⟩
 .exact h
 .exact .cons (ad5 β c) b
def ay2{R:List Frame->World->Prop}(m:GlR ρ){c:Cfg}(m':Bool)(q:gz (aj β) ρ c.l l')(i:WR ρ c.w w')(n:¬mN c.l)(o:iY (aj β) R c) :
  ∃e d a f g b,adB (aj β) c e/\iY (aj β) R e/\ρ.Le d/\(∀base,stepG (aj β) m' (Gl l' base) w'=.go (Gl a base) f b)/\WR d e.w f/\Kept ρ d c.w w' e.w f/\EvW c.w d g b/\gz (aj β) d e.l a:=by
 obtain⟨e,d,a,f,g,b,s,k,l,r,u,p,t,j⟩:=sim (agF β) (avv β) m m' q i n o;exact⟨e,d,a,f,g,b,s,k,l,r,u,p,t,avw β j⟩
end
end
section
open Go.Conc Go.ConcN Go.RowKit Go.Lib
def dz{β : Type}{s:Sem V}{f:V->Sem β}{v:β}(h:(Bind.bind s f).run P w=.ok v w2):∃a b,s.run P w=.ok a b/\(f a).run P b=.ok v w2:=by
 have h:(s.bind f).run P w=.ok v w2:=h;rw[qh] at h;cases c:s.run P w with
 |ok a b=>rw[c] at h;exact⟨a,b,rfl,h⟩
 |halt q b=>rw[c] at h;cases h
def NoV(P:Program)(w:World)(A:Addr):Prop:=(∀s a,(viewAt A.block).run P w ≠ .ok (some s) a)/\(w.cell? A=none->(∀b,∃e,w.farLoad P A b=.error e)/\∀v b,∃e,w.farStore P A v b=.error e)
def apK{m:String}{v:V}:(runtimePanic (.error m):Sem V).run P w ≠ .ok v w2:=by
 intro h;unfold runtimePanic at h;simp[goPanic] at h
structure CcT (P:Program):Prop where
 u:P.underlying 225=some (.pointer 227)
 up:P.underlying 212=some .unsafePointer
 i6:∃i,P.info? 225=some i/\i.size=1
 i8:∃i,P.info? 227=some i/\i.size=2/\i.bytes<1000
 f:∃fs g,P.underlying 227=some (.struct fs)/\fs[0]?=some g/\g.offset=0/\g.type=225
section
variable {P:Program} (T:CcT P) {w w2:World} {x v:Value}
include T
theorem apL{y:Value}(D:y=.int .i64 1)(j:∀A,x=.pointer (some A)->NoV P w A)(h:(Builtin.unsafeSlice_ #[225,3] 0 #[x,y]).run P w=.ok v w2) :
  w2=w/\∃A e n,x=.pointer (some A)/\w.shape? A.block=some (e,n)/\liesAt P P.depth e (n / P.cellsOf e) A.off 227 1=true:=by
 obtain⟨i,u,t,F⟩:=T.i8;have o:¬IntKind.i64.max<1:=by decide
 have g:¬18446744073709551616<=i.bytes:=by omega
 have c:∃l,l=[x,y]:=⟨_,rfl⟩;obtain⟨l,c⟩:=c;replace h:(Builtin.unsafeSlice_ #[225,3] 0 ⟨l⟩).run P w=.ok v w2:=by rw[c];exact h
 unfold Builtin.unsafeSlice_ at h;cases l with
 |nil=>cases c
 |cons a l=>
  cases l with
  |nil=>cases c
  |cons b l=>
   cases l with
   |cons=>cases c
   |nil=>
    injection c with E k
    injection k with k G
    cases a with
    |pointer a=>
     subst E k;subst D;obtain⟨n,C,r,B⟩:=dz (s:=asInt (.int .i64 1)) h;clear h;obtain⟨rfl,rfl⟩:(1:Int)=n/\w=C:=by simpa[asInt,asIntOf] using r
     obtain⟨e,f,p,h⟩:=dz (s:=elemOf 225) B;clear B;obtain⟨rfl,rfl⟩:227=e/\w=f:=by simpa[elemOf,li T.u] using p
     clear r p;cases a with
     |none=>
      simp[o] at h;exact absurd h apK
     |some A=>
      have j:=(j A rfl).1;cases m:w.shape? A.block with
      |none=>
       simp[o,g,typeInfo,sizeOf,u,t,variablesAt,m] at h;cases d:(viewAt A.block).run P w with
       |halt q f=>rw[d] at h;cases h
       |ok z f=>
        cases z with
        |some z=>exact absurd d (j _ _)
        |none=>rw[d] at h;cases h
      |some z=>
       obtain⟨e,n⟩:=z;simp[o,g,typeInfo,sizeOf,u,t,variablesAt,m] at h;by_cases c:liesAt P P.depth e (n / P.cellsOf e) A.off 227 1=true
       .simp only[c,mw,rM] at h;exact⟨h.2.symm,A,e,n,rfl,m,c⟩
       .simp only[c,pX,fa] at h;cases d:(viewAt A.block).run P w with
        |halt q f=>rw[d] at h;cases h
        |ok z f=>
         cases z with
         |some z=>exact absurd d (j _ _)
         |none=>rw[d] at h;cases h
    |_=>cases(show Result.halt _ _=Result.ok v w2 from h)
theorem apM(A:Addr):(Instr.fieldAt 227 (.pointer (some A)) 0).run P w=.ok (.pointer (some A)) w:=by
 obtain⟨j,g,c,a,d,b⟩:=T.f;obtain⟨i,e,f⟩:=T.i6;simp[Instr.fieldAt,Instr.sureAddr,li c,a,fieldPlace,sizeOf,typeInfo,b,e,f,d,Addr.add]
theorem ass(b:NoV P w A)(h:(Instr.loadAt 225 (.pointer (some A))).run P w=.ok v w2):w2=w/\w.cell? A=some v:=by
 have h:(Sem.load .plain A Sem.pure).run P w=.ok v w2:=by simpa[Instr.loadAt,Instr.sureAddr,loadVar,isAgg,li T.u,load] using h
 unfold Sem.run at h;cases a:w.cell? A with
 |some u=>
  simp only[a,Sem.run,rM] at h;exact⟨h.2.symm,by rw[h.1]⟩
 |none=>
  obtain⟨e,c⟩:=(b.2 a).1 (Mode.plain ==.atomic);simp only[a,c] at h;cases h
theorem apN{u:Option Addr}{r:Unit}(c:NoV P w A)(h:(Instr.storeAt 225 (.pointer (some A)) (.pointer u)).run P w=.ok r w2):w2=w.setCell A (.pointer u)/\w.frozen? A=false/\∃v,w.cell? A=some v:=by
 obtain⟨i,f,g⟩:=T.i6;have h:(Sem.store .plain A (.pointer u) (Sem.pure ())).run P w=.ok r w2:=by
  simpa[Instr.storeAt,Instr.sureAddr,storeVar,sizeOf,typeInfo,f,g,Value.cells,storeCells,store,Addr.add] using h
 unfold Sem.run at h;cases a:w.cell? A with
 |some v=>
  simp only[a] at h;cases b:w.frozen? A with
  |true=>rw[b] at h;cases h
  |false=>
   rw[b] at h;simp only[fa,pX,Sem.run,rM] at h;exact⟨h.2.symm,rfl,v,rfl⟩
 |none=>
  obtain⟨e,d⟩:=(c.2 a).2 (.pointer u) (Mode.plain ==.atomic);simp only[a,d] at h;cases h
theorem avx{b:Value}(h:(binOp .eql 225 v (.pointer none)).run P w=.ok b w2):w2=w/\((v=.pointer none/\b=.bool true)\/∃B,v=.pointer (some B)/\b=.bool false):=by
 have i:∀(d:Nat) (a:Option Addr),(Op.equalIn (d+1) 225 (.pointer a) (.pointer none)).run P w=.ok a.isNone w:=λd a=>by
  cases a<;>simp[Op.equalIn,li T.u]
 have j:∀(d:Nat) (r:Bool) (c:World),(∀a,v ≠ .pointer a)->(Op.equalIn (d+1) 225 v (.pointer none)).run P w ≠ .ok r c:=λd r c l=>by
  cases v with
  |pointer a=>exact absurd rfl (l a)
  |_=>simp[Op.equalIn,li T.u,stuck]
 simp only[binOp] at h;by_cases g:∃a,v=.pointer a
 .obtain⟨a,rfl⟩:=g;simp[Op.equal,Op.maxDepth,i 9999] at h;refine⟨h.2.symm, ?_⟩;cases a with
  |none=>exact .inl ⟨rfl,h.1.symm⟩
  |some B=>exact .inr ⟨B,rfl,h.1.symm⟩
 .exfalso;have f:∀a,v ≠ .pointer a:=λa e=>g ⟨a,e⟩;obtain⟨r,c,k, -⟩:=dz h;exact j 9999 r c f k
end
end
section
open Go.Conc Go.ConcN
def axb:(prog.info? 225).map (·.size ==1)=some true:=by kernel_rfl
def axc:(prog.info? 227).map (λi=>i.size ==2&&decide (i.bytes<1000))=some true:=by kernel_rfl
def axd:prog.underlying 225=some (.pointer 227):=by kernel_rfl
def axe:prog.underlying 212=some .unsafePointer:=by kernel_rfl
def axf:(match prog.underlying 227 with
 |some (.struct fs)=>(match fs[0]? with
  |some g=>g.offset ==0&&g.type ==225
  |none=>false)
 |_=>false)=true:=by kernel_rfl
def ccT:CcT prog where
 u:=axd
 up:=axe
 i6:=by
  obtain⟨i,c,a⟩:=ga.1 axb;exact⟨i,c,by simpa using a⟩
 i8:=by
  obtain⟨i,c,a⟩:=ga.1 axc;simp only[eg,mT,ql] at a;exact⟨i,c,a⟩
 f:=by
  have h:=axf;generalize prog.underlying 227=q at h;cases q with
  |none=>cases h
  |some d=>
   cases d with
   |struct e=>
    dsimp only at h;cases b:e[0]? with
    |none=>rw[b] at h;cases h
    |some g=>
     rw[b] at h;simp only[eg,mT] at h;exact⟨e,g,rfl,b,h⟩
   |_=>cases h
def ccQ(β:Bool):CcT (aj β) where
 u:=(cA prog _ 225).trans ccT.u
 up:=(cA prog _ 212).trans ccT.up
 i6:=let⟨i,h,k⟩:=ccT.i6;⟨i,(iW prog _ 225).trans h,k⟩
 i8:=let⟨i,h,k⟩:=ccT.i8;⟨i,(iW prog _ 227).trans h,k⟩
 f:=let⟨a,g,h,k⟩:=ccT.f;⟨a,g,(cA prog _ 227).trans h,k⟩
def WR.noV(h:WR ρ w w'){a : Addr}(f:AR ρ a A):NoV P w' A:=by
 obtain⟨d,o,s⟩:=f;obtain⟨x,j,i,b,c⟩:=h.obj d;refine⟨λs g=> ?_,λk=> ?_⟩
 .intro e;unfold viewAt at e;cases c<;>simp[World.shape?,b,shape,getObj,Sem.run] at e
 .unfold World.farLoad World.farStore;simp only[b];cases c<;>exact⟨λ_=>⟨_,rfl⟩,λ_ _=>⟨_,rfl⟩⟩
section
variable {β m:Bool} {fr:Frame} {xs base:List Frame} {ops:Array Oper} {i:Nat} {rest:List Nat} {k:List Item} {o:Oper} {w w2:World} {l2:List Frame} {es:Array Event}
def wS (I:fr.mode=.run) (F:fr.kind=.normal) (n:fr.roundOf=none) (E:fr.todo=.inRegion ops (i::rest)::k) (Q:ops[i]?=some o) (M:o.guard=none)
  (a:stepG (aj β) m (Gl (fr::xs) base) w=.go (Gl l2 base) w2 es) (e:∀y j,l2=y::j->(y.mode=.run\/y.mode=.returning)/\y.kind=.normal) (D:l2≠[])
  (H:∀p l,(execOp fr.eval o).run (aj β) w=.ok p l->(∃v,p=.value v)\/p=.skip) :
  (∃v,(execOp fr.eval o).run (aj β) w=.ok (.value v) w2/\l2=fr.finish v::xs)\/((execOp fr.eval o).run (aj β) w=.ok .skip w2/\l2=fr.finish undef::xs):=by
 obtain⟨x,b,J,t,W,V,U⟩:=fr;dsimp only at I F n E;subst I F n E;have P:∀y,Region.wanted o y=true:=λy=>by unfold Region.wanted;rw[M]
 have R:stepG (aj β) m (Gl (⟨x,b,.inRegion ops (i::rest)::k,t,.run,.normal,none⟩::xs) base) w =
   stepG.apply (aj β) true ⟨x,b,.inRegion ops (i::rest)::k,t,.run,.normal,none⟩ (xs++base) none (execOp (Frame.eval ⟨x,b,.inRegion ops (i::rest)::k,t,.run,.normal,none⟩) o) w:=by
  simp[Gl,stepG,stepG.exec,stepG.oper,Frame.oper?,Q,P]
 rw[R] at a;generalize execOp (Frame.eval ⟨x,b,.inRegion ops (i::rest)::k,t,.run,.normal,none⟩) o=s at a H ⊢;have f:(CallKind.normal ==CallKind.early)=false:=rfl;cases A:s.runT (aj β) w #[] with
 |mk r O=>
  have d:s.run (aj β) w=r:=by rw[<-qD _ _ _ #[],A]
  cases r with
  |ok p l=>
   rcases H p l d with⟨v,rfl⟩|rfl
   .unfold stepG.apply at a;simp only[A,mw] at a;simp[GStep.after,f] at a;obtain⟨C,B, -⟩:=a;refine .inl ⟨v,by rw[d,B], ?_⟩;exact(lA (base:=base) (by simp) D (by rw[<-C];rfl)).symm
   .unfold stepG.apply at a;simp only[A,mw] at a;simp[GStep.after,f] at a;obtain⟨C,B, -⟩:=a;refine .inr ⟨by rw[d,B], ?_⟩;exact(lA (base:=base) (by simp) D (by rw[<-C];rfl)).symm
  |halt q l=>
   exfalso;obtain⟨y,j,rfl⟩:∃y j,l2=y::j:=by cases l2 with|nil=>exact absurd rfl D|cons y j=>exact⟨y,j,rfl⟩
   obtain⟨e,L⟩:=e y j rfl;unfold stepG.apply at a;simp only[A,mw] at a;cases q with
   |unsupported u=>
    cases u with
    |initOrder g=>
     have S:=(kh β).lu.1;have T:=(kh β).lu.2;simp[f,early,S,T,GStep.after] at a
    |_=>simp[GStep.after] at a
   |panic v=>simp[GStep.after,Gl] at a;obtain⟨⟨rfl, -⟩, -⟩:=a;rcases e with h|h<;>simp[Frame.raise] at h
   |goexit=>simp[GStep.after,Gl] at a;obtain⟨⟨rfl, -⟩, -⟩:=a;rcases e with h|h<;>simp[Frame.raise] at h
   |blocked=>simp[GStep.after,Gl] at a
   |waiting=>simp[GStep.after,Gl] at a
   |exit c=>simp[GStep.after] at a
   |stuck c=>simp[GStep.after] at a
   |throw K=>simp[GStep.after,endThrow,dieOf,Gl] at a
   |fatal K=>
    dsimp only at a;unfold endFatal at a;dsimp only at a;generalize Sem.run (aj β) _ l=z at a;cases z with
    |ok G N=>simp[GStep.after,dieOf,Gl] at a
    |halt G N=>cases G<;>simp[GStep.after] at a
end
structure fM (β:Bool) (R:List Frame->World->Prop) (c0:Cfg) (gi:Ren) (w0:World) (c:Cfg) (ρ:Ren) (l:List Frame) (w:World):Prop where
 later:c=c0\/gh (aj β) c c0
 le:gi.Le ρ
 st:gz (aj β) ρ c.l l
 wr:WR ρ c.w w
 gl:GlR ρ
 will:iY (aj β) R c
 kept:Kept gi ρ c0.w w0 c.w w
section
variable {β:Bool} {R:List Frame->World->Prop} {c0 c:Cfg} {gi ρ:Ren} {w0 w w2:World} {l l2:List Frame}
def gz.two(h:gz P ρ l l')(e:l'=x::y::Y):¬mN l:=λ⟨b,a,_⟩=>by
 have:=h.lone a e;cases this
def fM.ab9(h:fM β R c0 gi w0 c ρ l w)(m:Bool)(q:¬mN c.l) :
  ∃a d f b n,fM β R c0 gi w0 a d f b/\gh (aj β) a c0/\ρ.Le d/\(∀base,stepG (aj β) m (Gl l base) w=.go (Gl f base) b n)/\adB (aj β) c a:=by
 obtain⟨a,d,f,b,n,j,i,p,g,s,t,r,u,o⟩:=ay2 β h.gl m h.st h.wr q h.will;have k:gh (aj β) a c0:=h.later.elim (λe=>e ▸ .single i) λx=>sj (.single i) x;exact⟨a,d,f,b,j,⟨.inr k,h.le.trans g,o,t,h.gl.mono g,p,h.kept.trans r⟩,k,g,s,i⟩
def fM.next(h:fM β R c0 gi w0 c ρ l w)(m:Bool)(e:l=x::y::Y) :
  ∃f b d a g,fM β R c0 gi w0 f b d a/\gh (aj β) f c0/\ρ.Le b/\∀base,stepG (aj β) m (Gl l base) w=.go (Gl d base) a g:=
 let⟨f,b,d,a,g,n,i,j,k,_⟩:=h.ab9 m (h.st.two e);⟨f,b,d,a,g,n,i,j,k⟩
def fM.go(h:fM β R c0 gi w0 c ρ l w)(e:l=x::y::Y)(m:Bool){x2:Frame}{xs2:List Frame}(i:∀base,stepG (aj β) m (Gl l base) w=.go (Gl (x2::xs2) base) w2 es) :
  ∃b a,fM β R c0 gi w0 b a (x2::xs2) w2/\gh (aj β) b c0/\ρ.Le a:=by
 obtain⟨b,a,k,r,s,d,f,g,n⟩:=h.next m e
 have:=n [];rw[i []] at this;injection this with j q u
 obtain⟨_,_,t,o,_,p⟩:=d.st.ne';have:x2::xs2=k:=lA (base:=[]) (by simp) (by rw[p];simp) j;subst this q;exact⟨b,a,d,f,g⟩
def fM.no(h:fM β R c0 gi w0 c ρ l w)(e:l=x::y::Y)(m:Bool){o:Outcome}(b:stepG (aj β) m (Gl l []) w=.ended o w2):False:=by
 obtain⟨p,n,g,d,f,j,i,k,a⟩:=h.next m e
 have:=a [];rw[b] at this;cases this
abbrev FQ(f:FuncId)(T:Array Value)(k:List Item):Frame:=⟨f,T,k,[],.run,.normal,none⟩
abbrev FC(T:Array Value)(k:List Item):Frame:=FQ nCC T k
def gz.hdL   :gz P ρ l l'->∀{y a},l=y::a->(y.mode=.run\/y.mode=.returning)/\y.kind=.normal
 |.one hx _,_,_,e=>by cases e;exact⟨hx.mode.elim (λy=>.inl y.1) (λy=>.inr y.1),hx.kind.1⟩
 |.cons hx _,_,_,e=>by cases e;exact⟨hx.mode.elim (λy=>.inl y.1) (λy=>.inr y.1),hx.kind.1⟩
def fM.anw {T:Array Value}       (h:fM β R c0 gi w0 c ρ (FQ f T (.inRegion Z (i::rest)::k)::y::Y) w)
  (A:Z[i]?=some o) (X:o.guard=none) (r:nX gA gL o.op=false) (t:Tmp) (d:∀(e:Operand->Value) (w:World),e (.tmp t)=.tuple #[]->∀q S,(execOp e o).run (aj β) w ≠ .ok q S) :
  ∃x,VR ρ x (T.getD t undef)/\x ≠ .tuple #[]:=by
 obtain⟨c1,σ,l1,w1,es,F, -, -, -,hR⟩:=h.ab9 true (h.st.two rfl);obtain⟨E,a0,_,_,C,e2⟩:=h.st.ne';have I:=h.st;rw[C] at I;have G:=I.head;have N:VR ρ (E.eval (.tmp t)) (T.getD t undef):=G.env h.gl (.tmp t) rfl;refine⟨_,N,λp=> ?_⟩;obtain⟨x1,U,_,_,e3,_⟩:=F.st.ne';obtain⟨a1,a⟩:=hR.step;have a:=a [] c1.t λ_ _ _=>rfl;rw[C] at a;obtain⟨fn,P,D,ds,K,kd,V⟩:=E;obtain⟨L,O,J,Q,B,H,u⟩:=G;dsimp only at L O J Q B H u;obtain rfl:K=.run:=B.elim (·.1) λx=>by cases x.2
 obtain rfl:V=none:=by cases u;rfl
 cases J with
 |cons x hl=>
  cases x with
  |@inRegion g _ z l=>
   have M:i<g.size:=by rw[z.1];exact(db.1 A).1
   have b:g[i]?=some o:=by
    obtain⟨s,b⟩:∃s,g[i]?=some s:=⟨_,ff M⟩;rcases z.2 i s o b A with⟨rfl,_⟩|⟨n,_⟩
    .exact b
    .rw[r] at n;cases n
   have hq:=wS (β:=β) (m:=true) (fr:=⟨fn,P,_,ds,.run,kd,none⟩) rfl H.1 rfl rfl b X a (λy Y e=>F.st.hdL e) (by rw[e3];simp) (λq W j=>absurd j (d _ _ p q W));rcases hq with⟨v,j,_⟩|⟨j,_⟩
   .exact d _ _ p _ _ j
   .exact d _ _ p _ _ j
def fM.op {T:Array Value}       (h:fM β R c0 gi w0 c ρ (FQ f T (.inRegion Z (i::rest)::k)::y::Y) w)
  (p:Z[i]?=some o) (s:o.guard=none) (u:∀m r,(execOp (FQ f T (.inRegion Z (i::rest)::k)).eval o).run (aj β) w=.ok m r->(∃v,m=.value v)\/m=.skip) :
  ∃v a j g,((execOp (FQ f T (.inRegion Z (i::rest)::k)).eval o).run (aj β) w=.ok (.value v) a\/((execOp (FQ f T (.inRegion Z (i::rest)::k)).eval o).run (aj β) w=.ok .skip a/\v=undef))/\
   fM β R c0 gi w0 j g (FQ f (match o.dst with|some d=>T.setIfInBounds d v|none=>T) (.inRegion Z rest::k)::y::Y) a/\ρ.Le g:=by
 obtain⟨j,g,D,a,C,b,A,q,t⟩:=h.next true rfl
 obtain⟨_,_,B,x,_,z⟩:=b.st.ne';have n:∀v,Frame.finish (FQ f T (.inRegion Z (i::rest)::k)) v=FQ f (match o.dst with|some d=>T.setIfInBounds d v|none=>T) (.inRegion Z rest::k):=λv=>by
  simp only[Frame.finish,p,pY];cases o.dst<;>rfl
 rcases wS (base:=[]) rfl rfl rfl rfl p s (t []) (λy Y e=>b.st.hd e) (by rw[z];simp) u with⟨v,l,rfl⟩|⟨l,rfl⟩
 .rw[n] at b;exact⟨v,a,j,g,.inl l,b,q⟩
 .rw[n] at b;exact⟨undef,a,j,g,.inr ⟨l,rfl⟩,b,q⟩
section
variable {T:Array Value} {k:List Item} {y:Frame} {ys:List Frame}
def fM.seq(h:fM β R c0 gi w0 c ρ (FC T (.code (.seq a b)::k)::y::ys) w):∃e d,fM β R c0 gi w0 e d (FC T (.code a :: .code b::k)::y::ys) w/\ρ.Le d:=by
 obtain⟨e,d,g, -,f⟩:=h.go rfl true (es:=#[]) (x2:=FC T (.code a :: .code b::k)) (xs2:=y::ys) (w2:=w) λbase=>by simp[Gl,stepG,stepG.exec]
 exact⟨e,d,g,f⟩
def fM.region{id:Nat}(h:fM β R c0 gi w0 c ρ (FC T (.code (.region id Z false)::k)::y::ys) w):∃b a,fM β R c0 gi w0 b a (FC T (.inRegion Z (List.range Z.size)::k)::y::ys) w/\ρ.Le a:=by
 obtain⟨b,a,e, -,d⟩:=h.go rfl true (es:=#[]) (x2:=FC T (.inRegion Z (List.range Z.size)::k)) (xs2:=y::ys) (w2:=w) λbase=>by simp[Gl,stepG,stepG.exec]
 exact⟨b,a,e,d⟩
def fM.gY(h:fM β R c0 gi w0 c ρ (FC T (.inRegion Z []::k)::y::ys) w):∃b a,fM β R c0 gi w0 b a (FC T k::y::ys) w/\ρ.Le a:=by
 obtain⟨b,a,d, -,e⟩:=h.go rfl true (es:=#[]) (x2:=FC T k) (xs2:=y::ys) (w2:=w) λbase=>by simp[Gl,stepG,stepG.exec]
 exact⟨b,a,d,e⟩
def fM.skip(h:fM β R c0 gi w0 c ρ (FC T (.code .skip::k)::y::ys) w):∃b a,fM β R c0 gi w0 b a (FC T k::y::ys) w/\ρ.Le a:=by
 obtain⟨b,a,d, -,e⟩:=h.go rfl true (es:=#[]) (x2:=FC T k) (xs2:=y::ys) (w2:=w) λbase=>by simp[Gl,stepG,stepG.exec]
 exact⟨b,a,d,e⟩
def fM.cond(f:T.getD t undef=.bool q)(h:fM β R c0 gi w0 c ρ (FC T (.code (.cond (.tmp t) a b)::k)::y::ys) w):∃e d,fM β R c0 gi w0 e d (FC T (.code (if q then a else b)::k)::y::ys) w/\ρ.Le d:=by
 have g:Frame.eval (FC T (.code (.cond (.tmp t) a b)::k)) (.tmp t)=.bool q:=f;obtain⟨e,d,j, -,i⟩:=h.go rfl true (es:=#[]) (x2:=FC T (.code (if q then a else b)::k)) (xs2:=y::ys) (w2:=w) λbase=>by simp[Gl,stepG,stepG.exec,g]
 exact⟨e,d,j,i⟩
def fM.ret(h:fM β R c0 gi w0 c ρ (FC T (.code .ret::k)::y::ys) w):∃d b,fM β R c0 gi w0 d b (y.finish (.tuple #[])::ys) w/\ρ.Le b/\gh (aj β) d c0:=by
 obtain⟨d,b,l, -,g⟩:=h.go rfl true (es:=#[]) (x2:=⟨nCC,T,.code .ret::k,[],.returning,.normal,none⟩) (xs2:=y::ys) (w2:=w) λbase=>by simp[Gl,stepG,stepG.exec]
 have f:(aj β).funcs[nCC]?=some qCC:=abA β;have a:qCC.results=#[]:=rfl;obtain⟨e,n,o,i,m⟩:=l.go rfl true (es:=#[]) (x2:=y.finish (.tuple #[])) (xs2:=ys) (w2:=w) λbase=>by
  have j:(results qCC T).runT (aj β) w #[]=(.ok (.tuple #[]) w,#[]):=by
   simp[results,a,Sem.runT]
  simp only[Gl,stepG,unwind,f,j];simp[doReturn,GStep.after,seen]
 exact⟨e,n,o,g.trans m,i⟩
end
end
section
variable {β:Bool} {R:List Frame->World->Prop} {c0 c:Cfg} {gi ρ:Ren} {w0 w w2:World} {T:Array Value} {k:List Item} {y:Frame} {ys:List Frame}
def fM.noV(h:fM β R c0 gi w0 c ρ (FC T k::y::ys) w)(e:T.getD t undef=.pointer (some A))(b:∃x,VR ρ x (T.getD t undef)/\x ≠ .tuple #[]):(∃d,AR ρ d A)/\NoV (aj β) w A:=by
 obtain⟨x,b,f⟩:=b;rw[e] at b;cases b with
 |pointer a=>cases a with
  |some a=>exact⟨⟨_,a⟩,h.wr.noV a⟩
 |eL=>exact absurd rfl f
def aD{T:Array Value}{d t:Nat}(a:d<T.size):(T.setIfInBounds d v).getD t undef=if t=d then v else T.getD t undef:=by
 rw[fi,fi,oR];by_cases e:d=t
 .subst e;simp[a]
 .rw[bd e,bd (λx=>e x.symm)]
def eqG{x y:Operand} :eqGuard .eql 225 x y v (.pointer none)=Sem.pure ():=by
 unfold eqGuard;cases v<;>rfl
def fM.slice(h:fM β R c0 gi w0 c ρ (FC T (.inRegion mO (0::rest)::k)::y::ys) w) :
  ∃A e n q i,T.getD 0 undef=.pointer (some A)/\(∃x,AR ρ x A)/\w.shape? A.block=some (e,n)/\liesAt (aj β) (aj β).depth e (n / (aj β).cellsOf e) A.off 227 1=true/\fM β R c0 gi w0 q i (FC T (.inRegion mO rest::k)::y::ys) w/\ρ.Le i:=by
 have a:∀d g,(execOp (FC T (.inRegion mO (0::rest)::k)).eval (fY none (.call ⟨.builtin .unsafeSlice,#[.tmp 0,.const (.int .i64 1)],#[225,3]⟩) 0)).run (aj β) w=.ok d g->
   ∃v,(Builtin.unsafeSlice_ #[225,3] 0 #[T.getD 0 undef,.int .i64 1]).run (aj β) w=.ok v g/\d=.value v:=λd g b=>by
  have j:execOp (FC T (.inRegion mO (0::rest)::k)).eval (fY none (.call ⟨.builtin .unsafeSlice,#[.tmp 0,.const (.int .i64 1)],#[225,3]⟩) 0) =
    (Builtin.unsafeSlice_ #[225,3] 0 #[T.getD 0 undef,.int .i64 1]).bind λv=>Sem.pure (.value v):=by
   have p:Array.map (FC T (.inRegion mO (0::rest)::k)).eval #[.tmp 0,.const (.int .i64 1)]=#[T.getD 0 undef,.int .i64 1]:=by simp[Frame.eval]
   simp only[execOp,fY,resolve];rw[p];rfl
  rw[j] at b;obtain⟨v,z,f,l⟩:=dz (s:=Builtin.unsafeSlice_ #[225,3] 0 #[T.getD 0 undef,.int .i64 1]) b;cases(show Result.ok (Next.value v) z=Result.ok d g from l);exact⟨v,f,rfl⟩
 obtain⟨v,B,q,i,m,f,l⟩:=h.op (o:=fY none (.call ⟨.builtin .unsafeSlice,#[.tmp 0,.const (.int .i64 1)],#[225,3]⟩) 0) rfl rfl λd g b=>.inl (let⟨v,_,e⟩:=a d g b;⟨v,e⟩);have G:∃u,(Builtin.unsafeSlice_ #[225,3] 0 #[T.getD 0 undef,.int .i64 1]).run (aj β) w=.ok u B:=by
  rcases m with b|⟨b, -⟩
  .obtain⟨u,f, -⟩:=a _ _ b;exact⟨u,f⟩
  .obtain⟨u,f, -⟩:=a _ _ b;exact⟨u,f⟩
 obtain⟨u,E⟩:=G;have r:=h.anw (o:=fY none (.call ⟨.builtin .unsafeSlice,#[.tmp 0,.const (.int .i64 1)],#[225,3]⟩) 0) rfl rfl rfl 0 λe w H d C b=>by
  have j:execOp e (fY none (.call ⟨.builtin .unsafeSlice,#[.tmp 0,.const (.int .i64 1)],#[225,3]⟩) 0)=(Builtin.unsafeSlice_ #[225,3] 0 #[.tuple #[],e (.const (.int .i64 1))]).bind λv=>Sem.pure (.value v):=by
   have p:Array.map e #[.tmp 0,.const (.int .i64 1)]=#[.tuple #[],e (.const (.int .i64 1))]:=by simp[H]
   simp only[execOp,fY,resolve];rw[p];rfl
  rw[j] at b;cases(show Result.halt _ _=Result.ok d C from b)
 obtain⟨rfl,A,e,n,t,D,F⟩:=apL (ccQ β) rfl (λA e=>(h.noV e r).2) E;exact⟨A,e,n,q,i,t,(h.noV t r).1,D,F,f,l⟩
def fM.field(h:fM β R c0 gi w0 c ρ (FC T (.inRegion Z (i::rest)::k)::y::ys) w)(l:Z[i]?=some (fY (some d) (.fieldAddr 227 (.tmp t) 0) 0))(e:T.getD t undef=.pointer (some A)) :
  ∃j g,fM β R c0 gi w0 j g (FC (T.setIfInBounds d (.pointer (some A))) (.inRegion Z rest::k)::y::ys) w/\ρ.Le g:=by
 have a:(execOp (FC T (.inRegion Z (i::rest)::k)).eval (fY (some d) (.fieldAddr 227 (.tmp t) 0) 0)).run (aj β) w=.ok (.value (.pointer (some A))) w:=by
  have:(execOp (FC T (.inRegion Z (i::rest)::k)).eval (fY (some d) (.fieldAddr 227 (.tmp t) 0) 0))=(Instr.fieldAt 227 (T.getD t undef) 0).bind λv=>Sem.pure (.value v):=rfl;rw[this,e,qh,apM (ccQ β)];rfl
 obtain⟨v,o,j,g,f,n,m⟩:=h.op l rfl λq p b=>by rw[a] at b;cases b;exact .inl ⟨_,rfl⟩
 rw[a] at f;rcases f with b|⟨b, -⟩
 .cases b;exact⟨j,g,n,m⟩
 .cases b
def fM.load(h:fM β R c0 gi w0 c ρ (FC T (.inRegion Z (i::rest)::k)::y::ys) w)(x:Z[i]?=some (fY (some d) (.load 225 (.tmp t)) 225))(e:T.getD t undef=.pointer (some A)) :
  ∃v r m,w.cell? A=some v/\fM β R c0 gi w0 r m (FC (T.setIfInBounds d v) (.inRegion Z rest::k)::y::ys) w/\ρ.Le m:=by
 have a:∀g j,(execOp (FC T (.inRegion Z (i::rest)::k)).eval (fY (some d) (.load 225 (.tmp t)) 225)).run (aj β) w=.ok g j->∃v,j=w/\w.cell? A=some v/\g=.value v:=λg j b=>by
  obtain⟨v,n,f,l⟩:=dz (s:=Instr.loadAt 225 (T.getD t undef)) b;rw[e] at f;have z:=h.anw x rfl rfl t λe w B g D b=>by
   obtain⟨v,n,f,l⟩:=dz (s:=Instr.loadAt 225 (e (.tmp t))) b;rw[B] at f;cases(show Result.halt _ _=Result.ok v n from f)
  obtain⟨rfl,p⟩:=ass (ccQ β) (h.noV e z).2 f;cases(show Result.ok (Next.value v) n=Result.ok g j from l);exact⟨v,rfl,p,rfl⟩
 obtain⟨v,C,r,m,o,f,l⟩:=h.op x rfl λg j b=>.inl (let⟨v,_,_,e⟩:=a g j b;⟨v,e⟩);rcases o with b|⟨b, -⟩
 .obtain⟨u,rfl,p,q⟩:=a _ _ b;cases q;exact⟨v,r,m,p,f,l⟩
 .obtain⟨u, -, -,q⟩:=a _ _ b;cases q
def fM.eql(h:fM β R c0 gi w0 c ρ (FC T (.inRegion Z (i::rest)::k)::y::ys) w)(A:Z[i]?=some (fY (some d) (.binOp .eql 225 (.tmp t) (.const (.pointer none)) 225) 4)) :
  ∃b x l,((T.getD t undef=.pointer none/\b=true)\/∃B,T.getD t undef=.pointer (some B)/\b=false)/\fM β R c0 gi w0 x l (FC (T.setIfInBounds d (.bool b)) (.inRegion Z rest::k)::y::ys) w/\ρ.Le l:=by
 have a:∀j g,(execOp (FC T (.inRegion Z (i::rest)::k)).eval (fY (some d) (.binOp .eql 225 (.tmp t) (.const (.pointer none)) 225) 4)).run (aj β) w=.ok j g->
   ∃b,g=w/\((T.getD t undef=.pointer none/\b=true)\/∃B,T.getD t undef=.pointer (some B)/\b=false)/\j=.value (.bool b):=λj g f=>by
  have:(execOp (FC T (.inRegion Z (i::rest)::k)).eval (fY (some d) (.binOp .eql 225 (.tmp t) (.const (.pointer none)) 225) 4))=((eqGuard .eql 225 (.tmp t) (.const (.pointer none)) (T.getD t undef) (.pointer none)).bind λ_=>binOp .eql 225 (T.getD t undef) (.pointer none)).bind λv=>Sem.pure (.value v):=rfl;rw[this,eqG] at f;obtain⟨v,z,r,m⟩:=dz (s:=binOp .eql 225 (T.getD t undef) (.pointer none)) f;obtain⟨rfl,o⟩:=avx (ccQ β) r;cases(show Result.ok (Next.value v) z=Result.ok j g from m);rcases o with⟨p,rfl⟩|⟨B,p,rfl⟩
  .exact⟨true,rfl,.inl ⟨p,rfl⟩,rfl⟩
  .exact⟨false,rfl,.inr ⟨B,p,rfl⟩,rfl⟩
 obtain⟨v,C,x,l,n,r,m⟩:=h.op A rfl λj g f=>.inl (let⟨b,_,_,e⟩:=a j g f;⟨_,e⟩);rcases n with f|⟨f, -⟩
 .obtain⟨u,rfl,o,q⟩:=a _ _ f;cases q;exact⟨u,x,l,o,r,m⟩
 .obtain⟨u, -, -,q⟩:=a _ _ f;cases q
def fM.store    {x:Operand} (h:fM β R c0 gi w0 c ρ (FC T (.inRegion Z (i::rest)::k)::y::ys) w) (r:Z[i]?=some (fY none (.store 225 (.tmp t) x) 0)) {u:Option Addr}
  (e:T.getD t undef=.pointer (some A)) (z:(FC T (.inRegion Z (i::rest)::k)).eval x=.pointer u) :
  ∃n l,w.frozen? A=false/\(∃v,w.cell? A=some v)/\fM β R c0 gi w0 n l (FC T (.inRegion Z rest::k)::y::ys) (w.setCell A (.pointer u))/\ρ.Le l:=by
 have a:∀d f,(execOp (FC T (.inRegion Z (i::rest)::k)).eval (fY none (.store 225 (.tmp t) x) 0)).run (aj β) w=.ok d f->f=w.setCell A (.pointer u)/\w.frozen? A=false/\(∃v,w.cell? A=some v)/\d=.skip:=λd f b=>by
  have:(execOp (FC T (.inRegion Z (i::rest)::k)).eval (fY none (.store 225 (.tmp t) x) 0))=(Instr.storeAt 225 (T.getD t undef) ((FC T (.inRegion Z (i::rest)::k)).eval x)).bind λ_=>Sem.pure .skip:=rfl;rw[this,e,z] at b;obtain⟨v,q,g,j⟩:=dz (s:=Instr.storeAt 225 (.pointer (some A)) (.pointer u)) b;have B:=h.anw r rfl rfl t λe w D d F b=>by
   obtain⟨v,q,g,j⟩:=dz (s:=Instr.storeAt 225 (e (.tmp t)) (e x)) b;rw[D] at g;cases(show Result.halt _ _=Result.ok v q from g)
  obtain⟨rfl,p,m⟩:=apN (ccQ β) (h.noV e B).2 g;cases(show Result.ok Next.skip _=Result.ok d f from j);exact⟨rfl,p,m,rfl⟩
 obtain⟨v,E,n,l,o,g,j⟩:=h.op r rfl λd f b=>.inr (a d f b).2.2.2;rcases o with b|⟨b, -⟩
 .obtain⟨-, -, -,C⟩:=a _ _ b;cases C
 .obtain⟨rfl,p,m, -⟩:=a _ _ b;exact⟨n,l,p,m,g,j⟩
end
abbrev T0C(a:Array Value):Array Value:=a++Array.replicate (20-a.size) undef
section
variable {β:Bool} {R:List Frame->World->Prop} {c0 c:Cfg} {gi ρ:Ren} {w0 w w2:World} {T:Array Value} {k:List Item} {y:Frame} {ys m:List Frame} {a a':Array Value}
def ast:Frame.enter (aj β) nCC a' .normal=FC (T0C a') [.code lv]:=by
 have a:(aj β).funcs[nCC]?=some qCC:=abA β;unfold Frame.enter;rw[a];rfl
def fq(e:W.heap[A.block]?=w.heap[A.block]?):W.cell? A=w.cell? A:=by
 unfold World.cell?;rw[e]
def vX{xs:Array Obj}{f:Obj->Obj}(h:∀o,xs[i]?=some o->f o=o):xs.modify i f=xs:=by
 apply sH;intro j;rw[mt];by_cases e:i=j
 .subst e;rw[dj rfl];cases a:xs[i]? with
  |none=>rfl
  |some o=>simp[h o a]
 .rw[bd e]
def agH{xs:Array Obj}{f g:Obj->Obj}(h:∀o,g (f o)=g o):(xs.modify i f).modify i g=xs.modify i g:=by
 apply sH;intro j;rw[mt,mt,mt];by_cases e:i=j
 .simp only[e,mw,Option.map_map]
  congr 1
  funext o
  exact h o
 .simp only[e,pX]
def agI(h:w.cell? A=some v):w.setCell A v=w:=by
 unfold World.setCell;rw[vX];intro o b;unfold World.cell? at h;rw[b] at h;cases o with
 |cells c t z=>
  cases a:A.spot with
  |some s=>simp[a] at h
  |none=>
   simp[a] at h;simp only[sA,fa,pX]
   congr 1
   apply sH;intro j;rw[oR];by_cases e:A.off=j
   .subst e;rw[dj rfl,h];rw[dj (db.1 h).1]
   .rw[bd e]
 |_=>rfl
def aeS   :(w.setCell A u).setCell A v=w.setCell A v:=by
 unfold World.setCell;dsimp only;rw[agH];intro o;cases o with
 |cells c t z=>
  dsimp only;split
  .rfl
  .simp
 |_=>rfl
def asu(Q:cM gi a a')(O:gz (aj β) gi m (y::ys))(hc:c0.l=Frame.enter (aj β) nCC a .normal::m)(hw:WR gi c0.w w0)(Y:GlR gi)(Z:iY (aj β) R c0) :
  ∃A v e n g σ,(T0C a').getD 0 undef=.pointer (some A)/\w0.shape? A.block=some (e,n)/\liesAt (aj β) (aj β).depth e (n / (aj β).cellsOf e) A.off 227 1=true/\w0.cell? A=some v/\w0.frozen? A=false/\(v=.pointer none\/v=.pointer (some A))/\
   (∃z,AR gi z A)/\(∀E,gi.r E A.block->bm c0.w E->NoB c0.w E->False)/\fM β R c0 gi w0 g σ (y.finish (.tuple #[])::ys) (w0.setCell A (.pointer (some A)))/\gh (aj β) g c0:=by
 have hz:20<=(T0C a').size:=by simp only[T0C,rx,rV];omega
 have h:fM β R c0 gi w0 c0 gi (FC (T0C a') [.code lv]::y::ys) w0:=⟨.inl rfl,.refl _,by rw[hc,<-ast (β:=β)];exact .cons (ad5 β Q) O,hw,Y,Z,Kept.refl _ _ _⟩;generalize T0C a'=T at hz h ⊢;unfold lv at h;obtain⟨g,c,h, -⟩:=h.seq;obtain⟨g,c,h, -⟩:=h.region;have l:List.range mO.size=[0,1,2,3]:=rfl;rw[l] at h;obtain⟨A,e,n,S,p,D,⟨z,U⟩,x,G,h', -⟩:=h.slice;have C:∃z,AR gi z A:=by
  refine⟨z, ?_⟩;obtain⟨l,o,s⟩:=U;rename_i bl br;rcases h.kept.new l with r|⟨_,r⟩
  .exact .mk r o s
  .exfalso;dsimp only at x;simp only[World.shape?] at x;cases j:w0.heap[br]? with
   |none=>rw[j] at x;cases x
   |some q=>have:=(db.1 j).1;omega
 replace h:=h';obtain⟨g,c,h, -⟩:=h.field rfl D;obtain⟨v,g,c,f,h, -⟩:=h.load (A:=A) rfl (by rw[aD (by omega)];rfl);obtain⟨b,g,c,j,h, -⟩:=h.eql rfl;obtain⟨g,c,h, -⟩:=h.gY;obtain⟨g,c,h, -⟩:=h.seq;have X:((T.setIfInBounds 4 (.pointer (some A))).setIfInBounds 5 v).getD 5 undef=v:=by rw[aD (by simp;omega)];rfl
 rw[X] at j;obtain⟨g,c,h, -⟩:=h.cond (q:=b) (by rw[aD (by simp;omega)];rfl);have k:∀{J:Array Value} {S:Cfg} {p:Ren} {w2:World},fM β R c0 gi w0 S p (FC J [.code (.seq (.region 1 age false) .ret)]::y::ys) w2->J.getD 4 undef=.pointer (some A)->J.getD 0 undef=.pointer (some A)->
   ∃w i,w2.frozen? A=false/\fM β R c0 gi w0 w i (y.finish (.tuple #[])::ys) (w2.setCell A (.pointer (some A)))/\gh (aj β) w c0:=λ{J S p w2} h g4 g0=>by
  obtain⟨g,c,h, -⟩:=h.seq;obtain⟨g,c,h, -⟩:=h.region;have l:List.range age.size=[0]:=rfl;rw[l] at h;obtain⟨g,c,H, -,h, -⟩:=h.store (A:=A) (u:=some A) rfl g4 g0;obtain⟨g,c,h, -⟩:=h.gY;obtain⟨g,c,h, -,F⟩:=h.ret;exact⟨g,c,H,h,F⟩
 rcases j with⟨rfl,rfl⟩|⟨B,rfl,rfl⟩
 .simp only[mw] at h;obtain⟨g,c,h, -⟩:=h.skip;obtain⟨w,i,H,h,F⟩:=k h (by rw[aD (by simp;omega),bd (by decide),aD (by simp;omega),bd (by decide),aD (by omega),dj rfl]) (by rw[aD (by simp;omega),bd (by decide),aD (by simp;omega),bd (by decide),aD (by omega),bd (by decide)];exact D);refine⟨A,_,e,n,w,i,D,x,G,f,H,.inl rfl,C,λE r L V=> ?_,h,F⟩;have:=(h.kept.still r L V).2;have W:(w0.setCell A (.pointer (some A))).cell? A=some (.pointer (some A)):=World.cell?_setCell_same _ _ _ f;rw[fq this,f] at W;cases W
 .simp only[pX,fa] at h;obtain⟨g,c,h, -⟩:=h.seq;obtain⟨g,c,h, -⟩:=h.region;have l:List.range ajs.size=[0,1,2,3]:=rfl;rw[l] at h;obtain⟨g,c,h, -⟩:=h.field (A:=B) (t:=5) (d:=7) rfl (by rw[aD (by simp;omega),bd (by decide)];exact X);obtain⟨g,c,N,⟨vB,a0⟩,h, -⟩:=h.store (A:=B) (u:=none) (t:=7) rfl (by rw[aD (by simp;omega)];rfl) rfl;have hk:=h.kept;obtain⟨u,g,c,I,h, -⟩:=h.load (A:=A) (t:=4) (d:=8) rfl (by rw[aD (by simp;omega),bd (by decide),aD (by simp;omega),bd (by decide),aD (by simp;omega),bd (by decide),aD (by omega),dj rfl]);obtain⟨b,g,c,j,h, -⟩:=h.eql (t:=8) (d:=9) rfl;rw[aD (by simp;omega),dj rfl] at j;obtain⟨g,c,h, -⟩:=h.gY;obtain⟨g,c,h, -⟩:=h.cond (q:=b) (by rw[aD (by simp;omega)];rfl);rcases j with⟨rfl,rfl⟩|⟨B',rfl,rfl⟩
  .have P:A=B:=by
    refine pW λK=> ?_;rw[sY _ _ _ _ (λe=>K e.symm),f] at I;cases I
   subst P;simp only[mw] at h;obtain⟨g,c,h, -⟩:=h.skip;obtain⟨w,i,H,h,F⟩:=k h
    (by rw[aD (by simp;omega),bd (by decide),aD (by simp;omega),bd (by decide),aD (by simp;omega),bd (by decide),aD (by simp;omega),bd (by decide),aD (by simp;omega),bd (by decide),aD (by omega),dj rfl])
    (by rw[aD (by simp;omega),bd (by decide),aD (by simp;omega),bd (by decide),aD (by simp;omega),bd (by decide),aD (by simp;omega),bd (by decide),aD (by simp;omega),bd (by decide),aD (by omega),bd (by decide)];exact D)
   have M:(w0.setCell A (.pointer none)).setCell A (.pointer (some A))=w0.setCell A (.pointer (some A)):=aeS;rw[M] at h;refine⟨A,_,e,n,w,i,D,x,G,f,N,.inr rfl,C,λE r L V=> ?_,h,F⟩;have:=(hk.still r L V).2;rw[fq this,f] at I;cases I
  .exfalso;simp only[pX,fa] at h;exact h.no rfl true (o:=_) (w2:=w0.setCell B (.pointer none)) (by simp only[Gl,stepG,stepG.exec];rfl)
end
end
section
open Go.Conc Go.ConcN Go.RowKit Go.Lib
section
variable {P:Program} (T:CcT P) {w:World} {e:Operand->Value} {x y:Operand} {A:Addr} {v:Value} {dst:Option Tmp} {ty:TypeId} {pos:String} {af:Array Edge} {gd:Option (Nat×Bool)}
def asv:(execOp e ⟨dst,.move x,ty,pos,af,gd⟩).runT P w #[]=(.ok (.value (e x)) w,#[]):=rfl
def akj(h:e x=.pointer (some A)):(execOp e ⟨dst,.nilCheck x,ty,pos,af,gd⟩).runT P w #[]=(.ok (.value (.pointer (some A))) w,#[]):=by
 simp only[execOp,h];rfl
include T
theorem ad6(h:e x=.pointer (some A)):(execOp e ⟨dst,.fieldAddr 227 x 0,ty,pos,af,gd⟩).runT P w #[]=(.ok (.value (.pointer (some A))) w,#[]):=by
 obtain⟨k,g,c,a,d,b⟩:=T.f;obtain⟨i,f,j⟩:=T.i6;simp[execOp,h,Instr.fieldAt,Instr.sureAddr,li c,a,fieldPlace,sizeOf,typeInfo,b,f,j,d,Addr.add]
theorem amc(h:e x=.pointer (some A))(a:w.cell? A=some v):(execOp e ⟨dst,.load 225 x,ty,pos,af,gd⟩).runT P w #[]=(.ok (.value v) w,#[⟨.cell A,false,false⟩]):=by
 simp[execOp,h,Instr.loadAt,Instr.sureAddr,loadVar,isAgg,li T.u,a]
theorem avy{a:Option Addr}(h:e x=.pointer a)(f:e y=.pointer none):(execOp e ⟨dst,.binOp .eql 225 x y 225,ty,pos,af,gd⟩).runT P w #[]=(.ok (.value (.bool a.isNone)) w,#[]):=by
 have b:∀(d:Nat),(Op.equalIn (d+1) 225 (.pointer a) (.pointer none)).run P w=.ok a.isNone w:=λd=>by
  cases a<;>simp[Op.equalIn,li T.u]
 have c:∀(d:Nat),(Op.equalIn (d+1) 225 (.pointer a) (.pointer none)).events P w #[]=#[]:=λd=>by
  cases a<;>simp[Op.equalIn,li T.u]
 simp only[execOp,h,f,eqG,binOp];simp[Op.equal,Op.maxDepth,b 9999,c 9999]
theorem avz(h:e x=.pointer (some A))(g:e y=.pointer (some A)):(execOp e ⟨dst,.binOp .neq 225 x y 225,ty,pos,af,gd⟩).runT P w #[]=(.ok (.value (.bool false)) w,#[]):=by
 obtain⟨i,a,j, -⟩:=T.i8;have b:∀(d:Nat),(Op.equalIn (d+1) 225 (.pointer (some A)) (.pointer (some A))).run P w=.ok true w:=λd=>by
  simp[Op.equalIn,li T.u,sizeOf,typeInfo,a,run_sameAddr_same]
 have f:∀(d:Nat),(Op.equalIn (d+1) 225 (.pointer (some A)) (.pointer (some A))).events P w #[]=#[]:=λd=>by
  simp[Op.equalIn,li T.u,sizeOf,typeInfo,a,j,sameAddr]
 have c:eqGuard .neq 225 x y (.pointer (some A)) (.pointer (some A))=Sem.pure ():=rfl;simp only[execOp,h,g,c,binOp];simp[Op.equal,Op.maxDepth,b 9999,f 9999]
theorem avA(h:e x=.pointer (some A))(a:w.shape? A.block=some (X,n))(f:A.off<n):(execOp e ⟨dst,.convert 225 212 x,ty,pos,af,gd⟩).runT P w #[]=(.ok (.value (.pointer (some A))) w,#[]):=by
 obtain⟨i,b,d, -⟩:=T.i8;have c:¬n<=A.off:=by omega
 simp[execOp,h,convert,li T.u,li T.up,Conv.unsafePointer,Conv.seenAt,viewAt,cellsIn,a,sizeOf,typeInfo,b,d,c]
theorem apO(h:e x=.pointer (some A))(a:w.shape? A.block=some (X,n))(b:liesAt P P.depth X (n / P.cellsOf X) A.off 227 1=true):(execOp e ⟨dst,.convert 212 225 x,ty,pos,af,gd⟩).runT P w #[]=(.ok (.value (.pointer (some A))) w,#[]):=by
 obtain⟨i,c,d, -⟩:=T.i8;simp[execOp,h,convert,li T.u,li T.up,Conv.unsafePointer,Conv.seenAt,viewAt,a,variablesAt,b,sizeOf,typeInfo,c,d]
theorem apP{u:Option Addr}(h:e x=.pointer (some A))(d:e y=.pointer u)(g:w.cell? A=some v)(c:w.frozen? A=false):(execOp e ⟨dst,.store 225 x y,ty,pos,af,gd⟩).runT P w #[]=(.ok .skip (w.setCell A (.pointer u)),#[⟨.cell A,true,false⟩]):=by
 obtain⟨i,j,k⟩:=T.i6;have a:(Sem.store .plain A (.pointer u) (Sem.pure ())).runT P w #[]=(.ok () (w.setCell A (.pointer u)),#[⟨.cell A,true,false⟩]):=by
  unfold Sem.runT;simp only[g,c,fa,pX];rfl
 have f:(store A (.pointer u)).run P w=.ok () (w.setCell A (.pointer u)):=by
  rw[<-qD _ _ _ #[]];exact ef Prod.fst a
 have b:(store A (.pointer u)).events P w #[]=#[⟨.cell A,true,false⟩]:=ef Prod.snd a;simp[execOp,h,d,Instr.storeAt,Instr.sureAddr,storeVar,sizeOf,typeInfo,j,k,Value.cells,storeCells,Addr.add,f,b]
end
end
section
open Go.Conc Go.ConcN
abbrev nNE:FuncId:=209
def asw:f209.body.isNone=true:=by kernel_rfl
def ne_next:Extern.findNext f209=none:=by kernel_rfl
def asx:Extern.find f209=some Extern.AbiNoEscape.same:=by kernel_rfl
def aeT{s:Array Value->Sem Value}{args:Array Value}(c:P.funcs[f]?=some fn)(e:(fn.name == "runtime.NumGoroutine")=false)(g:fn.body.isNone=true)(j:Extern.findNext fn=none)(d:Extern.find fn=some s)(i:s args=Sem.pure v) :
  (callFunc f args).runT P w #[]=(.ok (.value v) w,#[⟨.mark (.extern f),false,true⟩]):=by
 unfold callFunc;have a:¬fn.name= "runtime.NumGoroutine" :=by simpa using e
 have b:fn.body=none:=by simpa using g
 simp[c,a,b,j,d,i]
section
variable {w:World} {e:Operand->Value} {x:Operand} {v:Value} {dst:Option Tmp} {ty:TypeId} {pos:String} {af:Array Edge} {gd:Option (Nat×Bool)} {ts:Array TypeId}
def apQ(d:e (.func nNE)=.func (.func nNE) #[] #[]):(execOp e ⟨dst,.call ⟨.value (.func nNE),#[x],ts⟩,ty,pos,af,gd⟩).runT prog w #[]=(.ok (.value (e x)) w,#[⟨.mark (.extern nNE),false,true⟩]):=by
 have a:Array.map e #[x]=#[e x]:=by simp
 have b:execOp e ⟨dst,.call ⟨.value (.func nNE),#[x],ts⟩,ty,pos,af,gd⟩=callFunc nNE #[e x]:=by
  simp only[execOp,resolve,a,d];simp[Deferred.ofValue,invoke];try rfl
 rw[b];exact aeT func209 (cu func209) asw ne_next asx rfl
def anx(a:e (.func nNE)=.func (.func nNE) #[] #[])(h:e x=v):(execOp e ⟨dst,.call ⟨.value (.func nNE),#[x],ts⟩,ty,pos,af,gd⟩).runT prog w #[]=(.ok (.value v) w,#[⟨.mark (.extern nNE),false,true⟩]):=by
 rw[apQ a,h]
end
section
variable {P:Program} {m:Bool} {fr:Frame} {xs base:List Frame} {ops:Array Oper} {i:Nat} {rest:List Nat} {k:List Item} {o:Oper} {w w2:World} {es:Array Event} {v:Value}
def amd (g:fr.mode=.run) (j:fr.kind=.normal) (b:fr.roundOf=none) (f:fr.todo=.inRegion ops (i::rest)::k) (p:ops[i]?=some o) (r:o.guard=none)
  (q:(execOp fr.eval o).runT P w #[]=(.ok (.value v) w2,es)):stepG P m (Gl (fr::xs) base) w=.go (Gl (fr.finish v::xs) base) w2 (seen P fr.fn es):=by
 obtain⟨c,a,l,e,x,u,t⟩:=fr;dsimp only at g j b f;subst g j b f;have n:∀y,Region.wanted o y=true:=λy=>by unfold Region.wanted;rw[r]
 have s:stepG P m (Gl (⟨c,a,.inRegion ops (i::rest)::k,e,.run,.normal,none⟩::xs) base) w =
   stepG.apply P true ⟨c,a,.inRegion ops (i::rest)::k,e,.run,.normal,none⟩ (xs++base) none (execOp (Frame.eval ⟨c,a,.inRegion ops (i::rest)::k,e,.run,.normal,none⟩) o) w:=by
  simp[Gl,stepG,stepG.exec,stepG.oper,Frame.oper?,p,n]
 rw[s];unfold stepG.apply;simp only[q,mw];have d:(CallKind.normal ==CallKind.early)=false:=rfl;simp[GStep.after,d,Gl]
def ad7 (g:fr.mode=.run) (j:fr.kind=.normal) (b:fr.roundOf=none) (f:fr.todo=.inRegion ops (i::rest)::k) (p:ops[i]?=some o) (r:o.guard=none)
  (q:(execOp fr.eval o).runT P w #[]=(.ok .skip w2,es)):stepG P m (Gl (fr::xs) base) w=.go (Gl (fr.finish undef::xs) base) w2 (seen P fr.fn es):=by
 obtain⟨c,a,l,e,v,u,t⟩:=fr;dsimp only at g j b f;subst g j b f;have n:∀y,Region.wanted o y=true:=λy=>by unfold Region.wanted;rw[r]
 have s:stepG P m (Gl (⟨c,a,.inRegion ops (i::rest)::k,e,.run,.normal,none⟩::xs) base) w =
   stepG.apply P true ⟨c,a,.inRegion ops (i::rest)::k,e,.run,.normal,none⟩ (xs++base) none (execOp (Frame.eval ⟨c,a,.inRegion ops (i::rest)::k,e,.run,.normal,none⟩) o) w:=by
  simp[Gl,stepG,stepG.exec,stepG.oper,Frame.oper?,p,n]
 rw[s];unfold stepG.apply;simp only[q,mw];have d:(CallKind.normal ==CallKind.early)=false:=rfl;simp[GStep.after,d,Gl]
end
section
variable {P:Program} {main:Bool} {Rl:aq->World->World->Prop} {Gr:aq->aq->World->World->Array Event->Prop} {St:aq->Goroutine->World->Prop} {S Rr:aq} {w0:World}
structure Cmp (Rl:aq->World->World->Prop) (Gr:aq->aq->World->World->Array Event->Prop) (Rr:aq):Prop where
 eN:∀S w,Rl S w w
 tr:∀S a b c,Rl S a b->Rl S b c->Rl S a c
 rl:∀S w w1,Rl S w w1->(∀b,S b\/Rr b->w1.heap[b]?=w.heap[b]?)/\w.heap.size<=w1.heap.size/\w1.ou=w.ou
 gr:∀S w w' es,(∀b,b<w.heap.size->¬S b->w'.heap[b]?=w.heap[b]?)->w.heap.size<=w'.heap.size->w'.ou=w.ou->(∀e∈es,kX (λb=>S b\/(w.heap.size<=b/\b<w'.heap.size)) Rr w'.heap.size e)->
   Gr S (λb=>S b\/(w.heap.size<=b/\b<w'.heap.size)) w w' es
def Cmp.same(C:Cmp Rl Gr Rr)(c:∀b,b<w.heap.size->¬S b->w'.heap[b]?=w.heap[b]?)(a:w'.heap.size=w.heap.size)(d:w'.ou=w.ou)(f:∀e∈es,kX S Rr w.heap.size e):Gr S S w w' es:=by
 have e:(λb=>S b\/(w.heap.size<=b/\b<w'.heap.size))=S:=by
  funext b
  rw[a];exact propext ⟨λh=>h.elim id λh=>absurd h.1 (by omega),.inl⟩
 have:=C.gr S w w' es c (mc a.symm) d (by rw[e,a];exact f);rw[e] at this;exact this
def bB.still (C:Cmp Rl Gr Rr) {fr:Frame} {base l2 : List Frame} {es:World->Array Event} (f:∀w,Rl S w0 w->stepG P main (Gl (fr::xs) base) w=.go (Gl l2 base) w (es w)) (d:∀w,Rl S w0 w->∀e∈es w,kX S Rr w.heap.size e)
  (g:∀w,Rl S w0 w->bB P main Rl Gr St S (Gl l2 base) w):∀w,Rl S w0 w->bB P main Rl Gr St S (Gl (fr::xs) base) w:=λw a=>
 .step rfl λb c=>⟨_,_,_,S,f b (C.tr _ _ _ _ a c),C.same (λ_ _ _=>rfl) rfl rfl (d b (C.tr _ _ _ _ a c)),g b (C.tr _ _ _ _ a c)⟩
variable {f:FuncId} {T:Array Value} {k:List Item} {xs base:List Frame}
def dJ(C:Cmp Rl Gr Rr)(c:∀w,Rl S w0 w->bB P main Rl Gr St S (Gl (FQ f T (.code a :: .code b::k)::xs) base) w):∀w,Rl S w0 w->bB P main Rl Gr St S (Gl (FQ f T (.code (.seq a b)::k)::xs) base) w:=
 bB.still C (es:=λ_=>#[]) (λw _=>by simp[Gl,stepG,stepG.exec]) (λ_ _ e h=>by cases(by simpa using h:False)) c
def eR(C:Cmp Rl Gr Rr){id:Nat}{l:List Nat}(a:List.range Z.size=l)(b:∀w,Rl S w0 w->bB P main Rl Gr St S (Gl (FQ f T (.inRegion Z l::k)::xs) base) w):∀w,Rl S w0 w->bB P main Rl Gr St S (Gl (FQ f T (.code (.region id Z false)::k)::xs) base) w:=
 bB.still C (es:=λ_=>#[]) (λw _=>by subst a;simp[Gl,stepG,stepG.exec]) (λ_ _ e h=>by cases(by simpa using h:False)) b
def fQ(C:Cmp Rl Gr Rr)(a:∀w,Rl S w0 w->bB P main Rl Gr St S (Gl (FQ f T k::xs) base) w):∀w,Rl S w0 w->bB P main Rl Gr St S (Gl (FQ f T (.inRegion Z []::k)::xs) base) w:=
 bB.still C (es:=λ_=>#[]) (λw _=>by simp[Gl,stepG,stepG.exec]) (λ_ _ e h=>by cases(by simpa using h:False)) a
def ame(C:Cmp Rl Gr Rr)(a:∀w,Rl S w0 w->bB P main Rl Gr St S (Gl (FQ f T k::xs) base) w):∀w,Rl S w0 w->bB P main Rl Gr St S (Gl (FQ f T (.code .skip::k)::xs) base) w:=
 bB.still C (es:=λ_=>#[]) (λw _=>by simp[Gl,stepG,stepG.exec]) (λ_ _ e h=>by cases(by simpa using h:False)) a
def aa1(C:Cmp Rl Gr Rr)(c:T.getD t undef=.bool q)(g:∀w,Rl S w0 w->bB P main Rl Gr St S (Gl (FQ f T (.code (if q then a else b)::k)::xs) base) w):∀w,Rl S w0 w->bB P main Rl Gr St S (Gl (FQ f T (.code (.cond (.tmp t) a b)::k)::xs) base) w:=
 have d:Frame.eval (FQ f T (.code (.cond (.tmp t) a b)::k)) (.tmp t)=.bool q:=c
 bB.still C (es:=λ_=>#[]) (λw _=>by simp[Gl,stepG,stepG.exec,d]) (λ_ _ e h=>by cases(by simpa using h:False)) g
def axh (C:Cmp Rl Gr Rr)       (a:Z[i]?=some o) (l:o.guard=none) (b:o.dst=some d)
  (j:∀w,Rl S w0 w->(execOp (FQ f T (.inRegion Z (i::rest)::k)).eval o).runT P w #[]=(.ok (.value v) w,es)) (g:∀w,Rl S w0 w->∀e∈seen P f es,kX S Rr w.heap.size e)
  (m:∀w,Rl S w0 w->bB P main Rl Gr St S (Gl (FQ f (T.setIfInBounds d v) (.inRegion Z rest::k)::xs) base) w):∀w,Rl S w0 w->bB P main Rl Gr St S (Gl (FQ f T (.inRegion Z (i::rest)::k)::xs) base) w:=
 bB.still C (l2:=FQ f (T.setIfInBounds d v) (.inRegion Z rest::k)::xs) (es:=λ_=>seen P f es) (λw c=>by
  rw[amd rfl rfl rfl rfl a l (j w c)];have:Frame.finish (FQ f T (.inRegion Z (i::rest)::k)) v=FQ f (T.setIfInBounds d v) (.inRegion Z rest::k):=by
   simp only[Frame.finish,a,pY,b]
  rw[this]) g m
def aia(C:Cmp Rl Gr Rr)(b:P.funcs[f]?=some fn)(a:fn.results=#[])(d:∀w,Rl S w0 w->bB P main Rl Gr St S (Gl (y.finish (.tuple #[])::Y) base) w):∀w,Rl S w0 w->bB P main Rl Gr St S (Gl (FQ f T []::y::Y) base) w:=
 bB.still C (l2:=⟨f,T,[],[],.returning,.normal,none⟩::y::Y) (es:=λ_=>#[]) (λw _=>by simp[Gl,stepG,stepG.exec]) (λ_ _ e h=>by cases(by simpa using h:False))
  (bB.still C (es:=λ_=>#[]) (λw _=>by
   have c:(results fn T).runT P w #[]=(.ok (.tuple #[]) w,#[]):=by simp[results,a]
   simp only[Gl,stepG,unwind,b,c];simp[doReturn,GStep.after,seen]) (λ_ _ e h=>by cases(by simpa using h:False)) d)
def ad8(C:Cmp Rl Gr Rr){id:Nat}(b:∀w,Rl S w0 w->bB P main Rl Gr St S (Gl (FQ f T (.code a :: .inBlock id::k)::xs) base) w):∀w,Rl S w0 w->bB P main Rl Gr St S (Gl (FQ f T (.code (.block id a)::k)::xs) base) w:=
 bB.still C (es:=λ_=>#[]) (λw _=>by simp[Gl,stepG,stepG.exec]) (λ_ _ e h=>by cases(by simpa using h:False)) b
def amf(C:Cmp Rl Gr Rr)(b:∀w,Rl S w0 w->bB P main Rl Gr St S (Gl (FQ f T (.code a :: .inLoop a::k)::xs) base) w):∀w,Rl S w0 w->bB P main Rl Gr St S (Gl (FQ f T (.code (.loop a)::k)::xs) base) w:=
 bB.still C (es:=λ_=>#[]) (λw _=>by simp[Gl,stepG,stepG.exec]) (λ_ _ e h=>by cases(by simpa using h:False)) b
def apR(C:Cmp Rl Gr Rr)(b:∀w,Rl S w0 w->bB P main Rl Gr St S (Gl (FQ f T (.code a :: .inLoop a::k)::xs) base) w):∀w,Rl S w0 w->bB P main Rl Gr St S (Gl (FQ f T (.inLoop a::k)::xs) base) w:=
 bB.still C (es:=λ_=>#[]) (λw _=>by simp[Gl,stepG,stepG.exec]) (λ_ _ e h=>by cases(by simpa using h:False)) b
def aib(C:Cmp Rl Gr Rr){id:Nat}(a:∀w,Rl S w0 w->bB P main Rl Gr St S (Gl (FQ f T k::xs) base) w):∀w,Rl S w0 w->bB P main Rl Gr St S (Gl (FQ f T (.inBlock id::k)::xs) base) w:=
 bB.still C (es:=λ_=>#[]) (λw _=>by simp[Gl,stepG,stepG.exec]) (λ_ _ e h=>by cases(by simpa using h:False)) a
def amg(C:Cmp Rl Gr Rr){id:Nat}(a:exitTo id k=some k2)(b:∀w,Rl S w0 w->bB P main Rl Gr St S (Gl (FQ f T k2::xs) base) w):∀w,Rl S w0 w->bB P main Rl Gr St S (Gl (FQ f T (.code (.exit id)::k)::xs) base) w:=
 bB.still C (es:=λ_=>#[]) (λw _=>by simp[Gl,stepG,stepG.exec,a]) (λ_ _ e h=>by cases(by simpa using h:False)) b
end
section
variable {P:Program} {w:World} {e:Operand->Value} {x:Operand} {v:Value} {dst:Option Tmp} {ty:TypeId} {pos:String} {af:Array Edge} {gd:Option (Nat×Bool)}
def eC(h:e x=v):(execOp e ⟨dst,.move x,ty,pos,af,gd⟩).runT P w #[]=(.ok (.value v) w,#[]):=by rw[asv,h]
end
section
variable {P:Program} {main:Bool} {Rl:aq->World->World->Prop} {Gr:aq->aq->World->World->Array Event->Prop} {St:aq->Goroutine->World->Prop} {S Rr:aq} {w0:World}
def bj(B:Nat):∀e∈seen P f #[],kX S Rr B e:=λe a=>by cases(by simpa using sd a:False)
def aa2{wr:Bool}{B:Nat}(d:S A.block)(g:A.block<B):∀e∈seen P f #[⟨.cell A,wr,false⟩],kX S Rr B e:=λe c=>by
 have h:=sd c;simp only[rD,lw,rc,tO] at h;subst h;refine⟨λx a=>.inl ?_,λm b=>(by cases b),g⟩;simp[MemAct.ofEvent,MemAct.touch?] at a;rw[<-a];exact d
def avB{g : FuncId}{B:Nat}:∀e∈seen P f #[⟨.mark (.extern g),false,true⟩],kX S Rr B e:=λe b=>by
 have h:=sd b;simp only[rD,lw,rc,tO] at h;subst h;refine⟨λx c=> ?_,λm a=>.inl ⟨g,by cases a;rfl⟩,trivial⟩;simp[MemAct.ofEvent,MemAct.touch?] at c
def ad9(C:Cmp Rl Gr Rr)(a:S A.block)(h:Rl S w0 w):w.cell? A=w0.cell? A/\w.frozen? A=w0.frozen? A/\w.shape? A.block=w0.shape? A.block/\w0.heap.size<=w.heap.size:=by
 obtain⟨b,c, -⟩:=C.rl _ _ _ h;have e:=b A.block (.inl a);refine⟨fq e, ?_, ?_,c⟩
 .unfold World.frozen?;rw[e]
 .unfold World.shape?;rw[e]
def bc(w:World)(A:Addr)(v:Value){b:Nat}(h:A.block≠b):(w.setCell A v).heap[b]?=w.heap[b]?:=by
 unfold World.setCell;simp only[mt,bd h]
def aea (C:Cmp Rl Gr Rr) {T:Array Value} {base : List Frame}       (g:Z[i]?=some o) (n:o.guard=none) (j:o.dst=none)
  (m:∀w,Rl S w0 w->(execOp (FQ f T (.inRegion Z (i::rest)::k)).eval o).runT P w #[]=(.ok .skip (w.setCell A u),es)) (s:S A.block) (r:∀w,Rl S w0 w->∀e∈seen P f es,kX S Rr w.heap.size e)
  (q:∀w,Rl S w0 w->∀a,Rl S (w.setCell A u) a->bB P main Rl Gr St S (Gl (FQ f T (.inRegion Z rest::k)::xs) base) a):∀w,Rl S w0 w->bB P main Rl Gr St S (Gl (FQ f T (.inRegion Z (i::rest)::k)::xs) base) w:=λw l=>by
 refine .step rfl λa c=> ?_;have d:=C.tr _ _ _ _ l c;refine⟨_,_,_,S,ad7 rfl rfl rfl rfl g n (m a d),C.same (λb _ p=>bc _ _ _ (λe=>p (e▸s))) (iS _ _ _) rfl (r a d), ?_⟩;have:Frame.finish (FQ f T (.inRegion Z (i::rest)::k)) undef=FQ f T (.inRegion Z rest::k):=by
  simp only[Frame.finish,g,pY,j]
 rw[this];exact q a d _ (C.eN _ _)
def bE (C:Cmp Rl Gr Rr) {T:Array Value} {base : List Frame}       (b:d<T.size) (c:Z[i]?=some o) (l:o.guard=none) (a:o.dst=some d)
  (g:∀w,Rl S w0 w->(execOp (FQ f T (.inRegion Z (i::rest)::k)).eval o).runT P w #[]=(.ok (.value v) w,es)) (n:∀w,Rl S w0 w->∀e∈seen P f es,kX S Rr w.heap.size e)
  (m:∀T':Array Value,T'.size=T.size->T'.getD d undef=v->(∀t,t≠d->T'.getD t undef=T.getD t undef)->∀w,Rl S w0 w->bB P main Rl Gr St S (Gl (FQ f T' (.inRegion Z rest::k)::xs) base) w):∀w,Rl S w0 w->bB P main Rl Gr St S (Gl (FQ f T (.inRegion Z (i::rest)::k)::xs) base) w:=
 axh C c l a g n (m _ (by simp) (by rw[aD b,dj rfl]) λt j=>by rw[aD b,bd j])
def apS:Code->Code
 |.seq _ (.cond _ a _)=>a
 |c=>c
def apT:Code->Code
 |.seq _ (.cond _ _ b)=>b
 |c=>c
def axi(C:Cmp Rl Gr Rr){T:Array Value}{base : List Frame}(c:20<=T.size)(e:T.getD 0 undef=.pointer (some A))(p:S A.block)(D:A.block<w0.heap.size)(s:w0.shape? A.block=some (X,n))(x:A.off<n)(z:liesAt prog prog.depth X (n / prog.cellsOf X) A.off 227 1=true)(E:w0.cell? A=some (.pointer none))(t:w0.frozen? A=false)(B:∀w,Rl S w0 w->∀r,Rl S (w.setCell A (.pointer (some A))) r->bB prog main Rl Gr St S (Gl (y.finish (.tuple #[])::Y) base) r) :
  ∀w,Rl S w0 w->bB prog main Rl Gr St S (Gl (FC T [.code (apS (f198.body.getD .skip))]::y::Y) base) w:=by
 have F:=λw (h:Rl S w0 w)=>ad9 (A:=A) C p h;simp only[f198,pP,apS];refine eR C (l:=[0,1,2,3,4,5,6,7]) rfl ?_;refine bE C (d:=7) (v:=.pointer (some A)) (es:=#[]) (aE (by decide) c) rfl rfl rfl (λw b=>eC e) (λw b=>bj _) ?_;intro T a g o;replace c:=am c (mc a.symm);replace e:=(o 0 (by decide)).trans e;clear o a;refine bE C (d:=8) (v:=.pointer (some A)) (es:=#[]) (aE (by decide) c) rfl rfl rfl (λw b=>eC e) (λw b=>bj _) ?_;intro T a j o;replace c:=am c (mc a.symm);replace e:=(o 0 (by decide)).trans e;replace g:=(o 7 (by decide)).trans g;clear o a;refine bE C (d:=9) (v:=.pointer (some A)) (es:=#[]) (aE (by decide) c) rfl rfl rfl (λw b=>avA ccT j ((F w b).2.2.1.trans s) x) (λw b=>bj _) ?_;intro T a k o;replace c:=am c (mc a.symm);replace e:=(o 0 (by decide)).trans e;replace g:=(o 7 (by decide)).trans g;replace j:=(o 8 (by decide)).trans j;clear o a;refine bE C (d:=10) (v:=.pointer (some A)) (aE (by decide) c) rfl rfl rfl (λw b=>anx rfl k) (λw b=>avB) ?_;intro T a f o;replace c:=am c (mc a.symm);replace e:=(o 0 (by decide)).trans e;replace g:=(o 7 (by decide)).trans g;replace j:=(o 8 (by decide)).trans j;replace k:=(o 9 (by decide)).trans k;clear o a;refine bE C (d:=11) (v:=.pointer (some A)) (es:=#[]) (aE (by decide) c) rfl rfl rfl (λw b=>apO ccT f ((F w b).2.2.1.trans s) z) (λw b=>bj _) ?_;intro T a i o;replace c:=am c (mc a.symm);replace e:=(o 0 (by decide)).trans e;replace g:=(o 7 (by decide)).trans g;replace j:=(o 8 (by decide)).trans j;replace k:=(o 9 (by decide)).trans k;replace f:=(o 10 (by decide)).trans f;clear o a;refine bE C (d:=12) (v:=.pointer (some A)) (es:=#[]) (aE (by decide) c) rfl rfl rfl (λw b=>akj g) (λw b=>bj _) ?_;intro T a m o;replace c:=am c (mc a.symm);replace e:=(o 0 (by decide)).trans e;replace g:=(o 7 (by decide)).trans g;replace j:=(o 8 (by decide)).trans j;replace k:=(o 9 (by decide)).trans k;replace f:=(o 10 (by decide)).trans f;replace i:=(o 11 (by decide)).trans i;clear o a;refine bE C (d:=13) (v:=.pointer (some A)) (es:=#[]) (aE (by decide) c) rfl rfl rfl (λw b=>ad6 ccT m) (λw b=>bj _) ?_;intro T a q o;replace c:=am c (mc a.symm);replace e:=(o 0 (by decide)).trans e;replace g:=(o 7 (by decide)).trans g;replace j:=(o 8 (by decide)).trans j;replace k:=(o 9 (by decide)).trans k;replace f:=(o 10 (by decide)).trans f;replace i:=(o 11 (by decide)).trans i;replace m:=(o 12 (by decide)).trans m;clear o a;refine aea C (A:=A) (u:=.pointer (some A)) rfl rfl rfl (λw b=>apP ccT (A:=A) (u:=some A) q i ((F w b).1.trans E) ((F w b).2.1.trans t)) p (λw b=>aa2 p (aE D (F w b).2.2.2)) ?_;intro w b;exact fQ C (aia C func198 rfl (B w b))
def axj(C:Cmp Rl Gr Rr){T:Array Value}{base : List Frame}(e:20<=T.size)(i:T.getD 0 undef=.pointer (some A))(m:S A.block)(t:A.block<w0.heap.size)(r:w0.cell? A=some (.pointer (some A)))(s:∀w,Rl S w0 w->∀p,Rl S (w.setCell A (.pointer (some A))) p->bB prog main Rl Gr St S (Gl (y.finish (.tuple #[])::Y) base) p) :
  ∀w,Rl S w0 w->bB prog main Rl Gr St S (Gl (FC T [.code (apT (f198.body.getD .skip))]::y::Y) base) w:=by
 have F:=λw (h:Rl S w0 w)=>ad9 (A:=A) C m h;simp only[f198,pP,apT];refine dJ C ?_;refine eR C (l:=[0,1,2,3,4,5]) rfl ?_;refine bE C (d:=14) (v:=.pointer (some A)) (es:=#[]) (aE (by decide) e) rfl rfl rfl (λw f=>eC i) (λw f=>bj _) ?_;intro T a b o;replace e:=am e (mc a.symm);replace i:=(o 0 (by decide)).trans i;clear o a;refine bE C (d:=15) (v:=.pointer (some A)) (es:=#[]) (aE (by decide) e) rfl rfl rfl (λw f=>akj b) (λw f=>bj _) ?_;intro T a c o;replace e:=am e (mc a.symm);replace i:=(o 0 (by decide)).trans i;replace b:=(o 14 (by decide)).trans b;clear o a;refine bE C (d:=16) (v:=.pointer (some A)) (es:=#[]) (aE (by decide) e) rfl rfl rfl (λw f=>ad6 ccT c) (λw f=>bj _) ?_;intro T a g o;replace e:=am e (mc a.symm);replace i:=(o 0 (by decide)).trans i;replace b:=(o 14 (by decide)).trans b;replace c:=(o 15 (by decide)).trans c;clear o a;refine bE C (d:=17) (v:=.pointer (some A)) (aE (by decide) e) rfl rfl rfl (λw f=>amc ccT g ((F w f).1.trans r)) (λw f=>aa2 m (aE t (F w f).2.2.2)) ?_;intro T a j o;replace e:=am e (mc a.symm);replace i:=(o 0 (by decide)).trans i;replace b:=(o 14 (by decide)).trans b;replace c:=(o 15 (by decide)).trans c;replace g:=(o 16 (by decide)).trans g;clear o a;refine bE C (d:=18) (v:=.pointer (some A)) (es:=#[]) (aE (by decide) e) rfl rfl rfl (λw f=>eC i) (λw f=>bj _) ?_;intro T a k o;replace e:=am e (mc a.symm);replace i:=(o 0 (by decide)).trans i;replace b:=(o 14 (by decide)).trans b;replace c:=(o 15 (by decide)).trans c;replace g:=(o 16 (by decide)).trans g;replace j:=(o 17 (by decide)).trans j;clear o a;refine bE C (d:=19) (v:=.bool false) (es:=#[]) (aE (by decide) e) rfl rfl rfl (λw f=>avz ccT (A:=A) j k) (λw f=>bj _) ?_;intro T a n o;replace e:=am e (mc a.symm);replace i:=(o 0 (by decide)).trans i;replace b:=(o 14 (by decide)).trans b;replace c:=(o 15 (by decide)).trans c;replace g:=(o 16 (by decide)).trans g;replace j:=(o 17 (by decide)).trans j;replace k:=(o 18 (by decide)).trans k;clear o a;refine fQ C ?_;refine aa1 C (q:=false) n ?_;simp only[pX,fa];refine ame C ?_;refine aia C func198 rfl ?_;intro w f;refine s w f w ?_;rw[agI ((F w f).1.trans r)];exact C.eN _ _
def apU(C:Cmp Rl Gr Rr){T:Array Value}{base : List Frame}(c:20<=T.size)(g:T.getD 0 undef=.pointer (some A))(j:S A.block)(t:A.block<w0.heap.size)(J:w0.shape? A.block=some (X,n))(H:A.off<n)(I:liesAt prog prog.depth X (n / prog.cellsOf X) A.off 227 1=true)(u:w0.cell? A=some v)(G:w0.frozen? A=false)(E:v=.pointer none\/v=.pointer (some A))(B:∀w,Rl S w0 w->∀z,Rl S (w.setCell A (.pointer (some A))) z->bB prog main Rl Gr St S (Gl (y.finish (.tuple #[])::Y) base) z) :
  ∀w,Rl S w0 w->bB prog main Rl Gr St S (Gl (FC T [.code (f198.body.getD .skip)]::y::Y) base) w:=by
 have F:=λw (h:Rl S w0 w)=>ad9 (A:=A) C j h;obtain⟨a,rfl⟩:∃a,v=.pointer a:=E.elim (λe=>⟨_,e⟩) λe=>⟨_,e⟩;have x:=λ(p:Array Value) (b:20<=p.size) (f:p.getD 0 undef=.pointer (some A)) (k:w0.cell? A=some (.pointer none))=>axi (T:=p) C b f j t J H I k G B
 have D:=λ(p:Array Value) (b:20<=p.size) (f:p.getD 0 undef=.pointer (some A)) (k:w0.cell? A=some (.pointer (some A)))=>axj (T:=p) C b f j t k B
 simp only[f198,pP,apS,apT] at x D ⊢;refine dJ C ?_;refine eR C (l:=[0,1,2,3,4]) rfl ?_;refine bE C (d:=2) (v:=.pointer (some A)) (es:=#[]) (aE (by decide) c) rfl rfl rfl (λw i=>eC g) (λw i=>bj _) ?_;intro T b f o;replace c:=am c (mc b.symm);replace g:=(o 0 (by decide)).trans g;clear o b;refine bE C (d:=3) (v:=.pointer (some A)) (es:=#[]) (aE (by decide) c) rfl rfl rfl (λw i=>akj f) (λw i=>bj _) ?_;intro T b m o;replace c:=am c (mc b.symm);replace g:=(o 0 (by decide)).trans g;replace f:=(o 2 (by decide)).trans f;clear o b;refine bE C (d:=4) (v:=.pointer (some A)) (es:=#[]) (aE (by decide) c) rfl rfl rfl (λw i=>ad6 ccT m) (λw i=>bj _) ?_;intro T b r o;replace c:=am c (mc b.symm);replace g:=(o 0 (by decide)).trans g;replace f:=(o 2 (by decide)).trans f;replace m:=(o 3 (by decide)).trans m;clear o b;refine bE C (d:=5) (v:=.pointer a) (aE (by decide) c) rfl rfl rfl (λw i=>amc ccT r ((F w i).1.trans u)) (λw i=>aa2 j (aE t (F w i).2.2.2)) ?_;intro T b s o;replace c:=am c (mc b.symm);replace g:=(o 0 (by decide)).trans g;replace f:=(o 2 (by decide)).trans f;replace m:=(o 3 (by decide)).trans m;replace r:=(o 4 (by decide)).trans r;clear o b;refine bE C (d:=6) (v:=.bool a.isNone) (aE (by decide) c) rfl rfl rfl (λw i=>avy ccT (a:=a) s rfl) (λw i=>bj _) ?_;intro T b K o;replace c:=am c (mc b.symm);replace g:=(o 0 (by decide)).trans g;replace f:=(o 2 (by decide)).trans f;replace m:=(o 3 (by decide)).trans m;replace r:=(o 4 (by decide)).trans r;replace s:=(o 5 (by decide)).trans s;clear o b;refine fQ C ?_;refine aa1 C (q:=a.isNone) K ?_;rcases E with e|e
 .cases e;simp only[Option.isNone_none,mw];exact x _ c g u
 .cases e;simp only[Option.isNone_some,pX,fa];exact D _ c g u
end
noncomputable def apV(f:FuncId):Bool:=match prog.funcs[f]? with
 |some a=>!(a.name == "loop.example/depositary/impl.fetchAll" || a.name == "(*strings.Builder).copyCheck")||f ==bX||f ==nCC
 |none=>true
def akk:(List.range prog.funcs.size).all apV=true:=by kernel_rfl
def wM(h:gH f=true):f=bX\/f=nCC:=by
 unfold gH at h;cases b:prog.funcs[f]? with
 |none=>rw[b] at h;cases h
 |some c=>
  rw[b] at h;have a:=ip.1 akk f (ph.2 (db.1 b).1);unfold apV at a;rw[b] at a;dsimp only at h a;rw[h] at a;simpa using a
def apW :Frame.enter prog nCC U .normal=FC (T0C U) [.code (f198.body.getD .skip)]:=by
 unfold Frame.enter;rw[func198];rfl
def apX{e:TypeId}(d:w.shape? A.block=some (e,n))(a:w.cell? A=some v):A.off<n:=by
 unfold World.shape? at d;unfold World.cell? at a;cases f:w.heap[A.block]? with
 |none=>rw[f] at a;simp at a
 |some o=>
  rw[f] at d a;cases o with
  |cells c t z=>
   cases b:A.spot with
   |some s=>simp[b] at a
   |none=>
    simp[b] at a d;have:=(db.1 a).1;omega
  |_=>simp at a
def oL{b:Nat}(h:W.heap[b]?=w.heap[b]?):(W.setCell A u).heap[b]?=(w.setCell A u).heap[b]?:=by
 unfold World.setCell;simp only[mt,h]
section
variable {β main:Bool} {Rl:aq->World->World->Prop} {Gr:aq->aq->World->World->Array Event->Prop} {Rr:aq} {R:List Frame->World->Prop}
def afs(C:Cmp Rl Gr Rr){base:List Frame}:wh (aj β) prog R Rr main Rl Gr base:=by
 intro f c ρ a T m m' l S hf r ha M hc H hg hW F;obtain rfl:f=nCC:=(wM hf).resolve_left r;obtain⟨_,_,y,ys,rfl,rfl⟩:=M.ne';obtain⟨A,v,e,n,c1,X,h0,J,V,d,Q,Z,⟨N,t⟩,D,i,x⟩:=asu ha M hc H hg hW;have j:ρ.r N.block A.block:=by cases t with|mk h o s=>exact h
 have B:S A.block:=by
  rcases F _ _ j with h|⟨_,P,W⟩
  .exact h
  .exact(D _ j P W).elim
 have hB:A.block<l.heap.size:=(H.lt j).2;have U:20<=(T0C T).size:=by simp only[T0C,rx,rV];omega
 rw[apW];have G:liesAt prog prog.depth e (n / prog.cellsOf e) A.off 227 1=true:=by
  rw[<-V];exact(aoW prog _ _ _ _ _ _ _).symm
 refine apU C U h0 B hB J (apX J d) G d Q Z (λw aW w1 z=> ?_) l (C.eN _ _);refine .stop λw2 u=> ?_;have L:=i.kept;have p:(l.setCell A (.pointer (some A))).heap.size=l.heap.size:=iS _ _ _;have g:=F.step i.wr L;have hS:(λb=>S b\/(l.heap.size<=b/\b<(l.setCell A (.pointer (some A))).heap.size))=S:=by
  funext b
  rw[p];exact propext ⟨λh=>h.elim id λh=>absurd h.1 (by omega),.inl⟩
 rw[hS] at g;obtain⟨K,r2,O⟩:=C.rl _ _ _ aW;obtain⟨I,s2,Y⟩:=C.rl _ _ _ (C.tr _ _ _ _ z u);refine⟨c1,X,_,x,i.le,λ_ k=>k,rfl,⟨i.st, ?_,i.gl,i.will,g⟩,.al9 L λb E k=> ?_⟩
 case refine_2=>
  have q:=(F b E k).imp (λh=>h) (λh=>h.1);exact(I E q).trans (oL (K E q))
 refine i.wr.rely g (λb k=>(I b k).trans (oL (K b k))) ?_ ?_
 .rw[p];have:(w.setCell A (.pointer (some A))).heap.size=w.heap.size:=iS _ _ _;omega
 .exact Y.trans O
end
structure FaT (P:Program):Prop where
 u3:P.underlying 3=some (.int .i64)
 u9:P.underlying 9=some .string
 u23:P.underlying 23=some (.slice 40)
 u31:P.underlying 31=some (.slice 3)
 u38:P.underlying 38=some (.slice 64)
 agJ:P.underlying 160=some (.slice 171)
 asy:∃ms,P.underlying 207=some (.interface ms)
 u40:∃fs g0 g1,P.underlying 40=some (.struct fs)/\fs[0]?=some g0/\fs[1]?=some g1/\g0.offset=0/\g0.type=3/\g1.offset=1/\g1.type=38
 asz:∃fs g0 g1,P.underlying 64=some (.struct fs)/\fs[0]?=some g0/\fs[1]?=some g1/\g0.offset=0/\g0.type=3/\g1.offset=1/\g1.type=9
 asA:∃fs,P.underlying 171=some (.struct fs)
 i3:∃i,P.info? 3=some i/\i.size=1
 i40:∃i,P.info? 40=some i/\i.size=2
 i110:∃i,P.info? 64=some i/\i.size=2
 i258:∃i,P.info? 171=some i/\i.size=2/\i.bytes=24/\i.zero=some (.agg #[.string ⟨#[]⟩,.bool false])
 i247:∃i,P.info? 160=some i/\i.size=1/\i.zero=some (.slice none 0 0)
def asB:((prog.info? 3).map (·.size ==1)=some true/\(prog.info? 40).map (·.size ==2)=some true)/\((prog.info? 64).map (·.size ==2)=some true/\(prog.info? 171).map (λi=>i.size ==2&&i.bytes ==24)=some true):=by
 refine⟨⟨?_, ?_⟩, ?_, ?_⟩<;>kernel_rfl
def axk:(prog.info? 171).map (·.zero)=some (some (.agg #[.string ⟨#[]⟩,.bool false])):=by kernel_rfl
def axl:(prog.info? 160).map (λi=>(i.size,i.zero))=some (1,some (.slice none 0 0)):=by kernel_rfl
def oM:FaT prog where
 u3:=underlying3
 u9:=underlying9
 u23:=underlying23
 u31:=underlying31
 u38:=underlying38
 agJ:=underlying160
 asy:=⟨_,underlying207⟩
 u40:=⟨_,_,_,underlying40,rfl,rfl,rfl,rfl,rfl,rfl⟩
 asz:=⟨_,_,_,underlying64,rfl,rfl,rfl,rfl,rfl,rfl⟩
 asA:=⟨_,underlying171⟩
 i3:=let⟨i,h,k⟩:=ga.1 asB.1.1;⟨i,h,by simpa using k⟩
 i40:=let⟨i,h,k⟩:=ga.1 asB.1.2;⟨i,h,by simpa using k⟩
 i110:=let⟨i,h,k⟩:=ga.1 asB.2.1;⟨i,h,by simpa using k⟩
 i258:=by
  obtain⟨i,h,k⟩:=ga.1 asB.2.2;have z:=axk;rw[h] at z;simp only[eg,mT] at k;exact⟨i,h,k.1,k.2,by simpa using z⟩
 i247:=by
  obtain⟨i,h,k⟩:=ga.1 axl;simp only[Prod.mk.injEq] at k;exact⟨i,h,k.1,k.2⟩
def faQ(β:Bool):FaT (aj β) where
 u3:=(cA prog _ _).trans oM.u3
 u9:=(cA prog _ _).trans oM.u9
 u23:=(cA prog _ _).trans oM.u23
 u31:=(cA prog _ _).trans oM.u31
 u38:=(cA prog _ _).trans oM.u38
 agJ:=(cA prog _ _).trans oM.agJ
 asy:=let⟨d,h⟩:=oM.asy;⟨d,(cA prog _ _).trans h⟩
 u40:=let⟨a,b,c,h,k⟩:=oM.u40;⟨a,b,c,(cA prog _ _).trans h,k⟩
 asz:=let⟨a,b,c,h,k⟩:=oM.asz;⟨a,b,c,(cA prog _ _).trans h,k⟩
 asA:=let⟨d,h⟩:=oM.asA;⟨d,(cA prog _ _).trans h⟩
 i3:=let⟨i,h,k⟩:=oM.i3;⟨i,(iW prog _ _).trans h,k⟩
 i40:=let⟨i,h,k⟩:=oM.i40;⟨i,(iW prog _ _).trans h,k⟩
 i110:=let⟨i,h,k⟩:=oM.i110;⟨i,(iW prog _ _).trans h,k⟩
 i258:=let⟨i,h,k⟩:=oM.i258;⟨i,(iW prog _ _).trans h,k⟩
 i247:=let⟨i,h,k⟩:=oM.i247;⟨i,(iW prog _ _).trans h,k⟩
def jI{s:Sem Value}{a:Next}(h:(s.bind λv=>Sem.pure (Next.value v)).run P w=.ok a W):∃v,a=.value v/\s.run P w=.ok v W:=by
 obtain⟨v,b,d,c⟩:=dz (s:=s) h;cases(show Result.ok (Next.value v) b=Result.ok a W from c);exact⟨v,rfl,d⟩
section
variable {P:Program} {w w3:World} {e:Operand->Value} {x y:Operand} {nx:Next} {a b:Int} {dst:Option Tmp} {ty:TypeId} {pos:String} {af:Array Edge} {gd:Option (Nat×Bool)}
def im(h:(execOp e ⟨dst,.assign x,ty,pos,af,gd⟩).run P w=.ok nx w3):∃v,nx=.value v/\(v=e x/\w3=w):=by
 cases(show Result.ok (Next.value (e x)) w=Result.ok nx w3 from h);exact⟨_,rfl,rfl,rfl⟩
def agK(h:(execOp e ⟨dst,.move x,ty,pos,af,gd⟩).run P w=.ok nx w3):∃v,nx=.value v/\(v=e x/\w3=w):=by
 cases(show Result.ok (Next.value (e x)) w=Result.ok nx w3 from h);exact⟨_,rfl,rfl,rfl⟩
def apZ(f:e y=.int .i64 b)(h:(execOp e ⟨dst,.binOp .lss 3 x y 3,ty,pos,af,gd⟩).run P w=.ok nx w3):∃v,nx=.value v/\(∃a,e x=.int .i64 a/\v=.bool (decide (a<b))/\w3=w):=by
 obtain⟨v,rfl,d⟩:=jI (s:=binOp .lss 3 (e x) (e y)) h;clear h;have h:=d;clear d;refine⟨v,rfl, ?_⟩;rw[f] at h;generalize e x=u at h ⊢;cases u with
 |int k n=>
  by_cases c:k=.i64
  .subst c;cases(show Result.ok (.bool (decide (n<b))) w=Result.ok v w3 from h);exact⟨_,rfl,rfl,rfl⟩
  .simp only[binOp,c,ne_eq,not_false_eq_true,mw] at h;cases(show Result.halt _ _=Result.ok v w3 from h)
 |pointer p=>cases p<;>cases(show Result.halt _ _=Result.ok v w3 from h)
 |_=>cases(show Result.halt _ _=Result.ok v w3 from h)
def ft(i:e x=.int .i64 a)(d:e y=.int .i64 b)(h:(execOp e ⟨dst,.binOp .lss 3 x y 3,ty,pos,af,gd⟩).run P w=.ok nx w3):∃v,nx=.value v/\(v=.bool (decide (a<b))/\w3=w):=by
 obtain⟨v,rfl,j,c,f,g⟩:=apZ d h;rw[i] at c;cases c;exact⟨_,rfl,f,g⟩
def akl(h:(execOp e ⟨dst,.binOp .mul 3 x (.const (.int .i64 1)) 3,ty,pos,af,gd⟩).run P w=.ok nx w3)(d:e (.const (.int .i64 1))=.int .i64 1):∃v,nx=.value v/\(∃a,e x=.int .i64 a/\v=.int .i64 (IntKind.i64.wrap (a*1))/\w3=w):=by
 obtain⟨v,rfl,c⟩:=jI (s:=binOp .mul 3 (e x) (e (.const (.int .i64 1)))) h;clear h;have h:=c;clear c;refine⟨v,rfl, ?_⟩;rw[d] at h;generalize e x=u at h ⊢;cases u with
 |int k n=>
  by_cases b:k=.i64
  .subst b;cases(show Result.ok (.int .i64 (IntKind.i64.wrap (n*1))) w=Result.ok v w3 from h);exact⟨_,rfl,rfl,rfl⟩
  .simp only[binOp,b,ne_eq,not_false_eq_true,mw] at h;cases(show Result.halt _ _=Result.ok v w3 from h)
 |pointer p=>cases p<;>cases(show Result.halt _ _=Result.ok v w3 from h)
 |_=>cases(show Result.halt _ _=Result.ok v w3 from h)
def akm(d:e x=.int .i64 a)(c:e (.const (.int .i64 1))=.int .i64 1)(h:(execOp e ⟨dst,.binOp .add 3 x (.const (.int .i64 1)) 3,ty,pos,af,gd⟩).run P w=.ok nx w3):∃v,nx=.value v/\(v=.int .i64 (IntKind.i64.wrap (a+1))/\w3=w):=by
 obtain⟨v,rfl,b⟩:=jI (s:=binOp .add 3 (e x) (e (.const (.int .i64 1)))) h;clear h;have h:=b;clear b;rw[d,c] at h;cases(show Result.ok (.int .i64 (IntKind.i64.wrap (a+1))) w=Result.ok v w3 from h);exact⟨_,rfl,rfl,rfl⟩
def akn(f:e x=.int .i64 a)(d:e y=.int .i64 b)(h:(execOp e ⟨dst,.binOp .eql 3 x y 3,ty,pos,af,gd⟩).run P w=.ok nx w3):∃v,nx=.value v/\(v=.bool (a ==b)/\w3=w):=by
 have g:eqGuard .eql 3 x y (e x) (e y)=Sem.pure ():=by rw[f,d];rfl
 have c:(((eqGuard .eql 3 x y (e x) (e y)).bind λ_=>binOp .eql 3 (e x) (e y)).bind λv=>Sem.pure (Next.value v)).run P w=.ok nx w3:=h;clear h;rw[g] at c;obtain⟨v,rfl,h⟩:=jI (s:=binOp .eql 3 (e x) (e y)) c;clear c;rw[f,d] at h;cases(show Result.ok (.bool (a ==b)) w=Result.ok v w3 from h);exact⟨_,rfl,rfl,rfl⟩
def na{a:Builtin}{s:Value->Sem Value}(d:∀c v,builtin a #[t0] ty c #[v]=(s v).bind λu=>Sem.pure (.value u)):execOp e ⟨dst,.call ⟨.builtin a,#[.tmp t],#[t0]⟩,ty,pos,af,gd⟩=(s (e (.tmp t))).bind λu=>Sem.pure (.value u):=by
 have b:Array.map e #[.tmp t]=#[e (.tmp t)]:=by simp
 simp only[execOp,resolve];rw[b];exact d _ _
def agL(k:P.underlying t0=some (.slice X))(h:(execOp e ⟨dst,.call ⟨.builtin .len,#[.tmp t],#[t0]⟩,ty,pos,af,gd⟩).run P w=.ok nx w3) :
  ∃v,nx=.value v/\(∃A n c,e (.tmp t)=.slice A n c/\v=.int .i64 n/\w3=w):=by
 rw[na (s:=λv=>Builtin.len_ #[t0] ty #[v]) λ_ v=>rfl] at h;obtain⟨v,rfl,g⟩:=jI h;clear h;have h:=g;clear g;refine⟨v,rfl, ?_⟩;generalize e (.tmp t)=u at h ⊢;obtain⟨d,l,g,j⟩:=dz (s:=underlying t0) (f:=λd=>match d,u with
  |.string,.string s=>pure (goInt s.size)
  |.array n _,_=>pure (goInt n)
  |.pointer arr,_=>(underlying arr).bind λd=>match d with
   |.array n _=>pure (goInt n)
   |_=>stuck "len: pointer to array expected"
  |.slice _,.slice _ n _=>pure (goInt n)
  |.map _ _,.map none|.chan _ _,.chan none=>pure (goInt 0)
  |.map _ _,.map (some r)=>(getObj r).bind λo=>match o with
   |.map a _=>pure (goInt a.size)
   |_=>stuck "len: map expected"
  |.chan _ _,.chan (some r)=>(getObj r).bind λo=>match o with
   |.chan _ i _ _ _ b=>pure (goInt (if b then 0 else i.size))
   |_=>stuck "len: channel expected"
  |_,_=>stuck "len: string, array, pointer to array, slice, map or channel expected") h
 rw[li k] at g;cases g;cases u with
 |slice A n c=>
  cases(show Result.ok (.int .i64 n) w=Result.ok v w3 from j);exact⟨A,n,c,rfl,rfl,rfl⟩
 |_=>cases(show Result.halt _ _=Result.ok v w3 from j)
end
def aid:TypeDesc->Bool
 |.struct _|.array .. =>false
 |_=>true
def asC{s:Sem V}(h:iU P s){v:V}:s.run P w ≠ .ok v w':=λe=>by
 obtain⟨q,b,c,a, -⟩:=Leaves.ab0 h w #[];rw[<-qD _ _ _ #[],a] at e;cases e
def aie(k:IntKind)(x y:Int)(c:BoundsCode):iU P (boundsPanic k x y c:Sem V):=by
 rw[abx];refine eY ?_ λa=>dI _;split
 .exact λ_=>trivial
 .exact trivial
section
variable {P:Program} (F:FaT P) {w w3:World} {e:Operand->Value} {x y:Operand} {nx:Next} {dst:Option Tmp} {ty:TypeId} {pos:String} {af:Array Edge} {gd:Option (Nat×Bool)}
def ako{A:Option Addr}(b:P.underlying t0=some (.slice X))(d:e (.tmp t)=.slice A n c)(h:(execOp e ⟨dst,.call ⟨.builtin .cap,#[.tmp t],#[t0]⟩,ty,pos,af,gd⟩).run P w=.ok nx w3) :
  ∃v,nx=.value v/\(v=.int .i64 c/\w3=w):=by
 rw[na (s:=λv=>Builtin.cap_ #[t0] ty #[v]) λ_ v=>rfl,d] at h;obtain⟨v,rfl,a⟩:=jI h;refine⟨v,rfl, ?_⟩;have:(Builtin.cap_ #[t0] ty #[.slice A n c]).run P w=.ok (.int .i64 c) w:=by
  simp[Builtin.cap_,li b,goInt]
 rw[this] at a;cases a;exact⟨rfl,rfl⟩
include F in
theorem asD(h:(execOp e ⟨dst,.call ⟨.builtin .len,#[.tmp t],#[9]⟩,ty,pos,af,gd⟩).run P w=.ok nx w3) :
  ∃v,nx=.value v/\(∃s:ByteArray,e (.tmp t)=.string s/\v=.int .i64 s.size/\w3=w):=by
 rw[na (s:=λv=>Builtin.len_ #[9] ty #[v]) λ_ v=>rfl] at h;obtain⟨v,rfl,a⟩:=jI h;refine⟨v,rfl, ?_⟩;generalize e (.tmp t)=u at a ⊢;cases u with
 |string s=>
  have:(Builtin.len_ #[9] ty #[.string s]).run P w=.ok (.int .i64 s.size) w:=by
   simp[Builtin.len_,li F.u9,goInt]
  rw[this] at a;cases a;exact⟨s,rfl,rfl,rfl⟩
 |_=>simp[Builtin.len_,li F.u9,stuck] at a
theorem oN{t:TypeId}{a:TypeDesc}(b:P.underlying t=some a):Leaves P (λd=>d=a) (underlying t):=by
 unfold underlying;show Leaves P (λd=>d=a) (match P.underlying t with
  |some d=>pure d
  |none=>stuck "no such type")
 rw[b];exact rfl
theorem asE{t:TypeId}(a:P.underlying t=some (.struct S)):(isAgg t).run P w=.ok true w:=by simp[isAgg,li a]
theorem aif{t:TypeId}{d:TypeDesc}(a:P.underlying t=some d)(b:aid d=true):(isAgg t).run P w=.ok false w:=by
 cases d<;>first|(cases b;done)|simp[isAgg,li a]
theorem aeb(b:NoV P w A)(h:(load A).run P w=.ok v w3):w3=w/\w.cell? A=some v:=by
 have h:(Sem.load .plain A Sem.pure).run P w=.ok v w3:=h;unfold Sem.run at h;cases a:w.cell? A with
 |some u=>
  simp only[a,Sem.run,rM] at h;exact⟨h.2.symm,by rw[h.1]⟩
 |none=>
  obtain⟨e,c⟩:=(b.2 a).1 (Mode.plain ==.atomic);simp only[a,c] at h;cases h
theorem agM{t:TypeId}{d:TypeDesc}(j:P.underlying t=some d)(i:aid d=true)(l:e x=.pointer (some A))(m:NoV P w A)(h:(execOp e ⟨dst,.load t x,ty,pos,af,gd⟩).run P w=.ok nx w3) :
  ∃v,nx=.value v/\(w.cell? A=some v/\w3=w):=by
 obtain⟨v,rfl,g⟩:=jI (s:=Instr.loadAt t (e x)) h;refine⟨v,rfl, ?_⟩;rw[l] at g;obtain⟨q,r,a,k⟩:=dz (s:=isAgg t) (f:=λb=>if b then(sizeOf t).bind λn=>(loadCells A n).bind λc=>Sem.pure (Value.agg c) else load A) g;rw[aif j i] at a;cases a;obtain⟨o,p⟩:=aeb m k;exact⟨p,o⟩
theorem aih{t:TypeId}{i:TypeInfo}(D:P.underlying t=some (.struct S))(F:P.info? t=some i)(B:i.size=2)(G:e x=.pointer (some A))(J:NoV P w A)(k:NoV P w (A.add 1))(h:(execOp e ⟨dst,.load t x,ty,pos,af,gd⟩).run P w=.ok nx w3) :
  ∃v,nx=.value v/\(∃d a,v=.agg #[d,a]/\w.cell? A=some d/\w.cell? (A.add 1)=some a/\w3=w):=by
 obtain⟨v,rfl,u⟩:=jI (s:=Instr.loadAt t (e x)) h;refine⟨v,rfl, ?_⟩;rw[G] at u;obtain⟨q,g,p,E⟩:=dz (s:=isAgg t) (f:=λb=>if b then(sizeOf t).bind λn=>(loadCells A n).bind λc=>Sem.pure (Value.agg c) else load A) u;rw[asE D] at p;cases p;obtain⟨n,g,r,z⟩:=dz (s:=sizeOf t) (f:=λn=>(loadCells A n).bind λc=>Sem.pure (Value.agg c)) E;have:(sizeOf t).run P w=.ok 2 w:=by simp[sizeOf,typeInfo,F,B]
 rw[this] at r;cases r;obtain⟨c,g,H,y⟩:=dz (s:=loadCells A 2) (f:=λc=>Sem.pure (Value.agg c)) z;cases(show Result.ok (.agg c) g=Result.ok v w3 from y);obtain⟨d,L,C,I⟩:=dz (s:=load (A.add 0)) (f:=λd=>(load (A.add 1)).bind λa=>Sem.pure #[d,a]) H;obtain⟨rfl,l⟩:=aeb J C;obtain⟨a,K,o,m⟩:=dz (s:=load (A.add 1)) (f:=λa=>Sem.pure #[d,a]) I;obtain⟨rfl,j⟩:=aeb k o;cases(show Result.ok #[d,a] _=Result.ok c _ from m);exact⟨d,a,rfl,l,j,rfl⟩
theorem aa3{t:TypeId}{g:Field}{f:Nat}{d:TypeDesc}{cs:Array Value}(i:P.underlying t=some (.struct S))(c:S[f]?=some g)(j:P.underlying g.type=some d)(b:aid d=true)(l:e x=.agg cs)(k:cs[g.offset]?=some u)(h:(execOp e ⟨dst,.field t x f,ty,pos,af,gd⟩).run P w=.ok nx w3) :
  ∃v,nx=.value v/\(v=u/\w3=w):=by
 obtain⟨v,rfl,a⟩:=jI (s:=Instr.field t (e x) f) h;refine⟨v,rfl, ?_⟩;rw[l] at a;have:(Instr.field t (.agg cs) f).run P w=.ok u w:=by
  simp[Instr.field,li i,c,asAgg,part,aif j b,k]
 rw[this] at a;cases a;exact⟨rfl,rfl⟩
theorem aa4{t : TypeId}{i:TypeInfo}{A:Option Addr}{k : Nat}(f:P.underlying t=some (.slice X))(l:P.info? X=some i)(m:e x=.slice A n c)(j:e y=.int .i64 k)(o:k<n)(h:(execOp e ⟨dst,.indexAddr t x y,ty,pos,af,gd⟩).run P w=.ok nx w3) :
  ∃v,nx=.value v/\(∃a,A=some a/\v=.pointer (some (a.add (k*i.size)))/\w3=w):=by
 obtain⟨v,rfl,b⟩:=jI (s:=Instr.indexAt t (e x) (e y)) h;refine⟨v,rfl, ?_⟩;rw[m,j] at b;have p:(0:Int)<=k/\(k:Int)<n:=by omega
 cases A with
 |none=>
  exfalso;have hd:iU P (Instr.indexAt t (.slice none n c) (.int .i64 k)):=by
   unfold Instr.indexAt;refine Leaves.bind (A:=λq=>q=(IntKind.i64,(k:Int))) rfl λq g=> ?_;subst g;refine Leaves.bind (oN f) λd hd=> ?_;subst hd;refine Leaves.bind (s:=Sem.pure (none,n,X)) (A:=λq=>q=(none,n,X)) rfl λq g=> ?_;subst g;exact Leaves.bind (oN f) λd hd=>aie _ _ _ _
  exact asC hd b
 |some a=>
  have:(Instr.indexAt t (.slice (some a) n c) (.int .i64 k)).run P w=.ok (.pointer (some (a.add (k*i.size)))) w:=by
   simp[Instr.indexAt,asIntOf,li f,o,sizeOf,typeInfo,l]
  rw[this] at b;cases b;exact⟨a,rfl,rfl,rfl⟩
end
def akp:Value->Bool
 |.agg _|.tuple _=>false
 |_=>true
section
variable {P:Program} (F:FaT P) {w w3:World} {e:Operand->Value} {x y:Operand} {nx:Next} {dst:Option Tmp} {ty:TypeId} {pos:String} {af:Array Edge} {gd:Option (Nat×Bool)}
def abP{c : Value}(b:akp u=true)(f:w.cell? A=some c)(d:w.frozen? A=false)(k:Sem V):(Sem.store .plain A u k).run P w=k.run P (w.setCell A u):=by
 have a:(∀x,u ≠ .agg x)/\∀x,u ≠ .tuple x:=⟨λx e=>(by subst e;cases b),λx e=>(by subst e;cases b)⟩;rw[<-qD _ _ _ #[],ry _ _ _ _ _ _ _ a.1 a.2];simp only[f,d,fa,pX];rw[qD]
def ap0 :A.add 1≠A:=by
 unfold Addr.add;intro e;have:=ef Addr.off e;simp at this
include F in
theorem anz{u0 u1 c0 c1:Value}(k:akp u0=true)(r:akp u1=true)(o:e x=.pointer (some A))(j:e y=.agg #[u0,u1])(a:w.cell? A=some c0)(d:w.frozen? A=false)(f:w.cell? (A.add 1)=some c1)(b:w.frozen? (A.add 1)=false) :
  (execOp e ⟨dst,.store 171 x y,ty,pos,af,gd⟩).run P w=.ok .skip ((w.setCell A u0).setCell (A.add 1) u1):=by
 obtain⟨i,m,t, -⟩:=F.i258;have p:(storeCells A [u0,u1] 0).run P w=.ok () ((w.setCell A u0).setCell (A.add 1) u1):=by
  show(Sem.store .plain (A.add 0) u0 (Sem.store .plain (A.add 1) u1 (Sem.pure ()))).run P w=_;have g:A.add 0=A:=by unfold Addr.add;simp
  rw[g,abP k a d,abP r (c:=c1) (by rw[sY _ _ _ _ (λe=>ap0 e.symm)];exact f) (by rw[tT];exact b)];rfl
 have s:(storeVar 171 A (.agg #[u0,u1])).run P w=.ok () ((w.setCell A u0).setCell (A.add 1) u1):=by
  have l:(sizeOf 171).run P w=.ok 2 w:=by simp[sizeOf,typeInfo,m,t]
  unfold storeVar;show((sizeOf 171).bind λn=>if(Value.agg #[u0,u1]).cells.size≠n then stuck _ else storeCells A (Value.agg #[u0,u1]).cells.toList 0).run P w=_;rw[qh,l];exact p
 have:execOp e ⟨dst,.store 171 x y,ty,pos,af,gd⟩=(Instr.storeAt 171 (e x) (e y)).bind λ_=>Sem.pure .skip:=rfl;rw[this,o,j,qh];have q:(Instr.storeAt 171 (.pointer (some A)) (.agg #[u0,u1])).run P w=.ok () ((w.setCell A u0).setCell (A.add 1) u1):=s;rw[q];rfl
include F in
theorem anA{c0 : Value}(j:∃a n c,u=.slice a n c)(o:e x=.pointer (some A))(g:e y=u)(b:w.cell? A=some c0)(d:w.frozen? A=false) :
  (execOp e ⟨dst,.store 160 x y,ty,pos,af,gd⟩).run P w=.ok .skip (w.setCell A u):=by
 obtain⟨i,l,s, -⟩:=F.i247;obtain⟨a,n,c,rfl⟩:=j;have p:(storeCells A [.slice a n c] 0).run P w=.ok () (w.setCell A (.slice a n c)):=by
  show(Sem.store .plain (A.add 0) (.slice a n c) (Sem.pure ())).run P w=_;have f:A.add 0=A:=by unfold Addr.add;simp
  rw[f,abP rfl b d];rfl
 have r:(storeVar 160 A (.slice a n c)).run P w=.ok () (w.setCell A (.slice a n c)):=by
  have k:(sizeOf 160).run P w=.ok 1 w:=by simp[sizeOf,typeInfo,l,s]
  unfold storeVar;show((sizeOf 160).bind λm=>if(Value.slice a n c).cells.size≠m then stuck _ else storeCells A (Value.slice a n c).cells.toList 0).run P w=_;rw[qh,k];exact p
 have:execOp e ⟨dst,.store 160 x y,ty,pos,af,gd⟩=(Instr.storeAt 160 (e x) (e y)).bind λ_=>Sem.pure .skip:=rfl;rw[this,o,g,qh];have q:(Instr.storeAt 160 (.pointer (some A)) (.slice a n c)).run P w=.ok () (w.setCell A (.slice a n c)):=r;rw[q];rfl
include F in
theorem ap1:(execOp e ⟨dst,.alloc 160,ty,pos,af,gd⟩).run P w=.ok (.value (.pointer (some ⟨w.heap.size,0,none⟩))) (w.alloc (.cells #[.slice none 0 0] 160)):=by
 obtain⟨i,b,c,a⟩:=F.i247;have:execOp e ⟨dst,.alloc 160,ty,pos,af,gd⟩=(Instr.alloc 160 true (.tuple #[])).bind λv=>Sem.pure (.value v):=rfl;rw[this,qh];have:(Instr.alloc 160 true (.tuple #[])).run P w=.ok (.pointer (some ⟨w.heap.size,0,none⟩)) (w.alloc (.cells #[.slice none 0 0] 160)):=by
  simp[Instr.alloc,zeroValue,typeInfo,b,a,newVar,newRow,Value.cells]
 rw[this];rfl
include F in
theorem amh(t:(n:Int)<=2147483647)(o:e x=.int .i64 n):∃c:Array Value,c.size=2*n/\(execOp e ⟨dst,.makeSlice 160 x x,ty,pos,af,gd⟩).run P w=.ok (.value (.slice (some ⟨w.heap.size,0,none⟩) n n)) (w.alloc (.cells c 171)):=by
 obtain⟨i,a,r,g,p⟩:=F.i258;have k:IntKind.i64.wrap (n:Int)=n:=by
  unfold IntKind.wrap;simp[IntKind.signed,IntKind.bits];omega
 have q:¬(n:Int)<0:=by omega
 have s:¬(2:Int) ^ 48<24*n:=by omega
 have:execOp e ⟨dst,.makeSlice 160 x x,ty,pos,af,gd⟩=(Instr.makeSlice 160 (e x) (e x)).bind λv=>Sem.pure (.value v):=rfl;rw[this,o];have l:¬(281474976710656:Int)<24*n:=by omega
 have j:∀w,(sizeOf 171).run P w=.ok 2 w:=λw=>by simp[sizeOf,typeInfo,a,r]
 have d:∀m:Nat,(askRoom m).run P w=.ok () w:=λm=>by
  unfold askRoom;split<;>rfl
 by_cases f:n=0
 .subst f;refine⟨(Array.range 0).map λ_=>default,by simp, ?_⟩;rw[qh];have:(Instr.makeSlice 160 (.int .i64 (0:Nat)) (.int .i64 (0:Nat))).run P w=.ok (.slice (some ⟨w.heap.size,0,none⟩) 0 0) (w.alloc (.cells ((Array.range 0).map λ_=>default) 171)):=by
   simp[Instr.makeSlice,li F.agJ,asInt,asIntOf,typeInfo,a,g,d,j,newRow,(show IntKind.i64.wrap 0=0 by decide)]
  rw[this];rfl
 .refine⟨(Array.range (n*2)).map λi=>(#[.string ⟨#[]⟩,.bool false]:Array Value)[i % 2]!,by simp;omega, ?_⟩;rw[qh];have:(Instr.makeSlice 160 (.int .i64 n) (.int .i64 n)).run P w=.ok (.slice (some ⟨w.heap.size,0,none⟩) n n) (w.alloc (.cells ((Array.range (n*2)).map λi=>(#[.string ⟨#[]⟩,.bool false]:Array Value)[i % 2]!) 171)):=by
   have b:∀w,(zeroValue 171).run P w=.ok (.agg #[.string ⟨#[]⟩,.bool false]) w:=λw=>by simp[zeroValue,typeInfo,a,p]
   simp[Instr.makeSlice,li F.agJ,asInt,asIntOf,typeInfo,a,g,k,q,l,d,j,b,newRow,f,Value.cells];intro h;omega
  rw[this];rfl
end
def eJ(h:w.cell? A=some v):A.block<w.heap.size:=by
 unfold World.cell? at h;cases a:w.heap[A.block]? with
 |none=>rw[a] at h;simp at h
 |some o=>exact(db.1 a).1
structure Cx where
 R:List Frame->World->Prop
 c0:Cfg
 gi:Ren
 w0:World
 y:Frame
 ys:List Frame
def At(X:Cx)(T:Array Value)(k:List Item)(w:World):Prop:=45<=T.size/\∃c a,fM true X.R X.c0 X.gi X.w0 c a (FQ bX T k::X.y::X.ys) w
structure Tm (M:List Nat) (T T':Array Value):Prop where
 size:T'.size=T.size
 same:∀t,M.contains t=false->T'.getD t undef=T.getD t undef
def Tm.refl(M:List Nat)(T:Array Value):Tm M T T:=⟨rfl,λ_ _=>rfl⟩
def Tm.trans{T : Array Value}(h:Tm R T T')(k:Tm R T' U):Tm R T U:=⟨k.size.trans h.size,λt a=>(k.same t a).trans (h.same t a)⟩
def Tm.mono{T : Array Value}(h:Tm R T T')(b:∀t,R.contains t=true->rest.contains t=true):Tm rest T T':=⟨h.size,λt a=>h.same t (by
 cases e:R.contains t with
 |false=>rfl
 |true=>rw[b t e] at a;cases a)⟩
def Tm.sw{T : Array Value}{d:Nat}(h:Tm [d] T T')(b:cD.contains d=true):Tm cD T T':=h.mono λt a=>by
 simp at a;subst a;exact b
def Tm.one{T : Array Value}{d:Nat}(b:T'.size=T.size)(h:∀t,t≠d->T'.getD t undef=T.getD t undef):Tm [d] T T':=⟨b,λt a=>h t λe=>by subst e;simp at a⟩
def aec{n:Tmp}{t ty:TypeId}{dst:Option Tmp}(f:e (.tmp n)=.tuple #[]):∀c a,(execOp e ⟨dst,.load t (.tmp n),ty,pos,af,gd⟩).run P w ≠ .ok c a:=λc a g=>by
 obtain⟨v,d,b,i⟩:=dz (s:=Instr.loadAt t (e (.tmp n))) g;rw[f] at b;cases(show Result.halt _ _=Result.ok v d from b)
section
variable {X:Cx} {T:Array Value} {k:List Item} {w w2:World}
def At.go(h:At X T k w)(b:∀base,stepG (aj true) true (Gl (FQ bX T k::X.y::X.ys) base) w=.go (Gl (FQ bX T k2::X.y::X.ys) base) w2 es):At X T k2 w2:=
 let⟨e,_,_,h⟩:=h;let⟨d,c,a,_,_⟩:=h.go rfl true b;⟨e,d,c,a⟩
def At.seq(h:At X T (.code (.seq a b)::k) w):At X T (.code a :: .code b::k) w:=h.go (es:=#[]) λbase=>by simp[Gl,stepG,stepG.exec]
def At.region{id:Nat}{l:List Nat}(a:List.range Z.size=l)(h:At X T (.code (.region id Z false)::k) w):At X T (.inRegion Z l::k) w:=h.go (es:=#[]) λbase=>by subst a;simp[Gl,stepG,stepG.exec]
def At.gY(h:At X T (.inRegion Z []::k) w):At X T k w:=h.go (es:=#[]) λbase=>by simp[Gl,stepG,stepG.exec]
def AtL(X:Cx)(T:Array Value)(k:List Item)(w:World):Prop:=45<=T.size/\∃c a,fM true X.R X.c0 X.gi X.w0 c a (FQ bX T k::X.y::X.ys) w/\gh (aj true) c X.c0
def At.axm(h:At X T (.inRegion Z []::k) w):AtL X T k w:=
 let⟨e,_,_,h⟩:=h;let⟨d,c,b,a,_⟩:=h.go (w2:=w) (x2:=FQ bX T k) (xs2:=X.y::X.ys) (es:=#[]) rfl true λbase=>by simp[Gl,stepG,stepG.exec]
 ⟨e,d,c,b,a⟩
def At.skip(h:At X T (.code .skip::k) w):At X T k w:=h.go (es:=#[]) λbase=>by simp[Gl,stepG,stepG.exec]
def At.cond(d:T.getD t undef=.bool q)(h:At X T (.code (.cond (.tmp t) a b)::k) w):At X T (.code (if q then a else b)::k) w:=h.go (es:=#[]) λbase=>by
 have c:Frame.eval (FQ bX T (.code (.cond (.tmp t) a b)::k)) (.tmp t)=.bool q:=d;simp[Gl,stepG,stepG.exec,c]
def At.block{id:Nat}(h:At X T (.code (.block id a)::k) w):At X T (.code a :: .inBlock id::k) w:=h.go (es:=#[]) λbase=>by simp[Gl,stepG,stepG.exec]
def At.loop(h:At X T (.code (.loop a)::k) w):At X T (.code a :: .inLoop a::k) w:=h.go (es:=#[]) λbase=>by simp[Gl,stepG,stepG.exec]
def At.again(h:At X T (.inLoop a::k) w):At X T (.code a :: .inLoop a::k) w:=h.go (es:=#[]) λbase=>by simp[Gl,stepG,stepG.exec]
def At.exit{id:Nat}(a:exitTo id k=some k2)(h:At X T (.code (.exit id)::k) w):At X T k2 w:=h.go (es:=#[]) λbase=>by simp[Gl,stepG,stepG.exec,a]
def At.no(h:At X T (.code (.refuse "")::k) w):False:=by
 obtain⟨a,c,b,h⟩:=h;exact h.no rfl true (o:=_) (w2:=w) (by simp only[Gl,stepG,stepG.exec];rfl)
def At.iq     {Φ:Value->World->Prop} (h:At X T (.inRegion Z (i::rest)::k) w) (A:Z[i]?=some o) (y:o.guard=none) (s:o.dst=some d) (l:d<45)
  (a:∀m j,(execOp (FQ bX T (.inRegion Z (i::rest)::k)).eval o).run (aj true) w=.ok m j->∃v,m=.value v/\Φ v j) :
  ∃v b n,Φ v b/\Tm [d] T n/\n.getD d undef=v/\At X n (.inRegion Z rest::k) b:=by
 obtain⟨f,c,D,h⟩:=h;obtain⟨v,b,z,C,q,r, -⟩:=h.op A y λm j g=>.inl (let⟨v,e,_⟩:=a m j g;⟨v,e⟩);have p:Φ v b:=by
  rcases q with g|⟨g, -⟩
  .obtain⟨u,e,B⟩:=a _ _ g;cases e;exact B
  .obtain⟨u,e, -⟩:=a _ _ g;cases e
 rw[s] at r;replace l:d<T.size:=aE l f;exact⟨v,b,_,p,.one (by simp) (λt x=>by rw[aD l,bd x]),by rw[aD l,dj rfl],by simpa using f,z,C,r⟩
def At.opk    (h:At X T (.inRegion Z (i::rest)::k) w) (j:Z[i]?=some o) (l:o.guard=none) (g:o.dst=none)
  (b:(execOp (FQ bX T (.inRegion Z (i::rest)::k)).eval o).run (aj true) w=.ok .skip w2):At X T (.inRegion Z rest::k) w2:=by
 obtain⟨d,c,q,h⟩:=h;obtain⟨v,p,n,m,e,f, -⟩:=h.op j l λs r a=>.inr (by rw[b] at a;cases a;rfl);rw[g] at f;rcases e with a|⟨a, -⟩
 .rw[b] at a;cases a
 .rw[b] at a;cases a;exact⟨d,n,m,f⟩
def At.noV      (h:At X T (.inRegion Z (i::rest)::k) w) (g:Z[i]?=some o) (m:o.guard=none) (b:nX gA gL o.op=false) (e:T.getD t undef=.pointer (some A))
  (d:∀(e:Operand->Value) (w:World),e (.tmp t)=.tuple #[]->∀p j,(execOp e o).run (aj true) w ≠ .ok p j):NoV (aj true) w A/\NoV (aj true) w (A.add 1):=by
 obtain⟨l,c,q,h⟩:=h;obtain⟨x,f,n⟩:=h.anw g m b t d;rw[e] at f;cases f with
 |pointer a=>cases a with
  |some a=>exact⟨h.wr.noV a,h.wr.noV (a.add 1)⟩
 |eL=>exact absurd rfl n
def At.axn(b:g∈gL)(h:At X T k w):NoV (aj true) w ⟨g,0,none⟩:=by
 obtain⟨a,c,d,h⟩:=h;exact h.wr.noV (.mk (h.gl g b) 0 none)
def At.chk(a:T.getD t undef=.bool q)(h:At X T (.code (.cond (.tmp t) (.refuse "") .skip)::k) w):q=false/\At X T k w:=by
 have h:=h.cond a;cases q with
 |true=>exact(h.no).elim
 |false=>exact⟨rfl,h.skip⟩
def At.avC(a:T.getD t undef=.bool q)(h:At X T (.code (.cond (.tmp t) .skip (.refuse ""))::k) w):q=true/\At X T k w:=by
 have h:=h.cond a;cases q with
 |false=>exact(h.no).elim
 |true=>exact⟨rfl,h.skip⟩
end
def In_(x:Int):Prop:= -9223372036854775808<=x/\x<=9223372036854775807
def aae{x:Int}(h:(IntKind.i64.wrap (x*1) ==x)=true):In_ x:=by
 rw[mT] at h;unfold IntKind.wrap at h;simp[IntKind.signed,IntKind.bits] at h;unfold In_;omega
def aed(h:(n:Int)<9223372036854775807):IntKind.i64.wrap ((n:Int)+1)=((n+1:Nat):Int):=by
 unfold IntKind.wrap;simp[IntKind.signed,IntKind.bits];omega
def dV{a b:Int}(h:decide (a<b)=false):b<=a:=by simpa using h
structure agN (w:World) (B:Option Addr) (i:Nat) (x:Int×ByteArray):Prop where
 c:∃a,B=some a/\w.cell? (a.add (i*2))=some (.int .i64 x.1)/\w.cell? ((a.add (i*2)).add 1)=some (.string x.2)
 i:In_ x.1
 s:(x.2.size:Int)<=9223372036854775807
def RdI(w:World)(B:Option Addr)(j:Nat)(l:List (Int×ByteArray)):Prop:=∀i x,l[i]?=some x->agN w B (j+i) x
abbrev inC(k:List Item):List Item:=.inLoop po :: .inBlock 52::k
abbrev mI:List Nat:=[4,5,9,10,11,13,15,26,25,22]
def Tm.mi{T : Array Value}{d:Nat}(h:Tm [d] T T')(b:mI.contains d=true):Tm mI T T':=h.mono λt a=>by
 simp at a;subst a;exact b
section
variable {X:Cx} {T:Array Value} {k:List Item} {w:World}
def At.axo{m : Nat}(h:At X T (.code po::inC k) w)(O:T.getD 27 undef=.slice B m c)(gU:T.getD 28 undef=.int .i64 m)(n:T.getD 5 undef=.int .i64 j)(hj:j<=m)(hm:(m:Int)<=9223372036854775807) :
  (j=m/\∃T',Tm mI T T'/\At X T' k w)\/(j<m/\∃x T',agN w B j x/\Tm mI T T'/\T'.getD 5 undef=.int .i64 (j+1:Nat)/\At X T' (.code po::inC k) w):=by
 have o:=Tm.refl mI T;unfold Go.Proofs.YtlggbfanooejbaaGreatDoor.po at h;have h:=h.seq;replace h:=h.region (l:=[0]) rfl;obtain⟨v,A,T1,⟨g,f⟩,m,s4,b⟩:=h.iq (d:=4) (Φ:=λv i=>v=.bool (decide ((j:Int)<m))/\i=w) rfl rfl rfl (by decide) λy i q=>ft (by exact n) (by exact gU) q;rw[g] at s4;rw[f] at b;clear g f;replace n:=(m.same 5 rfl).trans n;replace O:=(m.same 27 rfl).trans O;replace o:=o.trans (m.mi rfl);clear m;replace h:=b;clear b;replace h:=h.gY.seq.cond s4;by_cases F:(j:Int)<m
 .right;rw[du F] at h;simp only[mw] at h;replace h:=h.skip.seq.seq;replace h:=h.region (l:=[0,1,2,3,4]) rfl;obtain⟨ii,hi,hz⟩:=(faQ true).i110;obtain⟨fs,g0,g1,P,V,Y,Z,W,R,M⟩:=(faQ true).asz;obtain⟨v,A,T2,⟨a,hB,g,f⟩,m,S,b⟩:=h.iq (d:=9) (Φ:=λv i=>∃a,B=some a/\v=.pointer (some (a.add (j*ii.size)))/\i=w) rfl rfl rfl (by decide) λy i q=>aa4 (faQ true).u38 hi (by exact O) (by exact n) (by omega) q;rw[g,hz] at S;rw[f] at b;clear g f;replace n:=(m.same 5 rfl).trans n;replace o:=o.trans (m.mi rfl);clear m;replace h:=b;clear b;have hv:=h.noV (t:=9) rfl rfl rfl S (λe w he=>aec he);obtain⟨v,A,T3,⟨E,C,g,L,a1,f⟩,m,r,b⟩:=h.iq (d:=10) (Φ:=λv i=>∃E C,v=.agg #[E,C]/\w.cell? (a.add (j*2))=some E/\w.cell? ((a.add (j*2)).add 1)=some C/\i=w) rfl rfl rfl (by decide) λy i q=>aih P hi hz (by exact S) hv.1 hv.2 q;rw[g] at r;rw[f] at b;clear g f;replace n:=(m.same 5 rfl).trans n;replace o:=o.trans (m.mi rfl);clear m;replace h:=b;clear b;obtain⟨v,A,T4,⟨g,f⟩,m,u,b⟩:=h.iq (d:=11) (Φ:=λv i=>v=E/\i=w) rfl rfl rfl (by decide) λy i q=>aa3 P V (by rw[W];exact(faQ true).u3) rfl (by exact r) (by rw[Z];rfl) q;rw[g] at u;rw[f] at b;clear g f;replace n:=(m.same 5 rfl).trans n;replace r:=(m.same 10 rfl).trans r;replace o:=o.trans (m.mi rfl);clear m;replace h:=b;clear b;obtain⟨v,A,T5,⟨z,Q,g,f⟩,m,I,b⟩:=h.iq (d:=13) (Φ:=λv i=>∃z,E=.int .i64 z/\v=.int .i64 (IntKind.i64.wrap (z*1))/\i=w) rfl rfl rfl (by decide) λy i q=>let⟨v,J,z,D,H,N⟩:=akl q rfl;⟨v,J,z,u.symm.trans D,H,N⟩
  rw[g] at I;rw[f] at b;clear g f;replace n:=(m.same 5 rfl).trans n;replace r:=(m.same 10 rfl).trans r;replace u:=(m.same 11 rfl).trans u;replace o:=o.trans (m.mi rfl);clear m;replace h:=b;clear b;subst Q;obtain⟨v,A,T6,⟨g,f⟩,m,p,b⟩:=h.iq (d:=15) (Φ:=λv i=>v=.bool (IntKind.i64.wrap (z*1) ==z)/\i=w) rfl rfl rfl (by decide) λy i q=>akn (by exact I) (by exact u) q;rw[g] at p;rw[f] at b;clear g f;replace n:=(m.same 5 rfl).trans n;replace r:=(m.same 10 rfl).trans r;replace o:=o.trans (m.mi rfl);clear m;replace h:=b;clear b;obtain⟨hq,b⟩:=h.gY.avC p;replace h:=b.seq.seq;clear b;replace h:=h.region (l:=[0,1,2]) rfl;obtain⟨v,A,T7,⟨g,f⟩,m,G,b⟩:=h.iq (d:=26) (Φ:=λv i=>v=C/\i=w) rfl rfl rfl (by decide) λy i q=>aa3 P Y (by rw[M];exact(faQ true).u9) rfl (by exact r) (by rw[R];rfl) q;rw[g] at G;rw[f] at b;clear g f;replace n:=(m.same 5 rfl).trans n;replace p:=(m.same 15 rfl).trans p;replace o:=o.trans (m.mi rfl);clear m;replace h:=b;clear b;obtain⟨v,A,T8,⟨s,U,g,f⟩,m,K,b⟩:=h.iq (d:=25) (Φ:=λv i=>∃s:ByteArray,C=.string s/\v=.int .i64 s.size/\i=w) rfl rfl rfl (by decide) λy i q=>let⟨v,J,z,D,H,N⟩:=asD (faQ true) q;⟨v,J,z,G.symm.trans D,H,N⟩
  rw[g] at K;rw[f] at b;clear g f;replace n:=(m.same 5 rfl).trans n;replace p:=(m.same 15 rfl).trans p;replace o:=o.trans (m.mi rfl);clear m;replace h:=b;clear b;subst U;clear p;obtain⟨v,A,T9,⟨g,f⟩,m,p,b⟩:=h.iq (d:=15) (Φ:=λv i=>v=.bool (decide ((9223372036854775807:Int)<s.size))/\i=w) rfl rfl rfl (by decide) λy i q=>ft rfl (by exact K) q;rw[g] at p;rw[f] at b;clear g f;replace n:=(m.same 5 rfl).trans n;replace o:=o.trans (m.mi rfl);clear m;replace h:=b;clear b;obtain⟨a0,b⟩:=h.gY.chk p;replace h:=b.region (l:=[0,1]) rfl;clear b;obtain⟨v,A,a3,⟨g,f⟩,m,mE,b⟩:=h.iq (d:=22) (Φ:=λv i=>v=.int .i64 (IntKind.i64.wrap ((j:Int)+1))/\i=w) rfl rfl rfl (by decide) λy i q=>akm (by exact n) rfl q;rw[g] at mE;rw[f] at b;clear g f;replace n:=(m.same 5 rfl).trans n;replace o:=o.trans (m.mi rfl);clear m;replace h:=b;clear b;clear n;obtain⟨v,A,a2,⟨g,f⟩,m,n,b⟩:=h.iq (d:=5) (Φ:=λv i=>v=.int .i64 (IntKind.i64.wrap ((j:Int)+1))/\i=w) rfl rfl rfl (by decide) λy i q=>let⟨v,J,D,H⟩:=agK q;⟨v,J,D.trans mE,H⟩
  rw[g] at n;rw[f] at b;clear g f;replace o:=o.trans (m.mi rfl);clear m;replace h:=b;clear b;rw[aed (by omega)] at n;exact⟨by omega,(z,s),_,⟨⟨a,hB,L,a1⟩,aae hq,dV a0⟩,o,n,h.gY.again⟩
 .left;rw[bv F] at h;simp only[fa,pX] at h;exact⟨by omega,_,o,h.exit rfl⟩
def At.aul{B:Option Addr}{m c:Nat}(g:(m:Int)<=9223372036854775807):∀(n j:Nat) {T:Array Value},m=j+n->At X T (.code Go.Proofs.YtlggbfanooejbaaGreatDoor.po::inC k) w->T.getD 27 undef=.slice B m c->T.getD 28 undef=.int .i64 m->T.getD 5 undef=.int .i64 j->
  ∃l T',l.length=n/\RdI w B j l/\Tm mI T T'/\At X T' k w
 |0,j,T,e,h,gQ,gU,s5=>by
  rcases h.axo gQ gU s5 (by omega) g with⟨_,T',u,t⟩|⟨d,_⟩
  .exact⟨[],T',rfl,λi x b=>by simp at b,u,t⟩
  .omega
 |n+1,j,T,e,h,gQ,gU,s5=>by
  rcases h.axo gQ gU s5 (by omega) g with⟨A,_⟩|⟨d,x,z,s,a,o,v⟩
  .omega
  .obtain⟨l,T',p,r,f,q⟩:=At.aul g n (j+1) (by omega) v ((a.same 27 rfl).trans gQ) ((a.same 28 rfl).trans gU) o;refine⟨x::l,T',by simp[p],λi y b=> ?_,a.trans f,q⟩;cases i with
   |zero=>simp at b;subst b;exact s
   |succ i=>
    have:=r i y (by simpa using b);have e:j+1+i=j+(i+1):=by omega
    rwa [e] at this
end
structure axp (w:World) (A:Option Addr) (i:Nat) (x:Int×List (Int×ByteArray)):Prop where
 c:∃a B c,A=some a/\w.cell? (a.add (i*2))=some (.int .i64 x.1)/\w.cell? ((a.add (i*2)).add 1)=some (.slice B x.2.length c)/\1<=x.2.length/\x.2.length<=c/\(c:Int)<=9223372036854775807/\RdI w B 0 x.2
 i:In_ x.1
def RdP(w:World)(A:Option Addr)(j:Nat)(l:List (Int×List (Int×ByteArray))):Prop:=∀i x,l[i]?=some x->axp w A (j+i) x
def Rgd(X:Cx)(b:Nat):Prop:=(∃a,X.gi.r a b)\/X.w0.heap.size<=b
def PkR(X:Cx)(w:World)(A:Option Addr)(i:Nat):Prop:=∀a b n c,A=some a->w.cell? ((a.add (i*2)).add 1)=some (.slice (some b) n c)->0<c->Rgd X b.block
abbrev inB(k:List Item):List Item:=.inLoop pq :: .inBlock 51::k
def axq(t:Nat)(h:mI.contains t=true):cD.contains t=true:=by
 simp only[mI,sD,List.contains_nil,um,qs,mT] at h;rcases h with rfl|rfl|rfl|rfl|rfl|rfl|rfl|rfl|rfl|rfl<;>rfl
section
variable {X:Cx} {T:Array Value} {k:List Item} {w:World}
def ac4{n:Tmp}{i ty : TypeId}{dst:Option Tmp}(g:P.underlying t0=some (.slice i))(j:e (.tmp n)=.tuple #[]):∀d a,(execOp e ⟨dst,.call ⟨.builtin .len,#[.tmp n],#[t0]⟩,ty,pos,af,gd⟩).run P w ≠ .ok d a:=λd a f=>by
 obtain⟨v,_,A,m,c,b,_⟩:=agL g f;rw[j] at b;cases b
def At.asF     (h:At X T (.inRegion Z (i::rest)::k) w) (l:Z[i]?=some o) (r:o.guard=none) (b:nX gA gL o.op=false)
  (g:∀(e:Operand->Value) (w:World),e (.tmp t)=.tuple #[]->∀u m,(execOp e o).run (aj true) w ≠ .ok u m):∀a n c,T.getD t undef=.slice (some a) n c->0<c->a.block<w.heap.size:=λa n c e d=>by
 obtain⟨q,c,v,h⟩:=h;obtain⟨x,j,s⟩:=h.anw l r b t g;rw[e] at j;cases j with
 |slice f=>cases f with
  |some f=>obtain⟨p,_,_⟩:=f;exact(h.wr.lt p).2
 |empty=>exact absurd d (tJ _)
 |eL=>exact absurd rfl s
def At.agO     (h:At X T (.inRegion Z (i::rest)::k) w) (l:Z[i]?=some o) (r:o.guard=none) (b:nX gA gL o.op=false)
  (g:∀(e:Operand->Value) (w:World),e (.tmp t)=.tuple #[]->∀u m,(execOp e o).run (aj true) w ≠ .ok u m):∀a n c,T.getD t undef=.slice (some a) n c->0<c->Rgd X a.block:=λa n c e d=>by
 obtain⟨q,c,v,h⟩:=h;obtain⟨x,j,s⟩:=h.anw l r b t g;rw[e] at j;cases j with
 |slice f=>cases f with
  |some f=>
   obtain⟨p,_,_⟩:=f;exact(h.kept.new p).imp (λh=>⟨_,h⟩) (·.2)
 |empty=>exact absurd d (tJ _)
 |eL=>exact absurd rfl s
def At.axr{A:Option Addr}{c0 : Nat}(h:At X T (.code pq::inB k) w)(s1:T.getD 1 undef=.slice A n c0)(D:T.getD 16 undef=.int .i64 n)(y:T.getD 20 undef=.int .i64 j)(hj:j<=n)(hm:(n:Int)<=9223372036854775807) :
  (j=n/\∃T',Tm cD T T'/\At X T' k w)\/(j<n/\∃x T',axp w A j x/\PkR X w A j/\Tm cD T T'/\T'.getD 16 undef=.int .i64 n/\T'.getD 20 undef=.int .i64 (j+1:Nat)/\At X T' (.code pq::inB k) w):=by
 have C:=Tm.refl cD T;unfold Go.Proofs.YtlggbfanooejbaaGreatDoor.pq at h;have h:=h.seq;replace h:=h.region (l:=[0]) rfl;obtain⟨v,K,ad,⟨r,q⟩,m,g,f⟩:=h.iq (d:=21) (Φ:=λv s=>v=.bool (decide ((j:Int)<n))/\s=w) rfl rfl rfl (by decide) λJ s E=>ft (by exact y) (by exact D) E;rw[r] at g;rw[q] at f;clear r q;replace s1:=(m.same 1 rfl).trans s1;replace D:=(m.same 16 rfl).trans D;replace y:=(m.same 20 rfl).trans y;replace C:=C.trans (m.sw rfl);clear m;replace h:=f;clear f;replace h:=h.gY.seq.cond g;by_cases U:(j:Int)<n
 .right;rw[du U] at h;simp only[mw] at h;replace h:=h.skip.seq.seq;replace h:=h.region (l:=[0,1,2,3,4]) rfl;obtain⟨ii,hi,hz⟩:=(faQ true).i40;obtain⟨fs,g0,g1,hu,a7,a9,aa,a8,a5,a2⟩:=(faQ true).u40;obtain⟨v,K,ay,⟨a,hB,r,q⟩,m,i,f⟩:=h.iq (d:=23) (Φ:=λv s=>∃a,A=some a/\v=.pointer (some (a.add (j*ii.size)))/\s=w) rfl rfl rfl (by decide) λJ s E=>aa4 (faQ true).u23 hi (by exact s1) (by exact y) (by omega) E;rw[r,hz] at i;rw[q] at f;clear r q;replace s1:=(m.same 1 rfl).trans s1;replace D:=(m.same 16 rfl).trans D;replace y:=(m.same 20 rfl).trans y;replace g:=(m.same 21 rfl).trans g;replace C:=C.trans (m.sw rfl);clear m;replace h:=f;clear f;have hv:=h.noV (t:=23) rfl rfl rfl i (λe w he=>aec he);obtain⟨v,K,af,⟨S,P,r,a1,a0,q⟩,m,o,f⟩:=h.iq (d:=24) (Φ:=λv s=>∃S P,v=.agg #[S,P]/\w.cell? (a.add (j*2))=some S/\w.cell? ((a.add (j*2)).add 1)=some P/\s=w) rfl rfl rfl (by decide) λJ s E=>aih hu hi hz (by exact i) hv.1 hv.2 E;rw[r] at o;rw[q] at f;clear r q;replace s1:=(m.same 1 rfl).trans s1;replace D:=(m.same 16 rfl).trans D;replace y:=(m.same 20 rfl).trans y;replace g:=(m.same 21 rfl).trans g;replace i:=(m.same 23 rfl).trans i;replace C:=C.trans (m.sw rfl);clear m;replace h:=f;clear f;obtain⟨v,K,an,⟨r,q⟩,m,p,f⟩:=h.iq (d:=25) (Φ:=λv s=>v=S/\s=w) rfl rfl rfl (by decide) λJ s E=>aa3 hu a7 (by rw[a8];exact(faQ true).u3) rfl (by exact o) (by rw[aa];rfl) E;rw[r] at p;rw[q] at f;clear r q;replace s1:=(m.same 1 rfl).trans s1;replace D:=(m.same 16 rfl).trans D;replace y:=(m.same 20 rfl).trans y;replace g:=(m.same 21 rfl).trans g;replace i:=(m.same 23 rfl).trans i;replace o:=(m.same 24 rfl).trans o;replace C:=C.trans (m.sw rfl);clear m;replace h:=f;clear f;obtain⟨v,K,ao,⟨z,a3,r,q⟩,m,u,f⟩:=h.iq (d:=26) (Φ:=λv s=>∃z,S=.int .i64 z/\v=.int .i64 (IntKind.i64.wrap (z*1))/\s=w) rfl rfl rfl (by decide) λJ s E=>let⟨v,Z,z,O,W,a4⟩:=akl E rfl;⟨v,Z,z,p.symm.trans O,W,a4⟩
  rw[r] at u;rw[q] at f;clear r q;replace s1:=(m.same 1 rfl).trans s1;replace D:=(m.same 16 rfl).trans D;replace y:=(m.same 20 rfl).trans y;replace g:=(m.same 21 rfl).trans g;replace i:=(m.same 23 rfl).trans i;replace o:=(m.same 24 rfl).trans o;replace p:=(m.same 25 rfl).trans p;replace C:=C.trans (m.sw rfl);clear m;replace h:=f;clear f;subst a3;obtain⟨v,K,aF,⟨r,q⟩,m,G,f⟩:=h.iq (d:=22) (Φ:=λv s=>v=.bool (IntKind.i64.wrap (z*1) ==z)/\s=w) rfl rfl rfl (by decide) λJ s E=>akn (by exact u) (by exact p) E;rw[r] at G;rw[q] at f;clear r q;replace s1:=(m.same 1 rfl).trans s1;replace D:=(m.same 16 rfl).trans D;replace y:=(m.same 20 rfl).trans y;replace g:=(m.same 21 rfl).trans g;replace i:=(m.same 23 rfl).trans i;replace o:=(m.same 24 rfl).trans o;replace p:=(m.same 25 rfl).trans p;replace u:=(m.same 26 rfl).trans u;replace C:=C.trans (m.sw rfl);clear m;replace h:=f;clear f;obtain⟨hq,f⟩:=h.gY.avC G;replace h:=f.seq.seq;clear f;replace h:=h.region (l:=[0,1,2,3]) rfl;obtain⟨v,K,al,⟨r,q⟩,m,H,f⟩:=h.iq (d:=27) (Φ:=λv s=>v=P/\s=w) rfl rfl rfl (by decide) λJ s E=>aa3 hu a9 (by rw[a2];exact(faQ true).u38) rfl (by exact o) (by rw[a5];rfl) E;rw[r] at H;rw[q] at f;clear r q;replace s1:=(m.same 1 rfl).trans s1;replace D:=(m.same 16 rfl).trans D;replace y:=(m.same 20 rfl).trans y;replace g:=(m.same 21 rfl).trans g;replace G:=(m.same 22 rfl).trans G;replace i:=(m.same 23 rfl).trans i;replace o:=(m.same 24 rfl).trans o;replace p:=(m.same 25 rfl).trans p;replace u:=(m.same 26 rfl).trans u;replace C:=C.trans (m.sw rfl);clear m;replace h:=f;clear f;have V:=h.agO (t:=27) rfl rfl rfl λe w he=>ac4 (faQ true).u38 he;rw[H] at V;obtain⟨v,K,aP,⟨B,m,c,a6,r,q⟩,m,I,f⟩:=h.iq (d:=28) (Φ:=λv s=>∃B m c,P=.slice B m c/\v=.int .i64 m/\s=w) rfl rfl rfl (by decide) λJ s E=>let⟨v,Z,B,m,c,O,W,a4⟩:=agL (faQ true).u38 E;⟨v,Z,B,m,c,H.symm.trans O,W,a4⟩
  rw[r] at I;rw[q] at f;clear r q;replace s1:=(m.same 1 rfl).trans s1;replace D:=(m.same 16 rfl).trans D;replace y:=(m.same 20 rfl).trans y;replace g:=(m.same 21 rfl).trans g;replace G:=(m.same 22 rfl).trans G;replace i:=(m.same 23 rfl).trans i;replace o:=(m.same 24 rfl).trans o;replace p:=(m.same 25 rfl).trans p;replace u:=(m.same 26 rfl).trans u;replace H:=(m.same 27 rfl).trans H;replace C:=C.trans (m.sw rfl);clear m;replace h:=f;clear f;subst a6;obtain⟨v,K,aT,⟨r,q⟩,m,M,f⟩:=h.iq (d:=3) (Φ:=λv s=>v=.int .i64 c/\s=w) rfl rfl rfl (by decide) λJ s E=>ako (faQ true).u38 (by exact H) E;rw[r] at M;rw[q] at f;clear r q;replace s1:=(m.same 1 rfl).trans s1;replace D:=(m.same 16 rfl).trans D;replace y:=(m.same 20 rfl).trans y;replace g:=(m.same 21 rfl).trans g;replace G:=(m.same 22 rfl).trans G;replace i:=(m.same 23 rfl).trans i;replace o:=(m.same 24 rfl).trans o;replace p:=(m.same 25 rfl).trans p;replace u:=(m.same 26 rfl).trans u;replace H:=(m.same 27 rfl).trans H;replace I:=(m.same 28 rfl).trans I;replace C:=C.trans (m.sw rfl);clear m;replace h:=f;clear f;obtain⟨v,K,ax,⟨r,q⟩,m,L,f⟩:=h.iq (d:=4) (Φ:=λv s=>v=.bool (decide ((m:Int)<1))/\s=w) rfl rfl rfl (by decide) λJ s E=>ft (by exact I) rfl E;rw[r] at L;rw[q] at f;clear r q;replace s1:=(m.same 1 rfl).trans s1;replace M:=(m.same 3 rfl).trans M;replace D:=(m.same 16 rfl).trans D;replace y:=(m.same 20 rfl).trans y;replace g:=(m.same 21 rfl).trans g;replace G:=(m.same 22 rfl).trans G;replace i:=(m.same 23 rfl).trans i;replace o:=(m.same 24 rfl).trans o;replace p:=(m.same 25 rfl).trans p;replace u:=(m.same 26 rfl).trans u;replace H:=(m.same 27 rfl).trans H;replace I:=(m.same 28 rfl).trans I;replace C:=C.trans (m.sw rfl);clear m;replace h:=f;clear f;obtain⟨ik,f⟩:=h.gY.chk L;replace h:=f.seq.seq;clear f;replace h:=h.region (l:=[0]) rfl;clear L;obtain⟨v,K,aW,⟨r,q⟩,m,L,f⟩:=h.iq (d:=4) (Φ:=λv s=>v=.bool (decide ((9223372036854775807:Int)<c))/\s=w) rfl rfl rfl (by decide) λJ s E=>ft rfl (by exact M) E;rw[r] at L;rw[q] at f;clear r q;replace s1:=(m.same 1 rfl).trans s1;replace M:=(m.same 3 rfl).trans M;replace D:=(m.same 16 rfl).trans D;replace y:=(m.same 20 rfl).trans y;replace g:=(m.same 21 rfl).trans g;replace G:=(m.same 22 rfl).trans G;replace i:=(m.same 23 rfl).trans i;replace o:=(m.same 24 rfl).trans o;replace p:=(m.same 25 rfl).trans p;replace u:=(m.same 26 rfl).trans u;replace H:=(m.same 27 rfl).trans H;replace I:=(m.same 28 rfl).trans I;replace C:=C.trans (m.sw rfl);clear m;replace h:=f;clear f;obtain⟨N,f⟩:=h.gY.chk L;replace h:=f.seq.seq;clear f;replace h:=h.region (l:=[0]) rfl;clear L;obtain⟨v,K,aU,⟨r,q⟩,m,L,f⟩:=h.iq (d:=4) (Φ:=λv s=>v=.bool (decide ((c:Int)<m))/\s=w) rfl rfl rfl (by decide) λJ s E=>ft (by exact M) (by exact I) E;rw[r] at L;rw[q] at f;clear r q;replace s1:=(m.same 1 rfl).trans s1;replace M:=(m.same 3 rfl).trans M;replace D:=(m.same 16 rfl).trans D;replace y:=(m.same 20 rfl).trans y;replace g:=(m.same 21 rfl).trans g;replace G:=(m.same 22 rfl).trans G;replace i:=(m.same 23 rfl).trans i;replace o:=(m.same 24 rfl).trans o;replace p:=(m.same 25 rfl).trans p;replace u:=(m.same 26 rfl).trans u;replace H:=(m.same 27 rfl).trans H;replace I:=(m.same 28 rfl).trans I;replace C:=C.trans (m.sw rfl);clear m;replace h:=f;clear f;obtain⟨R,f⟩:=h.gY.chk L;replace h:=f.seq;clear f;replace h:=h.region (l:=[0]) rfl;obtain⟨v,K,aV,⟨r,q⟩,m,s5,f⟩:=h.iq (d:=5) (Φ:=λv s=>v=.int .i64 (0:Nat)/\s=w) rfl rfl rfl (by decide) λJ s E=>im E;rw[r] at s5;rw[q] at f;clear r q;replace s1:=(m.same 1 rfl).trans s1;replace M:=(m.same 3 rfl).trans M;replace L:=(m.same 4 rfl).trans L;replace D:=(m.same 16 rfl).trans D;replace y:=(m.same 20 rfl).trans y;replace g:=(m.same 21 rfl).trans g;replace G:=(m.same 22 rfl).trans G;replace i:=(m.same 23 rfl).trans i;replace o:=(m.same 24 rfl).trans o;replace p:=(m.same 25 rfl).trans p;replace u:=(m.same 26 rfl).trans u;replace H:=(m.same 27 rfl).trans H;replace I:=(m.same 28 rfl).trans I;replace C:=C.trans (m.sw rfl);clear m;replace h:=f;clear f;replace ik:=dV ik;replace N:=dV N;replace R:=dV R;replace h:=h.gY.seq.block.loop;obtain⟨l,T2,hl,E,F,f⟩:=At.aul (by omega) m 0 (by omega) h H I s5;replace h:=f.region (l:=[0,1]) rfl;clear f;replace s1:=(F.same 1 rfl).trans s1;replace M:=(F.same 3 rfl).trans M;clear L;clear s5;replace D:=(F.same 16 rfl).trans D;replace y:=(F.same 20 rfl).trans y;replace g:=(F.same 21 rfl).trans g;clear G;replace i:=(F.same 23 rfl).trans i;replace o:=(F.same 24 rfl).trans o;clear p;clear u;replace H:=(F.same 27 rfl).trans H;replace I:=(F.same 28 rfl).trans I;replace C:=C.trans (F.mono axq);clear F;obtain⟨v,K,av,⟨r,q⟩,m,G,f⟩:=h.iq (d:=22) (Φ:=λv s=>v=.int .i64 (IntKind.i64.wrap ((j:Int)+1))/\s=w) rfl rfl rfl (by decide) λJ s E=>akm (by exact y) rfl E;rw[r] at G;rw[q] at f;clear r q;replace D:=(m.same 16 rfl).trans D;replace y:=(m.same 20 rfl).trans y;replace C:=C.trans (m.sw rfl);clear m;replace h:=f;clear f;clear y;obtain⟨v,K,aI,⟨r,q⟩,m,y,f⟩:=h.iq (d:=20) (Φ:=λv s=>v=.int .i64 (IntKind.i64.wrap ((j:Int)+1))/\s=w) rfl rfl rfl (by decide) λJ s E=>let⟨v,Z,O,W⟩:=agK E;⟨v,Z,O.trans G,W⟩
  rw[r] at y;rw[q] at f;clear r q;replace D:=(m.same 16 rfl).trans D;replace C:=C.trans (m.sw rfl);clear m;replace h:=f;clear f;rw[aed (by omega)] at y;subst hl;exact⟨by omega,(z,l),_,⟨⟨a,B,c,hB,a1,a0,(by show 1<=l.length;omega),(by show l.length<=c;omega),N,E⟩,aae hq⟩,λO b n2 c2 Q Y=>(by rw[hB] at Q;cases Q;rw[a0] at Y;exact V b n2 c2 (de Y)),C,D,y,h.gY.again⟩
 .left;rw[bv U] at h;simp only[fa,pX] at h;exact⟨by omega,_,C,h.exit rfl⟩
def At.aum{A:Option Addr}{m c:Nat}(o:(m:Int)<=9223372036854775807):∀(n j:Nat) {T:Array Value},m=j+n->At X T (.code pq::inB k) w->T.getD 1 undef=.slice A m c->T.getD 16 undef=.int .i64 m->T.getD 20 undef=.int .i64 j->
  ∃l T',l.length=n/\RdP w A j l/\(∀i,i<n->PkR X w A (j+i))/\Tm cD T T'/\At X T' k w
 |0,j,T,e,h,s1,cU,fR=>by
  rcases h.axr s1 cU fR (by omega) o with⟨_,T',B,v⟩|⟨d,_⟩
  .exact⟨[],T',rfl,λi x a=>by simp at a,λi a=>absurd a (rN i),B,v⟩
  .omega
 |n+1,j,T,e,h,s1,cU,fR=>by
  rcases h.axr s1 cU fR (by omega) o with⟨E,_⟩|⟨d,x,D,u,q,b,f,p,C⟩
  .omega
  .obtain⟨l,T',r,t,z,g,s⟩:=At.aum o n (j+1) (by omega) C ((b.same 1 rfl).trans s1) f p;refine⟨x::l,T',by simp[r],λi y a=> ?_,λi a=> ?_,b.trans g,s⟩
   case refine_2=>
    cases i with
    |zero=>exact q
    |succ i=>
     have:=z i (by omega);have e:j+1+i=j+(i+1):=by omega
     rwa [e] at this
   cases i with
   |zero=>simp at a;subst a;exact u
   |succ i=>
    have:=t i y (by simpa using a);have e:j+1+i=j+(i+1):=by omega
    rwa [e] at this
end
def vG:gL.contains 0=true:=by unfold gL;kernel_rfl
def vF:gL.contains 1=true:=by unfold gL;kernel_rfl
def vq(h:gL.contains g=true):g∈gL:=by simpa using h
abbrev mH:List Nat:=6::7::cD
def Tm.mh{T : Array Value}{d:Nat}(h:Tm [d] T T')(b:mH.contains d=true):Tm mH T T':=h.mono λt a=>by
 simp at a;subst a;exact b
def axs(t:Nat)(h:cD.contains t=true):mH.contains t=true:=by
 simp only[mH,sD,qs];exact .inr (.inr h)
noncomputable def aii:Code:=.seq (.region 58 aht false) (.seq (.region 59 ab4 false) cB)
noncomputable def ap2:Code:=.seq (pg 54 aoS 19) (.seq (pg 55 aoT 19) (.seq (pg 56 aoU 19) (.seq (.region 57 alE false) (.seq (.block 53 (.loop kE)) aii))))
section
variable {X:Cx} {T:Array Value} {k:List Item} {w:World}
def At.head(h:At X T (.code iV::k) w):∃x A n c l T',T.getD 0 undef=.int .i64 x/\1<=x/\x<=99/\(∃v,w.cell? ⟨0,0,none⟩=some v)/\(∃v,w.cell? ⟨1,0,none⟩=some v)/\
  T.getD 1 undef=.slice A n c/\n<=c/\(c:Int)<=9223372036854775807/\l.length=n/\RdP w A 0 l/\(∀i,i<n->PkR X w A i)/\(∀a,A=some a->0<c->Rgd X a.block)/\Tm mH T T'/\T'.getD 6 undef=.slice none 0 0/\T'.getD 7 undef=.bool false/\At X T' (.code ap2::k) w:=by
 have o:=Tm.refl mH T;unfold iV at h;have h:=h.seq.seq;replace h:=h.region (l:=[0,1,2]) rfl;obtain⟨v,E,Z,⟨p,g⟩,m,s,f⟩:=h.iq (d:=6) (Φ:=λv j=>v=.slice none 0 0/\j=w) rfl rfl rfl (by decide) λD j q=>im q;rw[p] at s;rw[g] at f;clear p g;replace o:=o.trans (m.mh rfl);clear m;replace h:=f;clear f;obtain⟨v,E,a1,⟨p,g⟩,m,u,f⟩:=h.iq (d:=7) (Φ:=λv j=>v=.bool false/\j=w) rfl rfl rfl (by decide) λD j q=>im q;rw[p] at u;rw[g] at f;clear p g;replace s:=(m.same 6 rfl).trans s;replace o:=o.trans (m.mh rfl);clear m;replace h:=f;clear f;obtain⟨v,E,a2,⟨x,V,p,g⟩,m,r,f⟩:=h.iq (d:=16) (Φ:=λv j=>∃x,T.getD 0 undef=.int .i64 x/\v=.bool (decide (x<1))/\j=w) rfl rfl rfl (by decide) λD j q=>let⟨v,U,z,P,Q,O⟩:=apZ (b:=1) rfl q;⟨v,U,z,(o.same 0 rfl).symm.trans P,Q,O⟩
 rw[p] at r;rw[g] at f;clear p g;replace s:=(m.same 6 rfl).trans s;replace u:=(m.same 7 rfl).trans u;replace o:=o.trans (m.mh rfl);clear m;replace h:=f;clear f;obtain⟨N,f⟩:=h.gY.chk r;replace h:=f.seq.seq;clear f;replace h:=h.region (l:=[0]) rfl;clear r;obtain⟨v,E,a6,⟨p,g⟩,m,r,f⟩:=h.iq (d:=16) (Φ:=λv j=>v=.bool (decide ((99:Int)<x))/\j=w) rfl rfl rfl (by decide) λD j q=>ft rfl (by exact(o.same 0 rfl).trans V) q;rw[p] at r;rw[g] at f;clear p g;replace s:=(m.same 6 rfl).trans s;replace u:=(m.same 7 rfl).trans u;replace o:=o.trans (m.mh rfl);clear m;replace h:=f;clear f;obtain⟨I,f⟩:=h.gY.chk r;replace h:=f.seq.seq;clear f;replace h:=h.region (l:=[0,1,2,3,4,5]) rfl;obtain⟨ms,W⟩:=(faQ true).asy;have hv:=h.axn (vq vG);clear r;obtain⟨v,E,a5,⟨R,g⟩,m,r,f⟩:=h.iq (d:=16) (Φ:=λv j=>w.cell? ⟨0,0,none⟩=some v/\j=w) rfl rfl rfl (by decide) λD j q=>agM W rfl rfl hv q;rw[g] at f;clear g;replace s:=(m.same 6 rfl).trans s;replace u:=(m.same 7 rfl).trans u;replace o:=o.trans (m.mh rfl);clear m;replace h:=f;clear f;have M:=h.axn (vq vF);clear r;obtain⟨v,E,a0,⟨S,g⟩,m,r,f⟩:=h.iq (d:=16) (Φ:=λv j=>w.cell? ⟨1,0,none⟩=some v/\j=w) rfl rfl rfl (by decide) λD j q=>agM W rfl rfl M q;rw[g] at f;clear g;replace s:=(m.same 6 rfl).trans s;replace u:=(m.same 7 rfl).trans u;replace o:=o.trans (m.mh rfl);clear m;replace h:=f;clear f;have L:=h.agO (t:=1) rfl rfl rfl λe w he=>ac4 (faQ true).u23 he;rw[o.same 1 rfl] at L;clear r;obtain⟨v,E,a4,⟨A,n,c,F,p,g⟩,m,r,f⟩:=h.iq (d:=16) (Φ:=λv j=>∃A n c,T.getD 1 undef=.slice A n c/\v=.int .i64 n/\j=w) rfl rfl rfl (by decide) λD j q=>let⟨v,U,B,m,c,P,Q,O⟩:=agL (faQ true).u23 q;⟨v,U,B,m,c,(o.same 1 rfl).symm.trans P,Q,O⟩
 rw[p] at r;rw[g] at f;clear p g;replace s:=(m.same 6 rfl).trans s;replace u:=(m.same 7 rfl).trans u;replace o:=o.trans (m.mh rfl);clear m;replace h:=f;clear f;obtain⟨v,E,a3,⟨p,g⟩,m,y,f⟩:=h.iq (d:=18) (Φ:=λv j=>v=.int .i64 c/\j=w) rfl rfl rfl (by decide) λD j q=>ako (faQ true).u23 (by exact(o.same 1 rfl).trans F) q;rw[p] at y;rw[g] at f;clear p g;replace s:=(m.same 6 rfl).trans s;replace u:=(m.same 7 rfl).trans u;replace r:=(m.same 16 rfl).trans r;replace o:=o.trans (m.mh rfl);clear m;replace h:=f;clear f;obtain⟨v,E,a7,⟨p,g⟩,m,J,f⟩:=h.iq (d:=20) (Φ:=λv j=>v=.int .i64 (0:Nat)/\j=w) rfl rfl rfl (by decide) λD j q=>im q;rw[p] at J;rw[g] at f;clear p g;replace s:=(m.same 6 rfl).trans s;replace u:=(m.same 7 rfl).trans u;replace r:=(m.same 16 rfl).trans r;replace y:=(m.same 18 rfl).trans y;replace o:=o.trans (m.mh rfl);clear m;replace h:=f;clear f;obtain⟨v,E,a8,⟨p,g⟩,m,C,f⟩:=h.iq (d:=19) (Φ:=λv j=>v=.bool (decide ((9223372036854775807:Int)<c))/\j=w) rfl rfl rfl (by decide) λD j q=>ft rfl (by exact y) q;rw[p] at C;rw[g] at f;clear p g;replace s:=(m.same 6 rfl).trans s;replace u:=(m.same 7 rfl).trans u;replace r:=(m.same 16 rfl).trans r;replace y:=(m.same 18 rfl).trans y;replace J:=(m.same 20 rfl).trans J;replace o:=o.trans (m.mh rfl);clear m;replace h:=f;clear f;obtain⟨H,f⟩:=h.gY.chk C;replace h:=f.seq.seq;clear f;replace h:=h.region (l:=[0]) rfl;clear C;obtain⟨v,E,Y,⟨p,g⟩,m,C,f⟩:=h.iq (d:=19) (Φ:=λv j=>v=.bool (decide ((c:Int)<n))/\j=w) rfl rfl rfl (by decide) λD j q=>ft (by exact y) (by exact r) q;rw[p] at C;rw[g] at f;clear p g;replace s:=(m.same 6 rfl).trans s;replace u:=(m.same 7 rfl).trans u;replace r:=(m.same 16 rfl).trans r;replace J:=(m.same 20 rfl).trans J;replace o:=o.trans (m.mh rfl);clear m;replace h:=f;clear f;obtain⟨K,f⟩:=h.gY.chk C;replace h:=f.seq.block.loop;clear f;replace N:=dV N;replace I:=dV I;replace H:=dV H;replace K:=dV K;obtain⟨l,T2,hl,q,hR,G,f⟩:=At.aum (by omega) n 0 (by omega) h ((o.same 1 rfl).trans F) r J;exact⟨x,A,n,c,l,T2,V,N,I,⟨_,R⟩,⟨_,S⟩,F,by omega,H,hl,q,λi hi=>(by have:=hR i hi;rwa [pb] at this),λa e=>L a n c (by rw[F,e]),o.trans (G.mono axs),(G.same 6 rfl).trans s,(G.same 7 rfl).trans u,f⟩
def At.names(h:At X T (.code ap2::k) w):∃A n c z T',T.getD 2 undef=.slice A n c/\(∀a,A=some a->0<c->a.block<w.heap.size)/\(∀a,A=some a->0<c->Rgd X a.block)/\(n:Int)<=2147483647/\n<=c/\(c:Int)<=9223372036854775807/\z.size=2*n/\Tm cD T T'/\
  T'.getD 16 undef=.int .i64 n/\T'.getD 27 undef=.slice (some ⟨w.heap.size,0,none⟩) n n/\T'.getD 28 undef=.int .i64 (0:Nat)/\At X T' (.code (.block 53 (.loop kE)) :: .code aii::k) (w.alloc (.cells z 171)):=by
 have p:=Tm.refl cD T;unfold ap2 at h;have h:=h.seq.seq;replace h:=h.region (l:=[0,1,2]) rfl;have G:=h.asF (t:=2) rfl rfl rfl λe w M=>ac4 (faQ true).u31 M;have J:=h.agO (t:=2) rfl rfl rfl λe w M=>ac4 (faQ true).u31 M;obtain⟨v,y,Q,⟨A,n,c,s,j,i⟩,m,o,b⟩:=h.iq (d:=16) (Φ:=λv g=>∃A n c,T.getD 2 undef=.slice A n c/\v=.int .i64 n/\g=w) rfl rfl rfl (by decide) λC g r=>let⟨v,Y,B,m,c,Z,R,S⟩:=agL (faQ true).u31 r;⟨v,Y,B,m,c,Z,R,S⟩
 rw[j] at o;rw[i] at b;clear j i;replace p:=p.trans (m.sw rfl);clear m;replace h:=b;clear b;obtain⟨v,y,O,⟨j,i⟩,m,q,b⟩:=h.iq (d:=18) (Φ:=λv g=>v=.int .i64 c/\g=w) rfl rfl rfl (by decide) λC g r=>ako (faQ true).u31 (by exact(p.same 2 rfl).trans s) r;rw[j] at q;rw[i] at b;clear j i;replace o:=(m.same 16 rfl).trans o;replace p:=p.trans (m.sw rfl);clear m;replace h:=b;clear b;obtain⟨v,y,U,⟨j,i⟩,m,f,b⟩:=h.iq (d:=19) (Φ:=λv g=>v=.bool (decide ((2147483647:Int)<n))/\g=w) rfl rfl rfl (by decide) λC g r=>ft rfl (by exact o) r;rw[j] at f;rw[i] at b;clear j i;replace o:=(m.same 16 rfl).trans o;replace q:=(m.same 18 rfl).trans q;replace p:=p.trans (m.sw rfl);clear m;replace h:=b;clear b;obtain⟨E,b⟩:=h.gY.chk f;replace h:=b.seq.seq;clear b;replace h:=h.region (l:=[0]) rfl;clear f;obtain⟨v,y,W,⟨j,i⟩,m,f,b⟩:=h.iq (d:=19) (Φ:=λv g=>v=.bool (decide ((9223372036854775807:Int)<c))/\g=w) rfl rfl rfl (by decide) λC g r=>ft rfl (by exact q) r;rw[j] at f;rw[i] at b;clear j i;replace o:=(m.same 16 rfl).trans o;replace q:=(m.same 18 rfl).trans q;replace p:=p.trans (m.sw rfl);clear m;replace h:=b;clear b;obtain⟨u,b⟩:=h.gY.chk f;replace h:=b.seq.seq;clear b;replace h:=h.region (l:=[0]) rfl;clear f;obtain⟨v,y,H,⟨j,i⟩,m,f,b⟩:=h.iq (d:=19) (Φ:=λv g=>v=.bool (decide ((c:Int)<n))/\g=w) rfl rfl rfl (by decide) λC g r=>ft (by exact q) (by exact o) r;rw[j] at f;rw[i] at b;clear j i;replace o:=(m.same 16 rfl).trans o;replace p:=p.trans (m.sw rfl);clear m;replace h:=b;clear b;obtain⟨D,b⟩:=h.gY.chk f;replace h:=b.seq;clear b;replace h:=h.region (l:=[0,1]) rfl;replace E:=dV E;replace u:=dV u;replace D:=dV D;obtain⟨z,L,K⟩:=amh (faQ true) (w:=w) (e:=(FQ bX H (.inRegion alE (0::[1]) :: .code (.seq (.block 53 (.loop kE)) aii)::k)).eval) (x:=.tmp 16) (dst:=some 40) (ty:=160) (pos:= "") (af:=#[]) (gd:=none) E (by exact o);obtain⟨v,y,V,⟨j,i⟩,m,F,b⟩:=h.iq (d:=27) (Φ:=λv g=>v=.slice (some ⟨w.heap.size,0,none⟩) n n/\g=w.alloc (.cells z 171)) rfl rfl rfl (by decide) λC g r=>by have I:=K.symm.trans r;cases I;exact⟨_,rfl,rfl,rfl⟩
 rw[j] at F;rw[i] at b;clear j i;replace o:=(m.same 16 rfl).trans o;replace p:=p.trans (m.sw rfl);clear m;replace h:=b;clear b;obtain⟨v,y,P,⟨j,i⟩,m,N,b⟩:=h.iq (d:=28) (Φ:=λv g=>v=.int .i64 (0:Nat)/\g=w.alloc (.cells z 171)) rfl rfl rfl (by decide) λC g r=>im r;rw[j] at N;rw[i] at b;clear j i;replace o:=(m.same 16 rfl).trans o;replace F:=(m.same 27 rfl).trans F;replace p:=p.trans (m.sw rfl);clear m;replace h:=b;clear b;exact⟨A,n,c,z,_,s,λa e=>G a n c (by rw[s,e]),λa e=>J a n c (by rw[s,e]),E,by omega,u,L,p,o,F,N,h.gY.seq⟩
end
section
variable {β:Bool} {R:List Frame->World->Prop} {c0 c:Cfg} {gi ρ:Ren} {w0 w w2:World} {l l2:List Frame}
def ap3   :∃o a,step P (ly ⟨(iX P).finish v,[],.running,none,none⟩ w)=.ended o a:=by
 have h:∃o a b,stepG P true ⟨(iX P).finish v,[],.running,none,none⟩ w=.ended o a b:=by
  simp only[iX,Frame.finish,stepG,stepG.exec,abF];exact⟨_,_,_,rfl⟩
 obtain⟨o,a,b,h⟩:=h;exact⟨o,a,bY rfl h⟩
def ap4(g:gz (aj β) ρ c.l l)(F:mN c.l):(∃o a,step (aj β) (ly (Gl l [iX (aj β)]) w)=.ended o a)\/∃v a,step (aj β) (ly (Gl l [iX (aj β)]) w)=.next (ly ⟨(iX (aj β)).finish v,[],.running,none,none⟩ a):=by
 obtain⟨M,m,H,hd,L⟩:=F;obtain⟨x,N,y,P,O,k⟩:=g.ne';have I:=g.lone m k;subst I k;rw[m] at g;have A:=g.head;obtain⟨n,t,e,E,C,z,u⟩:=y;obtain⟨D,G,K,j,b,s,B⟩:=A;dsimp only at D G K j b s B;obtain rfl:C=.returning:=by
  rcases b with b|b
  .rw[H] at b;cases b.1
  .exact b.2
 obtain rfl:E=[]:=by rw[hd] at j;cases j;rfl
 obtain rfl:z=.normal:=s.2;have i:∀{r:GStep},stepG (aj β) true (Gl [⟨n,t,e,[],.returning,.normal,u⟩] [iX (aj β)]) w=r->(∃o a d,r=.ended o a d)\/(∃v a d,r=.go ⟨(iX (aj β)).finish v,[],.running,none,none⟩ a d):=by
  intro r p;subst p;simp only[Gl,stepG,unwind,qX];cases J:(aj β).funcs[n]? with
  |none=>exact .inr ⟨_,_,_,rfl⟩
  |some f=>
   dsimp only;cases p:(results f t).runT (aj β) w #[] with
   |mk q d=>
    cases q with
    |ok v a=>exact .inr ⟨v,a,_,rfl⟩
    |halt q a=>cases q<;>exact .inl ⟨_,_,_,rfl⟩
 rcases i rfl with⟨o,a,d,h⟩|⟨v,a,d,h⟩
 .exact .inl ⟨o,a,bY rfl h⟩
 .exact .inr ⟨v,a,dh rfl h⟩
def fM.runs:∀(n:Nat) {c:Cfg} {ρ:Ren} {l:List Frame} {w:World},fM β R c0 gi w0 c ρ l w->runN (aj β) n (ly (Gl l [iX (aj β)]) w)=.next (ly (Gl l2 [iX (aj β)]) w2)->l2≠[]->∃i g,fM β R c0 gi w0 i g l2 w2
 |0,c,ρ,l,w,h,hr,hne=>by
  simp only[runN,qc] at hr;obtain⟨b,rfl⟩:=fK hr;obtain⟨_,_,y,m,_,a⟩:=h.st.ne';obtain rfl:=lA (by rw[a];simp) hne b;exact⟨c,ρ,h⟩
 |n+1,c,ρ,l,w,h,hr,hne=>by
  obtain⟨_,_,y,m,_,a⟩:=h.st.ne';have j:l≠[]:=by rw[a];simp
  unfold runN at hr;by_cases d:mN c.l
  .exfalso;rcases ap4 (w:=w) h.st d with⟨o,f,e⟩|⟨v,f,e⟩
   .rw[e] at hr;cases hr
   .rw[e] at hr;cases n with
    |zero=>
     simp only[runN,qc] at hr;obtain⟨b, -⟩:=fK hr;cases l2 with
     |nil=>exact hne rfl
     |cons x t=>
      have:=ef Goroutine.callers b;simp[Gl] at this
    |succ n=>
     unfold runN at hr;obtain⟨o,s,p⟩:=ap3 (P:=aj β) (v:=v) (w:=f);simp only[p] at hr;cases hr
  .obtain⟨i,g,z,r,u,q, -, -,k, -⟩:=h.ab9 true d;rw[dh (ij j _) (k _)] at hr;exact fM.runs n q hr hne
def fM.calls{args:Array Value}(h:fM β R c0 gi w0 c ρ (Frame.enter (aj β) f args .normal::y::Y) w)(u:Calls (aj β) f args w λe a=>∃v,e=.returned v/\Post v a) :
  ∃k p v i,fM β R c0 gi w0 k p (y.finish v::Y) i/\Post v i:=by
 obtain⟨e,a,g,⟨v,rfl,B⟩,⟨n,F⟩,G,D⟩:=u (y::Y++[iX (aj β)]);obtain⟨k,p,A⟩:=h.runs (l2:=g::y::Y) (w2:=a) n F (by simp);have d:∀base,stepG (aj β) true (Gl (g::y::Y) base) a=.go (Gl (y.finish v::Y) base) a (seen (aj β) g.fn ((results ((aj β).funcs[g.fn]?.getD default) g.tmps).runT (aj β) a #[]).2):=λbase=>by
  obtain⟨r,hd,j,m,l,o⟩:=D;obtain⟨J,s,t,L,K,I,H⟩:=g;dsimp only at r hd j l o;subst r hd j;have b:((results m s).runT (aj β) a #[]).1=.ok v a:=by rw[qD];exact o
  simp only[Gl,stepG,unwind,l,pP,qu];cases z:(results m s).runT (aj β) a #[] with
  |mk q M=>
   rw[z] at b;dsimp only at b;subst b;simp[doReturn,GStep.after]
 obtain⟨C,E,x, -, -⟩:=A.go rfl true d;exact⟨C,E,v,a,x,B⟩
end
end
section
open Go.Conc Go.ConcN Go.RowKit
abbrev fS:=Int×List (Int×ByteArray)
def dN(fv:Int->List fS->Int->ByteArray×Bool):Prop:=∀(b:Bool) (w:World) (a:Int) (A:Option Addr) (n c:Nat) (l:List fS) (nm:Int),1<=a->a<=99->l.length=n->n<=c->(c:Int)<=9223372036854775807->RdP w A 0 l->In_ nm->
 Calls (aj b) 110 #[.int .i64 a,.slice A n c,.int .i64 nm] w λe d=>∃v,e=.returned v/\(v=.agg #[.string (fv a l nm).1,.bool (fv a l nm).2]/\Below w.heap.size w d)
def aij(w:World)(A:Option Addr)(i:Nat)(nm:Int):Prop:=∃a,A=some a/\w.cell? (a.add i)=some (.int .i64 nm)/\In_ nm
def agN.below{x:Int×ByteArray}(h:agN w B i x)(f:∀b,b<w.heap.size->w'.heap[b]?=w.heap[b]?):agN w' B i x:=by
 obtain⟨⟨a,j,d,e⟩,g,l⟩:=h;have k:∀{A:Addr} {v:Value},w.cell? A=some v->w'.cell? A=some v:=λ{A v} c=>by
  rw[fq (f A.block (eJ c))];exact c
 exact⟨⟨a,j,k d,k e⟩,g,l⟩
def RdP.below{A:Option Addr}{l:List fS}(h:RdP w A j l)(d:∀b,b<w.heap.size->w'.heap[b]?=w.heap[b]?):RdP w' A j l:=λi x o=>by
 obtain⟨⟨a,B,c,r,g,n,q,t,p,s⟩,f⟩:=h i x o;have k:∀{A:Addr} {v:Value},w.cell? A=some v->w'.cell? A=some v:=λ{A v} e=>by
  rw[fq (d A.block (eJ e))];exact e
 exact⟨⟨a,B,c,r,k g,k n,q,t,p,λi y m=>(s i y m).below d⟩,f⟩
def qw(a:Addr)(n:Nat):(a.add n).block=a.block:=by unfold Addr.add;split<;>rfl
def gR(b o n:Nat):(⟨b,o,none⟩:Addr).add n=⟨b,o+n,none⟩:=by
 unfold Addr.add;by_cases h:n=0
 .subst h;simp
 .simp[h]
section
variable {X:Cx} {T:Array Value} {k:List Item} {w:World}
def At.call      {args:Array Value} (h:At X T (.inRegion Z (i::rest)::k) w) (n:Z[i]?=some o) (u:o.guard=none) (p:o.dst=some d) (j:d<45)
  (D:∀w,(execOp (FQ bX T (.inRegion Z (i::rest)::k)).eval o).runT (aj true) w #[]=(.ok (.enter f args) w,#[])) (q:Calls (aj true) f args w λe r=>∃v,e=.returned v/\Post v r) :
  ∃v g l,Post v g/\Tm [d] T l/\l.getD d undef=v/\At X l (.inRegion Z rest::k) g:=by
 obtain⟨b,c,H,h⟩:=h;have a:∀base,stepG (aj true) true (Gl (FQ bX T (.inRegion Z (i::rest)::k)::X.y::X.ys) base) w=.go (Gl (Frame.enter (aj true) f args .normal::FQ bX T (.inRegion Z (i::rest)::k)::X.y::X.ys) base) w (seen (aj true) bX #[]):=λbase=>by
  have z:∀y,Region.wanted o y=true:=λy=>by unfold Region.wanted;rw[u]
  have F:stepG (aj true) true (Gl (FQ bX T (.inRegion Z (i::rest)::k)::X.y::X.ys) base) w =
    stepG.apply (aj true) true (FQ bX T (.inRegion Z (i::rest)::k)) (X.y::X.ys++base) none (execOp (FQ bX T (.inRegion Z (i::rest)::k)).eval o) w:=by
   simp[Gl,stepG,stepG.exec,stepG.oper,Frame.oper?,n,z]
  rw[F];unfold stepG.apply;simp only[D,mw];simp[GStep.after,Gl]
 obtain⟨G,I,x, -, -⟩:=h.go rfl true a;obtain⟨A,E,v,g,m,C⟩:=x.calls q;have B:Frame.finish (FQ bX T (.inRegion Z (i::rest)::k)) v=FQ bX (T.setIfInBounds d v) (.inRegion Z rest::k):=by
  simp only[Frame.finish,n,pY,p]
 rw[B] at m;replace j:d<T.size:=aE j b;exact⟨v,g,_,C,.one (by simp) (λt s=>by rw[aD j,bd s]),by rw[aD j,dj rfl],by simpa using b,A,E,m⟩
end
end
section
variable {β:Bool}
open Go.RowKit
def aa5{a:Addr}(h:w.cell? a=some v):a.spot=none:=by
 unfold World.cell? at h;split at h
 .split at h
  .cases h
  .rename_i b;cases c:a.spot with
   |none=>rfl
   |some x=>rw[c] at b;exact absurd rfl b
 .cases h
def ItL(w:World)(A:Option Addr)(l:List (Int×ByteArray)):Prop:=∀i x,l[i]?=some x->∃b a,A=some ⟨b,a,none⟩/\b<w.heap.size/\w.cell? ⟨b,a+i*2,none⟩=some (.int .i64 x.1)/\w.cell? ⟨b,a+i*2+1,none⟩=some (.string x.2)/\fg x.1/\x.2.size<=maxLen
def ItL.of{A:Option Addr}{l:List (Int×ByteArray)}(h:RdI w A 0 l):ItL w A l:=λi x k=>by
 obtain⟨e,j⟩:∃e,l[0]?=some e:=ar (by have:=aH k;omega);obtain⟨⟨p,m,f, -⟩, -, -⟩:=h 0 e j;obtain⟨⟨a,rfl,d,c⟩,o,q⟩:=h i x k;obtain rfl:=de m;rw[pb] at d c;obtain⟨b,g,n⟩:=a;obtain rfl:n=none:=by
  have:=aa5 f;unfold Addr.add at this;simpa using this
 rw[gR] at d c;rw[gR] at c;refine⟨b,g,rfl,eJ d,d,c,o,by unfold maxLen;omega⟩
def ItL.below{A:Option Addr}{l:List (Int×ByteArray)}(h:ItL w A l)(d:Below w.heap.size w w'):ItL w' A l:=λi x g=>by
 obtain⟨b,a,k,c,f,j,m⟩:=h i x g;have e:=d.block b c;exact⟨b,a,k,aE c d.size,(pO e).trans f,(pO e).trans j,m⟩
def akq(n m:Int)(s:ByteArray)(g:Nat)(w:World)(b:w.cell? ⟨g,0,none⟩=some (.int .i64 m)) :
  Calls (aj β) 196 #[.agg #[.int .i64 n,.string s],.pointer (some ⟨g,0,none⟩)] w λe c=>e=.returned (.bool (decide (n=m)))/\Below w.heap.size w c:=by
 have i:g≠w.heap.size:=λe=>by
  have:=eJ b;simp only at this;omega
 have a:=aJ w (.cells #[.int .i64 n,.string s] 64);have d:(w.alloc (.cells #[.int .i64 n,.string s] 64)).cell? ⟨g,0,none⟩=some (.int .i64 m):=(pO (a.block g (eJ b))).trans b;by_cases h:n=m
 .subst h;go_enter vM,ntmps196;go_wp2;go_ret;exact⟨ak (by simp),a⟩
 .have f:(n ==m)=false:=jp.2 h;go_enter vM,ntmps196;go_wp2;go_ret;exact⟨ak (by simp[h]),a⟩
def dG(nm:Int):List (Int×ByteArray)->Int
 |[]=> -1
 |x::l=>if x.1=nm then 0 else let j:=dG nm l;if j<0 then -1 else j+1
def aaf{nm:Int}:∀{l:List (Int×ByteArray)},(∀y∈l,y.1≠nm)->dG nm l=-1
 |[],_=>rfl
 |x::l,h=>by
  show(if x.1=nm then _ else _)=_;rw[bd (h x (by simp)),aaf λy a=>h y (by simp[a])];rfl
def abQ{nm:Int}{x:Int×ByteArray}:∀{l:List (Int×ByteArray)} {k:Nat},(∀y∈l.take k,y.1≠nm)->l[k]?=some x->x.1=nm->dG nm l=k
 |[],k,_,h,_=>by simp at h
 |y::l,0,_,h,hx=>by
  simp at h;subst h;show(if y.1=nm then _ else _)=_;rw[dj hx];rfl
 |y::l,k+1,hn,h,hx=>by
  show(if y.1=nm then _ else _)=_;rw[bd (hn y (by simp)),abQ (l:=l) (k:=k) (λz a=>hn z (by simp[a])) (by simpa using h) hx];show(if((k:Nat):Int)<0 then _ else _)=_;rw[bd (by omega)];omega
end
section
variable {β:Bool}
open Go.RowKit
def avE:ar3 (β:=β) 196:=avg vM (by kernel_rfl) rfl
def agP(nm:Int)(l:List (Int×ByteArray))(A:Option Addr)(c g:Nat)(w:World)(E:ItL w A l)(G:l.length<=c)(I:c<=maxLen)(v:w.cell? ⟨g,0,none⟩=some (.int .i64 nm)) :
  Calls (aj β) 195 #[.slice A l.length c,.func (.func 196) #[] #[.pointer (some ⟨g,0,none⟩)]] w λe u=>e=.returned (.int .i64 (dG nm l))/\Below w.heap.size w u:=by
 unfold maxLen at I;have p:=eJ v;go_enter xQ,ntmps195;go_wp2;go_loopw [8] (λi wr=>∃k:Nat,k<=l.length/\i=.int .i64 k/\(∀y∈l.take k,y.1≠nm)/\Below w.heap.size w wr) (λi _=>l.length-(intOf i).toNat)
 case atStart=>exact⟨0,fb _,rfl,by simp,dk _ _⟩
 case round=>
  obtain⟨k,J,rfl,n,o⟩:=hrel;replace n:=ab n;have s:wr.cell? ⟨g,0,none⟩=some (.int .i64 nm):=(pO (o.block g p)).trans v;by_cases q:k<l.length
  .obtain⟨x,j⟩:=ar q;obtain⟨b,D,rfl,C,z,F,H,B⟩:=(E.below o) k x j;replace j:=ab j;have K:=avE (β:=β) (#[.agg #[.int .i64 x.1,.string x.2]]++#[.pointer (some ⟨g,0,none⟩)]) wr;go_wp2;refine(akq x.1 nm x.2 g wr s).mono ?_;rintro e u ⟨rfl,d⟩;replace d:=ae o d;by_cases h:x.1=nm
   .have a:dG nm l=k:=abQ n.out j.out h;have r:=ab a;clear a;have m:decide (x.1=nm)=true:=du h;rw[m];clear h m;go_wp2;go_ret;exact⟨by rw[r.out];rfl,d⟩
   .have t:∀y∈l.take (k+1),y.1≠nm:=by
     intro y f;rw[kw j.out,jt] at f;rcases f with f|f
     .exact n.out y f
     .rw[gE.1 f];exact h
    replace t:=ab t;have m:decide (x.1=nm)=false:=bv h;rw[m];clear h m;go_wp2;go_roundw
    case rel=>exact⟨k+1,by omega,by go_num,t.out,d⟩
    simp[intOf];omega
  .obtain rfl:k=l.length:=by omega
   have a:dG nm l=-1:=aaf (by have:=n.out;rwa [fd] at this);have r:=ab a;clear a;go_wp2;go_ret;exact⟨by rw[r.out];rfl,o⟩
end
section
variable {β:Bool}
open Go.RowKit
noncomputable def eD(key:Int)(l:List (Int×ByteArray))(nm:Int):ByteArray×Bool:=match l[(dG nm l).toNat]? with
 |some x=>if dG nm l<0 then(⟨#[]⟩,false) else dv key x
 |none=>(⟨#[]⟩,false)
def aa6(nm:Int):∀l:List (Int×ByteArray),dG nm l=-1\/∃(k:Nat) (x:Int×ByteArray),dG nm l=k/\l[k]?=some x
 |[]=>.inl rfl
 |y::l=>by
  show(if y.1=nm then _ else _)=(-1:Int)\/∃(k:Nat) (x:Int×ByteArray),(if y.1=nm then _ else _:Int)=k/\_;by_cases h:y.1=nm
  .rw[dj h];exact .inr ⟨0,y,rfl,rfl⟩
  .rw[bd h];rcases aa6 nm l with a|⟨k,x,a,b⟩
   .rw[a];exact .inl rfl
   .rw[a];refine .inr ⟨k+1,x, ?_,by simpa using b⟩;show(if((k:Nat):Int)<0 then _ else _)=_;rw[bd (by omega)];omega
def anB(key q nm:Int)(z:1<=key/\key<=99)(l:List (Int×ByteArray))(A:Option Addr)(c:Nat)(w:World)(G:ItL w A l)(o:l.length<=c)(t:c<=maxLen) :
  Calls (aj β) 163 #[.int .i64 key,.agg #[.int .i64 q,.slice A l.length c],.int .i64 nm] w λe v=>e=.returned (.tuple #[.string (eD key l nm).1,.bool (eD key l nm).2])/\Below w.heap.size w v:=by
 have HC:=ab t;unfold maxLen at t;go_enter yc,ntmps163;go_wp2;generalize d:(w.alloc (.cells #[.int .i64 q,.slice A l.length c] 40)).alloc (.cells #[.int .i64 nm] 3)=w0 at *;obtain⟨s,K,i,C,D,g,r,I⟩:=pB d;clear d;have f:=G.below s;refine(agP nm l A c (w.heap.size+1) w0 f o HC.out (r 0)).mono ?_;rintro e u ⟨rfl,a⟩;have p:=f.below a;replace i:=aB i a;replace C:=i.cell;replace D:=i.frozen;replace g:=aB g a;replace r:=g.cell;replace I:=g.frozen;replace a:=ae s a;rcases aa6 nm l with h|⟨k,x,h,n⟩
 .have d:eD key l nm=(⟨#[]⟩,false):=by
   unfold eD;rw[h];split
   .rw[dj (by omega)]
   .rfl
  have HG:=ab d;clear d;rw[h];go_wp2;go_ret2;rw[HG.out];exact⟨rfl,a⟩
 .have d:eD key l nm=dv key x:=by
   unfold eD;rw[h,show((k:Nat):Int).toNat=k from rfl,n];show(if((k:Nat):Int)<0 then _ else _)=_;rw[bd (by omega)]
  have HG:=ab d;clear d;obtain⟨b,F,rfl,E,B,H,J,j⟩:=p k x n;have y:=aH n;have L:=bv (show ¬((k:Int)<0) by omega);rw[h];go_wp2;refine(al4 key x z j u).mono ?_;rintro e M ⟨rfl,m⟩;replace a:=ae a m;go_wp2;go_ret2;rw[HG.out];exact⟨rfl,a⟩
end
end Go.Proofs.YtlggbfanooejbaaGreatDoor