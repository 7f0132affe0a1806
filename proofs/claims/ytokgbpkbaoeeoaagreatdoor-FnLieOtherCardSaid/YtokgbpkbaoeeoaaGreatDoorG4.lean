/- A part. -/
import Derived.Test.YtokgbpkbaoeeoaaGreatDoorG3
import Derived.Below
set_option maxRecDepth 100000
set_option maxHeartbeats 8000000
set_option linter.all false
open Go Go.Conc Go.ConcN Go.RowKit Go.Proofs.Tryz Go.Proofs.YtokgbpkbaoeeoaaGreatDoor
variable {B Wg c i n:Nat} {d t:Tmp} {ρ:Ren} {V:Type} {A:Addr} {a b:Code} {o:Oper} {q:Bool} {W w w' w2:World} {e:Event} {u v:Value} {x y:Frame} {X t0:TypeId} {f:FuncId} {pos:String} {P:Program} {R rest:List Nat} {k k2:List Item} {Z:Array Oper} {Y l l' xs:List Frame} {af:Array Edge} {U T':Array Value} {S:Array Field} {es:Array Event} {gd:Option (Nat × Bool)}
namespace Go.Proofs.YtokgbpkbaoeeoaaGreatDoor
def bv:=@_root_.Go.World.size_setCell
def rN:=@_root_.List.not_mem_nil
def sJ:=@_root_.List.mem_toArray
def tj:=@_root_.Array.size_replicate
def tn:=@_root_.Go.Conc.mem_seen
def tp:=@_root_.Nat.sub_self
def tv:=@_root_.Relation.TransGen.trans
def tF:=@_root_.List.contains_cons
def uf:=@_root_.Go.World.cell?_setCell_other
def uj:=@_root_.or_false
def uF:=@_root_.Array.getElem?_push_lt
def uN:=@_root_.Go.Conc.awake_of
def uS:=@_root_.Go.World.frozen?_setCell
def wd:=@_root_.Array.mem_append
def wJ:=@_root_.Array.mem_iff_getElem
section
open Go.Conc Go.ConcN
open Go.ConcR (KK wgBlock WgAt stA smA rd wr mk Payload DC0 Bk g_of_ofEvents ofEvent_mk ofEvent_loc_mark loc_of_ofEvent bk_of_mute again_blocked)
variable [Payload]
omit [Payload] in
def aaz(h:abv Wg e):e.loc ≠ .mark .disable/\e.loc ≠ .mark .enable/\e.loc ≠ .mark (.release (stA Wg)):=by
 obtain⟨a,_,rfl|rfl⟩:=h<;>simp[mk]
omit [Payload] in
def oG(h:abv Wg e){x:Touch}(b:(MemAct.ofEvent e).touch?=some x):ShN Wg x.loc/\x.kind ≠ .plain:=by
 obtain⟨a,c,rfl|rfl⟩:=h<;>(simp[mk,MemAct.ofEvent,MemAct.touch?] at b;subst b;exact⟨⟨a,rfl,c⟩,by simp⟩)
omit [Payload] in
def ajD(h:abv Wg e)(b:Wg<B):(MemAct.ofEvent e).low B:=by
 obtain⟨a,c,rfl|rfl⟩:=h<;>(show a.block<B;omega)
section
variable {P:Program} {ty:TypeId} {Wg C n K0:Nat} {val:Nat->Value} {aZ:au} {aT Fin:au->au->Goroutine->World->Prop}
 {gs:Array Goroutine} {w w':World} {sl:Option (Nat×Nat)} {j:Nat} {D:Nat->WD} {TV:Nat->jU} {R S S':au} {O Rk:Nat->au} {q:Nat->Nat} {tag et:CTag} {f0 f' d0:Nat} {a a':Goroutine} {t:Trace} {st sm st' sm':Int} {es:Array Event} {T':jU}
def kU (y:gs[0]?=some a) (f:MI P ty Wg C n K0 val aZ j gs w t D TV R S O Rk q d0) (m:stepG P true a w=.go a' w' es) (c:Aside Wg w w') (i:WgAt ty Wg w' st' sm') (p:∀e∈es,Bk Wg e)
  (u:fO P ty Wg C n val aT Fin et j R S (TV 0) f' (deafBehind d0 es) a' w') (o:ConcN.Mode j D et st' sm')
  (k:phi n (Vc j D) et<phi n (Vc j D) tag\/(phi n (Vc j D) et=phi n (Vc j D) tag/\f'<f0)) :
  ∃d g s,runT P (crowd gs w sl) 0=(.next d,g)/\abu (n+1) s (phi n (Vc j D) tag+Ssum j D,(TV,f0+2*Fsum j D+2*sumTo (K0+1) q))/\aaJ P ty Wg C n K0 val aZ aT Fin s d (t++g):=by
 obtain⟨z,r,l⟩:=f.pay;exact kD y f m (pa c.size.symm) (λv _=>f.wgO c ⟨_,_,i⟩ v) (λb x=>.inl x) (arR p) (norel_of_Bk p) (ahS (by rw[c.size];exact f.cD.wlt) p) ⟨z,(c.block C f.cD.cw).trans r,l⟩ u i o
  (k.imp id λx=>⟨x.1,.inr ⟨rfl,x.2⟩⟩)
def ayx (y:gs[0]?=some a) (f:MI P ty Wg C n K0 val aZ j gs w t D TV R S O Rk q d0) (m:stepG P true a w=.go a' w' es) (c:Aside Wg w w') (i:WgAt ty Wg w' st' sm') (p:∀e∈es,Bk Wg e)
  (u:fO P ty Wg C n val aT Fin et j R S T' f' (deafBehind d0 es) a' w') (o:ConcN.Mode j D et st' sm') (k:phi n (Vc j D) et<phi n (Vc j D) tag) :
  ∃d g s,runT P (crowd gs w sl) 0=(.next d,g)/\abu (n+1) s (phi n (Vc j D) tag+Ssum j D,(TV,f0+2*Fsum j D+2*sumTo (K0+1) q))/\aaJ P ty Wg C n K0 val aZ aT Fin s d (t++g):=by
 obtain⟨z,r,l⟩:=f.pay;exact kD y f m (pa c.size.symm) (λv _=>f.wgO c ⟨_,_,i⟩ v) (λb x=>.inl x) (arR p) (norel_of_Bk p) (ahS (by rw[c.size];exact f.cD.wlt) p) ⟨z,(c.block C f.cD.cw).trans r,l⟩ u i o (.inl k)
def oH (z:gs[0]?=some a) (k:MI P ty Wg C n K0 val aZ j gs w t D TV R S O Rk q d0) (u:WgAt ty Wg w st sm) (y:ConcN.Mode j D tag st sm) (l:stepG P true a w=.go a' w' es) (v:DSd Wg w w' es)
  (r:fO P ty Wg C n val aT Fin tag j R S (TV 0) f' d0 a' w') (s:f'<f0) :
  ∃f i o,runT P (crowd gs w sl) 0=(.next f,i)/\abu (n+1) o (phi n (Vc j D) tag+Ssum j D,(TV,f0+2*Fsum j D+2*sumTo (K0+1) q))/\aaJ P ty Wg C n K0 val aZ aT Fin o f (t++i):=by
 obtain⟨rfl,c⟩:=v;have m:deafBehind d0 es=d0:=tS (λe d=>⟨(aaz (c e d)).1,(aaz (c e d)).2.1⟩) d0;refine kD z k l (am _) (λ_ _=>.refl _ _ _ _) (λb x=>.inl x) (λop g=> ?_) (λe d=>(aaz (c e d)).2.2) (λop g=> ?_) k.pay (by rw[m];exact r) u y (.inr ⟨rfl,.inr ⟨rfl,s⟩⟩)
 .obtain⟨e,d,rfl⟩:=mt g;exact⟨rfl,λx p=>.inl ⟨alU (oG (c e d) p).1,(oG (c e d) p).2⟩⟩
 .obtain⟨e,d,rfl⟩:=mt g;exact ajD (c e d) k.cD.wlt
def alV (U:gs[0]?=some a) (c:MI P ty Wg C n K0 val aZ j gs w t D TV R S O Rk q d0) (J:WgAt ty Wg w st sm) (L:ConcN.Mode j D tag st sm) (G:stepG P true a w=.go a' w' es) (f:Gua Wg C (2*n) R noC S S' w w' es)
  (Q:fO P ty Wg C n val aT Fin tag j R S' T' f' d0 a' w') (M:jU.Lt T' (TV 0)) :
  ∃o s I,runT P (crowd gs w sl) 0=(.next o,s)/\abu (n+1) I (phi n (Vc j D) tag+Ssum j D,(TV,f0+2*Fsum j D+2*sumTo (K0+1) q))/\aaJ P ty Wg C n K0 val aZ aT Fin I o (t++s):=by
 have B:deafBehind d0 es=d0:=tS (λe p=>⟨(f.ev e p).dis,(f.ev e p).en⟩) d0;have l:Wg<w.heap.size/\¬S Wg/\Wg≠C:=⟨c.cD.wlt,c.cD.ws,λe=>c.cD.cw e.symm⟩;have g:=c.cD.aw9 f.size f.new;refine kD U c G f.size (λd _=>.alS f (λb z=>z.elim (λx=>⟨c.cD.olt d b x,λy=>c.cD.os d b x y,λe=>c.cD.co d (e▸x)⟩) λx=>⟨c.cD.rlt b (c.cD.rk d b x),λy=>c.cD.rs b (c.cD.rk d b x) y,λe=>c.cD.cr (e▸c.cD.rk d b x)⟩) (λi _ y=>y.elim) l)
  f.new (λop A=> ?_) (λe p=>(f.ev e p).rel) (anZ f.ev) (f.pay c.pay) (by rw[B];exact Q) (J.of_block (f.keep Wg l.1 l.2.1 l.2.2)) L (.inr ⟨rfl,.inl M⟩)
 obtain⟨e,p,rfl⟩:=mt A;refine⟨rfl,λx T=>.inr ?_⟩;have r:∀{Z:au},(¬Z Wg)->(∀b,aZ b->¬Z b)->In Z x.loc->¬Shr Wg aZ x.loc:=λF E v ⟨N,e,h⟩=>by
  have:=In.block v e;rcases h with h|h
  .rw[h] at this;exact F this
  .exact E _ h this
 have u:∀{Z:au},(∀d b,O d b->¬Z b)->(¬Z C)->In Z x.loc->∀k,¬abw C K0 O k x.loc:=λF E v k ⟨d,_,h⟩=>by
  rcases h with h|⟨N,e,h,_⟩
  .exact In.no (F d) h v
  .have:=In.block v e;rw[h] at this;exact E this
 rcases(f.ev e p).touch x T with m|⟨_,_,_,m⟩|⟨m,K⟩
 .refine⟨r g.ws g.shs m,λk _ _=>u g.os g.cs m k,λ_ k _ _ ⟨d,_,hr⟩=> ?_⟩;exact In.no (λb z=>g.rs b (c.cD.rk d b z)) hr m
 .exact m.elim
 .refine⟨r c.cD.wr c.cD.shr m,λk _ _=>u c.cD.orr c.cD.cr m k,λH=> ?_⟩;rw[K] at H;cases H
def apr (hn:n<2147483648) (b8:∀R S g w,aT R S g w->∃m,GP P ty Wg C n R S (MW1 P ty Wg C n R S aT Fin) m g w)
  (v:gs[0]?=some a) (mD:fO P ty Wg C n val aT Fin tag j R S (TV 0) f0 d0 a w) (k:MI P ty Wg C n K0 val aZ j gs w t D TV R S O Rk q d0) (o:WgAt ty Wg w st sm) (z:ConcN.Mode j D tag st sm) (al:a.status=.running) :
  (∃B M,runT P (crowd gs w sl) 0=(.next B,M)/\anY P ty Wg C n K0 val aZ Fin B (t++M))\/
  (∃B M nu,runT P (crowd gs w sl) 0=(.next B,M)/\abu (n+1) nu (phi n (Vc j D) tag+Ssum j D,(TV,f0+2*Fsum j D+2*sumTo (K0+1) q))/\aaJ P ty Wg C n K0 val aZ aT Fin nu B (t++M)):=by
 have b4:=Vc_le j D;have F:RM ty Wg C n R S w w:=.refl _ _ _ _;have ao:∀{m':Nat} {tag:CTag},j=n->d0=1->isOpen tag->pend tag=0->phi n (Vc n D) .w1<=phi n (Vc n D) tag->f0=f0->(tag=.w1->m'<=f0)->ConcN.Mode j D tag st sm->GP P ty Wg C n R S (MW1 P ty Wg C n R S aT Fin) m' a w->
   (∃B M nu,runT P (crowd gs w sl) 0=(.next B,M)/\abu (n+1) nu (phi n (Vc j D) tag+Ssum j D,(TV,f0+2*Fsum j D+2*sumTo (K0+1) q))/\aaJ P ty Wg C n K0 val aZ aT Fin nu B (t++M)):=by
  intro m' tag hj hd J hp T _ hm z h;subst hj hd;have a5:ConcN.Mode j D .w1 st sm:=z.reopen J trivial (by rw[hp];rfl) (by simp);rcases rV h with E|⟨m',rfl,c⟩
  .obtain⟨_,N⟩:=E w F;obtain⟨W,rfl,rfl,_⟩:=a5.open_inv trivial;obtain⟨a',d,h0,ay⟩:=N (Vc j D) (by omega) (by simpa[pend] using o);by_cases hv:Vc j D=0
   .obtain⟨s,A⟩:=h0 hv;refine kU v k d (.refl Wg w) o bk_rd (et:=.ke) (.ke A) ?_ (.inl (by simp only[phi] at T ⊢;omega));have e:((Vc j D+pend .w1:Nat):Int)*KK=0:=by rw[hv];simp[pend]
    rw[e];exact .fin trivial (allQuit_of W hv)
   .obtain⟨s,A⟩:=ay hv;exact kU v k d (.refl Wg w) o bk_rd (et:=.w2 (Vc j D)) (.w2 A) (a5.reopen trivial trivial rfl (λvs e=>by cases e;omega)) (.inl (by simp only[phi] at T ⊢;omega))
  .obtain⟨a',w',es,d,K,I⟩:=c w F;rcases Nat.lt_or_eq_of_le T with T|T
   .obtain⟨rfl,U⟩:=K;have b1:deafBehind 1 es=1:=tS (λe he=>⟨(aaz (U e he)).1,(aaz (U e he)).2.1⟩) 1;refine kD v k d (am _) (λ_ _=>.refl _ _ _ _) (λb x=>.inl x) (λop J=> ?_) (λe he=>(aaz (U e he)).2.2) (λop J=> ?_) k.pay (T':=TV 0) (et:=.w1) (by rw[b1];exact .w1 I) o a5 (.inl T)
    .obtain⟨e,he,rfl⟩:=mt J;exact⟨rfl,λx Y=>.inl ⟨alU (oG (U e he) Y).1,(oG (U e he) Y).2⟩⟩
    .obtain⟨e,he,rfl⟩:=mt J;exact ajD (U e he) k.cD.wlt
   .have aH:tag=.w1:=by
     cases tag<;>first|rfl|exact J.elim|(simp only[phi] at T;omega)
    subst aH;exact oH v k o z d K (.w1 I) (by have:=hm rfl;omega)
 cases mD with
 |skd Z h=>
  rcases h.cases with E|⟨f,hT,_,c⟩
  .obtain⟨_,a',d,s,A⟩:=E w F;exact .inr (kU v k d (.refl Wg w) o bk_dis (.sa1 Z A) (z.reopen trivial trivial rfl (by simp)) (.inl (by simp only[phi];omega)))
  .obtain⟨a',w',es,S',d,hG,V⟩:=c w F;exact .inr (alV v k o z d hG (.skd Z V) (by rw[hT];exact⟨f,w,rfl,rfl⟩))
 |sa1 Z h=>
  rename_i r;rcases rV h with E|⟨m',rfl,c⟩
  .obtain⟨_,N⟩:=E w F;obtain⟨W,rfl,rfl,_⟩:=z.open_inv trivial;obtain⟨a',d,s,A⟩:=N (Vc (n-(r+1)) D) (by omega) (by simpa[pend] using o);refine .inr (kU v k d (sX w (stA Wg) _) (o.setSt _) bk_rw (.ske Z A) ?_ (.inl (by simp only[phi];omega)));have e:(((Vc (n-(r+1)) D:Nat):Int)+1)*KK=((Vc (n-(r+1)) D+pend (.sp r 3):Nat):Int)*KK:=by simp[pend]
   rw[e];exact .opn trivial W (by simp)
  .obtain⟨a',w',es,d,K,I⟩:=c w F;exact .inr (oH v k o z d K (.sa1 Z I) (by omega))
 |ske Z h=>
  rcases rV h with E|⟨m',rfl,c⟩
  .obtain⟨_,a',d,b9,A⟩:=E w F;exact .inr (ayx v k d (.refl Wg w) o bk_en (.sgo Z A) (z.reopen trivial trivial rfl (by simp)) (by simp only[phi];omega))
  .obtain⟨a',w',es,d,K,I⟩:=c w F;exact .inr (oH v k o z d K (.ske Z I) (by omega))
 |sgo Z h=>
  rename_i r;rcases h.cases with E|⟨f,hT,_,c⟩
  .obtain⟨_,a',H,X,aV,hX,b0,iR⟩:=E w F;obtain⟨W,rfl,rfl,_⟩:=z.open_inv trivial;obtain⟨Tc,af⟩:=b0 k.pay ⟨_,_,o⟩;obtain⟨l,b3⟩:∃l,n-(r+1)=l:=⟨_,rfl⟩;rw[b3] at k o z W af b4 ⊢;have G:=runT_crowd_spawn (P:=P) (sl:=sl) (i:=0) v (by simpa using aV);rw[k.size] at G;have a9:=k.cD.hand l hX;have b6:=k.ti.fork (X:=X) (m':=0) a9.apart (x:={g:=0,fn:=a.frame.fn,pos:=a.frame.place,act:=.go (K0+1+l)}) (y:={g:=K0+1+l,fn:=H.frame.fn,pos:=a.frame.place,act:=.start})
    ⟨rfl,by rw[show K0+1+l=K0+l+1 by omega]⟩ ⟨by show K0+1+l=_;omega,rfl⟩
   have eV:Vc (l+1) (upd D l ⟨7,0,0⟩)=Vc l D+1:=by
    simp only[Vc,sumTo,qs];rw[sumTo_upd_out D _ cnt (am _)];rfl
   have eS:Ssum (l+1) (upd D l ⟨7,0,0⟩)=Ssum l D+7:=by
    simp only[Ssum,sumTo,qs];rw[sumTo_upd_out D _ WD.stage (am _)]
   have pE:OpenSt (l+1) (upd D l ⟨7,0,0⟩):=λi hi=>by
    by_cases e:i=l
    .subst e;rw[qs];simp
    .rw[qX D _ e];exact W i (by omega)
   have ax:((gs.setIfInBounds 0 a').push H)[0]?=some a':=by
    have an:0<gs.size:=by rw[k.size];omega
    rw[uF (by simpa using an),<-gn];simp[an]
   have ej:l+1=n-r:=by omega
   have a7:∀et,pend et=0->((Vc l D+pend (.sp r 2):Nat):Int)*KK=((Vc (l+1) (upd D l ⟨7,0,0⟩)+pend et:Nat):Int)*KK:=λet hp=>by rw[eV,hp];simp[pend]
   have mi:∀T0,MI P ty Wg C n K0 val aZ (l+1) ((gs.setIfInBounds 0 a').push H) w (t++#[{g:=0,fn:=a.frame.fn,pos:=a.frame.place,act:=.go (K0+1+l)},{g:=K0+1+l,fn:=H.frame.fn,pos:=a.frame.place,act:=.start}]) (upd D l ⟨7,0,0⟩) (upd (upd TV (l+1) Tc) 0 T0) (λb=>S b\/R b) (λ_=>False) O (upd Rk l X) q 0:=λT0=>by
    refine⟨by simp[k.size];omega,λi x a3 hi Y=> ?_,λu ir=> ?_,b6,a9,λu ir hs=> ?_,k.pay,λu ir=>k.unO u (by omega)⟩
    .rw[uF (by simp[k.size];omega),<-gn,lc (by omega)] at Y;rw[Deaf_still t i _ (λop J=>by simp at J;rcases J with rfl|rfl<;>simp)];exact k.old i x a3 hi Y
    .rw[qX _ _ (show u+1≠0 by omega)];rcases pm u l with a0|nY
     .obtain⟨g,hg,b5⟩:=k.wk u a0;refine⟨g, ?_,by rw[qX D _ (by omega),qX Rk _ (by omega),qX TV _ (by omega)];exact b5⟩;rw[uF (by simp[k.size];omega),<-gn,lc (by omega)];exact hg
     .obtain rfl:u=l:=by omega
      refine⟨H, ?_,by rw[qs,qs,qs,k.unO u (am _)];exact .work af⟩;rw[show K0+1+u=(gs.setIfInBounds 0 a').size by simp[k.size],rh]
    .rcases pm u l with a0|nY
     .rw[qX D _ (by omega)] at hs;exact k.has u a0 hs
     .obtain rfl:u=l:=by omega
      rw[qs] at hs;simp at hs
   cases r with
   |zero=>
    obtain⟨Q,A⟩:=iR;have a2:l+1=n:=by omega
    have a4:fO P ty Wg C n val aT Fin .kd (l+1) (λb=>S b\/R b) (λ_=>False) (upd (upd TV (l+1) Tc) 0 Q 0) 0 0 a' w:=by
     rw[qs,a2];exact .kd A
    refine .inr ⟨_,_,(phi n (Vc (l+1) (upd D l ⟨7,0,0⟩)) .kd+Ssum (l+1) (upd D l ⟨7,0,0⟩),(upd (upd TV (l+1) Tc) 0 Q,0+2*Fsum (l+1) (upd D l ⟨7,0,0⟩)+2*sumTo (K0+1) q)),G,Prod.Lex.left _ _ (by simp only[phi];omega),
     _,w,sl,l+1,_,_,_,_,O,_,q,.kd,0,0,a',_,_,rfl,ax,a4,mi Q,o, ?_,rfl⟩
    rw[a7 .kd rfl];exact .opn trivial pE (by simp)
   |succ r'=>
    obtain⟨Q,A⟩:=iR;have a2:l+1=n-(r'+1):=by omega
    have a4:fO P ty Wg C n val aT Fin (.sp r' 5) (l+1) (λb=>S b\/R b) (λ_=>False) (upd (upd TV (l+1) Tc) 0 Q 0) 0 0 a' w:=by
     rw[qs,a2];exact .skd (by omega) A
    refine .inr ⟨_,_,(phi n (Vc (l+1) (upd D l ⟨7,0,0⟩)) (.sp r' 5)+Ssum (l+1) (upd D l ⟨7,0,0⟩),(upd (upd TV (l+1) Tc) 0 Q,0+2*Fsum (l+1) (upd D l ⟨7,0,0⟩)+2*sumTo (K0+1) q)),G,Prod.Lex.left _ _ (by simp only[phi];omega),
     _,w,sl,l+1,_,_,_,_,O,_,q,.sp r' 5,0,0,a',_,_,rfl,ax,a4,mi Q,o, ?_,rfl⟩
    rw[a7 (.sp r' 5) rfl];exact .opn trivial pE (by simp)
  .obtain⟨a',w',es,S',d,hG,V⟩:=c w F;exact .inr (alV v k o z d hG (.sgo Z V) (by rw[hT];exact⟨f,w,rfl,rfl⟩))
 |kd h=>
  rcases h.cases with E|⟨f,hT,_,c⟩
  .obtain⟨_,a',d,s,A⟩:=E w F;exact .inr (kU v k d (.refl Wg w) o bk_dis (.anch A) (z.reopen trivial trivial rfl (by simp)) (.inl (by simp only[phi];omega)))
  .obtain⟨a',w',es,S',d,hG,V⟩:=c w F;exact .inr (alV v k o z d hG (.kd V) (by rw[hT];exact⟨f,w,rfl,rfl⟩))
 |anch h=>
  rcases rV h with E|⟨m',rfl,c⟩
  .obtain⟨s,A⟩:=b8 R S a w (E w F);exact .inr (ao rfl rfl trivial rfl (by simp only[phi];omega) rfl (by simp) z A)
  .obtain⟨a',w',es,d,K,I⟩:=c w F;exact .inr (oH v k o z d K (.anch I) (by omega))
 |w1 h=>exact .inr (ao rfl rfl trivial rfl (am _) rfl (λ_=>am _) z h)
 |w2 h=>
  rename_i vs;rcases rV h with E|⟨m',rfl,c⟩
  .obtain⟨_,N⟩:=E w F;obtain⟨W,rfl,rfl,aL⟩:=z.open_inv trivial;obtain⟨bb,h1⟩:=aL vs rfl;obtain⟨aI,b2⟩:=N (Vc n D) (by omega) (by simpa[pend] using o);by_cases e:Vc n D=vs
   .obtain⟨a',d,s,A⟩:=aI e;exact .inr (kU v k d (sX w (stA Wg) _) (o.setSt _) bk_rw (.w3 A) (.reg trivial W (by omega)) (.inl (by simp only[phi];omega)))
   .obtain⟨a',d,s,A⟩:=b2 e;exact .inr (kU v k d (.refl Wg w) o bk_rd (.anch A) (z.reopen trivial trivial rfl (by simp)) (.inl (by simp only[phi];omega)))
  .obtain⟨a',w',es,d,K,I⟩:=c w F;exact .inr (oH v k o z d K (.w2 I) (by omega))
 |w3 h=>
  rcases rV h with E|⟨m',rfl,c⟩
  .obtain⟨_,ba,a1,kY⟩:=E w F;cases z with
   |opn h1 _ _=>exact h1.elim
   |reg h1 h2 h3=>exact .inr (kU v k (a1 ⟨_,o⟩) (.refl Wg w) o (by simp) (.blk E) (.reg trivial h2 h3) (.inr ⟨rfl,by omega⟩))
   |last L h1 h2 h3 h4=>exact .inr (kU v k (a1 ⟨_,o⟩) (.refl Wg w) o (by simp) (.blk E) (.last L trivial h2 h3 h4) (.inr ⟨rfl,by omega⟩))
   |sema h2=>
    obtain⟨a',d,s,A⟩:=kY o;exact .inr (kU v k d (sX w (smA Wg) _) (o.setSm 0) bk_sem (.w4 A) (.fin trivial h2) (.inl (by simp only[phi];omega)))
   |fin h1 _=>exact h1.elim
  .obtain⟨a',w',es,d,K,I⟩:=c w F;exact .inr (oH v k o z d K (.w3 I) (by omega))
 |blk h=>simp at al
 |w4 h=>
  rcases rV h with E|⟨m',rfl,c⟩
  .obtain⟨_,Y⟩:=E w F;obtain⟨hq,rfl,rfl⟩:=z.fin_inv trivial;obtain⟨a',d,s,A⟩:=Y o;exact .inr (kU v k d (.refl Wg w) o bk_rd (.ke A) (.fin trivial hq) (.inl (by simp only[phi];omega)))
  .obtain⟨a',w',es,d,K,I⟩:=c w F;exact .inr (oH v k o z d K (.w4 I) (by omega))
 |ke h=>
  rcases rV h with E|⟨m',rfl,c⟩
  .obtain⟨_,a',d,s,A⟩:=E w F;obtain⟨hq,rfl,rfl⟩:=z.fin_inv trivial;exact .inr (kU v k d (.refl Wg w) o bk_en (.acq A) (.fin trivial hq) (.inl (by simp only[phi];omega)))
  .obtain⟨a',w',es,d,K,I⟩:=c w F;exact .inr (oH v k o z d K (.ke I) (by omega))
 |acq h=>
  rcases rV h with E|⟨m',rfl,c⟩
  .obtain⟨_,a',d,b7⟩:=E w F;obtain⟨hq,rfl,rfl⟩:=z.fin_inv trivial;have G:=tA (P:=P) (sl:=sl) (i:=0) v (by simpa using d);have h6:∀u,u<n->(D u).stage<=6:=λu ir=>by rw[hq u ir];omega
   have aa:=k.ti.join h6 k.cD.apart a.frame.fn a.frame.place k.cD.wlt;refine .inl ⟨_,_,G,_,w,sl,a',λi=>if i<=K0 then q i else(D (i-(K0+1))).fuel,R,S,rfl,uL _ _ _ (by rw[k.size];omega),by simp[k.size],b7,⟨λi x a3 Y=> ?_,λi hi=> ?_⟩,aa,k.pay,λu ir=>k.has u ir (h6 u ir),⟨_,_,o⟩,λb hb=> ?_⟩
   .rw[tk _ _ _ _ (by omega)] at Y;obtain⟨y,hy,rfl⟩:=jt.1 Y;rw[rz t (g':=0) (by omega) _ g_of_ofEvents];by_cases hi:i<=K0
    .have ad:=k.old i y a3 hi hy;rw[tl ad];simp only[du hi];exact ad
    .have a0:i<K0+1+n:=by have:=(dl.1 hy).1;rw[k.size] at this;omega
     obtain⟨u,rfl⟩:∃u,i=K0+1+u:=⟨i-(K0+1),by omega⟩;obtain⟨g',I,a8⟩:=k.wk u (by omega);rw[hy] at I;cases I;have hd:=k.ti.deafW u (by omega);have h1:=hq u (by omega);rw[h1] at a8;have a6:QuitsD P (D u).fuel (D u).deaf y:=by
      cases a8 with
      |rest _ h=>exact h.quits rfl
     rw[tl a6,hd];simp only[be hi];rw[show K0+1+u-(K0+1)=u by omega];exact a6
   .refine Deaf_absent λp op W e=> ?_;have h1:=aa.gs op (qI W);simp[k.size] at hi;omega
   .rcases hb with hb|rfl
    .exact⟨k.cD.shr b hb,k.cD.shs b hb,λe=>k.cD.shc (e▸hb),k.cD.ajz b hb⟩
    .exact⟨k.cD.wr,k.cD.ws,λe=>k.cD.cw e.symm,k.cD.wlt⟩
  .obtain⟨a',w',es,d,K,I⟩:=c w F;exact .inr (oH v k o z d K (.acq I) (by omega))
end
end
section
open Go.Conc Go.ConcN
open Go.ConcR (KK wgBlock WgAt stA smA rd wr mk Payload DC0 Bk g_of_ofEvents ofEvent_mk ofEvent_loc_mark loc_of_ofEvent bk_of_mute again_blocked)
variable [Payload]
section
variable {P:Program} {ty:TypeId} {Wg C n K0:Nat} {val:Nat->Value} {aZ:au} {aT Fin:au->au->Goroutine->World->Prop}
 {gs:Array Goroutine} {w:World} {sl:Option (Nat×Nat)} {j:Nat} {D:Nat->WD} {TV:Nat->jU} {R S:au} {O Rk:Nat->au} {q:Nat->Nat} {tag:CTag} {f0 d0:Nat} {a:Goroutine} {t:Trace} {st sm:Int}
def afY(d:∀R S g w,aT R S g w->g.status=.running)(r:gs[0]?=some a)(l:fO P ty Wg C n val aT Fin tag j R S (TV 0) f0 d0 a w)(f:MI P ty Wg C n K0 val aZ j gs w t D TV R S O Rk q d0)(p:ConcN.Mode j D tag st sm) :
  ∃(i:Nat) (g:Goroutine),gs[i]?=some g/\g.status=.running:=by
 rcases l.status d with⟨b,_⟩|⟨_,rfl⟩
 .exact⟨0,a,r,b⟩
 .cases p with
  |opn e _ _=>exact e.elim
  |reg _ _ k=>
   obtain⟨i,o,s⟩:=exists_counted k;obtain⟨g,c,b⟩:=f.wk i o;exact⟨K0+1+i,g,c,b.running_of (by omega)⟩
  |last L _ m k _=>
   obtain⟨g,c,b⟩:=f.wk L m;exact⟨K0+1+L,g,c,b.running_of (by omega)⟩
  |fin e _=>exact e.elim
def alZ(f:∀R S g w,aT R S g w->g.status=.running)(r:gs[0]?=some a)(m:fO P ty Wg C n val aT Fin tag j R S (TV 0) f0 d0 a w)(d:MI P ty Wg C n K0 val aZ j gs w t D TV R S O Rk q d0):∀g∈gs,awake g:=by
 intro g p;obtain⟨i,c⟩:=wx.1 p;rcases pv i with rfl|s
 .rw[r] at c;cases c;rcases m.status f with⟨b,_⟩|⟨b,_⟩
  .exact uN (.inl b)
  .exact uN (.inr (.inl b))
 .by_cases k:i<=K0
  .exact uN ((d.old i g s k c).status.elim .inl λx=>.inr (.inr x))
  .have o:i<K0+1+j:=by have:=(dl.1 c).1;rw[d.size] at this;exact this
   obtain⟨e,rfl⟩:∃e,i=K0+1+e:=⟨i-(K0+1),by omega⟩;obtain⟨u,l,b⟩:=d.wk e (by omega);rw[c] at l;cases l;exact uN (b.status.elim .inl λx=>.inr (.inr x))
def ajE (G:n<2147483648) (f:∀R S g w,aT R S g w->g.status=.running) (z:∀R S g w,aT R S g w->∃m,GP P ty Wg C n R S (MW1 P ty Wg C n R S aT Fin) m g w) (B:Mu) (m:Machine) (t:Trace)
  (h:aaJ P ty Wg C n K0 val aZ aT Fin B m t) :
  (∃b e,stepT P m=(.next b,e)/\anY P ty Wg C n K0 val aZ Fin b (t++e))\/(∃b e F,stepT P m=(.next b,e)/\abu (n+1) F B/\aaJ P ty Wg C n K0 val aZ aT Fin F b (t++e)):=by
 obtain⟨gs,w,sl,j,D,TV,R,S,O,Rk,q,tag,f0,d0,a,st,sm,rfl,r,y,v,I,u,rfl⟩:=h;obtain⟨i,g,d,p,s,c,l⟩:=crowd_pick (P:=P) (w:=w) (sl:=sl) (alZ f r y v) (afY f r y v u);rw[l];have x:=y.rely (.at _ _ _ w d);have o:=v.at d;have k:WgAt ty Wg (w.at d) st sm:=I;rcases pv i with rfl|J
 .rw[r] at s;cases s;exact apr (sl:=p) G z r x o k u c
 .by_cases A:i<=K0
  .exact .inr (arQ (sl:=p) f r x o k u J A s c)
  .have H:i<K0+1+j:=by have:=(dl.1 s).1;rw[v.size] at this;exact this
   obtain⟨E,rfl⟩:∃E,i=K0+1+E:=⟨i-(K0+1),by omega⟩;exact .inr (ajC (sl:=p) G f r x o k u (by omega) s c)
def ae5(q:n<2147483648)(l:∀R S g w,aT R S g w->g.status=.running)(i:∀R S g w,aT R S g w->∃m,GP P ty Wg C n R S (MW1 P ty Wg C n R S aT Fin) m g w) :
  ∀(c:Mu) (m:Machine) (t:Trace),aaJ P ty Wg C n K0 val aZ aT Fin c m t->∃N e d,runNT P N m t=(.next e,d)/\anY P ty Wg C n K0 val aZ Fin e d:=by
 intro c
 induction c using(au8 (n+1)).induction with
 |_ c r=>
  intro m t h;rcases ajE q l i c m t h with⟨a,b,j,k⟩|⟨a,b,p,j,f,k⟩
  .exact⟨1,a,t++b,by rw[runNT_succ_next j];rfl,k⟩
  .obtain⟨N,e,d,s,o⟩:=r p f a (t++b) k;exact⟨N+1,e,d,by rw[runNT_succ_next j];exact s,o⟩
def aiM (E:n<2147483648) (b:∀R S g w,aT R S g w->g.status=.running) (c:∀R S g w,aT R S g w->∃m,GP P ty Wg C n R S (MW1 P ty Wg C n R S aT Fin) m g w)
  (v:gs[0]?=some a) (p:gs.size=K0+1) (M:Leavers P t gs q) (Q:eZ aZ K0 w.heap.size t) (d:tY P ty Wg C n val aT n R a w) (s:WgAt ty Wg w 0 0) (f:PayAt C (2*n) w)
  (K:∀(i:Nat) (x:Touch),touchAt t i=some x->∀a,x.loc=.cell a->a.block≠Wg) (k:NoRelease (stA Wg) t) (U:Sets Wg C aZ w R (λ_=>False) (λ_ _=>False) (λ_ _=>False)) :
  ∃N B u,runNT P N (crowd gs w sl) t=(.next B,u)/\anY P ty Wg C n K0 val aZ Fin B u:=by
 have z:∀T0,MI P ty Wg C n K0 val aZ 0 gs w t (λ_=>⟨0,0,0⟩) (upd (λ_=>jU.leaf) 0 T0) R (λ_=>False) (λ_ _=>False) (λ_ _=>False) q 0:=λT0=>
  ⟨p,λi g A _ J=>M.old i g A J,λI H=>by omega,.begin Q K k,U,λI H=>by omega,f,λ_ _=>rfl⟩
 have y:∀tag,isOpen tag->pend tag=0->(∀o,tag ≠ .w2 o)->ConcN.Mode 0 (λ_=>(⟨0,0,0⟩:WD)) tag 0 0:=λtag L G O=>by
  have:=ConcN.Mode.opn (j:=0) (D:=λ_=>(⟨0,0,0⟩:WD)) L (λi A=>by omega) (λo e=>absurd e (O o));simpa[Vc,sumTo,G] using this
 cases n with
 |zero=>
  obtain⟨T,l⟩:=d;exact ae5 E b c _ _ _ ⟨gs,w,sl,0,_,_,R,_,_,_,q,.kd,0,0,a,0,0,rfl,v,.kd (by rw[qs];exact l),z T,s,y .kd trivial rfl (by simp),rfl⟩
 |succ r=>
  obtain⟨T,l⟩:=d;have F:=fO.skd (Fin:=Fin) (Nat.lt_succ_self r) l;rw[tp] at F;exact ae5 E b c _ _ _ ⟨gs,w,sl,0,_,_,R,_,_,_,q,.sp r 5,0,0,a,0,0,rfl,v,by rw[qs];exact F,z T,s,y (.sp r 5) trivial rfl (by simp),rfl⟩
end
end
section
open Go.Conc Go.ConcN
section
variable {P:Program} {main:Bool} {Rl Rl':au->World->World->Prop} {Gr Gr':au->au->World->World->Array Event->Prop} {Stop ae3:au->Goroutine->World->Prop}
def GoT.weak(i:∀S w a,Rl' S w a->Rl S w a)(k:∀S e w c d,Gr S e w c d->Gr' S e w c d)(j:∀S g w,Stop S g w->ae3 S g w):∀{T:jU} {S:au} {g:Goroutine} {w:World},GoT P main Rl Gr Stop T S g w->GoT P main Rl' Gr' ae3 T S g w
 |.leaf,_,_,_,h=>λa b=>j _ _ _ (h a (i _ _ _ b))
 |.node f,_,_,_,h=>Or.imp (λh a b=>j _ _ _ (h a (i _ _ _ b))) (λx=>⟨x.1,λa b=>let⟨o,c,d,e,n,l,m⟩:=x.2 a (i _ _ _ b);⟨o,c,d,e,n,k _ _ _ _ _ l,GoT.weak i k j m⟩⟩) h
def bM.weak(i:∀S w a,Rl' S w a->Rl S w a)(e:∀S d w b c,Gr S d w b c->Gr' S d w b c)(f:∀S g w,Stop S g w->ae3 S g w){S:au}{g:Goroutine}(h:bM P main Rl Gr Stop S g w):bM P main Rl' Gr' ae3 S g w:=
 let⟨T,h⟩:=h;⟨T,GoT.weak i e f h⟩
end
def RlB(_:au)(w w₁:World):Prop:=AtRel w w₁
def GrB(aZ:au)(_ _:au)(w w':World)(es:Array Event):Prop:=
 w.heap.size<=w'.heap.size/\∀e∈es,(∀x,(MemAct.ofEvent e).touch?=some x->¬ShL aZ x.loc)/\e.loc ≠ .mark .disable/\e.loc ≠ .mark .enable/\(MemAct.ofEvent e).low w'.heap.size
section
variable {aZ:au} {K B B':Nat} {t u:Trace}
def eZ.own(h:eZ aZ K B t)(u:B<=B'){fn:FuncId}(d:∀e∈es,(∀x,(MemAct.ofEvent e).touch?=some x->¬ShL aZ x.loc)/\e.loc ≠ .mark .disable/\e.loc ≠ .mark .enable/\(MemAct.ofEvent e).low B') :
  eZ aZ K B' (t++MemOp.ofEvents 0 fn pos es):=by
 have k:∀op∈MemOp.ofEvents 0 fn pos es,op.g=0:=λop c=>by obtain⟨e,_,rfl⟩:=mt c;rfl
 refine⟨λg=>noRace_append (h.clean g) k λi a s op c b p v=> ?_,λi op x j n r=> ?_,h.quiet.app λop c x n m=> ?_,handedOver_app h.over λop c=>.inl (k op c), ?_,seen_app (ade h.seen u) λop c=> ?_,λop c=> ?_⟩
 .obtain⟨e,f,rfl⟩:=mt c;obtain⟨op,j,o⟩:=touch_of s;exact h.known i op a j o λm=>(d e f).1 b p (v.1▸m)
 .rcases rJ j with⟨_,q⟩|⟨_,l⟩
  .exact(h.known i op x q n r).app _
  .have:=knows_own j;rwa [k op l] at this
 .obtain⟨e,f,rfl⟩:=mt c;exact absurd m ((d e f).1 x n)
 .rw[Deaf_own,h.hears];exact deafBehind_still (λe f=>⟨(d e f).2.1,(d e f).2.2.1⟩) 0
 .obtain⟨e,f,rfl⟩:=mt c;exact(d e f).2.2.2
 .rcases wd.1 c with c|c
  .exact h.gs op c
  .rw[k op c];exact eg _
def eZ.mute(h:eZ aZ K B t){g:Nat}(m:g≠0)(n:g<=K){fn:FuncId}(q:∀e∈es,e.mute=true):eZ aZ K B (t++MemOp.ofEvents g fn pos es):=by
 have l:∀op∈MemOp.ofEvents g fn pos es,op.g=g:=λop c=>by obtain⟨e,_,rfl⟩:=mt c;rfl
 have j:∀op∈MemOp.ofEvents g fn pos es,op.act.touch?=none:=λop c=>by obtain⟨e,o,rfl⟩:=mt c;exact touch_mute (q e o)
 refine⟨λf=>noRace_append (h.clean f) l λi a _ op c b p _=>(by rw[j op c] at p;cases p),λi op x r d u=> ?_,h.quiet.app λop c x d _=>(by rw[j op c] at d;cases d),handedOver_app h.over λop c=>.inr (j op c),(rz t m _ l).trans h.hears,seen_app h.seen λop c=> ?_,λop c=> ?_⟩
 .rcases rJ r with⟨_,s⟩|⟨_,k⟩
  .exact(h.known i op x s d u).app _
  .rw[j op k] at d;cases d
 .obtain⟨e,o,rfl⟩:=mt c;exact low_mute (q e o) B
 .rcases wd.1 c with c|c
  .exact h.gs op c
  .rw[l op c];exact n
def eZ.nil(B:Nat):eZ (λ_=>False) 0 B #[]:=
 ⟨λd=>by rintro⟨i,j,_,⟨a,b,e,_⟩,_⟩;simp[Trace.act?] at e,λi op x c=>by simp at c,λi op x c=>by simp at c,λi g f=>by simp[Trace.g?] at f,rfl,by simp,by simp⟩
end
structure axS (Gr:au->au->World->World->Array Event->Prop) (TQ:Nat->Nat->Trace->Prop):Prop where
 own:∀{K:Nat} {t:Trace} {S S':au} {w w':World} {es:Array Event} (fn:FuncId) (pos:String),Gr S S' w w' es->TQ K w.heap.size t->TQ K w'.heap.size (t++MemOp.ofEvents 0 fn pos es)
 mute:∀{K B:Nat} {t:Trace} {g:Nat} {es:Array Event} (fn:FuncId) (pos:String),g≠0->g<=K->(∀e∈es,e.mute=true)->TQ K B t->TQ K B (t++MemOp.ofEvents g fn pos es)
def aa9{aZ:au}:axS (GrB aZ) (eZ aZ):=⟨λ_ _ b a=>a.own b.1 b.2,λ_ _ e c d a=>a.mute e c d⟩
section
variable {P:Program} {TQ:Nat->Nat->Trace->Prop} {Gr:au->au->World->World->Array Event->Prop} (HT:axS Gr TQ) {Stop:au->Goroutine->World->Prop}
include HT
theorem ajF(T:jU):∀(M:Nat) (l:Array Goroutine) (a:Goroutine) (w:World) (sl:Option (Nat×Nat)) (t:Trace) (q:Nat->Nat) (S:au),sumTo l.size q<=M->l[0]?=some a->Leavers P t l q->TQ (l.size-1) w.heap.size t->
  GoT P true RlB Gr Stop T S a w->
  ∃(N:Nat) (o:Array Goroutine) (z:Goroutine) (O:World) (r:Option (Nat×Nat)) (X:Trace) (q':Nat->Nat) (S':au),
   runNT P N (crowd l w sl) t=(.next (crowd o O r),X)/\o.size=l.size/\o[0]?=some z/\Stop S' z O/\Leavers P X o q'/\TQ (l.size-1) O.heap.size X:=by
 induction T using jU.wf.induction with
 |_ T a3=>
 intro M
 induction M with
 |zero=> 
  intro l a w sl t q S hM W B hP hG;rcases hG.cases with bX|⟨f,rfl,p,v⟩
  .exact⟨0,l,a,w,sl,t,q,S,rfl,rfl,W,bX w (atRel_refl w),B,hP⟩
  have a0:∀g∈l,awake g:=by
   intro g Q;obtain⟨i,s,rfl⟩:=wJ.1 Q;rcases pv i with rfl|iG
   .have:l[0]=a:=by simpa[gn s] using W
    rw[this];exact uN (.inl p)
   .exact uN ((B.old i _ iG (gn s)).status.elim .inl λx=>.inr (.inr x))
  obtain⟨i,g,d,r,s,Q,Z⟩:=crowd_pick (P:=P) (w:=w) (sl:=sl) a0 ⟨0,a,W,p⟩;have C:i<l.size:=(dl.1 s).1;rcases pv i with rfl|iG
  .obtain rfl:g=a:=by rw[W] at s;exact(dq s).symm
   obtain⟨z,O,es,S',a2,hD,a1⟩:=v (w.at d) ⟨d,rfl⟩;have U:=tA (P:=P) (sl:=r) (i:=0) s (show stepG P (0 ==0) g (w.at d)=_ from a2);have m:((l.map (woken P g z O)).setIfInBounds 0 z).size=l.size:=by simp
   obtain⟨N,o,L,G,J,X,q',I,hr,F,K,hS,H,u⟩:=a3 _ ⟨f,w.at d,rfl,rfl⟩ _ ((l.map (woken P g z O)).setIfInBounds 0 z) z O r (t++MemOp.ofEvents 0 g.frame.fn g.frame.place es) q S' (am _) (by simp[C])
    ⟨λj x A V=>by
     have E:0≠j:=by omega
     rw[lc E,ry] at V;obtain⟨y,hy,rfl⟩:=jt.1 V;have D:=B.old j y A hy;rw[tl D,rz t (by omega) _ (λop n=>by obtain⟨e,_,rfl⟩:=mt n;rfl)];exact D,λj A=>by
     rw[rz t (g':=0) (by simp at A;omega) _ (λop n=>by obtain⟨e,_,rfl⟩:=mt n;rfl)];exact B.above j (by simpa using A)⟩
    (by rw[m];exact HT.own _ _ hD hP) a1
   exact⟨N+1,o,L,G,J,X,q',I,by simp only[runNT,Z,U];exact hr,F.trans m,K,hS,H,by rw[m] at u;exact u⟩
  .have D:=B.old i g iG s;have:q i<=sumTo l.size q:=le_sumTo C;have R:q i=0:=by omega
   rw[R] at D;rw[D.1] at Q;cases Q
 |succ M ih=>
  intro l a w sl t q S hM W B hP hG;rcases hG.cases with bX|⟨f,rfl,p,v⟩
  .exact⟨0,l,a,w,sl,t,q,S,rfl,rfl,W,bX w (atRel_refl w),B,hP⟩
  have a0:∀g∈l,awake g:=by
   intro g Q;obtain⟨i,s,rfl⟩:=wJ.1 Q;rcases pv i with rfl|iG
   .have:l[0]=a:=by simpa[gn s] using W
    rw[this];exact uN (.inl p)
   .exact uN ((B.old i _ iG (gn s)).status.elim .inl λx=>.inr (.inr x))
  obtain⟨i,g,d,r,s,Q,Z⟩:=crowd_pick (P:=P) (w:=w) (sl:=sl) a0 ⟨0,a,W,p⟩;have C:i<l.size:=(dl.1 s).1;rcases pv i with rfl|iG
  .obtain rfl:g=a:=by rw[W] at s;exact(dq s).symm
   obtain⟨z,O,es,S',a2,hD,a1⟩:=v (w.at d) ⟨d,rfl⟩;have U:=tA (P:=P) (sl:=r) (i:=0) s (show stepG P (0 ==0) g (w.at d)=_ from a2);have m:((l.map (woken P g z O)).setIfInBounds 0 z).size=l.size:=by simp
   obtain⟨N,o,L,G,J,X,q',I,hr,F,K,hS,H,u⟩:=a3 _ ⟨f,w.at d,rfl,rfl⟩ _ ((l.map (woken P g z O)).setIfInBounds 0 z) z O r (t++MemOp.ofEvents 0 g.frame.fn g.frame.place es) q S' (am _) (by simp[C])
    ⟨λj x A V=>by
     have E:0≠j:=by omega
     rw[lc E,ry] at V;obtain⟨y,hy,rfl⟩:=jt.1 V;have D:=B.old j y A hy;rw[tl D,rz t (by omega) _ (λop n=>by obtain⟨e,_,rfl⟩:=mt n;rfl)];exact D,λj A=>by
     rw[rz t (g':=0) (by simp at A;omega) _ (λop n=>by obtain⟨e,_,rfl⟩:=mt n;rfl)];exact B.above j (by simpa using A)⟩
    (by rw[m];exact HT.own _ _ hD hP) a1
   exact⟨N+1,o,L,G,J,X,q',I,by simp only[runNT,Z,U];exact hr,F.trans m,K,hS,H,by rw[m] at u;exact u⟩
  .have D:=B.old i g iG s;have a6:(i ==0)=false:=by simp;omega
   cases R:q i with
   |zero=>rw[R] at D;rw[D.1] at Q;cases Q
   |succ k=>
    rw[R] at D;rcases D with⟨hf,_⟩|⟨_,g',es,hm,a7,a5⟩
    .rw[hf] at Q;cases Q
    have U:=tA (P:=P) (sl:=r) (i:=i) s (by rw[a6];exact a7 (w.at d));have m:((l.map (woken P g g' (w.at d))).setIfInBounds i g').size=l.size:=by simp
    have a9:sumTo l.size (upd q i k)+(k+1)=sumTo l.size q+k:=by
     have:=sumTo_upd q k id C;simpa[R] using this
    have a8:∀S a b c,RlB S a b->RlB S b c->RlB S a c:=λ_ a b c=>atRel_trans a b c;obtain⟨N,o,L,G,J,X,q',I,hr,F,K,hS,H,u⟩:=ih ((l.map (woken P g g' (w.at d))).setIfInBounds i g') a (w.at d) r (t++MemOp.ofEvents i g.frame.fn g.frame.place es) (upd q i k) S (by rw[m];omega)
     (by
      have E:i≠0:=by omega
      rw[lc E,ry,W];simp[woken_run p])
     ⟨λj x A V=>by
      by_cases Y:i=j
      .subst Y;rw[qk (by simpa using C)] at V;obtain rfl:=dq V;rw[qs,Deaf_own];exact a5
      .rw[lc Y,ry] at V;obtain⟨y,hy,rfl⟩:=jt.1 V;have a4:=B.old j y A hy;rw[tl a4,qX q k (sB Y),rz t Y _ (λop n=>by obtain⟨e,_,rfl⟩:=mt n;rfl)];exact a4,λj A=>by
      rw[rz t (g':=i) (by simp at A;omega) _ (λop n=>by obtain⟨e,_,rfl⟩:=mt n;rfl)];exact B.above j (by simpa using A)⟩
     (by rw[m];exact HT.mute _ _ (by omega) (by omega) hm hP) (GoT.rely a8 hG ⟨d,rfl⟩)
    exact⟨N+1,o,L,G,J,X,q',I,by simp only[runNT,Z,U];exact hr,F.trans m,K,hS,H,by rw[m] at u;exact u⟩
theorem aar{gs:Array Goroutine}{a:Goroutine}{sl:Option (Nat×Nat)}{t:Trace}{q:Nat->Nat}{S:au}(i:gs[0]?=some a)(m:Leavers P t gs q)(k:TQ (gs.size-1) w.heap.size t)(e:bM P true RlB Gr Stop S a w) :
  ∃(N:Nat) (b:Array Goroutine) (g:Goroutine) (c:World) (f:Option (Nat×Nat)) (d:Trace) (l:Nat->Nat) (j:au),
   runNT P N (crowd gs w sl) t=(.next (crowd b c f),d)/\b.size=gs.size/\b[0]?=some g/\Stop j g c/\Leavers P d b l/\TQ (gs.size-1) c.heap.size d:=
 let⟨T,e⟩:=e;ajF HT T _ gs a w sl t q S (am _) i m k e
end
def iN(P:Program):Cfg->Cfg->Prop:=Relation.TransGen λa b=>aeQ P b a
def Rng(ρ:Ren)(w:World)(S Rr:au):Prop:=∀b a,ρ.r b a->S a\/(Rr a/\bK w b/\NoB w b)
def nP(S Rr:au)(B:Nat)(e:Event):Prop:=
 (∀x,(MemAct.ofEvent e).touch?=some x->In S x.loc\/(In Rr x.loc/\x.write=false))/\(∀m,e.loc=.mark m->(∃f,m=.extern f)\/m=.noRoom)/\(MemAct.ofEvent e).low B
def PkG(ρ:Ren)(w w' w1 cY:World):Prop:=∀b a,ρ.r b a->Rw w b->Rw w1 b/\∀i u,aen u->w1.cell? ⟨b,i,none⟩=some u->w.cell? ⟨b,i,none⟩=some u/\cY.cell? ⟨a,i,none⟩=w'.cell? ⟨a,i,none⟩
def PkG.rely(h:∀b a,ρ.r b a->W.heap[a]?=w'.heap[a]?):PkG ρ w w' w W:=λ_ _ d c=>⟨c,λ_ _ _ e=>⟨e,jD (h _ _ d)⟩⟩
def PkG.an0{k : Ren}{f : World}(d:Kept ρ k w w' W f)(h:∀b e,ρ.r b e->w2.heap[e]?=f.heap[e]?):PkG ρ w w' W w2:=λ_ _ a c=>
 ⟨(d.poi a c).1,λi u g j=>⟨((d.poi a c).2 i u g j).1,(jD (h _ _ a)).trans ((d.poi a c).2 i u g j).2⟩⟩
def PkG.trans{g : Ren}{j a : World}(h:PkG ρ w w' W j)(c:ρ.Le g)(k:PkG g W j w2 a):PkG ρ w w' w2 a:=λb f d m=>by
 obtain⟨q,r⟩:=h b f d m;obtain⟨o,p⟩:=k b f (c.r d) q;refine⟨o,λi u e t=> ?_⟩;obtain⟨v,l⟩:=p i u e t;obtain⟨s,n⟩:=r i u e v;exact⟨s,l.trans n⟩
structure aiQ (P:Program) (R:List Frame->World->Prop) (Rr S:au) (ρ:Ren) (c:Cfg) (l':List Frame) (w':World):Prop where
 st:ja P ρ c.l l'
 wr:WR ρ c.w w'
 gl:GlR ρ
 will:kN P R c
 rng:Rng ρ c.w S Rr
def Rt(P':Program)(J:Nat->Bool)(l l':List Frame):Prop:=
 l'=l\/∃c d a,l=c::a/\l'=d::a/\a≠[]/\JR J c d/\∃fn,P'.funcs[c.fn]?=some fn/\∀t b:Array Value,b.size=t.size->(∀i,J i=false->b[i]?=t[i]?)->results fn b=results fn t
def mZ.mem{ρ:Ren}:∀{l b:List Event},mZ ρ l b->∀a∈b,∃e∈l,EvR ρ e a
 |_,_,.nil,_,h=>by cases h
 |_,_,.cons x y,a,h=>by
  rcases mu.1 h with rfl|h
  .exact⟨_,qC ..,x⟩
  .obtain⟨e,c,d⟩:=mZ.mem y a h;exact⟨e,qV _ c,d⟩
section
variable {P P':Program} {R:List Frame->World->Prop} {Rr S:au} {ρ σ:Ren} {w w' w1 cY:World} {es es':Array Event}
def Rng.step(h:Rng ρ w S Rr)(j:WR σ w1 cY)(d:Kept ρ σ w w' w1 cY):Rng σ w1 (λb=>S b\/(w'.heap.size<=b/\b<cY.heap.size)) Rr:=λb k i=>by
 rcases d.new i with f|⟨_,a⟩
 .rcases h b k f with c|⟨c,a,g⟩
  .exact .inl (.inl c)
  .have e:=(d.still f a g).1;exact .inr ⟨c,a.of_eq e,g.of_eq e⟩
 .exact .inl (.inr ⟨a,(j.lt i).2⟩)
def arT(h:Rng ρ w S Rr)(u:WR σ w1 cY)(D:Kept ρ σ w w' w1 cY)(v:EvW w σ es es'):∀e∈es',nP (λb=>S b\/(w'.heap.size<=b/\b<cY.heap.size)) Rr cY.heap.size e:=by
 intro E t;obtain⟨e,A,j⟩:=v.ev.mem E (by simpa using t);have p:∀{b i},σ.r b i->(S i\/(w'.heap.size<=i/\i<cY.heap.size))\/(Rr i/\bK w b):=λ{b i} y=>by
  rcases D.new y with C|⟨_,g⟩
  .rcases h b i C with c|⟨c,g,_⟩
   .exact .inl (.inl c)
   .exact .inr ⟨c,g⟩
  .exact .inl (.inr ⟨g,(u.lt y).2⟩)
 cases j with
 |mk n wr q=>
  cases n with
  |@cell a z G=>
   have j:σ.r a.block z.block:=by cases G with|mk h o s=>exact h
   refine⟨λx k=> ?_,λm l=>(by cases l),(u.lt j).2⟩;have d:x=⟨.cell z,wr,if q then .atomic else .plain⟩:=by simp[MemAct.ofEvent,MemAct.touch?] at k;exact k.symm
   subst d;rcases p j with c|⟨c,g⟩
   .exact .inl c
   .cases wr with
    |false=>exact .inr ⟨c,rfl⟩
    |true=>exact absurd rfl ((v.nw _ g _ A rfl).1 _ rfl)
  |@obj r B j=>
   refine⟨λx k=> ?_,λm l=>(by cases l), ?_⟩
   .have d:x.loc=.obj B/\x.write=wr:=by
     cases wr<;>cases q<;>simp[MemAct.ofEvent,MemAct.touch?] at k<;>(subst k;exact⟨rfl,rfl⟩)
    obtain⟨H,F⟩:=d;rw[H];rcases p j with c|⟨c,g⟩
    .exact .inl c
    .cases wr with
     |false=>exact .inr ⟨c,F⟩
     |true=>exact absurd rfl ((v.nw _ g _ A rfl).2 _ rfl)
   .have:=(u.lt j).2;cases wr<;>cases q<;>exact this
  |mark l=>
   refine⟨λx k=> ?_,λm e=> ?_, ?_⟩
   .cases l<;>simp[MemAct.ofEvent,MemAct.touch?] at k
   .cases e;cases l with
    |extern f=>exact .inl ⟨f,rfl⟩
    |noRoom=>exact .inr rfl
   .cases l<;>trivial
def ajG(h:Rng ρ w S Rr)(d:Kept ρ σ w w' w1 cY):∀b,b<w'.heap.size->¬S b->cY.heap[b]?=w'.heap[b]?:=λb l i=>by
 by_cases f:∃a,ρ.r a b
 .obtain⟨a,e⟩:=f;rcases h a b e with j|⟨_,g,k⟩
  .exact absurd j i
  .exact(d.still e g k).2
 .exact d.out' l λc m=>f ⟨c,m⟩
def WR.rely(h:WR ρ w w')(g:Rng ρ w S Rr)(i:∀b,S b\/Rr b->cY.heap[b]?=w'.heap[b]?)(e:w'.heap.size<=cY.heap.size)(j:cY.ou=w'.ou):WR ρ w cY:=
 ⟨λ{b a} c=>by
  obtain⟨o,l,f,d,k⟩:=h.obj c;exact⟨o,l,f,(i a ((g b a c).imp id (·.1))).trans d,k⟩,h.os.trans j.symm,h.lH.1,ap h.lH.2 e⟩
end
def ja.ne'   :ja P ρ l l'->∃x b y a,l=x::b/\l'=y::a
 |.one .. =>⟨_,_,_,_,rfl,rfl⟩
 |.cons .. =>⟨_,_,_,_,rfl,rfl⟩
def ja.hd   :ja P ρ l l'->∀{y a},l'=y::a->(y.mode=.run\/y.mode=.returning)/\y.kind=.normal
 |.one hx _,_,_,e=>by cases e;exact⟨hx.mode.elim (λy=>.inl y.2) (λy=>.inr y.2),hx.kind.2⟩
 |.cons hx _,_,_,e=>by cases e;exact⟨hx.mode.elim (λy=>.inl y.2) (λy=>.inr y.2),hx.kind.2⟩
def ja.lone   :ja P ρ l l'->∀{x},l=[x]->∀{y a},l'=y::a->a=[]
 |.one ..,_,_,_,_,e=>by cases e;rfl
 |.cons _ hl,_,e,_,_,_=>by
  obtain⟨_,_,_,_,b,_⟩:=hl.ne';cases e;cases b
section
variable {P P':Program} {R:List Frame->World->Prop} {Rr:au} {main:Bool} {Rl:au->World->World->Prop} {Gr:au->au->World->World->Array Event->Prop} {J:Nat->Bool} {base:List Frame}
def arU(P P':Program)(R:List Frame->World->Prop)(Rr:au)(base:List Frame)(c0:Cfg)(iT:Ren)(w0:World)(S0 S:au)(g:Goroutine)(w1:World):Prop:=
 ∃c d e,(c=c0\/iN P c c0)/\iT.Le d/\(∀b,S0 b->S b)/\g=Gl e base/\WR d c.w w1/\GlR d/\kN P R c/\Rng d c.w S Rr/\PkG iT c0.w w0 c.w w1/\
  ((pR c.l/\ja P d c.l e)\/∃a f m i,dv d a f/\ja P d m i/\c.l=Frame.enter P cE a .normal::m/\e=Frame.enter P' cE f .normal::i)
def xB(P P':Program)(R:List Frame->World->Prop)(Rr:au)(main:Bool)(Rl:au->World->World->Prop)(Gr:au->au->World->World->Array Event->Prop)(base:List Frame):Prop:=
 ∀(f:FuncId) (c:Cfg) (ρ:Ren) (a l:Array Value) (m o:List Frame) (e:World) (S:au),gH f=true->f≠cE->dv ρ a l->ja P ρ m o->c.l=Frame.enter P f a .normal::m->WR ρ c.w e->GlR ρ->kN P R c->Rng ρ c.w S Rr->
  bM P' main Rl Gr (λn g j=>∃i d k,iN P i c/\ρ.Le d/\(∀b,S b->n b)/\g=Gl k base/\aiQ P R Rr n d i k j/\PkG ρ c.w e i.w j) S (Gl (Frame.enter P' f l .normal::o) base) e
def aiR (T:Twin P P') (X:aiF P P') (gz:∀S w,Rl S w w) (tr:∀S a b c,Rl S a b->Rl S b c->Rl S a c)
  (rl:∀S w o,Rl S w o->(∀b,S b\/Rr b->o.heap[b]?=w.heap[b]?)/\w.heap.size<=o.heap.size/\o.ou=w.ou)
  (gr:∀S w l es,(∀b,b<w.heap.size->¬S b->l.heap[b]?=w.heap[b]?)->w.heap.size<=l.heap.size->l.ou=w.ou->(∀e∈es,nP (λb=>S b\/(w.heap.size<=b/\b<l.heap.size)) Rr l.heap.size e)->
   Gr S (λb=>S b\/(w.heap.size<=b/\b<l.heap.size)) w l es)
  (al:∀f,gH f=true->∀a,(Frame.enter P' f a .normal).todo.all (mL J)=false)
  (Z:xB P P' R Rr main Rl Gr base) {c:Cfg} (ao:Acc (iN P) c) :
  ∀{ρ:Ren} {l' lR:List Frame} {l:World} {S:au},aiQ P R Rr S ρ c l' l->Rt P' J l' lR->bM P' main Rl Gr (arU P P' R Rr base c ρ l S) S (Gl lR base) l:=by
 induction ao with
 |intro c _ ih=>
  intro ρ l' lR l S h hR;have on:∀{s:Cfg} {I:Ren} {l1 lR1:List Frame} {o:World} {S1:au},iN P s c->ρ.Le I->(∀b,S b->S1 b)->aiQ P R Rr S1 I s l1 o->PkG ρ c.w l s.w o->Rt P' J l1 lR1->bM P' main Rl Gr (arU P P' R Rr base c ρ l S) S1 (Gl lR1 base) o:=λ{s I l1 lR1 o S1} Y d hS h1 kh A=>
   bM.weak (λ_ _ _ x=>x) (λ_ _ _ _ _ x=>x) (λS2 g w2 ⟨c2,ρ2,l2,a1,a2,a3,a4,a5,a6,a7,a8,a9,a10⟩=>⟨c2,ρ2,l2,.inr (a1.elim (λe=>e▸Y) λx=>tv x Y),d.trans a2,λb n=>a3 b (hS b n),a4,a5,a6,a7,a8,kh.trans d a9,a10⟩) (ih s Y h1 A)
  have b2:∀{x:Frame} {xs:List Frame},(Gl (x::xs) base).status=.running:=rfl;by_cases hf:pR c.l
  .-- at its end: one frame,and it is clean
   refine .stop λo hr=> ?_;obtain⟨r1,r2,r3⟩:=rl _ _ _ hr;have aT:lR=l':=by
    rcases hR with e|⟨fr,cG,j,K,_,aV,_⟩
    .exact e
    .exfalso;obtain⟨f0,Y,_⟩:=hf;exact aV (h.st.lone Y K)
   subst aT;exact⟨c,ρ,_,.inl rfl,Ren.Le.refl _,λ_ n=>n,rfl,h.wr.rely h.rng r1 r2 r3,h.gl,h.will,h.rng,.rely λb D n=>r1 D ((h.rng b D n).imp id (·.1)),.inl ⟨hf,h.st⟩⟩
  .obtain⟨_,_,x0,b3,_,aZ⟩:=h.st.ne';have ay:(Gl lR base).status=.running:=by
    rcases hR with e|⟨fr,cG,j,_,B,_⟩
    .rw[e,aZ];rfl
    .rw[B];rfl
   refine .step ay λo hr=> ?_;obtain⟨r1,r2,r3⟩:=rl _ _ _ hr;have cZ:=h.wr.rely h.rng r1 r2 r3;obtain⟨s,σ,p,E,es,v,hs,G,d,k,t,N,hE,z⟩:=sim T X h.gl main h.st cZ hf h.will;have L:iN P s c:=.single hs;have pS:=h.rng.step t N;have b0:PkG ρ c.w l c.w o:=.rely λb D n=>r1 D ((h.rng b D n).imp id (·.1));have kh:PkG ρ c.w l s.w E:=b0.trans (.refl _) (.an0 N λ_ _ _=>rfl);have hG:=gr S o E v (ajG h.rng N) N.size' N.os.2 (arT h.rng t N hE);have after:∀{lR1:List Frame},(Rt P' J p lR1/\(ja P σ s.l p\/lR1=p))->bM P' main Rl Gr (arU P P' R Rr base c ρ l S) (λb=>S b\/(o.heap.size<=b/\b<E.heap.size)) (Gl lR1 base) E:=λ{lR1} ⟨A,hor⟩=>by
    rcases z with i|⟨f,a,H,m,m',u,V,i,K,B⟩
    .exact on L d (λb n=>.inl n) ⟨i,t,h.gl.mono d,G,pS⟩ kh A
    .have jb:lR1=p:=by
      rcases hor with b4|e
      .rcases A with e|⟨fr,cG,j,O,_,_,M,_⟩
       .exact e
       .exfalso;rw[B] at O;injection O with e4 e5
        have:=M.items;rw[<-e4,al f u H] at this;cases this
      .exact e
     subst jb;by_cases Q:f=cE
     .subst Q;refine .stop λw2 an=> ?_;obtain⟨q1,q2,q3⟩:=rl _ _ _ an;exact⟨s,σ,_,.inr L,d,λb n=>.inl n,rfl,t.rely pS q1 q2 q3,h.gl.mono d,G,pS,kh.trans d (.rely λb D n=>q1 D ((pS b D n).imp id (·.1))),.inr ⟨a,H,m,m',V,i,K,B⟩⟩
     .rw[B];refine bM.bind gz tr (Z f s σ a H m m' E _ u Q V i K t (h.gl.mono d) G pS) λS2 g w2 ⟨c2,ρ2,l2,a1,a2,a3,a4,a5,a6⟩=> ?_;rw[a4];exact on (tv a1 L) (d.trans a2) (λb n=>a3 b (.inl n)) a5 (kh.trans d a6) (.inl rfl)
   rcases hR with e|⟨fr,cG,j,K,B,a0,M,fn,aa,C⟩
   .subst e;exact⟨_,E,v,_,k base,hG,after ⟨.inl rfl,.inr rfl⟩⟩
   .rw[K] at k;have bq:=h.st.hd K;obtain⟨y,F,hy⟩:∃y F,p=y::F:=by
     rcases z with i|⟨f,a,H,m,m',_,_,_,_,e⟩
     .obtain⟨_,_,y,F,_,e⟩:=i.ne';exact⟨y,F,e⟩
     .exact⟨_,_,e⟩
    have ad:(y.mode=.run\/y.mode=.returning)/\y.kind=.normal:=by
     rcases z with i|⟨f,a,H,m,m',_,_,_,_,e⟩
     .exact i.hd hy
     .rw[hy] at e;injection e with O e4
      subst O;exact⟨.inl rfl,rfl⟩
    rcases bq.1 with hm|hm
    .have q:=k base;rw[hy] at q;obtain⟨b1,aL,U,af,aH⟩:=arM M hm q ad.1 ad.2;have ax:F=j:=List.append_cancel_right b1;subst ax;refine⟨_,E,v,_,by rw[B];exact aH (F++base),hG, ?_⟩;have:=after (lR1:=U::F) ⟨.inr ⟨y,U,F,hy,rfl,a0,af,fn,by rw[aL];exact aa,C⟩, ?_⟩
     .exact this
     .rcases z with i|⟨f,a,H,m,m',u,_,_,_,e⟩
      .exact .inl i
      .exfalso;rw[hy] at e;injection e with O e4
       have:=af.items;rw[O,al f u H] at this;cases this
    .obtain⟨r0,rs,W⟩:∃r rs,j=r::rs:=by
      cases j with
      |nil=>exact absurd rfl a0
      |cons r rs=>exact⟨r,rs,rfl⟩
     have aI:=arN (P:=P') M hm ⟨fn,aa,C _ _ M.size M.agree⟩ (c:=r0) (cs:=rs++base) (main:=main) (w:=o);refine⟨_,E,v,_, ?_,hG,after (lR1:=p) ⟨.inl rfl,.inr rfl⟩⟩;rw[B,W];have q:=k base;rw[W] at q;exact aI.trans q
end
section
variable {P P':Program} {ρ:Ren} {w w':World}
def avc(T:Twin P P'){fr : Frame}(hS:ja P ρ [fr] [x])(Y:WR ρ w w'){t0:Tape}{Post:Value->World->Prop}(J:∀t,(∀i q,i<w.drawn->t i q=t0 i q)->∃v,fr.leaving P (w.dW t) (.returned v)/\Post v (w.dW t)) :
  ∃j v M l s es u t,ρ.Le j/\Post v (w.dW t)/\(∀i q,i<w.drawn->t i q=t0 i q)/\l.dW t=w.dW t/\VR j v M/\WR j l s/\Kept ρ j w w' l s/\EvW w j es u/\∀m c z,stepG P' m (Gl [x] (c::z)) w'=.go ⟨c.finish M,z,.running,none,none⟩ s u:=by
 have V:=hS.head;obtain⟨f,tm,L,d,md,kd,r⟩:=fr;obtain⟨f',a0,fZ,d',A,a1,r'⟩:=x;obtain⟨O,G,h3,I,n,R,h7⟩:=V;dsimp only at O G h3 I n R h7;subst O;obtain⟨v0,⟨Q,hd,N,fn,E,hr⟩,hp⟩:=J t0 λ_ _ _=>rfl;dsimp only at Q hd N E hr;subst Q hd N;obtain rfl:A=.returning:=by
  rcases n with n|n
  .cases n.1
  .exact n.2
 obtain⟨-,rfl⟩:=R;obtain rfl:d'=[]:=by cases I;rfl
 obtain⟨dx,C,hR⟩:=T.func f fn E;have good:∀t:Tape,(∀i q,i<w.drawn->t i q=t0 i q)->∃v,(results fn tm).run P (w.dW t)=.ok v (w.dW t)/\Post v (w.dW t):=λt y=>by
  obtain⟨v,⟨_,_,_,W,k,g⟩,B⟩:=J t y;dsimp only at k g;rw[E] at k;cases k;exact⟨v,g,B⟩
 obtain⟨b,D,H⟩:=(agu T hR.results G).run w w' #[] #[] Y;have p:Agr w D b λi q=>if i<w.drawn then t0 i q else b i q:=λi q K _=>be (by omega)
 have y:∀i q,i<w.drawn->(λi q=>if i<w.drawn then t0 i q else b i q) i q=t0 i q:=λi q K=>du K;obtain⟨v,o,F⟩:=good _ y;rcases H with H|⟨j,a,l,U,s,us,S,g1,g2,g3,Z,g5,g6,X,g8⟩
 .exfalso;obtain⟨h,l,nV,g, -⟩:=H _ p;rw[<-rA _ _ _ #[],g] at o;cases o
 .have e:=g1 _ p;rw[<-rA _ _ _ #[],e] at o;simp only[sS] at o;obtain⟨rfl,cZ⟩:=o;refine⟨j,a,U,l,s,_,_,_,g3,F,y,cZ,g5,g6,X,abe T f g8,λm c z=> ?_⟩;simp only[Gl,stepG,unwind,C,Z,rH];simp[doReturn,GStep.after]
end
end
section
def an1(a:FuncId->Bool)(b:List Nat)(c:TypeId)(o:Oper):(aaG a b c o).op=o.op:=by unfold aaG;split<;>rfl
def aps(a:FuncId->Bool)(b:List Nat)(c:TypeId)(o:Oper):aaG a b c (aaG a b c o)=aaG a b c o:=by
 by_cases h:aaF a b o.op=true
 .unfold aaG;simp[h]
 .unfold aaG;simp[h]
def adf(P:Program)(c:FuncId->Bool)(d:List Nat)(e:TypeId)(id:Nat)(a:Array Oper)(b:Bool):bU P c d e (.region id a b)=if(a.toList.all λo=>mY P c d o.op)=true then .region id a b
  else if(a.toList.all λo=>mY P c d o.op||aaF c d o.op)=true then .region id (a.map (aaG c d e)) b else .refuse "" :=rfl
def an2(P:Program)(d:FuncId->Bool)(e:List Nat)(f:TypeId)(c:Operand)(a b:Code):bU P d e f (.cond c a b)=if bP d e c=true then .cond c (bU P d e f a) (bU P d e f b) else .refuse "" :=rfl
def ajH(P:Program)(d:FuncId->Bool)(c:List Nat)(e:TypeId)(f:Operand)(g:Array Tmp)(a b:Code):bU P d c e (.rangeFunc f g a b)=if bP d c f=true then .rangeFunc f g (bU P d c e a) (bU P d c e b) else .refuse "" :=rfl
def arV(P:Program)(c:FuncId->Bool)(d:List Nat)(e:TypeId)(a b:Code):bU P c d e (.seq a b)=.seq (bU P c d e a) (bU P c d e b):=rfl
def al0(P:Program)(e:FuncId->Bool)(d:List Nat)(l:TypeId):∀c:Code,bU P e d l (bU P e d l c)=bU P e d l c:=by
 intro c
 induction c with
 |region id i draw=>
  rw[adf];by_cases h:(i.toList.all λo=>mY P e d o.op)=true
  .rw[du h,adf,du h]
  .rw[be h];by_cases n:(i.toList.all λo=>mY P e d o.op||aaF e d o.op)=true
   .rw[du n,adf];have p:((i.map (aaG e d l)).toList.all λo=>mY P e d o.op)=i.toList.all λo=>mY P e d o.op:=by
     rw[qG,List.all_map];congr 1;funext o;simp only[Function.comp,an1]
    have q:((i.map (aaG e d l)).toList.all λo=>mY P e d o.op||aaF e d o.op)=i.toList.all λo=>mY P e d o.op||aaF e d o.op:=by
     rw[qG,List.all_map];congr 1;funext o;simp only[Function.comp,an1]
    rw[p,q,be h,du n,Array.map_map];exact ga (λg=>Code.region id (Array.map g i) draw) (funext λo=>aps e d l o)
   .rw[be n];rfl
 |seq a b k j=>rw[arV,arV,k,j]
 |cond c a b k j=>
  rw[an2];by_cases h:bP e d c=true
  .rw[du h,an2,du h,k,j]
  .rw[be h];rfl
 |rangeFunc f r a b k j=>
  rw[ajH];by_cases h:bP e d f=true
  .rw[du h,ajH,du h,k,j]
  .rw[be h];rfl
 |block id a m=>exact ga (Code.block id) m
 |loop a m=>exact ga Code.loop m
 |scope a m=>exact ga Code.scope m
 |_=>rfl
def avd(c:Code):gP (gP c)=gP c:=by unfold gP;exact al0 _ _ _ _ c
def aDr:gC prog (alw prog) gL og=true:=by unfold gL;kernel_rfl
def aDs:gC prog (alw prog) gL kR=true:=by unfold gL;kernel_rfl
def arW{c:Code}(h:gC prog (alw prog) gL c=true):gP c=c:=by
 have e:gA=alw prog:=by unfold gA;rfl
 unfold gP;rw[e];exact aix _ _ _ _ c h
section
variable (β:Bool)
def arX{fn:Func}{c:Code}(h:(ah β).funcs[f]?=some fn)(a:fn.body=some c):gP c=c:=by
 by_cases d:f=nCC
 .subst d;rw[ac2] at h;obtain rfl:=dq h;obtain rfl:og=c:=dq a;exact arW aDr
 by_cases b:f=cE
 .subst b;rw[ac3] at h;obtain rfl:=dq h;cases β with
  |true=>obtain rfl:kR=c:=dq a;exact arW aDs
  |false=>obtain rfl:Code.refuse "" =c:=dq a;exact arW rfl
 rw[alu β d b] at h;obtain⟨k,j,rfl⟩:=jt.1 h;have e:k.body.map gP=some c:=a;obtain⟨i,g,rfl⟩:=jt.1 e;exact avd i
def ave(f:FuncId)(fn:Func)(h:(ah β).funcs[f]?=some fn):∃a,(ah β).funcs[f]?=some a/\FnR (gH f) fn a:=by
 obtain⟨g,e,d⟩:=ahG β f fn h;exact⟨fn,h,rfl,d.azR,rfl,rfl,rfl,λ_=>rfl,λc b=>⟨c,b,λ_=>(arX β h b).symm⟩⟩
def ahT:Twin (ah β) (ah β) where
 info _:=rfl
 under _:=rfl
 rt:=rfl
 depth:=rfl
 globals:=⟨(mM β).globals.1,(mM β).globals.1⟩
 zero:=(mM β).zero
 stood _:=rfl
 awz:=rfl
 cellAt _ _ _ _ _:=rfl
 lies _ _ _ _ _ _:=rfl
 akR _ _:=rfl
 follows _:=rfl
 pc:=(mM β).pc
 atZ:=(mM β).atZ
 func:=ave β
 aiA:=rfl
 nX:=(mM β).nX
def ayA:aiF (ah β) (ah β):=λf fn c i k o a j h=>by
 obtain⟨p,b,n⟩:=ahG β f fn c;obtain rfl:=n.none i;have g:=(dl.1 b).1;have d:=lE.1 aeR f (qz.2 g);have d:=agy b d;have m:alw prog f=true:=by
  have:gA f=alw prog f:=by unfold gA;rfl
  rw[<-this];exact k
 rw[m,i] at d;simp only[vM,tC,vL,uJ,rm,nF] at d;rcases d with rfl|rfl
 .have e:=b.symm.trans func162;obtain rfl:=dq e;exact ach c c anE anE (cH func162) (cH func162) anG anG anH anH (λl a j h=>acg (ahT β) _ _ h) h
 .have e:=b.symm.trans func180;obtain rfl:=dq e;exact ach c c anF anF (cH func180) (cH func180) adD adD anI anI (λl a j h=>adC h) h
def ae6{a : Array Value}(g:dv ρ a U):FrR (ah β) ρ (Frame.enter (ah β) f a .normal) (Frame.enter (ah β) f U .normal):=by
 have i:∀n,dv ρ (a++Array.replicate (n-a.size) undef) (U++Array.replicate (n-U.size) undef):=λn=>by
  rw[g.size];exact dv.app g (bW.lq λv d=>by simp at d;rw[d.2];exact VR.undef)
 cases b:(ah β).funcs[f]? with
 |none=>
  unfold Frame.enter;rw[b];exact⟨rfl,i _,aca (ahT β) _,.nil,.inl ⟨rfl,rfl⟩,⟨rfl,rfl⟩,.none⟩
 |some fn=>
  unfold Frame.enter;rw[b];refine⟨rfl,i _, ?_,.nil,.inl ⟨rfl,rfl⟩,⟨rfl,rfl⟩,.none⟩;show ki (ah β) ρ [.code (fn.body.getD _)] [.code (fn.body.getD _)];cases j:fn.body with
  |none=>exact aca (ahT β) _
  |some c=>
   have e:gP c=c:=arX β b j;have:ItR (ah β) ρ (.code (gP c)) (.code c):=.code c;rw[e] at this;exact .cons this .nil
def ayB(h:GoR (ah β) (ah β) ρ l l'):ja (ah β) ρ l l':=by
 rcases h with h|⟨f,a,d,m,e, -,c,b,rfl,rfl⟩
 .exact h
 .exact .cons (ae6 β c) b
def aDt{R:List Frame->World->Prop}(m:GlR ρ){c:Cfg}(m':Bool)(q:ja (ah β) ρ c.l l')(i:WR ρ c.w w')(n:¬pR c.l)(o:kN (ah β) R c) :
  ∃e d a f g b,aeQ (ah β) c e/\kN (ah β) R e/\ρ.Le d/\(∀base,stepG (ah β) m' (Gl l' base) w'=.go (Gl a base) f b)/\WR d e.w f/\Kept ρ d c.w w' e.w f/\EvW c.w d g b/\ja (ah β) d e.l a:=by
 obtain⟨e,d,a,f,g,b,s,k,l,r,u,p,t,j⟩:=sim (ahT β) (ayA β) m m' q i n o;exact⟨e,d,a,f,g,b,s,k,l,r,u,p,t,ayB β j⟩
end
end
section
open Go.Conc Go.ConcN Go.RowKit Go.Lib
def ed{β : Type}{s:Sem V}{f:V->Sem β}{v:β}(h:(Bind.bind s f).run P w=.ok v w2):∃a b,s.run P w=.ok a b/\(f a).run P b=.ok v w2:=by
 have h:(s.bind f).run P w=.ok v w2:=h;rw[qY] at h;cases c:s.run P w with
 |ok a b=>rw[c] at h;exact⟨a,b,rfl,h⟩
 |halt q b=>rw[c] at h;cases h
def NoV(P:Program)(w:World)(A:Addr):Prop:=(∀s a,(viewAt A.block).run P w ≠ .ok (some s) a)/\(w.cell? A=none->(∀b,∃e,w.farLoad P A b=.error e)/\∀v b,∃e,w.farStore P A v b=.error e)
def arY{m:String}{v:V}:(runtimePanic (.error m):Sem V).run P w ≠ .ok v w2:=by
 intro h;unfold runtimePanic at h;simp[goPanic] at h
structure CcT (P:Program):Prop where
 u:P.underlying 181=some (.pointer 183)
 up:P.underlying 167=some .unsafePointer
 i6:∃i,P.info? 181=some i/\i.size=1
 i8:∃i,P.info? 183=some i/\i.size=2/\i.bytes<1000
 f:∃fs g,P.underlying 183=some (.struct fs)/\fs[0]?=some g/\g.offset=0/\g.type=181
section
variable {P:Program} (T:CcT P) {w w2:World} {x v:Value}
include T
theorem arZ{y:Value}(C:y=.int .i64 1)(k:∀A,x=.pointer (some A)->NoV P w A)(h:(Builtin.unsafeSlice_ #[181,3] 0 #[x,y]).run P w=.ok v w2) :
  w2=w/\∃A e n,x=.pointer (some A)/\w.shape? A.block=some (e,n)/\liesAt P P.depth e (n / P.cellsOf e) A.off 183 1=true:=by
 obtain⟨i,r,p,F⟩:=T.i8;have o:¬IntKind.i64.max<1:=by decide
 have j:¬18446744073709551616<=i.bytes:=by omega
 have c:∃l,l=[x,y]:=⟨_,rfl⟩;obtain⟨l,c⟩:=c;replace h:(Builtin.unsafeSlice_ #[181,3] 0 ⟨l⟩).run P w=.ok v w2:=by rw[c];exact h
 unfold Builtin.unsafeSlice_ at h;cases l with
 |nil=>cases c
 |cons a l=>
  cases l with
  |nil=>cases c
  |cons b l=>
   cases l with
   |cons=>cases c
   |nil=>
    injection c with D m
    injection m with m G
    cases a with
    |pointer a=>
     subst D m;subst C;obtain⟨n,t,B,E⟩:=ed (s:=asInt (.int .i64 1)) h;obtain⟨rfl,rfl⟩:(1:Int)=n/\w=t:=by simpa[asInt,asIntOf] using B
     obtain⟨e,g,u,h⟩:=ed (s:=elemOf 181) E;obtain⟨rfl,rfl⟩:183=e/\w=g:=by simpa[elemOf,me T.u] using u
     cases a with
     |none=>
      simp[o] at h;exact absurd h arY
     |some A=>
      have k:=(k A rfl).1;cases f:w.shape? A.block with
      |none=>
       simp[o,j,typeInfo,sizeOf,r,p,variablesAt,f] at h;cases d:(viewAt A.block).run P w with
       |halt q g=>rw[d] at h;cases h
       |ok z g=>
        cases z with
        |some z=>exact absurd d (k _ _)
        |none=>rw[d] at h;cases h
      |some z=>
       obtain⟨e,n⟩:=z;simp[o,j,typeInfo,sizeOf,r,p,variablesAt,f] at h;by_cases c:liesAt P P.depth e (n / P.cellsOf e) A.off 183 1=true
       .simp only[c,qe,sS] at h;exact⟨h.2.symm,A,e,n,rfl,f,c⟩
       .simp only[c,qM,li] at h;cases d:(viewAt A.block).run P w with
        |halt q g=>rw[d] at h;cases h
        |ok z g=>
         cases z with
         |some z=>exact absurd d (k _ _)
         |none=>rw[d] at h;cases h
    |_=>cases(show Result.halt _ _=Result.ok v w2 from h)
theorem ar0(A:Addr):(Instr.fieldAt 183 (.pointer (some A)) 0).run P w=.ok (.pointer (some A)) w:=by
 obtain⟨j,g,c,a,d,b⟩:=T.f;obtain⟨i,e,f⟩:=T.i6;simp[Instr.fieldAt,Instr.sureAddr,me c,a,fieldPlace,sizeOf,typeInfo,b,e,f,d,Addr.add]
theorem avf(b:NoV P w A)(h:(Instr.loadAt 181 (.pointer (some A))).run P w=.ok v w2):w2=w/\w.cell? A=some v:=by
 have h:(Sem.load .plain A Sem.pure).run P w=.ok v w2:=by simpa[Instr.loadAt,Instr.sureAddr,loadVar,isAgg,me T.u,load] using h
 unfold Sem.run at h;cases a:w.cell? A with
 |some u=>
  simp only[a,Sem.run,sS] at h;exact⟨h.2.symm,by rw[h.1]⟩
 |none=>
  obtain⟨e,c⟩:=(b.2 a).1 (Mode.plain ==.atomic);simp only[a,c] at h;cases h
theorem ar1{u:Option Addr}{r:Unit}(c:NoV P w A)(h:(Instr.storeAt 181 (.pointer (some A)) (.pointer u)).run P w=.ok r w2):w2=w.setCell A (.pointer u)/\w.frozen? A=false/\∃v,w.cell? A=some v:=by
 obtain⟨i,f,g⟩:=T.i6;have h:(Sem.store .plain A (.pointer u) (Sem.pure ())).run P w=.ok r w2:=by
  simpa[Instr.storeAt,Instr.sureAddr,storeVar,sizeOf,typeInfo,f,g,Value.cells,storeCells,store,Addr.add] using h
 unfold Sem.run at h;cases a:w.cell? A with
 |some v=>
  simp only[a] at h;cases b:w.frozen? A with
  |true=>rw[b] at h;cases h
  |false=>
   rw[b] at h;simp only[li,qM,Sem.run,sS] at h;exact⟨h.2.symm,rfl,v,rfl⟩
 |none=>
  obtain⟨e,d⟩:=(c.2 a).2 (.pointer u) (Mode.plain ==.atomic);simp only[a,d] at h;cases h
theorem ayC{b:Value}(h:(binOp .eql 181 v (.pointer none)).run P w=.ok b w2):w2=w/\((v=.pointer none/\b=.bool true)\/∃B,v=.pointer (some B)/\b=.bool false):=by
 have i:∀(d:Nat) (a:Option Addr),(Op.equalIn (d+1) 181 (.pointer a) (.pointer none)).run P w=.ok a.isNone w:=λd a=>by
  cases a<;>simp[Op.equalIn,me T.u]
 have j:∀(d:Nat) (r:Bool) (c:World),(∀a,v ≠ .pointer a)->(Op.equalIn (d+1) 181 v (.pointer none)).run P w ≠ .ok r c:=λd r c l=>by
  cases v with
  |pointer a=>exact absurd rfl (l a)
  |_=>simp[Op.equalIn,me T.u,stuck]
 simp only[binOp] at h;by_cases g:∃a,v=.pointer a
 .obtain⟨a,rfl⟩:=g;simp[Op.equal,Op.maxDepth,i 9999] at h;refine⟨h.2.symm, ?_⟩;cases a with
  |none=>exact .inl ⟨rfl,h.1.symm⟩
  |some B=>exact .inr ⟨B,rfl,h.1.symm⟩
 .exfalso;have f:∀a,v ≠ .pointer a:=λa e=>g ⟨a,e⟩;obtain⟨r,c,k, -⟩:=ed h;exact j 9999 r c f k
end
end
section
open Go.Conc Go.ConcN
def aAV:(prog.info? 181).map (·.size ==1)=some true:=by kernel_rfl
def aAW:(prog.info? 183).map (λi=>i.size ==2&&decide (i.bytes<1000))=some true:=by kernel_rfl
def aAX:prog.underlying 181=some (.pointer 183):=by kernel_rfl
def aAY:prog.underlying 167=some .unsafePointer:=by kernel_rfl
def aAZ:(match prog.underlying 183 with
 |some (.struct fs)=>(match fs[0]? with
  |some g=>g.offset ==0&&g.type ==181
  |none=>false)
 |_=>false)=true:=by kernel_rfl
def ccT:CcT prog where
 u:=aAX
 up:=aAY
 i6:=by
  obtain⟨i,c,a⟩:=jt.1 aAV;exact⟨i,c,by simpa using a⟩
 i8:=by
  obtain⟨i,c,a⟩:=jt.1 aAW;simp only[ff,nF,qT] at a;exact⟨i,c,a⟩
 f:=by
  have h:=aAZ;generalize prog.underlying 183=q at h;cases q with
  |none=>cases h
  |some d=>
   cases d with
   |struct e=>
    dsimp only at h;cases b:e[0]? with
    |none=>rw[b] at h;cases h
    |some g=>
     rw[b] at h;simp only[ff,nF] at h;exact⟨e,g,rfl,b,h⟩
   |_=>cases h
def ccQ(β:Bool):CcT (ah β) where
 u:=(cJ prog _ 181).trans ccT.u
 up:=(cJ prog _ 167).trans ccT.up
 i6:=let⟨i,h,k⟩:=ccT.i6;⟨i,(kS prog _ 181).trans h,k⟩
 i8:=let⟨i,h,k⟩:=ccT.i8;⟨i,(kS prog _ 183).trans h,k⟩
 f:=let⟨a,g,h,k⟩:=ccT.f;⟨a,g,(cJ prog _ 183).trans h,k⟩
def WR.noV(h:WR ρ w w'){a : Addr}(f:AR ρ a A):NoV P w' A:=by
 obtain⟨d,o,s⟩:=f;obtain⟨x,j,i,b,c⟩:=h.obj d;refine⟨λs g=> ?_,λk=> ?_⟩
 .intro e;unfold viewAt at e;cases c<;>simp[World.shape?,b,shape,getObj,Sem.run] at e
 .unfold World.farLoad World.farStore;simp only[b];cases c<;>exact⟨λ_=>⟨_,rfl⟩,λ_ _=>⟨_,rfl⟩⟩
section
variable {β m:Bool} {fr:Frame} {xs base:List Frame} {ops:Array Oper} {i:Nat} {rest:List Nat} {k:List Item} {o:Oper} {w w2:World} {l2:List Frame} {es:Array Event}
def xO (H:fr.mode=.run) (E:fr.kind=.normal) (n:fr.roundOf=none) (D:fr.todo=.inRegion ops (i::rest)::k) (P:ops[i]?=some o) (L:o.guard=none)
  (a:stepG (ah β) m (Gl (fr::xs) base) w=.go (Gl l2 base) w2 es) (e:∀y j,l2=y::j->(y.mode=.run\/y.mode=.returning)/\y.kind=.normal) (C:l2≠[])
  (F:∀p l,(execOp fr.eval o).run (ah β) w=.ok p l->(∃v,p=.value v)\/p=.skip) :
  (∃v,(execOp fr.eval o).run (ah β) w=.ok (.value v) w2/\l2=fr.finish v::xs)\/((execOp fr.eval o).run (ah β) w=.ok .skip w2/\l2=fr.finish undef::xs):=by
 obtain⟨fn,b,I,t,V,U,T⟩:=fr;dsimp only at H E n D;subst H E n D;have O:∀y,Region.wanted o y=true:=λy=>by unfold Region.wanted;rw[L]
 have Q:stepG (ah β) m (Gl (⟨fn,b,.inRegion ops (i::rest)::k,t,.run,.normal,none⟩::xs) base) w =
   stepG.apply (ah β) true ⟨fn,b,.inRegion ops (i::rest)::k,t,.run,.normal,none⟩ (xs++base) none (execOp (Frame.eval ⟨fn,b,.inRegion ops (i::rest)::k,t,.run,.normal,none⟩) o) w:=by
  simp[Gl,stepG,stepG.exec,stepG.oper,Frame.oper?,P,O]
 rw[Q] at a;generalize execOp (Frame.eval ⟨fn,b,.inRegion ops (i::rest)::k,t,.run,.normal,none⟩) o=s at a F ⊢;have f:(CallKind.normal ==CallKind.early)=false:=rfl;cases x:s.runT (ah β) w #[] with
 |mk r N=>
  have d:s.run (ah β) w=r:=by rw[<-rA _ _ _ #[],x]
  cases r with
  |ok p l=>
   rcases F p l d with⟨v,rfl⟩|rfl
   .unfold stepG.apply at a;simp only[x,qe] at a;simp[GStep.after,f] at a;obtain⟨B,A, -⟩:=a;refine .inl ⟨v,by rw[d,A], ?_⟩;exact(ov (base:=base) (by simp) C (by rw[<-B];rfl)).symm
   .unfold stepG.apply at a;simp only[x,qe] at a;simp[GStep.after,f] at a;obtain⟨B,A, -⟩:=a;refine .inr ⟨by rw[d,A], ?_⟩;exact(ov (base:=base) (by simp) C (by rw[<-B];rfl)).symm
  |halt q l=>
   exfalso;obtain⟨y,j,rfl⟩:∃y j,l2=y::j:=by cases l2 with|nil=>exact absurd rfl C|cons y j=>exact⟨y,j,rfl⟩
   obtain⟨e,K⟩:=e y j rfl;unfold stepG.apply at a;simp only[x,qe] at a;cases q with
   |unsupported u=>
    cases u with
    |initOrder g=>
     have R:=(mM β).nX.1;have S:=(mM β).nX.2;simp[f,early,R,S,GStep.after] at a
    |_=>simp[GStep.after] at a
   |panic v=>simp[GStep.after,Gl] at a;obtain⟨⟨rfl, -⟩, -⟩:=a;rcases e with h|h<;>simp[Frame.raise] at h
   |goexit=>simp[GStep.after,Gl] at a;obtain⟨⟨rfl, -⟩, -⟩:=a;rcases e with h|h<;>simp[Frame.raise] at h
   |blocked=>simp[GStep.after,Gl] at a
   |waiting=>simp[GStep.after,Gl] at a
   |exit c=>simp[GStep.after] at a
   |stuck c=>simp[GStep.after] at a
   |throw J=>simp[GStep.after,endThrow,dieOf,Gl] at a
   |fatal J=>
    dsimp only at a;unfold endFatal at a;dsimp only at a;generalize Sem.run (ah β) _ l=z at a;cases z with
    |ok G M=>simp[GStep.after,dieOf,Gl] at a
    |halt G M=>cases G<;>simp[GStep.after] at a
end
structure iB (β:Bool) (R:List Frame->World->Prop) (c0:Cfg) (iT:Ren) (w0:World) (c:Cfg) (ρ:Ren) (l:List Frame) (w:World):Prop where
 later:c=c0\/iN (ah β) c c0
 le:iT.Le ρ
 st:ja (ah β) ρ c.l l
 wr:WR ρ c.w w
 gl:GlR ρ
 will:kN (ah β) R c
 kept:Kept iT ρ c0.w w0 c.w w
section
variable {β:Bool} {R:List Frame->World->Prop} {c0 c:Cfg} {iT ρ:Ren} {w0 w w2:World} {l l2:List Frame}
def ja.two(h:ja P ρ l l')(e:l'=x::y::Y):¬pR l:=λ⟨b,a,_⟩=>by
 have:=h.lone a e;cases this
def iB.adD(h:iB β R c0 iT w0 c ρ l w)(m:Bool)(q:¬pR c.l) :
  ∃a d f b n,iB β R c0 iT w0 a d f b/\iN (ah β) a c0/\ρ.Le d/\(∀base,stepG (ah β) m (Gl l base) w=.go (Gl f base) b n)/\aeQ (ah β) c a:=by
 obtain⟨a,d,f,b,n,j,i,p,g,s,t,r,u,o⟩:=aDt β h.gl m h.st h.wr q h.will;have k:iN (ah β) a c0:=h.later.elim (λe=>e ▸ .single i) λx=>tv (.single i) x;exact⟨a,d,f,b,j,⟨.inr k,h.le.trans g,o,t,h.gl.mono g,p,h.kept.trans r⟩,k,g,s,i⟩
def iB.next(h:iB β R c0 iT w0 c ρ l w)(m:Bool)(e:l=x::y::Y) :
  ∃f b d a g,iB β R c0 iT w0 f b d a/\iN (ah β) f c0/\ρ.Le b/\∀base,stepG (ah β) m (Gl l base) w=.go (Gl d base) a g:=
 let⟨f,b,d,a,g,n,i,j,k,_⟩:=h.adD m (h.st.two e);⟨f,b,d,a,g,n,i,j,k⟩
def iB.go(h:iB β R c0 iT w0 c ρ l w)(e:l=x::y::Y)(m:Bool){x2:Frame}{xs2:List Frame}(i:∀base,stepG (ah β) m (Gl l base) w=.go (Gl (x2::xs2) base) w2 es) :
  ∃b a,iB β R c0 iT w0 b a (x2::xs2) w2/\iN (ah β) b c0/\ρ.Le a:=by
 obtain⟨b,a,n,r,s,d,f,g,o⟩:=h.next m e
 have:=o [];rw[i []] at this;injection this with j q u
 obtain⟨_,_,t,k,_,p⟩:=d.st.ne';have:x2::xs2=n:=ov (base:=[]) (by simp) (by rw[p];simp) j;subst this q;exact⟨b,a,d,f,g⟩
def iB.no(h:iB β R c0 iT w0 c ρ l w)(e:l=x::y::Y)(m:Bool){o:Outcome}(b:stepG (ah β) m (Gl l []) w=.ended o w2):False:=by
 obtain⟨p,n,f,d,i,j,g,k,a⟩:=h.next m e
 have:=a [];rw[b] at this;cases this
abbrev FQ(f:FuncId)(T:Array Value)(k:List Item):Frame:=⟨f,T,k,[],.run,.normal,none⟩
abbrev FC(T:Array Value)(k:List Item):Frame:=FQ nCC T k
def ja.hdL   :ja P ρ l l'->∀{y a},l=y::a->(y.mode=.run\/y.mode=.returning)/\y.kind=.normal
 |.one hx _,_,_,e=>by cases e;exact⟨hx.mode.elim (λy=>.inl y.1) (λy=>.inr y.1),hx.kind.1⟩
 |.cons hx _,_,_,e=>by cases e;exact⟨hx.mode.elim (λy=>.inl y.1) (λy=>.inr y.1),hx.kind.1⟩
def iB.apt {T:Array Value}       (h:iB β R c0 iT w0 c ρ (FQ f T (.inRegion Z (i::rest)::k)::y::Y) w)
  (A:Z[i]?=some o) (X:o.guard=none) (r:aaF gA gL o.op=false) (t:Tmp) (d:∀(e:Operand->Value) (w:World),e (.tmp t)=.tuple #[]->∀q S,(execOp e o).run (ah β) w ≠ .ok q S) :
  ∃x,VR ρ x (T.getD t undef)/\x ≠ .tuple #[]:=by
 obtain⟨c1,σ,l1,w1,es,F, -, -, -,hR⟩:=h.adD true (h.st.two rfl);obtain⟨E,a0,_,_,C,e2⟩:=h.st.ne';have I:=h.st;rw[C] at I;have G:=I.head;have N:VR ρ (E.eval (.tmp t)) (T.getD t undef):=G.env h.gl (.tmp t) rfl;refine⟨_,N,λp=> ?_⟩;obtain⟨x1,U,_,_,e3,_⟩:=F.st.ne';obtain⟨a1,a⟩:=hR.step;have a:=a [] c1.t λ_ _ _=>rfl;rw[C] at a;obtain⟨fn,P,D,ds,K,kd,V⟩:=E;obtain⟨L,O,J,Q,B,H,u⟩:=G;dsimp only at L O J Q B H u;obtain rfl:K=.run:=B.elim (·.1) λx=>by cases x.2
 obtain rfl:V=none:=by cases u;rfl
 cases J with
 |cons x hl=>
  cases x with
  |@inRegion g _ z l=>
   have M:i<g.size:=by rw[z.1];exact(dl.1 A).1
   have b:g[i]?=some o:=by
    obtain⟨s,b⟩:∃s,g[i]?=some s:=⟨_,gn M⟩;rcases z.2 i s o b A with⟨rfl,_⟩|⟨j,_⟩
    .exact b
    .rw[r] at j;cases j
   have hq:=xO (β:=β) (m:=true) (fr:=⟨fn,P,_,ds,.run,kd,none⟩) rfl H.1 rfl rfl b X a (λy Y e=>F.st.hdL e) (by rw[e3];simp) (λq W n=>absurd n (d _ _ p q W));rcases hq with⟨v,n,_⟩|⟨n,_⟩
   .exact d _ _ p _ _ n
   .exact d _ _ p _ _ n
def iB.op {T:Array Value}       (h:iB β R c0 iT w0 c ρ (FQ f T (.inRegion Z (i::rest)::k)::y::Y) w)
  (p:Z[i]?=some o) (s:o.guard=none) (t:∀m r,(execOp (FQ f T (.inRegion Z (i::rest)::k)).eval o).run (ah β) w=.ok m r->(∃v,m=.value v)\/m=.skip) :
  ∃v a j g,((execOp (FQ f T (.inRegion Z (i::rest)::k)).eval o).run (ah β) w=.ok (.value v) a\/((execOp (FQ f T (.inRegion Z (i::rest)::k)).eval o).run (ah β) w=.ok .skip a/\v=undef))/\
   iB β R c0 iT w0 j g (FQ f (match o.dst with|some d=>T.setIfInBounds d v|none=>T) (.inRegion Z rest::k)::y::Y) a/\ρ.Le g:=by
 obtain⟨j,g,D,a,B,b,A,q,u⟩:=h.next true rfl
 obtain⟨_,_,C,x,_,z⟩:=b.st.ne';have n:∀v,Frame.finish (FQ f T (.inRegion Z (i::rest)::k)) v=FQ f (match o.dst with|some d=>T.setIfInBounds d v|none=>T) (.inRegion Z rest::k):=λv=>by
  simp only[Frame.finish,p,qN];cases o.dst<;>rfl
 rcases xO (base:=[]) rfl rfl rfl rfl p s (u []) (λy Y e=>b.st.hd e) (by rw[z];simp) t with⟨v,l,rfl⟩|⟨l,rfl⟩
 .rw[n] at b;exact⟨v,a,j,g,.inl l,b,q⟩
 .rw[n] at b;exact⟨undef,a,j,g,.inr ⟨l,rfl⟩,b,q⟩
section
variable {T:Array Value} {k:List Item} {y:Frame} {ys:List Frame}
def iB.seq(h:iB β R c0 iT w0 c ρ (FC T (.code (.seq a b)::k)::y::ys) w):∃e d,iB β R c0 iT w0 e d (FC T (.code a :: .code b::k)::y::ys) w/\ρ.Le d:=by
 obtain⟨e,d,g, -,f⟩:=h.go rfl true (es:=#[]) (x2:=FC T (.code a :: .code b::k)) (xs2:=y::ys) (w2:=w) λbase=>by simp[Gl,stepG,stepG.exec]
 exact⟨e,d,g,f⟩
def iB.region{id:Nat}(h:iB β R c0 iT w0 c ρ (FC T (.code (.region id Z false)::k)::y::ys) w):∃b a,iB β R c0 iT w0 b a (FC T (.inRegion Z (List.range Z.size)::k)::y::ys) w/\ρ.Le a:=by
 obtain⟨b,a,e, -,d⟩:=h.go rfl true (es:=#[]) (x2:=FC T (.inRegion Z (List.range Z.size)::k)) (xs2:=y::ys) (w2:=w) λbase=>by simp[Gl,stepG,stepG.exec]
 exact⟨b,a,e,d⟩
def iB.jC(h:iB β R c0 iT w0 c ρ (FC T (.inRegion Z []::k)::y::ys) w):∃b a,iB β R c0 iT w0 b a (FC T k::y::ys) w/\ρ.Le a:=by
 obtain⟨b,a,d, -,e⟩:=h.go rfl true (es:=#[]) (x2:=FC T k) (xs2:=y::ys) (w2:=w) λbase=>by simp[Gl,stepG,stepG.exec]
 exact⟨b,a,d,e⟩
def iB.skip(h:iB β R c0 iT w0 c ρ (FC T (.code .skip::k)::y::ys) w):∃b a,iB β R c0 iT w0 b a (FC T k::y::ys) w/\ρ.Le a:=by
 obtain⟨b,a,d, -,e⟩:=h.go rfl true (es:=#[]) (x2:=FC T k) (xs2:=y::ys) (w2:=w) λbase=>by simp[Gl,stepG,stepG.exec]
 exact⟨b,a,d,e⟩
def iB.cond(f:T.getD t undef=.bool q)(h:iB β R c0 iT w0 c ρ (FC T (.code (.cond (.tmp t) a b)::k)::y::ys) w):∃e d,iB β R c0 iT w0 e d (FC T (.code (if q then a else b)::k)::y::ys) w/\ρ.Le d:=by
 have g:Frame.eval (FC T (.code (.cond (.tmp t) a b)::k)) (.tmp t)=.bool q:=f;obtain⟨e,d,j, -,i⟩:=h.go rfl true (es:=#[]) (x2:=FC T (.code (if q then a else b)::k)) (xs2:=y::ys) (w2:=w) λbase=>by simp[Gl,stepG,stepG.exec,g]
 exact⟨e,d,j,i⟩
def iB.ret(h:iB β R c0 iT w0 c ρ (FC T (.code .ret::k)::y::ys) w):∃d b,iB β R c0 iT w0 d b (y.finish (.tuple #[])::ys) w/\ρ.Le b/\iN (ah β) d c0:=by
 obtain⟨d,b,l, -,g⟩:=h.go rfl true (es:=#[]) (x2:=⟨nCC,T,.code .ret::k,[],.returning,.normal,none⟩) (xs2:=y::ys) (w2:=w) λbase=>by simp[Gl,stepG,stepG.exec]
 have f:(ah β).funcs[nCC]?=some qCC:=ac2 β;have a:qCC.results=#[]:=rfl;obtain⟨e,n,o,i,m⟩:=l.go rfl true (es:=#[]) (x2:=y.finish (.tuple #[])) (xs2:=ys) (w2:=w) λbase=>by
  have j:(results qCC T).runT (ah β) w #[]=(.ok (.tuple #[]) w,#[]):=by
   simp[results,a,Sem.runT]
  simp only[Gl,stepG,unwind,f,j];simp[doReturn,GStep.after,seen]
 exact⟨e,n,o,g.trans m,i⟩
end
end
section
variable {β:Bool} {R:List Frame->World->Prop} {c0 c:Cfg} {iT ρ:Ren} {w0 w w2:World} {T:Array Value} {k:List Item} {y:Frame} {ys:List Frame}
def iB.noV(h:iB β R c0 iT w0 c ρ (FC T k::y::ys) w)(e:T.getD t undef=.pointer (some A))(b:∃x,VR ρ x (T.getD t undef)/\x ≠ .tuple #[]):(∃d,AR ρ d A)/\NoV (ah β) w A:=by
 obtain⟨x,b,f⟩:=b;rw[e] at b;cases b with
 |pointer a=>cases a with
  |some a=>exact⟨⟨_,a⟩,h.wr.noV a⟩
 |gp=>exact absurd rfl f
def aG{T:Array Value}{d t:Nat}(a:d<T.size):(T.setIfInBounds d v).getD t undef=if t=d then v else T.getD t undef:=by
 rw[iS,iS,oR];by_cases e:d=t
 .subst e;simp[a]
 .rw[be e,be (λx=>e x.symm)]
def eqG{x y:Operand} :eqGuard .eql 181 x y v (.pointer none)=Sem.pure ():=by
 unfold eqGuard;cases v<;>rfl
def iB.slice(h:iB β R c0 iT w0 c ρ (FC T (.inRegion pX (0::rest)::k)::y::ys) w) :
  ∃A e n q i,T.getD 0 undef=.pointer (some A)/\(∃x,AR ρ x A)/\w.shape? A.block=some (e,n)/\liesAt (ah β) (ah β).depth e (n / (ah β).cellsOf e) A.off 183 1=true/\iB β R c0 iT w0 q i (FC T (.inRegion pX rest::k)::y::ys) w/\ρ.Le i:=by
 have a:∀d g,(execOp (FC T (.inRegion pX (0::rest)::k)).eval (iP none (.call ⟨.builtin .unsafeSlice,#[.tmp 0,.const (.int .i64 1)],#[181,3]⟩) 0)).run (ah β) w=.ok d g->
   ∃v,(Builtin.unsafeSlice_ #[181,3] 0 #[T.getD 0 undef,.int .i64 1]).run (ah β) w=.ok v g/\d=.value v:=λd g b=>by
  have j:execOp (FC T (.inRegion pX (0::rest)::k)).eval (iP none (.call ⟨.builtin .unsafeSlice,#[.tmp 0,.const (.int .i64 1)],#[181,3]⟩) 0) =
    (Builtin.unsafeSlice_ #[181,3] 0 #[T.getD 0 undef,.int .i64 1]).bind λv=>Sem.pure (.value v):=by
   have p:Array.map (FC T (.inRegion pX (0::rest)::k)).eval #[.tmp 0,.const (.int .i64 1)]=#[T.getD 0 undef,.int .i64 1]:=by simp[Frame.eval]
   simp only[execOp,iP,resolve];rw[p];rfl
  rw[j] at b;obtain⟨v,z,f,l⟩:=ed (s:=Builtin.unsafeSlice_ #[181,3] 0 #[T.getD 0 undef,.int .i64 1]) b;cases(show Result.ok (Next.value v) z=Result.ok d g from l);exact⟨v,f,rfl⟩
 obtain⟨v,B,q,i,m,f,l⟩:=h.op (o:=iP none (.call ⟨.builtin .unsafeSlice,#[.tmp 0,.const (.int .i64 1)],#[181,3]⟩) 0) rfl rfl λd g b=>.inl (let⟨v,_,e⟩:=a d g b;⟨v,e⟩);have G:∃u,(Builtin.unsafeSlice_ #[181,3] 0 #[T.getD 0 undef,.int .i64 1]).run (ah β) w=.ok u B:=by
  rcases m with b|⟨b, -⟩
  .obtain⟨u,f, -⟩:=a _ _ b;exact⟨u,f⟩
  .obtain⟨u,f, -⟩:=a _ _ b;exact⟨u,f⟩
 obtain⟨u,E⟩:=G;have r:=h.apt (o:=iP none (.call ⟨.builtin .unsafeSlice,#[.tmp 0,.const (.int .i64 1)],#[181,3]⟩) 0) rfl rfl rfl 0 λe w H d C b=>by
  have j:execOp e (iP none (.call ⟨.builtin .unsafeSlice,#[.tmp 0,.const (.int .i64 1)],#[181,3]⟩) 0)=(Builtin.unsafeSlice_ #[181,3] 0 #[.tuple #[],e (.const (.int .i64 1))]).bind λv=>Sem.pure (.value v):=by
   have p:Array.map e #[.tmp 0,.const (.int .i64 1)]=#[.tuple #[],e (.const (.int .i64 1))]:=by simp[H]
   simp only[execOp,iP,resolve];rw[p];rfl
  rw[j] at b;cases(show Result.halt _ _=Result.ok d C from b)
 obtain⟨rfl,A,e,n,t,D,F⟩:=arZ (ccQ β) rfl (λA e=>(h.noV e r).2) E;exact⟨A,e,n,q,i,t,(h.noV t r).1,D,F,f,l⟩
def iB.field(h:iB β R c0 iT w0 c ρ (FC T (.inRegion Z (i::rest)::k)::y::ys) w)(l:Z[i]?=some (iP (some d) (.fieldAddr 183 (.tmp t) 0) 0))(e:T.getD t undef=.pointer (some A)) :
  ∃j g,iB β R c0 iT w0 j g (FC (T.setIfInBounds d (.pointer (some A))) (.inRegion Z rest::k)::y::ys) w/\ρ.Le g:=by
 have a:(execOp (FC T (.inRegion Z (i::rest)::k)).eval (iP (some d) (.fieldAddr 183 (.tmp t) 0) 0)).run (ah β) w=.ok (.value (.pointer (some A))) w:=by
  have:(execOp (FC T (.inRegion Z (i::rest)::k)).eval (iP (some d) (.fieldAddr 183 (.tmp t) 0) 0))=(Instr.fieldAt 183 (T.getD t undef) 0).bind λv=>Sem.pure (.value v):=rfl;rw[this,e,qY,ar0 (ccQ β)];rfl
 obtain⟨v,o,j,g,f,n,m⟩:=h.op l rfl λq p b=>by rw[a] at b;cases b;exact .inl ⟨_,rfl⟩
 rw[a] at f;rcases f with b|⟨b, -⟩
 .cases b;exact⟨j,g,n,m⟩
 .cases b
def iB.load(h:iB β R c0 iT w0 c ρ (FC T (.inRegion Z (i::rest)::k)::y::ys) w)(x:Z[i]?=some (iP (some d) (.load 181 (.tmp t)) 181))(e:T.getD t undef=.pointer (some A)) :
  ∃v r m,w.cell? A=some v/\iB β R c0 iT w0 r m (FC (T.setIfInBounds d v) (.inRegion Z rest::k)::y::ys) w/\ρ.Le m:=by
 have a:∀g j,(execOp (FC T (.inRegion Z (i::rest)::k)).eval (iP (some d) (.load 181 (.tmp t)) 181)).run (ah β) w=.ok g j->∃v,j=w/\w.cell? A=some v/\g=.value v:=λg j b=>by
  obtain⟨v,n,f,l⟩:=ed (s:=Instr.loadAt 181 (T.getD t undef)) b;rw[e] at f;have z:=h.apt x rfl rfl t λe w B g D b=>by
   obtain⟨v,n,f,l⟩:=ed (s:=Instr.loadAt 181 (e (.tmp t))) b;rw[B] at f;cases(show Result.halt _ _=Result.ok v n from f)
  obtain⟨rfl,p⟩:=avf (ccQ β) (h.noV e z).2 f;cases(show Result.ok (Next.value v) n=Result.ok g j from l);exact⟨v,rfl,p,rfl⟩
 obtain⟨v,C,r,m,o,f,l⟩:=h.op x rfl λg j b=>.inl (let⟨v,_,_,e⟩:=a g j b;⟨v,e⟩);rcases o with b|⟨b, -⟩
 .obtain⟨u,rfl,p,q⟩:=a _ _ b;cases q;exact⟨v,r,m,p,f,l⟩
 .obtain⟨u, -, -,q⟩:=a _ _ b;cases q
def iB.eql(h:iB β R c0 iT w0 c ρ (FC T (.inRegion Z (i::rest)::k)::y::ys) w)(A:Z[i]?=some (iP (some d) (.binOp .eql 181 (.tmp t) (.const (.pointer none)) 181) 4)) :
  ∃b x l,((T.getD t undef=.pointer none/\b=true)\/∃B,T.getD t undef=.pointer (some B)/\b=false)/\iB β R c0 iT w0 x l (FC (T.setIfInBounds d (.bool b)) (.inRegion Z rest::k)::y::ys) w/\ρ.Le l:=by
 have a:∀j g,(execOp (FC T (.inRegion Z (i::rest)::k)).eval (iP (some d) (.binOp .eql 181 (.tmp t) (.const (.pointer none)) 181) 4)).run (ah β) w=.ok j g->
   ∃b,g=w/\((T.getD t undef=.pointer none/\b=true)\/∃B,T.getD t undef=.pointer (some B)/\b=false)/\j=.value (.bool b):=λj g f=>by
  have:(execOp (FC T (.inRegion Z (i::rest)::k)).eval (iP (some d) (.binOp .eql 181 (.tmp t) (.const (.pointer none)) 181) 4))=((eqGuard .eql 181 (.tmp t) (.const (.pointer none)) (T.getD t undef) (.pointer none)).bind λ_=>binOp .eql 181 (T.getD t undef) (.pointer none)).bind λv=>Sem.pure (.value v):=rfl;rw[this,eqG] at f;obtain⟨v,z,r,m⟩:=ed (s:=binOp .eql 181 (T.getD t undef) (.pointer none)) f;obtain⟨rfl,o⟩:=ayC (ccQ β) r;cases(show Result.ok (Next.value v) z=Result.ok j g from m);rcases o with⟨p,rfl⟩|⟨B,p,rfl⟩
  .exact⟨true,rfl,.inl ⟨p,rfl⟩,rfl⟩
  .exact⟨false,rfl,.inr ⟨B,p,rfl⟩,rfl⟩
 obtain⟨v,C,x,l,n,r,m⟩:=h.op A rfl λj g f=>.inl (let⟨b,_,_,e⟩:=a j g f;⟨_,e⟩);rcases n with f|⟨f, -⟩
 .obtain⟨u,rfl,o,q⟩:=a _ _ f;cases q;exact⟨u,x,l,o,r,m⟩
 .obtain⟨u, -, -,q⟩:=a _ _ f;cases q
def iB.store    {x:Operand} (h:iB β R c0 iT w0 c ρ (FC T (.inRegion Z (i::rest)::k)::y::ys) w) (r:Z[i]?=some (iP none (.store 181 (.tmp t) x) 0)) {u:Option Addr}
  (e:T.getD t undef=.pointer (some A)) (z:(FC T (.inRegion Z (i::rest)::k)).eval x=.pointer u) :
  ∃n l,w.frozen? A=false/\(∃v,w.cell? A=some v)/\iB β R c0 iT w0 n l (FC T (.inRegion Z rest::k)::y::ys) (w.setCell A (.pointer u))/\ρ.Le l:=by
 have a:∀d f,(execOp (FC T (.inRegion Z (i::rest)::k)).eval (iP none (.store 181 (.tmp t) x) 0)).run (ah β) w=.ok d f->f=w.setCell A (.pointer u)/\w.frozen? A=false/\(∃v,w.cell? A=some v)/\d=.skip:=λd f b=>by
  have:(execOp (FC T (.inRegion Z (i::rest)::k)).eval (iP none (.store 181 (.tmp t) x) 0))=(Instr.storeAt 181 (T.getD t undef) ((FC T (.inRegion Z (i::rest)::k)).eval x)).bind λ_=>Sem.pure .skip:=rfl;rw[this,e,z] at b;obtain⟨v,q,g,j⟩:=ed (s:=Instr.storeAt 181 (.pointer (some A)) (.pointer u)) b;have B:=h.apt r rfl rfl t λe w D d F b=>by
   obtain⟨v,q,g,j⟩:=ed (s:=Instr.storeAt 181 (e (.tmp t)) (e x)) b;rw[D] at g;cases(show Result.halt _ _=Result.ok v q from g)
  obtain⟨rfl,p,m⟩:=ar1 (ccQ β) (h.noV e B).2 g;cases(show Result.ok Next.skip _=Result.ok d f from j);exact⟨rfl,p,m,rfl⟩
 obtain⟨v,E,n,l,o,g,j⟩:=h.op r rfl λd f b=>.inr (a d f b).2.2.2;rcases o with b|⟨b, -⟩
 .obtain⟨-, -, -,C⟩:=a _ _ b;cases C
 .obtain⟨rfl,p,m, -⟩:=a _ _ b;exact⟨n,l,p,m,g,j⟩
end
abbrev T0C(a:Array Value):Array Value:=a++Array.replicate (20-a.size) undef
section
variable {β:Bool} {R:List Frame->World->Prop} {c0 c:Cfg} {iT ρ:Ren} {w0 w w2:World} {T:Array Value} {k:List Item} {y:Frame} {ys m:List Frame} {a a':Array Value}
def avg:Frame.enter (ah β) nCC a' .normal=FC (T0C a') [.code og]:=by
 have a:(ah β).funcs[nCC]?=some qCC:=ac2 β;unfold Frame.enter;rw[a];rfl
def gQ(e:W.heap[A.block]?=w.heap[A.block]?):W.cell? A=w.cell? A:=by
 unfold World.cell?;rw[e]
def xu{xs:Array Obj}{f:Obj->Obj}(h:∀o,xs[i]?=some o->f o=o):xs.modify i f=xs:=by
 apply sQ;intro j;rw[pr];by_cases e:i=j
 .subst e;rw[du rfl];cases a:xs[i]? with
  |none=>rfl
  |some o=>simp[h o a]
 .rw[be e]
def ahU{xs:Array Obj}{f g:Obj->Obj}(h:∀o,g (f o)=g o):(xs.modify i f).modify i g=xs.modify i g:=by
 apply sQ;intro j;rw[pr,pr,pr];by_cases e:i=j
 .simp only[e,qe,Option.map_map]
  congr 1
  funext o
  exact h o
 .simp only[e,qM]
def ahV(h:w.cell? A=some v):w.setCell A v=w:=by
 unfold World.setCell;rw[xu];intro o b;unfold World.cell? at h;rw[b] at h;cases o with
 |cells c t z=>
  cases a:A.spot with
  |some s=>simp[a] at h
  |none=>
   simp[a] at h;simp only[tC,li,qM]
   congr 1
   apply sQ;intro j;rw[oR];by_cases e:A.off=j
   .subst e;rw[du rfl,h];rw[du (dl.1 h).1]
   .rw[be e]
 |_=>rfl
def afZ   :(w.setCell A u).setCell A v=w.setCell A v:=by
 unfold World.setCell;dsimp only;rw[ahU];intro o;cases o with
 |cells c t z=>
  dsimp only;split
  .rfl
  .simp
 |_=>rfl
def avh(Q:dv iT a a')(O:ja (ah β) iT m (y::ys))(hc:c0.l=Frame.enter (ah β) nCC a .normal::m)(hw:WR iT c0.w w0)(Y:GlR iT)(Z:kN (ah β) R c0) :
  ∃A v e n g σ,(T0C a').getD 0 undef=.pointer (some A)/\w0.shape? A.block=some (e,n)/\liesAt (ah β) (ah β).depth e (n / (ah β).cellsOf e) A.off 183 1=true/\w0.cell? A=some v/\w0.frozen? A=false/\(v=.pointer none\/v=.pointer (some A))/\
   (∃z,AR iT z A)/\(∀E,iT.r E A.block->bK c0.w E->NoB c0.w E->False)/\iB β R c0 iT w0 g σ (y.finish (.tuple #[])::ys) (w0.setCell A (.pointer (some A)))/\iN (ah β) g c0:=by
 have hz:20<=(T0C a').size:=by simp only[T0C,sE,tj];omega
 have h:iB β R c0 iT w0 c0 iT (FC (T0C a') [.code og]::y::ys) w0:=⟨.inl rfl,.refl _,by rw[hc,<-avg (β:=β)];exact .cons (ae6 β Q) O,hw,Y,Z,Kept.refl _ _ _⟩;generalize T0C a'=T at hz h ⊢;unfold og at h;obtain⟨g,c,h, -⟩:=h.seq;obtain⟨g,c,h, -⟩:=h.region;have p:List.range pX.size=[0,1,2,3]:=rfl;rw[p] at h;obtain⟨A,e,n,S,r,D,⟨z,U⟩,i,F,h', -⟩:=h.slice;have C:∃z,AR iT z A:=by
  refine⟨z, ?_⟩;obtain⟨p,o,s⟩:=U;rename_i bl br;rcases h.kept.new p with w|⟨_,w⟩
  .exact .mk w o s
  .exfalso;dsimp only at i;simp only[World.shape?] at i;cases k:w0.heap[br]? with
   |none=>rw[k] at i;cases i
   |some q=>have:=(dl.1 k).1;omega
 replace h:=h';obtain⟨g,c,h, -⟩:=h.field rfl D;obtain⟨v,g,c,f,h, -⟩:=h.load (A:=A) rfl (by rw[aG (by omega)];rfl);obtain⟨b,g,c,k,h, -⟩:=h.eql rfl;obtain⟨g,c,h, -⟩:=h.jC;obtain⟨g,c,h, -⟩:=h.seq;have X:((T.setIfInBounds 4 (.pointer (some A))).setIfInBounds 5 v).getD 5 undef=v:=by rw[aG (by simp;omega)];rfl
 rw[X] at k;obtain⟨g,c,h, -⟩:=h.cond (q:=b) (by rw[aG (by simp;omega)];rfl);have l:∀{J:Array Value} {S:Cfg} {r:Ren} {w2:World},iB β R c0 iT w0 S r (FC J [.code (.seq (.region 1 ahD false) .ret)]::y::ys) w2->J.getD 4 undef=.pointer (some A)->J.getD 0 undef=.pointer (some A)->
   ∃x j,w2.frozen? A=false/\iB β R c0 iT w0 x j (y.finish (.tuple #[])::ys) (w2.setCell A (.pointer (some A)))/\iN (ah β) x c0:=λ{J S r w2} h g4 g0=>by
  obtain⟨g,c,h, -⟩:=h.seq;obtain⟨g,c,h, -⟩:=h.region;have p:List.range ahD.size=[0]:=rfl;rw[p] at h;obtain⟨g,c,H, -,h, -⟩:=h.store (A:=A) (u:=some A) rfl g4 g0;obtain⟨g,c,h, -⟩:=h.jC;obtain⟨g,c,h, -,G⟩:=h.ret;exact⟨g,c,H,h,G⟩
 rcases k with⟨rfl,rfl⟩|⟨B,rfl,rfl⟩
 .simp only[qe] at h;obtain⟨g,c,h, -⟩:=h.skip;obtain⟨x,j,H,h,G⟩:=l h (by rw[aG (by simp;omega),be (by decide),aG (by simp;omega),be (by decide),aG (by omega),du rfl]) (by rw[aG (by simp;omega),be (by decide),aG (by simp;omega),be (by decide),aG (by omega),be (by decide)];exact D);refine⟨A,_,e,n,x,j,D,i,F,f,H,.inl rfl,C,λE w L V=> ?_,h,G⟩;have:=(h.kept.still w L V).2;have W:(w0.setCell A (.pointer (some A))).cell? A=some (.pointer (some A)):=World.cell?_setCell_same _ _ _ f;rw[gQ this,f] at W;cases W
 .simp only[qM,li] at h;obtain⟨g,c,h, -⟩:=h.seq;obtain⟨g,c,h, -⟩:=h.region;have p:List.range als.size=[0,1,2,3]:=rfl;rw[p] at h;obtain⟨g,c,h, -⟩:=h.field (A:=B) (t:=5) (d:=7) rfl (by rw[aG (by simp;omega),be (by decide)];exact X);obtain⟨g,c,N,⟨vB,a0⟩,h, -⟩:=h.store (A:=B) (u:=none) (t:=7) rfl (by rw[aG (by simp;omega)];rfl) rfl;have hk:=h.kept;obtain⟨u,g,c,I,h, -⟩:=h.load (A:=A) (t:=4) (d:=8) rfl (by rw[aG (by simp;omega),be (by decide),aG (by simp;omega),be (by decide),aG (by simp;omega),be (by decide),aG (by omega),du rfl]);obtain⟨b,g,c,k,h, -⟩:=h.eql (t:=8) (d:=9) rfl;rw[aG (by simp;omega),du rfl] at k;obtain⟨g,c,h, -⟩:=h.jC;obtain⟨g,c,h, -⟩:=h.cond (q:=b) (by rw[aG (by simp;omega)];rfl);rcases k with⟨rfl,rfl⟩|⟨B',rfl,rfl⟩
  .have P:A=B:=by
    refine qL λK=> ?_;rw[uf _ _ _ _ (λe=>K e.symm),f] at I;cases I
   subst P;simp only[qe] at h;obtain⟨g,c,h, -⟩:=h.skip;obtain⟨x,j,H,h,G⟩:=l h
    (by rw[aG (by simp;omega),be (by decide),aG (by simp;omega),be (by decide),aG (by simp;omega),be (by decide),aG (by simp;omega),be (by decide),aG (by simp;omega),be (by decide),aG (by omega),du rfl])
    (by rw[aG (by simp;omega),be (by decide),aG (by simp;omega),be (by decide),aG (by simp;omega),be (by decide),aG (by simp;omega),be (by decide),aG (by simp;omega),be (by decide),aG (by omega),be (by decide)];exact D)
   have M:(w0.setCell A (.pointer none)).setCell A (.pointer (some A))=w0.setCell A (.pointer (some A)):=afZ;rw[M] at h;refine⟨A,_,e,n,x,j,D,i,F,f,N,.inr rfl,C,λE w L V=> ?_,h,G⟩;have:=(hk.still w L V).2;rw[gQ this,f] at I;cases I
  .exfalso;simp only[qM,li] at h;exact h.no rfl true (o:=_) (w2:=w0.setCell B (.pointer none)) (by simp only[Gl,stepG,stepG.exec];rfl)
end
end
section
open Go.Conc Go.ConcN Go.RowKit Go.Lib
section
variable {P:Program} (T:CcT P) {w:World} {e:Operand->Value} {x y:Operand} {A:Addr} {v:Value} {dst:Option Tmp} {ty:TypeId} {pos:String} {af:Array Edge} {gd:Option (Nat×Bool)}
def avi:(execOp e ⟨dst,.move x,ty,pos,af,gd⟩).runT P w #[]=(.ok (.value (e x)) w,#[]):=rfl
def al1(h:e x=.pointer (some A)):(execOp e ⟨dst,.nilCheck x,ty,pos,af,gd⟩).runT P w #[]=(.ok (.value (.pointer (some A))) w,#[]):=by
 simp only[execOp,h];rfl
include T
theorem ae7(h:e x=.pointer (some A)):(execOp e ⟨dst,.fieldAddr 183 x 0,ty,pos,af,gd⟩).runT P w #[]=(.ok (.value (.pointer (some A))) w,#[]):=by
 obtain⟨k,g,c,a,d,b⟩:=T.f;obtain⟨i,f,j⟩:=T.i6;simp[execOp,h,Instr.fieldAt,Instr.sureAddr,me c,a,fieldPlace,sizeOf,typeInfo,b,f,j,d,Addr.add]
theorem an3(h:e x=.pointer (some A))(a:w.cell? A=some v):(execOp e ⟨dst,.load 181 x,ty,pos,af,gd⟩).runT P w #[]=(.ok (.value v) w,#[⟨.cell A,false,false⟩]):=by
 simp[execOp,h,Instr.loadAt,Instr.sureAddr,loadVar,isAgg,me T.u,a]
theorem ayD{a:Option Addr}(h:e x=.pointer a)(f:e y=.pointer none):(execOp e ⟨dst,.binOp .eql 181 x y 181,ty,pos,af,gd⟩).runT P w #[]=(.ok (.value (.bool a.isNone)) w,#[]):=by
 have b:∀(d:Nat),(Op.equalIn (d+1) 181 (.pointer a) (.pointer none)).run P w=.ok a.isNone w:=λd=>by
  cases a<;>simp[Op.equalIn,me T.u]
 have c:∀(d:Nat),(Op.equalIn (d+1) 181 (.pointer a) (.pointer none)).events P w #[]=#[]:=λd=>by
  cases a<;>simp[Op.equalIn,me T.u]
 simp only[execOp,h,f,eqG,binOp];simp[Op.equal,Op.maxDepth,b 9999,c 9999]
theorem ayE(h:e x=.pointer (some A))(g:e y=.pointer (some A)):(execOp e ⟨dst,.binOp .neq 181 x y 181,ty,pos,af,gd⟩).runT P w #[]=(.ok (.value (.bool false)) w,#[]):=by
 obtain⟨i,a,j, -⟩:=T.i8;have b:∀(d:Nat),(Op.equalIn (d+1) 181 (.pointer (some A)) (.pointer (some A))).run P w=.ok true w:=λd=>by
  simp[Op.equalIn,me T.u,sizeOf,typeInfo,a,run_sameAddr_same]
 have f:∀(d:Nat),(Op.equalIn (d+1) 181 (.pointer (some A)) (.pointer (some A))).events P w #[]=#[]:=λd=>by
  simp[Op.equalIn,me T.u,sizeOf,typeInfo,a,j,sameAddr]
 have c:eqGuard .neq 181 x y (.pointer (some A)) (.pointer (some A))=Sem.pure ():=rfl;simp only[execOp,h,g,c,binOp];simp[Op.equal,Op.maxDepth,b 9999,f 9999]
theorem ayF(h:e x=.pointer (some A))(a:w.shape? A.block=some (X,n))(f:A.off<n):(execOp e ⟨dst,.convert 181 167 x,ty,pos,af,gd⟩).runT P w #[]=(.ok (.value (.pointer (some A))) w,#[]):=by
 obtain⟨i,b,d, -⟩:=T.i8;have c:¬n<=A.off:=by omega
 simp[execOp,h,convert,me T.u,me T.up,Conv.unsafePointer,Conv.seenAt,viewAt,cellsIn,a,sizeOf,typeInfo,b,d,c]
theorem ar2(h:e x=.pointer (some A))(a:w.shape? A.block=some (X,n))(b:liesAt P P.depth X (n / P.cellsOf X) A.off 183 1=true):(execOp e ⟨dst,.convert 167 181 x,ty,pos,af,gd⟩).runT P w #[]=(.ok (.value (.pointer (some A))) w,#[]):=by
 obtain⟨i,c,d, -⟩:=T.i8;simp[execOp,h,convert,me T.u,me T.up,Conv.unsafePointer,Conv.seenAt,viewAt,a,variablesAt,b,sizeOf,typeInfo,c,d]
theorem ar3{u:Option Addr}(h:e x=.pointer (some A))(d:e y=.pointer u)(g:w.cell? A=some v)(c:w.frozen? A=false):(execOp e ⟨dst,.store 181 x y,ty,pos,af,gd⟩).runT P w #[]=(.ok .skip (w.setCell A (.pointer u)),#[⟨.cell A,true,false⟩]):=by
 obtain⟨i,j,k⟩:=T.i6;have a:(Sem.store .plain A (.pointer u) (Sem.pure ())).runT P w #[]=(.ok () (w.setCell A (.pointer u)),#[⟨.cell A,true,false⟩]):=by
  unfold Sem.runT;simp only[g,c,li,qM];rfl
 have f:(store A (.pointer u)).run P w=.ok () (w.setCell A (.pointer u)):=by
  rw[<-rA _ _ _ #[]];exact ga Prod.fst a
 have b:(store A (.pointer u)).events P w #[]=#[⟨.cell A,true,false⟩]:=ga Prod.snd a;simp[execOp,h,d,Instr.storeAt,Instr.sureAddr,storeVar,sizeOf,typeInfo,j,k,Value.cells,storeCells,Addr.add,f,b]
end
end
section
open Go.Conc Go.ConcN
abbrev nNE:FuncId:=161
def avj:f161.body.isNone=true:=by kernel_rfl
def ne_next:Extern.findNext f161=none:=by kernel_rfl
def avk:Extern.find f161=some Extern.AbiNoEscape.same:=by kernel_rfl
def af0{fn:Func}{s:Array Value->Sem Value}{args:Array Value}(c:P.funcs[f]?=some fn)(e:(fn.name == "runtime.NumGoroutine")=false)(g:fn.body.isNone=true)(j:Extern.findNext fn=none)(d:Extern.find fn=some s)(i:s args=Sem.pure v) :
  (callFunc f args).runT P w #[]=(.ok (.value v) w,#[⟨.mark (.extern f),false,true⟩]):=by
 unfold callFunc;have a:¬fn.name= "runtime.NumGoroutine" :=by simpa using e
 have b:fn.body=none:=by simpa using g
 simp[c,a,b,j,d,i]
section
variable {w:World} {e:Operand->Value} {x:Operand} {v:Value} {dst:Option Tmp} {ty:TypeId} {pos:String} {af:Array Edge} {gd:Option (Nat×Bool)} {ts:Array TypeId}
def ar4(d:e (.func nNE)=.func (.func nNE) #[] #[]):(execOp e ⟨dst,.call ⟨.value (.func nNE),#[x],ts⟩,ty,pos,af,gd⟩).runT prog w #[]=(.ok (.value (e x)) w,#[⟨.mark (.extern nNE),false,true⟩]):=by
 have a:Array.map e #[x]=#[e x]:=by simp
 have b:execOp e ⟨dst,.call ⟨.value (.func nNE),#[x],ts⟩,ty,pos,af,gd⟩=callFunc nNE #[e x]:=by
  simp only[execOp,resolve,a,d];simp[Deferred.ofValue,invoke];try rfl
 rw[b];exact af0 func161 (cH func161) avj ne_next avk rfl
def apu(a:e (.func nNE)=.func (.func nNE) #[] #[])(h:e x=v):(execOp e ⟨dst,.call ⟨.value (.func nNE),#[x],ts⟩,ty,pos,af,gd⟩).runT prog w #[]=(.ok (.value v) w,#[⟨.mark (.extern nNE),false,true⟩]):=by
 rw[ar4 a,h]
end
section
variable {P:Program} {m:Bool} {fr:Frame} {xs base:List Frame} {ops:Array Oper} {i:Nat} {rest:List Nat} {k:List Item} {o:Oper} {w w2:World} {es:Array Event} {v:Value}
def anr (f:fr.mode=.run) (g:fr.kind=.normal) (b:fr.roundOf=none) (e:fr.todo=.inRegion ops (i::rest)::k) (n:ops[i]?=some o) (q:o.guard=none)
  (p:(execOp fr.eval o).runT P w #[]=(.ok (.value v) w2,es)):stepG P m (Gl (fr::xs) base) w=.go (Gl (fr.finish v::xs) base) w2 (seen P fr.fn es):=by
 obtain⟨fn,a,j,d,u,t,s⟩:=fr;dsimp only at f g b e;subst f g b e;have l:∀y,Region.wanted o y=true:=λy=>by unfold Region.wanted;rw[q]
 have r:stepG P m (Gl (⟨fn,a,.inRegion ops (i::rest)::k,d,.run,.normal,none⟩::xs) base) w =
   stepG.apply P true ⟨fn,a,.inRegion ops (i::rest)::k,d,.run,.normal,none⟩ (xs++base) none (execOp (Frame.eval ⟨fn,a,.inRegion ops (i::rest)::k,d,.run,.normal,none⟩) o) w:=by
  simp[Gl,stepG,stepG.exec,stepG.oper,Frame.oper?,n,l]
 rw[r];unfold stepG.apply;simp only[p,qe];have c:(CallKind.normal ==CallKind.early)=false:=rfl;simp[GStep.after,c,Gl]
def ae8 (f:fr.mode=.run) (g:fr.kind=.normal) (b:fr.roundOf=none) (e:fr.todo=.inRegion ops (i::rest)::k) (n:ops[i]?=some o) (q:o.guard=none)
  (p:(execOp fr.eval o).runT P w #[]=(.ok .skip w2,es)):stepG P m (Gl (fr::xs) base) w=.go (Gl (fr.finish undef::xs) base) w2 (seen P fr.fn es):=by
 obtain⟨fn,a,j,d,u,t,s⟩:=fr;dsimp only at f g b e;subst f g b e;have l:∀y,Region.wanted o y=true:=λy=>by unfold Region.wanted;rw[q]
 have r:stepG P m (Gl (⟨fn,a,.inRegion ops (i::rest)::k,d,.run,.normal,none⟩::xs) base) w =
   stepG.apply P true ⟨fn,a,.inRegion ops (i::rest)::k,d,.run,.normal,none⟩ (xs++base) none (execOp (Frame.eval ⟨fn,a,.inRegion ops (i::rest)::k,d,.run,.normal,none⟩) o) w:=by
  simp[Gl,stepG,stepG.exec,stepG.oper,Frame.oper?,n,l]
 rw[r];unfold stepG.apply;simp only[p,qe];have c:(CallKind.normal ==CallKind.early)=false:=rfl;simp[GStep.after,c,Gl]
end
section
variable {P:Program} {main:Bool} {Rl:au->World->World->Prop} {Gr:au->au->World->World->Array Event->Prop} {St:au->Goroutine->World->Prop} {S Rr:au} {w0:World}
structure Cmp (Rl:au->World->World->Prop) (Gr:au->au->World->World->Array Event->Prop) (Rr:au):Prop where
 gz:∀S w,Rl S w w
 tr:∀S a b c,Rl S a b->Rl S b c->Rl S a c
 rl:∀S w w1,Rl S w w1->(∀b,S b\/Rr b->w1.heap[b]?=w.heap[b]?)/\w.heap.size<=w1.heap.size/\w1.ou=w.ou
 gr:∀S w w' es,(∀b,b<w.heap.size->¬S b->w'.heap[b]?=w.heap[b]?)->w.heap.size<=w'.heap.size->w'.ou=w.ou->(∀e∈es,nP (λb=>S b\/(w.heap.size<=b/\b<w'.heap.size)) Rr w'.heap.size e)->
   Gr S (λb=>S b\/(w.heap.size<=b/\b<w'.heap.size)) w w' es
def Cmp.same(C:Cmp Rl Gr Rr)(c:∀b,b<w.heap.size->¬S b->w'.heap[b]?=w.heap[b]?)(a:w'.heap.size=w.heap.size)(d:w'.ou=w.ou)(f:∀e∈es,nP S Rr w.heap.size e):Gr S S w w' es:=by
 have e:(λb=>S b\/(w.heap.size<=b/\b<w'.heap.size))=S:=by
  funext b
  rw[a];exact propext ⟨λh=>h.elim id λh=>absurd h.1 (by omega),.inl⟩
 have:=C.gr S w w' es c (pa a.symm) d (by rw[e,a];exact f);rw[e] at this;exact this
def bM.still (C:Cmp Rl Gr Rr) {fr:Frame} {base l2 : List Frame} {es:World->Array Event} (f:∀w,Rl S w0 w->stepG P main (Gl (fr::xs) base) w=.go (Gl l2 base) w (es w)) (d:∀w,Rl S w0 w->∀e∈es w,nP S Rr w.heap.size e)
  (g:∀w,Rl S w0 w->bM P main Rl Gr St S (Gl l2 base) w):∀w,Rl S w0 w->bM P main Rl Gr St S (Gl (fr::xs) base) w:=λw a=>
 .step rfl λb c=>⟨_,_,_,S,f b (C.tr _ _ _ _ a c),C.same (λ_ _ _=>rfl) rfl rfl (d b (C.tr _ _ _ _ a c)),g b (C.tr _ _ _ _ a c)⟩
variable {f:FuncId} {T:Array Value} {k:List Item} {xs base:List Frame}
def eN(C:Cmp Rl Gr Rr)(c:∀w,Rl S w0 w->bM P main Rl Gr St S (Gl (FQ f T (.code a :: .code b::k)::xs) base) w):∀w,Rl S w0 w->bM P main Rl Gr St S (Gl (FQ f T (.code (.seq a b)::k)::xs) base) w:=
 bM.still C (es:=λ_=>#[]) (λw _=>by simp[Gl,stepG,stepG.exec]) (λ_ _ e h=>by cases(by simpa using h:False)) c
def gD(C:Cmp Rl Gr Rr){id:Nat}{l:List Nat}(a:List.range Z.size=l)(b:∀w,Rl S w0 w->bM P main Rl Gr St S (Gl (FQ f T (.inRegion Z l::k)::xs) base) w):∀w,Rl S w0 w->bM P main Rl Gr St S (Gl (FQ f T (.code (.region id Z false)::k)::xs) base) w:=
 bM.still C (es:=λ_=>#[]) (λw _=>by subst a;simp[Gl,stepG,stepG.exec]) (λ_ _ e h=>by cases(by simpa using h:False)) b
def iE(C:Cmp Rl Gr Rr)(a:∀w,Rl S w0 w->bM P main Rl Gr St S (Gl (FQ f T k::xs) base) w):∀w,Rl S w0 w->bM P main Rl Gr St S (Gl (FQ f T (.inRegion Z []::k)::xs) base) w:=
 bM.still C (es:=λ_=>#[]) (λw _=>by simp[Gl,stepG,stepG.exec]) (λ_ _ e h=>by cases(by simpa using h:False)) a
def an4(C:Cmp Rl Gr Rr)(a:∀w,Rl S w0 w->bM P main Rl Gr St S (Gl (FQ f T k::xs) base) w):∀w,Rl S w0 w->bM P main Rl Gr St S (Gl (FQ f T (.code .skip::k)::xs) base) w:=
 bM.still C (es:=λ_=>#[]) (λw _=>by simp[Gl,stepG,stepG.exec]) (λ_ _ e h=>by cases(by simpa using h:False)) a
def acv(C:Cmp Rl Gr Rr)(c:T.getD t undef=.bool q)(g:∀w,Rl S w0 w->bM P main Rl Gr St S (Gl (FQ f T (.code (if q then a else b)::k)::xs) base) w):∀w,Rl S w0 w->bM P main Rl Gr St S (Gl (FQ f T (.code (.cond (.tmp t) a b)::k)::xs) base) w:=
 have d:Frame.eval (FQ f T (.code (.cond (.tmp t) a b)::k)) (.tmp t)=.bool q:=c
 bM.still C (es:=λ_=>#[]) (λw _=>by simp[Gl,stepG,stepG.exec,d]) (λ_ _ e h=>by cases(by simpa using h:False)) g
def aA1 (C:Cmp Rl Gr Rr)       (a:Z[i]?=some o) (l:o.guard=none) (b:o.dst=some d)
  (j:∀w,Rl S w0 w->(execOp (FQ f T (.inRegion Z (i::rest)::k)).eval o).runT P w #[]=(.ok (.value v) w,es)) (g:∀w,Rl S w0 w->∀e∈seen P f es,nP S Rr w.heap.size e)
  (m:∀w,Rl S w0 w->bM P main Rl Gr St S (Gl (FQ f (T.setIfInBounds d v) (.inRegion Z rest::k)::xs) base) w):∀w,Rl S w0 w->bM P main Rl Gr St S (Gl (FQ f T (.inRegion Z (i::rest)::k)::xs) base) w:=
 bM.still C (l2:=FQ f (T.setIfInBounds d v) (.inRegion Z rest::k)::xs) (es:=λ_=>seen P f es) (λw c=>by
  rw[anr rfl rfl rfl rfl a l (j w c)];have:Frame.finish (FQ f T (.inRegion Z (i::rest)::k)) v=FQ f (T.setIfInBounds d v) (.inRegion Z rest::k):=by
   simp only[Frame.finish,a,qN,b]
  rw[this]) g m
def ajI(C:Cmp Rl Gr Rr){fn:Func}(b:P.funcs[f]?=some fn)(a:fn.results=#[])(d:∀w,Rl S w0 w->bM P main Rl Gr St S (Gl (y.finish (.tuple #[])::Y) base) w):∀w,Rl S w0 w->bM P main Rl Gr St S (Gl (FQ f T []::y::Y) base) w:=
 bM.still C (l2:=⟨f,T,[],[],.returning,.normal,none⟩::y::Y) (es:=λ_=>#[]) (λw _=>by simp[Gl,stepG,stepG.exec]) (λ_ _ e h=>by cases(by simpa using h:False))
  (bM.still C (es:=λ_=>#[]) (λw _=>by
   have c:(results fn T).runT P w #[]=(.ok (.tuple #[]) w,#[]):=by simp[results,a]
   simp only[Gl,stepG,unwind,b,c];simp[doReturn,GStep.after,seen]) (λ_ _ e h=>by cases(by simpa using h:False)) d)
def aeK(C:Cmp Rl Gr Rr){id:Nat}(b:∀w,Rl S w0 w->bM P main Rl Gr St S (Gl (FQ f T (.code a :: .inBlock id::k)::xs) base) w):∀w,Rl S w0 w->bM P main Rl Gr St S (Gl (FQ f T (.code (.block id a)::k)::xs) base) w:=
 bM.still C (es:=λ_=>#[]) (λw _=>by simp[Gl,stepG,stepG.exec]) (λ_ _ e h=>by cases(by simpa using h:False)) b
def ans(C:Cmp Rl Gr Rr)(b:∀w,Rl S w0 w->bM P main Rl Gr St S (Gl (FQ f T (.code a :: .inLoop a::k)::xs) base) w):∀w,Rl S w0 w->bM P main Rl Gr St S (Gl (FQ f T (.code (.loop a)::k)::xs) base) w:=
 bM.still C (es:=λ_=>#[]) (λw _=>by simp[Gl,stepG,stepG.exec]) (λ_ _ e h=>by cases(by simpa using h:False)) b
def aqN(C:Cmp Rl Gr Rr)(b:∀w,Rl S w0 w->bM P main Rl Gr St S (Gl (FQ f T (.code a :: .inLoop a::k)::xs) base) w):∀w,Rl S w0 w->bM P main Rl Gr St S (Gl (FQ f T (.inLoop a::k)::xs) base) w:=
 bM.still C (es:=λ_=>#[]) (λw _=>by simp[Gl,stepG,stepG.exec]) (λ_ _ e h=>by cases(by simpa using h:False)) b
def aiJ(C:Cmp Rl Gr Rr){id:Nat}(a:∀w,Rl S w0 w->bM P main Rl Gr St S (Gl (FQ f T k::xs) base) w):∀w,Rl S w0 w->bM P main Rl Gr St S (Gl (FQ f T (.inBlock id::k)::xs) base) w:=
 bM.still C (es:=λ_=>#[]) (λw _=>by simp[Gl,stepG,stepG.exec]) (λ_ _ e h=>by cases(by simpa using h:False)) a
def an5(C:Cmp Rl Gr Rr){id:Nat}(a:exitTo id k=some k2)(b:∀w,Rl S w0 w->bM P main Rl Gr St S (Gl (FQ f T k2::xs) base) w):∀w,Rl S w0 w->bM P main Rl Gr St S (Gl (FQ f T (.code (.exit id)::k)::xs) base) w:=
 bM.still C (es:=λ_=>#[]) (λw _=>by simp[Gl,stepG,stepG.exec,a]) (λ_ _ e h=>by cases(by simpa using h:False)) b
end
section
variable {P:Program} {w:World} {e:Operand->Value} {x:Operand} {v:Value} {dst:Option Tmp} {ty:TypeId} {pos:String} {af:Array Edge} {gd:Option (Nat×Bool)}
def fK(h:e x=v):(execOp e ⟨dst,.move x,ty,pos,af,gd⟩).runT P w #[]=(.ok (.value v) w,#[]):=by rw[avi,h]
end
section
variable {P:Program} {main:Bool} {Rl:au->World->World->Prop} {Gr:au->au->World->World->Array Event->Prop} {St:au->Goroutine->World->Prop} {S Rr:au} {w0:World}
def bB(B:Nat):∀e∈seen P f #[],nP S Rr B e:=λe a=>by cases(by simpa using tn a:False)
def acw{wr:Bool}(d:S A.block)(g:A.block<B):∀e∈seen P f #[⟨.cell A,wr,false⟩],nP S Rr B e:=λe c=>by
 have h:=tn c;simp only[sJ,mu,rN,uj] at h;subst h;refine⟨λx a=>.inl ?_,λm b=>(by cases b),g⟩;simp[MemAct.ofEvent,MemAct.touch?] at a;rw[<-a];exact d
def ayG{g : FuncId} :∀e∈seen P f #[⟨.mark (.extern g),false,true⟩],nP S Rr B e:=λe b=>by
 have h:=tn b;simp only[sJ,mu,rN,uj] at h;subst h;refine⟨λx c=> ?_,λm a=>.inl ⟨g,by cases a;rfl⟩,trivial⟩;simp[MemAct.ofEvent,MemAct.touch?] at c
def ae9(C:Cmp Rl Gr Rr)(a:S A.block)(h:Rl S w0 w):w.cell? A=w0.cell? A/\w.frozen? A=w0.frozen? A/\w.shape? A.block=w0.shape? A.block/\w0.heap.size<=w.heap.size:=by
 obtain⟨b,c, -⟩:=C.rl _ _ _ h;have e:=b A.block (.inl a);refine⟨gQ e, ?_, ?_,c⟩
 .unfold World.frozen?;rw[e]
 .unfold World.shape?;rw[e]
def bu(w:World)(A:Addr)(v:Value){b:Nat}(h:A.block≠b):(w.setCell A v).heap[b]?=w.heap[b]?:=by
 unfold World.setCell;simp only[pr,be h]
def afa (C:Cmp Rl Gr Rr) {T:Array Value} {base : List Frame}       (g:Z[i]?=some o) (n:o.guard=none) (j:o.dst=none)
  (m:∀w,Rl S w0 w->(execOp (FQ f T (.inRegion Z (i::rest)::k)).eval o).runT P w #[]=(.ok .skip (w.setCell A u),es)) (s:S A.block) (r:∀w,Rl S w0 w->∀e∈seen P f es,nP S Rr w.heap.size e)
  (q:∀w,Rl S w0 w->∀a,Rl S (w.setCell A u) a->bM P main Rl Gr St S (Gl (FQ f T (.inRegion Z rest::k)::xs) base) a):∀w,Rl S w0 w->bM P main Rl Gr St S (Gl (FQ f T (.inRegion Z (i::rest)::k)::xs) base) w:=λw l=>by
 refine .step rfl λa c=> ?_;have d:=C.tr _ _ _ _ l c;refine⟨_,_,_,S,ae8 rfl rfl rfl rfl g n (m a d),C.same (λb _ p=>bu _ _ _ (λe=>p (e▸s))) (bv _ _ _) rfl (r a d), ?_⟩;have:Frame.finish (FQ f T (.inRegion Z (i::rest)::k)) undef=FQ f T (.inRegion Z rest::k):=by
  simp only[Frame.finish,g,qN,j]
 rw[this];exact q a d _ (C.gz _ _)
def bQ (C:Cmp Rl Gr Rr) {T:Array Value} {base : List Frame}       (b:d<T.size) (c:Z[i]?=some o) (l:o.guard=none) (a:o.dst=some d)
  (g:∀w,Rl S w0 w->(execOp (FQ f T (.inRegion Z (i::rest)::k)).eval o).runT P w #[]=(.ok (.value v) w,es)) (n:∀w,Rl S w0 w->∀e∈seen P f es,nP S Rr w.heap.size e)
  (m:∀T':Array Value,T'.size=T.size->T'.getD d undef=v->(∀t,t≠d->T'.getD t undef=T.getD t undef)->∀w,Rl S w0 w->bM P main Rl Gr St S (Gl (FQ f T' (.inRegion Z rest::k)::xs) base) w):∀w,Rl S w0 w->bM P main Rl Gr St S (Gl (FQ f T (.inRegion Z (i::rest)::k)::xs) base) w:=
 aA1 C c l a g n (m _ (by simp) (by rw[aG b,du rfl]) λt j=>by rw[aG b,be j])
def ar5:Code->Code
 |.seq _ (.cond _ a _)=>a
 |c=>c
def ar6:Code->Code
 |.seq _ (.cond _ _ b)=>b
 |c=>c
def aA2(C:Cmp Rl Gr Rr){T:Array Value}{base : List Frame}(c:20<=T.size)(e:T.getD 0 undef=.pointer (some A))(p:S A.block)(D:A.block<w0.heap.size)(q:w0.shape? A.block=some (X,n))(x:A.off<n)(z:liesAt prog prog.depth X (n / prog.cellsOf X) A.off 183 1=true)(E:w0.cell? A=some (.pointer none))(t:w0.frozen? A=false)(B:∀w,Rl S w0 w->∀s,Rl S (w.setCell A (.pointer (some A))) s->bM prog main Rl Gr St S (Gl (y.finish (.tuple #[])::Y) base) s) :
  ∀w,Rl S w0 w->bM prog main Rl Gr St S (Gl (FC T [.code (ar5 (f153.body.getD .skip))]::y::Y) base) w:=by
 have F:=λw (h:Rl S w0 w)=>ae9 (A:=A) C p h;simp only[f153,qw,ar5];refine gD C (l:=[0,1,2,3,4,5,6,7]) rfl ?_;refine bQ C (d:=7) (v:=.pointer (some A)) (es:=#[]) (bd (by decide) c) rfl rfl rfl (λw b=>fK e) (λw b=>bB _) ?_;intro T a g o;replace c:=ap c (pa a.symm);replace e:=(o 0 (by decide)).trans e;refine bQ C (d:=8) (v:=.pointer (some A)) (es:=#[]) (bd (by decide) c) rfl rfl rfl (λw b=>fK e) (λw b=>bB _) ?_;intro T a j o;replace c:=ap c (pa a.symm);replace e:=(o 0 (by decide)).trans e;replace g:=(o 7 (by decide)).trans g;refine bQ C (d:=9) (v:=.pointer (some A)) (es:=#[]) (bd (by decide) c) rfl rfl rfl (λw b=>ayF ccT j ((F w b).2.2.1.trans q) x) (λw b=>bB _) ?_;intro T a k o;replace c:=ap c (pa a.symm);replace e:=(o 0 (by decide)).trans e;replace g:=(o 7 (by decide)).trans g;replace j:=(o 8 (by decide)).trans j;refine bQ C (d:=10) (v:=.pointer (some A)) (bd (by decide) c) rfl rfl rfl (λw b=>apu rfl k) (λw b=>ayG) ?_;intro T a f o;replace c:=ap c (pa a.symm);replace e:=(o 0 (by decide)).trans e;replace g:=(o 7 (by decide)).trans g;replace j:=(o 8 (by decide)).trans j;replace k:=(o 9 (by decide)).trans k;refine bQ C (d:=11) (v:=.pointer (some A)) (es:=#[]) (bd (by decide) c) rfl rfl rfl (λw b=>ar2 ccT f ((F w b).2.2.1.trans q) z) (λw b=>bB _) ?_;intro T a i o;replace c:=ap c (pa a.symm);replace e:=(o 0 (by decide)).trans e;replace g:=(o 7 (by decide)).trans g;replace j:=(o 8 (by decide)).trans j;replace k:=(o 9 (by decide)).trans k;replace f:=(o 10 (by decide)).trans f;refine bQ C (d:=12) (v:=.pointer (some A)) (es:=#[]) (bd (by decide) c) rfl rfl rfl (λw b=>al1 g) (λw b=>bB _) ?_;intro T a m o;replace c:=ap c (pa a.symm);replace e:=(o 0 (by decide)).trans e;replace g:=(o 7 (by decide)).trans g;replace j:=(o 8 (by decide)).trans j;replace k:=(o 9 (by decide)).trans k;replace f:=(o 10 (by decide)).trans f;replace i:=(o 11 (by decide)).trans i;refine bQ C (d:=13) (v:=.pointer (some A)) (es:=#[]) (bd (by decide) c) rfl rfl rfl (λw b=>ae7 ccT m) (λw b=>bB _) ?_;intro T a r o;replace c:=ap c (pa a.symm);replace e:=(o 0 (by decide)).trans e;replace g:=(o 7 (by decide)).trans g;replace j:=(o 8 (by decide)).trans j;replace k:=(o 9 (by decide)).trans k;replace f:=(o 10 (by decide)).trans f;replace i:=(o 11 (by decide)).trans i;replace m:=(o 12 (by decide)).trans m;refine afa C (A:=A) (u:=.pointer (some A)) rfl rfl rfl (λw b=>ar3 ccT (A:=A) (u:=some A) r i ((F w b).1.trans E) ((F w b).2.1.trans t)) p (λw b=>acw p (bd D (F w b).2.2.2)) ?_;intro w b;exact iE C (ajI C func153 rfl (B w b))
def aA3(C:Cmp Rl Gr Rr){T:Array Value}{base : List Frame}(e:20<=T.size)(i:T.getD 0 undef=.pointer (some A))(m:S A.block)(t:A.block<w0.heap.size)(r:w0.cell? A=some (.pointer (some A)))(s:∀w,Rl S w0 w->∀p,Rl S (w.setCell A (.pointer (some A))) p->bM prog main Rl Gr St S (Gl (y.finish (.tuple #[])::Y) base) p) :
  ∀w,Rl S w0 w->bM prog main Rl Gr St S (Gl (FC T [.code (ar6 (f153.body.getD .skip))]::y::Y) base) w:=by
 have F:=λw (h:Rl S w0 w)=>ae9 (A:=A) C m h;simp only[f153,qw,ar6];refine eN C ?_;refine gD C (l:=[0,1,2,3,4,5]) rfl ?_;refine bQ C (d:=14) (v:=.pointer (some A)) (es:=#[]) (bd (by decide) e) rfl rfl rfl (λw f=>fK i) (λw f=>bB _) ?_;intro T a b o;replace e:=ap e (pa a.symm);replace i:=(o 0 (by decide)).trans i;refine bQ C (d:=15) (v:=.pointer (some A)) (es:=#[]) (bd (by decide) e) rfl rfl rfl (λw f=>al1 b) (λw f=>bB _) ?_;intro T a c o;replace e:=ap e (pa a.symm);replace i:=(o 0 (by decide)).trans i;replace b:=(o 14 (by decide)).trans b;refine bQ C (d:=16) (v:=.pointer (some A)) (es:=#[]) (bd (by decide) e) rfl rfl rfl (λw f=>ae7 ccT c) (λw f=>bB _) ?_;intro T a g o;replace e:=ap e (pa a.symm);replace i:=(o 0 (by decide)).trans i;replace b:=(o 14 (by decide)).trans b;replace c:=(o 15 (by decide)).trans c;refine bQ C (d:=17) (v:=.pointer (some A)) (bd (by decide) e) rfl rfl rfl (λw f=>an3 ccT g ((F w f).1.trans r)) (λw f=>acw m (bd t (F w f).2.2.2)) ?_;intro T a j o;replace e:=ap e (pa a.symm);replace i:=(o 0 (by decide)).trans i;replace b:=(o 14 (by decide)).trans b;replace c:=(o 15 (by decide)).trans c;replace g:=(o 16 (by decide)).trans g;refine bQ C (d:=18) (v:=.pointer (some A)) (es:=#[]) (bd (by decide) e) rfl rfl rfl (λw f=>fK i) (λw f=>bB _) ?_;intro T a k o;replace e:=ap e (pa a.symm);replace i:=(o 0 (by decide)).trans i;replace b:=(o 14 (by decide)).trans b;replace c:=(o 15 (by decide)).trans c;replace g:=(o 16 (by decide)).trans g;replace j:=(o 17 (by decide)).trans j;refine bQ C (d:=19) (v:=.bool false) (es:=#[]) (bd (by decide) e) rfl rfl rfl (λw f=>ayE ccT (A:=A) j k) (λw f=>bB _) ?_;intro T a n o;replace e:=ap e (pa a.symm);replace i:=(o 0 (by decide)).trans i;replace b:=(o 14 (by decide)).trans b;replace c:=(o 15 (by decide)).trans c;replace g:=(o 16 (by decide)).trans g;replace j:=(o 17 (by decide)).trans j;replace k:=(o 18 (by decide)).trans k;refine iE C ?_;refine acv C (q:=false) n ?_;simp only[qM,li];refine an4 C ?_;refine ajI C func153 rfl ?_;intro w f;refine s w f w ?_;rw[ahV ((F w f).1.trans r)];exact C.gz _ _
def ar7(C:Cmp Rl Gr Rr){T:Array Value}{base : List Frame}(c:20<=T.size)(g:T.getD 0 undef=.pointer (some A))(j:S A.block)(u:A.block<w0.heap.size)(t:w0.shape? A.block=some (X,n))(I:A.off<n)(J:liesAt prog prog.depth X (n / prog.cellsOf X) A.off 183 1=true)(x:w0.cell? A=some v)(H:w0.frozen? A=false)(G:v=.pointer none\/v=.pointer (some A))(D:∀w,Rl S w0 w->∀B,Rl S (w.setCell A (.pointer (some A))) B->bM prog main Rl Gr St S (Gl (y.finish (.tuple #[])::Y) base) B) :
  ∀w,Rl S w0 w->bM prog main Rl Gr St S (Gl (FC T [.code (f153.body.getD .skip)]::y::Y) base) w:=by
 have F:=λw (h:Rl S w0 w)=>ae9 (A:=A) C j h;obtain⟨a,rfl⟩:∃a,v=.pointer a:=G.elim (λe=>⟨_,e⟩) λe=>⟨_,e⟩;have z:=λ(p:Array Value) (b:20<=p.size) (f:p.getD 0 undef=.pointer (some A)) (k:w0.cell? A=some (.pointer none))=>aA2 (T:=p) C b f j u t I J k H D
 have E:=λ(p:Array Value) (b:20<=p.size) (f:p.getD 0 undef=.pointer (some A)) (k:w0.cell? A=some (.pointer (some A)))=>aA3 (T:=p) C b f j u k D
 simp only[f153,qw,ar5,ar6] at z E ⊢;refine eN C ?_;refine gD C (l:=[0,1,2,3,4]) rfl ?_;refine bQ C (d:=2) (v:=.pointer (some A)) (es:=#[]) (bd (by decide) c) rfl rfl rfl (λw i=>fK g) (λw i=>bB _) ?_;intro T b f o;replace c:=ap c (pa b.symm);replace g:=(o 0 (by decide)).trans g;refine bQ C (d:=3) (v:=.pointer (some A)) (es:=#[]) (bd (by decide) c) rfl rfl rfl (λw i=>al1 f) (λw i=>bB _) ?_;intro T b m o;replace c:=ap c (pa b.symm);replace g:=(o 0 (by decide)).trans g;replace f:=(o 2 (by decide)).trans f;refine bQ C (d:=4) (v:=.pointer (some A)) (es:=#[]) (bd (by decide) c) rfl rfl rfl (λw i=>ae7 ccT m) (λw i=>bB _) ?_;intro T b r o;replace c:=ap c (pa b.symm);replace g:=(o 0 (by decide)).trans g;replace f:=(o 2 (by decide)).trans f;replace m:=(o 3 (by decide)).trans m;refine bQ C (d:=5) (v:=.pointer a) (bd (by decide) c) rfl rfl rfl (λw i=>an3 ccT r ((F w i).1.trans x)) (λw i=>acw j (bd u (F w i).2.2.2)) ?_;intro T b s o;replace c:=ap c (pa b.symm);replace g:=(o 0 (by decide)).trans g;replace f:=(o 2 (by decide)).trans f;replace m:=(o 3 (by decide)).trans m;replace r:=(o 4 (by decide)).trans r;refine bQ C (d:=6) (v:=.bool a.isNone) (bd (by decide) c) rfl rfl rfl (λw i=>ayD ccT (a:=a) s rfl) (λw i=>bB _) ?_;intro T b K o;replace c:=ap c (pa b.symm);replace g:=(o 0 (by decide)).trans g;replace f:=(o 2 (by decide)).trans f;replace m:=(o 3 (by decide)).trans m;replace r:=(o 4 (by decide)).trans r;replace s:=(o 5 (by decide)).trans s;refine iE C ?_;refine acv C (q:=a.isNone) K ?_;rcases G with e|e
 .cases e;simp only[Option.isNone_none,qe];exact z _ c g x
 .cases e;simp only[Option.isNone_some,qM,li];exact E _ c g x
end
noncomputable def ar8(f:FuncId):Bool:=match prog.funcs[f]? with
 |some fn=>!(fn.name == "loop.example/depositary/impl.fetchAll" || fn.name == "(*strings.Builder).copyCheck")||f ==cE||f ==nCC
 |none=>true
def al3:(List.range prog.funcs.size).all ar8=true:=by kernel_rfl
def xK(h:gH f=true):f=cE\/f=nCC:=by
 unfold gH at h;cases b:prog.funcs[f]? with
 |none=>rw[b] at h;cases h
 |some fn=>
  rw[b] at h;have a:=lE.1 al3 f (qz.2 (dl.1 b).1);unfold ar8 at a;rw[b] at a;dsimp only at h a;rw[h] at a;simpa using a
def ar9 :Frame.enter prog nCC U .normal=FC (T0C U) [.code (f153.body.getD .skip)]:=by
 unfold Frame.enter;rw[func153];rfl
def asa{e:TypeId}(d:w.shape? A.block=some (e,n))(a:w.cell? A=some v):A.off<n:=by
 unfold World.shape? at d;unfold World.cell? at a;cases f:w.heap[A.block]? with
 |none=>rw[f] at a;simp at a
 |some o=>
  rw[f] at d a;cases o with
  |cells c t z=>
   cases b:A.spot with
   |some s=>simp[b] at a
   |none=>
    simp[b] at a d;have:=(dl.1 a).1;omega
  |_=>simp at a
def aa1{b:Nat}(h:W.heap[b]?=w.heap[b]?):(W.setCell A u).heap[b]?=(w.setCell A u).heap[b]?:=by
 unfold World.setCell;simp only[pr,h]
section
variable {β main:Bool} {Rl:au->World->World->Prop} {Gr:au->au->World->World->Array Event->Prop} {Rr:au} {R:List Frame->World->Prop}
def agn(C:Cmp Rl Gr Rr){base:List Frame}:xB (ah β) prog R Rr main Rl Gr base:=by
 intro f c ρ a Q m m' l S hf r ha M hc I hg hW F;obtain rfl:f=nCC:=(xK hf).resolve_left r;obtain⟨_,_,y,ys,rfl,rfl⟩:=M.ne';obtain⟨A,v,e,n,c1,X,h0,q,V,d,T,hv,⟨N,t⟩,D,i,z⟩:=avh ha M hc I hg hW;have j:ρ.r N.block A.block:=by cases t with|mk h o s=>exact h
 have B:S A.block:=by
  rcases F _ _ j with h|⟨_,P,W⟩
  .exact h
  .exact(D _ j P W).elim
 have hB:A.block<l.heap.size:=(I.lt j).2;have U:20<=(T0C Q).size:=by simp only[T0C,sE,tj];omega
 rw[ar9];have G:liesAt prog prog.depth e (n / prog.cellsOf e) A.off 183 1=true:=by
  rw[<-V];exact(arq prog _ _ _ _ _ _ _).symm
 refine ar7 C U h0 B hB q (asa q d) G d T hv (λw Y w1 x=> ?_) l (C.gz _ _);refine .stop λw2 u=> ?_;have L:=i.kept;have p:(l.setCell A (.pointer (some A))).heap.size=l.heap.size:=bv _ _ _;have g:=F.step i.wr L;have hS:(λb=>S b\/(l.heap.size<=b/\b<(l.setCell A (.pointer (some A))).heap.size))=S:=by
  funext b
  rw[p];exact propext ⟨λh=>h.elim id λh=>absurd h.1 (by omega),.inl⟩
 rw[hS] at g;obtain⟨K,r2,O⟩:=C.rl _ _ _ Y;obtain⟨J,s2,Z⟩:=C.rl _ _ _ (C.tr _ _ _ _ x u);refine⟨c1,X,_,z,i.le,λ_ k=>k,rfl,⟨i.st, ?_,i.gl,i.will,g⟩,.an0 L λb E k=> ?_⟩
 case refine_2=>
  have H:=(F b E k).imp (λh=>h) (λh=>h.1);exact(J E H).trans (aa1 (K E H))
 refine i.wr.rely g (λb k=>(J b k).trans (aa1 (K b k))) ?_ ?_
 .rw[p];have:(w.setCell A (.pointer (some A))).heap.size=w.heap.size:=bv _ _ _;omega
 .exact Z.trans O
end
structure FaT (P:Program):Prop where
 u3:P.underlying 3=some (.int .i64)
 u9:P.underlying 9=some .string
 u23:P.underlying 23=some (.slice 36)
 u31:P.underlying 37=some (.slice 3)
 u38:P.underlying 34=some (.slice 63)
 ahW:P.underlying 130=some (.slice 141)
 avl:∃ms,P.underlying 185=some (.interface ms)
 u40:∃fs g0 g1,P.underlying 36=some (.struct fs)/\fs[0]?=some g0/\fs[1]?=some g1/\g0.offset=0/\g0.type=3/\g1.offset=1/\g1.type=34
 avm:∃fs g0 g1,P.underlying 63=some (.struct fs)/\fs[0]?=some g0/\fs[1]?=some g1/\g0.offset=0/\g0.type=3/\g1.offset=1/\g1.type=9
 avn:∃fs,P.underlying 141=some (.struct fs)
 i3:∃i,P.info? 3=some i/\i.size=1
 i40:∃i,P.info? 36=some i/\i.size=2
 i110:∃i,P.info? 63=some i/\i.size=2
 ad4:∃i,P.info? 141=some i/\i.size=2/\i.bytes=24/\i.zero=some (.agg #[.string ⟨#[]⟩,.bool false])
 al4:∃i,P.info? 130=some i/\i.size=1/\i.zero=some (.slice none 0 0)
def avo:((prog.info? 3).map (·.size ==1)=some true/\(prog.info? 36).map (·.size ==2)=some true)/\((prog.info? 63).map (·.size ==2)=some true/\(prog.info? 141).map (λi=>i.size ==2&&i.bytes ==24)=some true):=by
 refine⟨⟨?_, ?_⟩, ?_, ?_⟩<;>kernel_rfl
def aA4:(prog.info? 141).map (·.zero)=some (some (.agg #[.string ⟨#[]⟩,.bool false])):=by kernel_rfl
def aA5:(prog.info? 130).map (λi=>(i.size,i.zero))=some (1,some (.slice none 0 0)):=by kernel_rfl
def faT:FaT prog where
 u3:=underlying3
 u9:=underlying9
 u23:=underlying23
 u31:=underlying37
 u38:=underlying34
 ahW:=underlying130
 avl:=⟨_,underlying185⟩
 u40:=⟨_,_,_,underlying36,rfl,rfl,rfl,rfl,rfl,rfl⟩
 avm:=⟨_,_,_,underlying63,rfl,rfl,rfl,rfl,rfl,rfl⟩
 avn:=⟨_,underlying141⟩
 i3:=let⟨i,h,k⟩:=jt.1 avo.1.1;⟨i,h,by simpa using k⟩
 i40:=let⟨i,h,k⟩:=jt.1 avo.1.2;⟨i,h,by simpa using k⟩
 i110:=let⟨i,h,k⟩:=jt.1 avo.2.1;⟨i,h,by simpa using k⟩
 ad4:=by
  obtain⟨i,h,k⟩:=jt.1 avo.2.2;have z:=aA4;rw[h] at z;simp only[ff,nF] at k;exact⟨i,h,k.1,k.2,by simpa using z⟩
 al4:=by
  obtain⟨i,h,k⟩:=jt.1 aA5;simp only[vG] at k;exact⟨i,h,k.1,k.2⟩
def faQ(β:Bool):FaT (ah β) where
 u3:=(cJ prog _ _).trans faT.u3
 u9:=(cJ prog _ _).trans faT.u9
 u23:=(cJ prog _ _).trans faT.u23
 u31:=(cJ prog _ _).trans faT.u31
 u38:=(cJ prog _ _).trans faT.u38
 ahW:=(cJ prog _ _).trans faT.ahW
 avl:=let⟨d,h⟩:=faT.avl;⟨d,(cJ prog _ _).trans h⟩
 u40:=let⟨a,b,c,h,k⟩:=faT.u40;⟨a,b,c,(cJ prog _ _).trans h,k⟩
 avm:=let⟨a,b,c,h,k⟩:=faT.avm;⟨a,b,c,(cJ prog _ _).trans h,k⟩
 avn:=let⟨d,h⟩:=faT.avn;⟨d,(cJ prog _ _).trans h⟩
 i3:=let⟨i,h,k⟩:=faT.i3;⟨i,(kS prog _ _).trans h,k⟩
 i40:=let⟨i,h,k⟩:=faT.i40;⟨i,(kS prog _ _).trans h,k⟩
 i110:=let⟨i,h,k⟩:=faT.i110;⟨i,(kS prog _ _).trans h,k⟩
 ad4:=let⟨i,h,k⟩:=faT.ad4;⟨i,(kS prog _ _).trans h,k⟩
 al4:=let⟨i,h,k⟩:=faT.al4;⟨i,(kS prog _ _).trans h,k⟩
def lV{s:Sem Value}{a:Next}(h:(s.bind λv=>Sem.pure (Next.value v)).run P w=.ok a W):∃v,a=.value v/\s.run P w=.ok v W:=by
 obtain⟨v,b,d,c⟩:=ed (s:=s) h;cases(show Result.ok (Next.value v) b=Result.ok a W from c);exact⟨v,rfl,d⟩
section
variable {P:Program} {w w3:World} {e:Operand->Value} {x y:Operand} {nx:Next} {a b:Int} {dst:Option Tmp} {ty:TypeId} {pos:String} {af:Array Edge} {gd:Option (Nat×Bool)}
def jI(h:(execOp e ⟨dst,.assign x,ty,pos,af,gd⟩).run P w=.ok nx w3):∃v,nx=.value v/\(v=e x/\w3=w):=by
 cases(show Result.ok (Next.value (e x)) w=Result.ok nx w3 from h);exact⟨_,rfl,rfl,rfl⟩
def ahX(h:(execOp e ⟨dst,.move x,ty,pos,af,gd⟩).run P w=.ok nx w3):∃v,nx=.value v/\(v=e x/\w3=w):=by
 cases(show Result.ok (Next.value (e x)) w=Result.ok nx w3 from h);exact⟨_,rfl,rfl,rfl⟩
def asb(d:e y=.int .i64 b)(h:(execOp e ⟨dst,.binOp .lss 3 x y 3,ty,pos,af,gd⟩).run P w=.ok nx w3):∃v,nx=.value v/\(∃a,e x=.int .i64 a/\v=.bool (decide (a<b))/\w3=w):=by
 obtain⟨v,rfl,f⟩:=lV (s:=binOp .lss 3 (e x) (e y)) h;have h:=f;refine⟨v,rfl, ?_⟩;rw[d] at h;generalize e x=u at h ⊢;cases u with
 |int k n=>
  by_cases c:k=.i64
  .subst c;cases(show Result.ok (.bool (decide (n<b))) w=Result.ok v w3 from h);exact⟨_,rfl,rfl,rfl⟩
  .simp only[binOp,c,ne_eq,not_false_eq_true,qe] at h;cases(show Result.halt _ _=Result.ok v w3 from h)
 |pointer p=>cases p<;>cases(show Result.halt _ _=Result.ok v w3 from h)
 |_=>cases(show Result.halt _ _=Result.ok v w3 from h)
def gV(i:e x=.int .i64 a)(d:e y=.int .i64 b)(h:(execOp e ⟨dst,.binOp .lss 3 x y 3,ty,pos,af,gd⟩).run P w=.ok nx w3):∃v,nx=.value v/\(v=.bool (decide (a<b))/\w3=w):=by
 obtain⟨v,rfl,j,c,f,g⟩:=asb d h;rw[i] at c;cases c;exact⟨_,rfl,f,g⟩
def al5(h:(execOp e ⟨dst,.binOp .mul 3 x (.const (.int .i64 1)) 3,ty,pos,af,gd⟩).run P w=.ok nx w3)(c:e (.const (.int .i64 1))=.int .i64 1):∃v,nx=.value v/\(∃a,e x=.int .i64 a/\v=.int .i64 (IntKind.i64.wrap (a*1))/\w3=w):=by
 obtain⟨v,rfl,d⟩:=lV (s:=binOp .mul 3 (e x) (e (.const (.int .i64 1)))) h;have h:=d;refine⟨v,rfl, ?_⟩;rw[c] at h;generalize e x=u at h ⊢;cases u with
 |int k n=>
  by_cases b:k=.i64
  .subst b;cases(show Result.ok (.int .i64 (IntKind.i64.wrap (n*1))) w=Result.ok v w3 from h);exact⟨_,rfl,rfl,rfl⟩
  .simp only[binOp,b,ne_eq,not_false_eq_true,qe] at h;cases(show Result.halt _ _=Result.ok v w3 from h)
 |pointer p=>cases p<;>cases(show Result.halt _ _=Result.ok v w3 from h)
 |_=>cases(show Result.halt _ _=Result.ok v w3 from h)
def al6(d:e x=.int .i64 a)(c:e (.const (.int .i64 1))=.int .i64 1)(h:(execOp e ⟨dst,.binOp .add 3 x (.const (.int .i64 1)) 3,ty,pos,af,gd⟩).run P w=.ok nx w3):∃v,nx=.value v/\(v=.int .i64 (IntKind.i64.wrap (a+1))/\w3=w):=by
 obtain⟨v,rfl,b⟩:=lV (s:=binOp .add 3 (e x) (e (.const (.int .i64 1)))) h;have h:=b;rw[d,c] at h;cases(show Result.ok (.int .i64 (IntKind.i64.wrap (a+1))) w=Result.ok v w3 from h);exact⟨_,rfl,rfl,rfl⟩
def al7(f:e x=.int .i64 a)(d:e y=.int .i64 b)(h:(execOp e ⟨dst,.binOp .eql 3 x y 3,ty,pos,af,gd⟩).run P w=.ok nx w3):∃v,nx=.value v/\(v=.bool (a ==b)/\w3=w):=by
 have g:eqGuard .eql 3 x y (e x) (e y)=Sem.pure ():=by rw[f,d];rfl
 have c:(((eqGuard .eql 3 x y (e x) (e y)).bind λ_=>binOp .eql 3 (e x) (e y)).bind λv=>Sem.pure (Next.value v)).run P w=.ok nx w3:=h;clear h;rw[g] at c;obtain⟨v,rfl,h⟩:=lV (s:=binOp .eql 3 (e x) (e y)) c;clear c;rw[f,d] at h;cases(show Result.ok (.bool (a ==b)) w=Result.ok v w3 from h);exact⟨_,rfl,rfl,rfl⟩
def qd{a:Builtin}{s:Value->Sem Value}(d:∀c v,builtin a #[t0] ty c #[v]=(s v).bind λu=>Sem.pure (.value u)):execOp e ⟨dst,.call ⟨.builtin a,#[.tmp t],#[t0]⟩,ty,pos,af,gd⟩=(s (e (.tmp t))).bind λu=>Sem.pure (.value u):=by
 have b:Array.map e #[.tmp t]=#[e (.tmp t)]:=by simp
 simp only[execOp,resolve];rw[b];exact d _ _
def ahY(k:P.underlying t0=some (.slice X))(h:(execOp e ⟨dst,.call ⟨.builtin .len,#[.tmp t],#[t0]⟩,ty,pos,af,gd⟩).run P w=.ok nx w3) :
  ∃v,nx=.value v/\(∃A n c,e (.tmp t)=.slice A n c/\v=.int .i64 n/\w3=w):=by
 rw[qd (s:=λv=>Builtin.len_ #[t0] ty #[v]) λ_ v=>rfl] at h;obtain⟨v,rfl,g⟩:=lV h;have h:=g;refine⟨v,rfl, ?_⟩;generalize e (.tmp t)=u at h ⊢;obtain⟨d,l,g,j⟩:=ed (s:=underlying t0) (f:=λd=>match d,u with
  |.string,.string s=>pure (goInt s.size)
  |.array n _,_=>pure (goInt n)
  |.pointer arr,_=>(underlying arr).bind λd=>match d with
   |.array n _=>pure (goInt n)
   |_=>stuck "len: pointer to array expected"
  |.slice _,.slice _ n _=>pure (goInt n)
  |.map _ _,.map none|.chan _ _,.chan none=>pure (goInt 0)
  |.map _ _,.map (some r)=>(getObj r).bind λo=>match o with
   |.map a _=>pure (goInt a.size)
   |_=>stuck "len: map expected"
  |.chan _ _,.chan (some r)=>(getObj r).bind λo=>match o with
   |.chan _ i _ _ _ b=>pure (goInt (if b then 0 else i.size))
   |_=>stuck "len: channel expected"
  |_,_=>stuck "len: string, array, pointer to array, slice, map or channel expected") h
 rw[me k] at g;cases g;cases u with
 |slice A n c=>
  cases(show Result.ok (.int .i64 n) w=Result.ok v w3 from j);exact⟨A,n,c,rfl,rfl,rfl⟩
 |_=>cases(show Result.halt _ _=Result.ok v w3 from j)
end
def ajJ:TypeDesc->Bool
 |.struct _|.array .. =>false
 |_=>true
def avp{s:Sem V}(h:lI P s){v:V}:s.run P w ≠ .ok v w':=λe=>by
 obtain⟨q,b,c,a, -⟩:=Leaves.awy h w #[];rw[<-rA _ _ _ #[],a] at e;cases e
def ajK(k:IntKind)(x y:Int)(c:BoundsCode):lI P (boundsPanic k x y c:Sem V):=by
 rw[acX];refine jc ?_ λa=>eM _;split
 .exact λ_=>trivial
 .exact trivial
section
variable {P:Program} (F:FaT P) {w w3:World} {e:Operand->Value} {x y:Operand} {nx:Next} {dst:Option Tmp} {ty:TypeId} {pos:String} {af:Array Edge} {gd:Option (Nat×Bool)}
def al8{A:Option Addr}(b:P.underlying t0=some (.slice X))(d:e (.tmp t)=.slice A n c)(h:(execOp e ⟨dst,.call ⟨.builtin .cap,#[.tmp t],#[t0]⟩,ty,pos,af,gd⟩).run P w=.ok nx w3) :
  ∃v,nx=.value v/\(v=.int .i64 c/\w3=w):=by
 rw[qd (s:=λv=>Builtin.cap_ #[t0] ty #[v]) λ_ v=>rfl,d] at h;obtain⟨v,rfl,a⟩:=lV h;refine⟨v,rfl, ?_⟩;have:(Builtin.cap_ #[t0] ty #[.slice A n c]).run P w=.ok (.int .i64 c) w:=by
  simp[Builtin.cap_,me b,goInt]
 rw[this] at a;cases a;exact⟨rfl,rfl⟩
include F in
theorem avq(h:(execOp e ⟨dst,.call ⟨.builtin .len,#[.tmp t],#[9]⟩,ty,pos,af,gd⟩).run P w=.ok nx w3) :
  ∃v,nx=.value v/\(∃s:ByteArray,e (.tmp t)=.string s/\v=.int .i64 s.size/\w3=w):=by
 rw[qd (s:=λv=>Builtin.len_ #[9] ty #[v]) λ_ v=>rfl] at h;obtain⟨v,rfl,a⟩:=lV h;refine⟨v,rfl, ?_⟩;generalize e (.tmp t)=u at a ⊢;cases u with
 |string s=>
  have:(Builtin.len_ #[9] ty #[.string s]).run P w=.ok (.int .i64 s.size) w:=by
   simp[Builtin.len_,me F.u9,goInt]
  rw[this] at a;cases a;exact⟨s,rfl,rfl,rfl⟩
 |_=>simp[Builtin.len_,me F.u9,stuck] at a
theorem aa2{t:TypeId}{a:TypeDesc}(b:P.underlying t=some a):Leaves P (λd=>d=a) (underlying t):=by
 unfold underlying;show Leaves P (λd=>d=a) (match P.underlying t with
  |some d=>pure d
  |none=>stuck "no such type")
 rw[b];exact rfl
theorem avr{t:TypeId}(a:P.underlying t=some (.struct S)):(isAgg t).run P w=.ok true w:=by simp[isAgg,me a]
theorem ajL{t:TypeId}{d:TypeDesc}(a:P.underlying t=some d)(b:ajJ d=true):(isAgg t).run P w=.ok false w:=by
 cases d<;>first|(cases b;done)|simp[isAgg,me a]
theorem afb(b:NoV P w A)(h:(load A).run P w=.ok v w3):w3=w/\w.cell? A=some v:=by
 have h:(Sem.load .plain A Sem.pure).run P w=.ok v w3:=h;unfold Sem.run at h;cases a:w.cell? A with
 |some u=>
  simp only[a,Sem.run,sS] at h;exact⟨h.2.symm,by rw[h.1]⟩
 |none=>
  obtain⟨e,c⟩:=(b.2 a).1 (Mode.plain ==.atomic);simp only[a,c] at h;cases h
theorem ahZ{t:TypeId}{d:TypeDesc}(j:P.underlying t=some d)(i:ajJ d=true)(l:e x=.pointer (some A))(m:NoV P w A)(h:(execOp e ⟨dst,.load t x,ty,pos,af,gd⟩).run P w=.ok nx w3) :
  ∃v,nx=.value v/\(w.cell? A=some v/\w3=w):=by
 obtain⟨v,rfl,g⟩:=lV (s:=Instr.loadAt t (e x)) h;refine⟨v,rfl, ?_⟩;rw[l] at g;obtain⟨q,r,a,k⟩:=ed (s:=isAgg t) (f:=λb=>if b then(sizeOf t).bind λn=>(loadCells A n).bind λc=>Sem.pure (Value.agg c) else load A) g;rw[ajL j i] at a;cases a;obtain⟨o,p⟩:=afb m k;exact⟨p,o⟩
theorem ajM{t:TypeId}{i:TypeInfo}(D:P.underlying t=some (.struct S))(hi:P.info? t=some i)(B:i.size=2)(F:e x=.pointer (some A))(I:NoV P w A)(k:NoV P w (A.add 1))(h:(execOp e ⟨dst,.load t x,ty,pos,af,gd⟩).run P w=.ok nx w3) :
  ∃v,nx=.value v/\(∃d a,v=.agg #[d,a]/\w.cell? A=some d/\w.cell? (A.add 1)=some a/\w3=w):=by
 obtain⟨v,rfl,u⟩:=lV (s:=Instr.loadAt t (e x)) h;refine⟨v,rfl, ?_⟩;rw[F] at u;obtain⟨q,g,p,E⟩:=ed (s:=isAgg t) (f:=λb=>if b then(sizeOf t).bind λn=>(loadCells A n).bind λc=>Sem.pure (Value.agg c) else load A) u;rw[avr D] at p;cases p;obtain⟨n,g,r,z⟩:=ed (s:=sizeOf t) (f:=λn=>(loadCells A n).bind λc=>Sem.pure (Value.agg c)) E;have:(sizeOf t).run P w=.ok 2 w:=by simp[sizeOf,typeInfo,hi,B]
 rw[this] at r;cases r;obtain⟨c,g,G,y⟩:=ed (s:=loadCells A 2) (f:=λc=>Sem.pure (Value.agg c)) z;cases(show Result.ok (.agg c) g=Result.ok v w3 from y);obtain⟨d,K,C,H⟩:=ed (s:=load (A.add 0)) (f:=λd=>(load (A.add 1)).bind λa=>Sem.pure #[d,a]) G;obtain⟨rfl,l⟩:=afb I C;obtain⟨a,J,o,m⟩:=ed (s:=load (A.add 1)) (f:=λa=>Sem.pure #[d,a]) H;obtain⟨rfl,j⟩:=afb k o;cases(show Result.ok #[d,a] _=Result.ok c _ from m);exact⟨d,a,rfl,l,j,rfl⟩
theorem acx{t:TypeId}{g:Field}{f:Nat}{d:TypeDesc}{cs:Array Value}(i:P.underlying t=some (.struct S))(c:S[f]?=some g)(j:P.underlying g.type=some d)(b:ajJ d=true)(l:e x=.agg cs)(k:cs[g.offset]?=some u)(h:(execOp e ⟨dst,.field t x f,ty,pos,af,gd⟩).run P w=.ok nx w3) :
  ∃v,nx=.value v/\(v=u/\w3=w):=by
 obtain⟨v,rfl,a⟩:=lV (s:=Instr.field t (e x) f) h;refine⟨v,rfl, ?_⟩;rw[l] at a;have:(Instr.field t (.agg cs) f).run P w=.ok u w:=by
  simp[Instr.field,me i,c,asAgg,part,ajL j b,k]
 rw[this] at a;cases a;exact⟨rfl,rfl⟩
theorem acy{t : TypeId}{i:TypeInfo}{A:Option Addr}{k : Nat}(f:P.underlying t=some (.slice X))(hi:P.info? X=some i)(l:e x=.slice A n c)(j:e y=.int .i64 k)(m:k<n)(h:(execOp e ⟨dst,.indexAddr t x y,ty,pos,af,gd⟩).run P w=.ok nx w3) :
  ∃v,nx=.value v/\(∃a,A=some a/\v=.pointer (some (a.add (k*i.size)))/\w3=w):=by
 obtain⟨v,rfl,b⟩:=lV (s:=Instr.indexAt t (e x) (e y)) h;refine⟨v,rfl, ?_⟩;rw[l,j] at b;have o:(0:Int)<=k/\(k:Int)<n:=by omega
 cases A with
 |none=>
  exfalso;have hd:lI P (Instr.indexAt t (.slice none n c) (.int .i64 k)):=by
   unfold Instr.indexAt;refine Leaves.bind (A:=λq=>q=(IntKind.i64,(k:Int))) rfl λq g=> ?_;subst g;refine Leaves.bind (aa2 f) λd hd=> ?_;subst hd;refine Leaves.bind (s:=Sem.pure (none,n,X)) (A:=λq=>q=(none,n,X)) rfl λq g=> ?_;subst g;exact Leaves.bind (aa2 f) λd hd=>ajK _ _ _ _
  exact avp hd b
 |some a=>
  have:(Instr.indexAt t (.slice (some a) n c) (.int .i64 k)).run P w=.ok (.pointer (some (a.add (k*i.size)))) w:=by
   simp[Instr.indexAt,asIntOf,me f,m,sizeOf,typeInfo,hi]
  rw[this] at b;cases b;exact⟨a,rfl,rfl,rfl⟩
end
def al9:Value->Bool
 |.agg _|.tuple _=>false
 |_=>true
section
variable {P:Program} (F:FaT P) {w w3:World} {e:Operand->Value} {x y:Operand} {nx:Next} {dst:Option Tmp} {ty:TypeId} {pos:String} {af:Array Edge} {gd:Option (Nat×Bool)}
def adg{c : Value}(b:al9 u=true)(f:w.cell? A=some c)(d:w.frozen? A=false)(k:Sem V):(Sem.store .plain A u k).run P w=k.run P (w.setCell A u):=by
 have a:(∀x,u ≠ .agg x)/\∀x,u ≠ .tuple x:=⟨λx e=>(by subst e;cases b),λx e=>(by subst e;cases b)⟩;rw[<-rA _ _ _ #[],sF _ _ _ _ _ _ _ a.1 a.2];simp only[f,d,li,qM];rw[rA]
def ase :A.add 1≠A:=by
 unfold Addr.add;intro e;have:=ga Addr.off e;simp at this
include F in
theorem apv{u0 u1 c0 c1:Value}(k:al9 u0=true)(r:al9 u1=true)(o:e x=.pointer (some A))(j:e y=.agg #[u0,u1])(a:w.cell? A=some c0)(d:w.frozen? A=false)(f:w.cell? (A.add 1)=some c1)(b:w.frozen? (A.add 1)=false) :
  (execOp e ⟨dst,.store 141 x y,ty,pos,af,gd⟩).run P w=.ok .skip ((w.setCell A u0).setCell (A.add 1) u1):=by
 obtain⟨i,m,t, -⟩:=F.ad4;have p:(storeCells A [u0,u1] 0).run P w=.ok () ((w.setCell A u0).setCell (A.add 1) u1):=by
  show(Sem.store .plain (A.add 0) u0 (Sem.store .plain (A.add 1) u1 (Sem.pure ()))).run P w=_;have g:A.add 0=A:=by unfold Addr.add;simp
  rw[g,adg k a d,adg r (c:=c1) (by rw[uf _ _ _ _ (λe=>ase e.symm)];exact f) (by rw[uS];exact b)];rfl
 have s:(storeVar 141 A (.agg #[u0,u1])).run P w=.ok () ((w.setCell A u0).setCell (A.add 1) u1):=by
  have l:(sizeOf 141).run P w=.ok 2 w:=by simp[sizeOf,typeInfo,m,t]
  unfold storeVar;show((sizeOf 141).bind λn=>if(Value.agg #[u0,u1]).cells.size≠n then stuck _ else storeCells A (Value.agg #[u0,u1]).cells.toList 0).run P w=_;rw[qY,l];exact p
 have:execOp e ⟨dst,.store 141 x y,ty,pos,af,gd⟩=(Instr.storeAt 141 (e x) (e y)).bind λ_=>Sem.pure .skip:=rfl;rw[this,o,j,qY];have q:(Instr.storeAt 141 (.pointer (some A)) (.agg #[u0,u1])).run P w=.ok () ((w.setCell A u0).setCell (A.add 1) u1):=s;rw[q];rfl
include F in
theorem apw{c0 : Value}(j:∃a n c,u=.slice a n c)(o:e x=.pointer (some A))(g:e y=u)(b:w.cell? A=some c0)(d:w.frozen? A=false) :
  (execOp e ⟨dst,.store 130 x y,ty,pos,af,gd⟩).run P w=.ok .skip (w.setCell A u):=by
 obtain⟨i,l,s, -⟩:=F.al4;obtain⟨a,n,c,rfl⟩:=j;have p:(storeCells A [.slice a n c] 0).run P w=.ok () (w.setCell A (.slice a n c)):=by
  show(Sem.store .plain (A.add 0) (.slice a n c) (Sem.pure ())).run P w=_;have f:A.add 0=A:=by unfold Addr.add;simp
  rw[f,adg rfl b d];rfl
 have r:(storeVar 130 A (.slice a n c)).run P w=.ok () (w.setCell A (.slice a n c)):=by
  have k:(sizeOf 130).run P w=.ok 1 w:=by simp[sizeOf,typeInfo,l,s]
  unfold storeVar;show((sizeOf 130).bind λm=>if(Value.slice a n c).cells.size≠m then stuck _ else storeCells A (Value.slice a n c).cells.toList 0).run P w=_;rw[qY,k];exact p
 have:execOp e ⟨dst,.store 130 x y,ty,pos,af,gd⟩=(Instr.storeAt 130 (e x) (e y)).bind λ_=>Sem.pure .skip:=rfl;rw[this,o,g,qY];have q:(Instr.storeAt 130 (.pointer (some A)) (.slice a n c)).run P w=.ok () (w.setCell A (.slice a n c)):=r;rw[q];rfl
include F in
theorem asf:(execOp e ⟨dst,.alloc 130,ty,pos,af,gd⟩).run P w=.ok (.value (.pointer (some ⟨w.heap.size,0,none⟩))) (w.alloc (.cells #[.slice none 0 0] 130)):=by
 obtain⟨i,b,c,a⟩:=F.al4;have:execOp e ⟨dst,.alloc 130,ty,pos,af,gd⟩=(Instr.alloc 130 true (.tuple #[])).bind λv=>Sem.pure (.value v):=rfl;rw[this,qY];have:(Instr.alloc 130 true (.tuple #[])).run P w=.ok (.pointer (some ⟨w.heap.size,0,none⟩)) (w.alloc (.cells #[.slice none 0 0] 130)):=by
  simp[Instr.alloc,zeroValue,typeInfo,b,a,newVar,newRow,Value.cells]
 rw[this];rfl
include F in
theorem an6(t:(n:Int)<=2147483647)(o:e x=.int .i64 n):∃c:Array Value,c.size=2*n/\(execOp e ⟨dst,.makeSlice 130 x x,ty,pos,af,gd⟩).run P w=.ok (.value (.slice (some ⟨w.heap.size,0,none⟩) n n)) (w.alloc (.cells c 141)):=by
 obtain⟨i,a,r,g,p⟩:=F.ad4;have k:IntKind.i64.wrap (n:Int)=n:=by
  unfold IntKind.wrap;simp[IntKind.signed,IntKind.bits];omega
 have q:¬(n:Int)<0:=by omega
 have s:¬(2:Int) ^ 48<24*n:=by omega
 have:execOp e ⟨dst,.makeSlice 130 x x,ty,pos,af,gd⟩=(Instr.makeSlice 130 (e x) (e x)).bind λv=>Sem.pure (.value v):=rfl;rw[this,o];have l:¬(281474976710656:Int)<24*n:=by omega
 have j:∀w,(sizeOf 141).run P w=.ok 2 w:=λw=>by simp[sizeOf,typeInfo,a,r]
 have d:∀m:Nat,(askRoom m).run P w=.ok () w:=λm=>by
  unfold askRoom;split<;>rfl
 by_cases f:n=0
 .subst f;refine⟨(Array.range 0).map λ_=>default,by simp, ?_⟩;rw[qY];have:(Instr.makeSlice 130 (.int .i64 (0:Nat)) (.int .i64 (0:Nat))).run P w=.ok (.slice (some ⟨w.heap.size,0,none⟩) 0 0) (w.alloc (.cells ((Array.range 0).map λ_=>default) 141)):=by
   simp[Instr.makeSlice,me F.ahW,asInt,asIntOf,typeInfo,a,g,d,j,newRow,(show IntKind.i64.wrap 0=0 by decide)]
  rw[this];rfl
 .refine⟨(Array.range (n*2)).map λi=>(#[.string ⟨#[]⟩,.bool false]:Array Value)[i % 2]!,by simp;omega, ?_⟩;rw[qY];have:(Instr.makeSlice 130 (.int .i64 n) (.int .i64 n)).run P w=.ok (.slice (some ⟨w.heap.size,0,none⟩) n n) (w.alloc (.cells ((Array.range (n*2)).map λi=>(#[.string ⟨#[]⟩,.bool false]:Array Value)[i % 2]!) 141)):=by
   have b:∀w,(zeroValue 141).run P w=.ok (.agg #[.string ⟨#[]⟩,.bool false]) w:=λw=>by simp[zeroValue,typeInfo,a,p]
   simp[Instr.makeSlice,me F.ahW,asInt,asIntOf,typeInfo,a,g,k,q,l,d,j,b,newRow,f,Value.cells];intro h;omega
  rw[this];rfl
end
def eW(h:w.cell? A=some v):A.block<w.heap.size:=by
 unfold World.cell? at h;cases a:w.heap[A.block]? with
 |none=>rw[a] at h;simp at h
 |some o=>exact(dl.1 a).1
structure Cx where
 R:List Frame->World->Prop
 c0:Cfg
 iT:Ren
 w0:World
 y:Frame
 ys:List Frame
def At(X:Cx)(T:Array Value)(k:List Item)(w:World):Prop:=45<=T.size/\∃c a,iB true X.R X.c0 X.iT X.w0 c a (FQ cE T k::X.y::X.ys) w
structure Tm (M:List Nat) (T T':Array Value):Prop where
 size:T'.size=T.size
 same:∀t,M.contains t=false->T'.getD t undef=T.getD t undef
def Tm.refl(M:List Nat)(T:Array Value):Tm M T T:=⟨rfl,λ_ _=>rfl⟩
def Tm.trans{T : Array Value}(h:Tm R T T')(k:Tm R T' U):Tm R T U:=⟨k.size.trans h.size,λt a=>(k.same t a).trans (h.same t a)⟩
def Tm.mono{T : Array Value}(h:Tm R T T')(b:∀t,R.contains t=true->rest.contains t=true):Tm rest T T':=⟨h.size,λt a=>h.same t (by
 cases e:R.contains t with
 |false=>rfl
 |true=>rw[b t e] at a;cases a)⟩
def Tm.sw{T : Array Value}{d:Nat}(h:Tm [d] T T')(b:cQ.contains d=true):Tm cQ T T':=h.mono λt a=>by
 simp at a;subst a;exact b
def Tm.one{T : Array Value}{d:Nat}(b:T'.size=T.size)(h:∀t,t≠d->T'.getD t undef=T.getD t undef):Tm [d] T T':=⟨b,λt a=>h t λe=>by subst e;simp at a⟩
def afc{e:Operand->Value}{n:Tmp}{t ty:TypeId}{dst:Option Tmp}(f:e (.tmp n)=.tuple #[]):∀c a,(execOp e ⟨dst,.load t (.tmp n),ty,pos,af,gd⟩).run P w ≠ .ok c a:=λc a g=>by
 obtain⟨v,d,b,i⟩:=ed (s:=Instr.loadAt t (e (.tmp n))) g;rw[f] at b;cases(show Result.halt _ _=Result.ok v d from b)
section
variable {X:Cx} {T:Array Value} {k:List Item} {w w2:World}
def At.go(h:At X T k w)(b:∀base,stepG (ah true) true (Gl (FQ cE T k::X.y::X.ys) base) w=.go (Gl (FQ cE T k2::X.y::X.ys) base) w2 es):At X T k2 w2:=
 let⟨e,_,_,h⟩:=h;let⟨d,c,a,_,_⟩:=h.go rfl true b;⟨e,d,c,a⟩
def At.seq(h:At X T (.code (.seq a b)::k) w):At X T (.code a :: .code b::k) w:=h.go (es:=#[]) λbase=>by simp[Gl,stepG,stepG.exec]
def At.region{id:Nat}{l:List Nat}(a:List.range Z.size=l)(h:At X T (.code (.region id Z false)::k) w):At X T (.inRegion Z l::k) w:=h.go (es:=#[]) λbase=>by subst a;simp[Gl,stepG,stepG.exec]
def At.jC(h:At X T (.inRegion Z []::k) w):At X T k w:=h.go (es:=#[]) λbase=>by simp[Gl,stepG,stepG.exec]
def AtL(X:Cx)(T:Array Value)(k:List Item)(w:World):Prop:=45<=T.size/\∃c a,iB true X.R X.c0 X.iT X.w0 c a (FQ cE T k::X.y::X.ys) w/\iN (ah true) c X.c0
def At.aA6(h:At X T (.inRegion Z []::k) w):AtL X T k w:=
 let⟨e,_,_,h⟩:=h;let⟨d,c,b,a,_⟩:=h.go (w2:=w) (x2:=FQ cE T k) (xs2:=X.y::X.ys) (es:=#[]) rfl true λbase=>by simp[Gl,stepG,stepG.exec]
 ⟨e,d,c,b,a⟩
def At.skip(h:At X T (.code .skip::k) w):At X T k w:=h.go (es:=#[]) λbase=>by simp[Gl,stepG,stepG.exec]
def At.cond(d:T.getD t undef=.bool q)(h:At X T (.code (.cond (.tmp t) a b)::k) w):At X T (.code (if q then a else b)::k) w:=h.go (es:=#[]) λbase=>by
 have c:Frame.eval (FQ cE T (.code (.cond (.tmp t) a b)::k)) (.tmp t)=.bool q:=d;simp[Gl,stepG,stepG.exec,c]
def At.block{id:Nat}(h:At X T (.code (.block id a)::k) w):At X T (.code a :: .inBlock id::k) w:=h.go (es:=#[]) λbase=>by simp[Gl,stepG,stepG.exec]
def At.loop(h:At X T (.code (.loop a)::k) w):At X T (.code a :: .inLoop a::k) w:=h.go (es:=#[]) λbase=>by simp[Gl,stepG,stepG.exec]
def At.again(h:At X T (.inLoop a::k) w):At X T (.code a :: .inLoop a::k) w:=h.go (es:=#[]) λbase=>by simp[Gl,stepG,stepG.exec]
def At.exit{id:Nat}(a:exitTo id k=some k2)(h:At X T (.code (.exit id)::k) w):At X T k2 w:=h.go (es:=#[]) λbase=>by simp[Gl,stepG,stepG.exec,a]
def At.no(h:At X T (.code (.refuse "")::k) w):False:=by
 obtain⟨a,c,b,h⟩:=h;exact h.no rfl true (o:=_) (w2:=w) (by simp only[Gl,stepG,stepG.exec];rfl)
def At.jJ     {Φ:Value->World->Prop} (h:At X T (.inRegion Z (i::rest)::k) w) (A:Z[i]?=some o) (y:o.guard=none) (s:o.dst=some d) (l:d<45)
  (a:∀m j,(execOp (FQ cE T (.inRegion Z (i::rest)::k)).eval o).run (ah true) w=.ok m j->∃v,m=.value v/\Φ v j) :
  ∃v b n,Φ v b/\Tm [d] T n/\n.getD d undef=v/\At X n (.inRegion Z rest::k) b:=by
 obtain⟨f,c,D,h⟩:=h;obtain⟨v,b,z,C,q,r, -⟩:=h.op A y λm j g=>.inl (let⟨v,e,_⟩:=a m j g;⟨v,e⟩);have p:Φ v b:=by
  rcases q with g|⟨g, -⟩
  .obtain⟨u,e,B⟩:=a _ _ g;cases e;exact B
  .obtain⟨u,e, -⟩:=a _ _ g;cases e
 rw[s] at r;replace l:d<T.size:=bd l f;exact⟨v,b,_,p,.one (by simp) (λt x=>by rw[aG l,be x]),by rw[aG l,du rfl],by simpa using f,z,C,r⟩
def At.opk    (h:At X T (.inRegion Z (i::rest)::k) w) (j:Z[i]?=some o) (l:o.guard=none) (g:o.dst=none)
  (b:(execOp (FQ cE T (.inRegion Z (i::rest)::k)).eval o).run (ah true) w=.ok .skip w2):At X T (.inRegion Z rest::k) w2:=by
 obtain⟨d,c,q,h⟩:=h;obtain⟨v,p,n,m,e,f, -⟩:=h.op j l λs r a=>.inr (by rw[b] at a;cases a;rfl);rw[g] at f;rcases e with a|⟨a, -⟩
 .rw[b] at a;cases a
 .rw[b] at a;cases a;exact⟨d,n,m,f⟩
def At.noV      (h:At X T (.inRegion Z (i::rest)::k) w) (g:Z[i]?=some o) (m:o.guard=none) (b:aaF gA gL o.op=false) (e:T.getD t undef=.pointer (some A))
  (d:∀(e:Operand->Value) (w:World),e (.tmp t)=.tuple #[]->∀p j,(execOp e o).run (ah true) w ≠ .ok p j):NoV (ah true) w A/\NoV (ah true) w (A.add 1):=by
 obtain⟨l,c,q,h⟩:=h;obtain⟨x,f,n⟩:=h.apt g m b t d;rw[e] at f;cases f with
 |pointer a=>cases a with
  |some a=>exact⟨h.wr.noV a,h.wr.noV (a.add 1)⟩
 |gp=>exact absurd rfl n
def At.aA7{g:Nat}(b:g∈gL)(h:At X T k w):NoV (ah true) w ⟨g,0,none⟩:=by
 obtain⟨a,c,d,h⟩:=h;exact h.wr.noV (.mk (h.gl g b) 0 none)
def At.chk(a:T.getD t undef=.bool q)(h:At X T (.code (.cond (.tmp t) (.refuse "") .skip)::k) w):q=false/\At X T k w:=by
 have h:=h.cond a;cases q with
 |true=>exact(h.no).elim
 |false=>exact⟨rfl,h.skip⟩
def At.ayH(a:T.getD t undef=.bool q)(h:At X T (.code (.cond (.tmp t) .skip (.refuse ""))::k) w):q=true/\At X T k w:=by
 have h:=h.cond a;cases q with
 |false=>exact(h.no).elim
 |true=>exact⟨rfl,h.skip⟩
end
def In_(x:Int):Prop:= -9223372036854775808<=x/\x<=9223372036854775807
def aby{x:Int}(h:(IntKind.i64.wrap (x*1) ==x)=true):In_ x:=by
 rw[nF] at h;unfold IntKind.wrap at h;simp[IntKind.signed,IntKind.bits] at h;unfold In_;omega
def afd(h:(n:Int)<9223372036854775807):IntKind.i64.wrap ((n:Int)+1)=((n+1:Nat):Int):=by
 unfold IntKind.wrap;simp[IntKind.signed,IntKind.bits];omega
def fe{a b:Int}(h:decide (a<b)=false):b<=a:=by simpa using h
structure ah0 (w:World) (B:Option Addr) (i:Nat) (x:Int×ByteArray):Prop where
 c:∃a,B=some a/\w.cell? (a.add (i*2))=some (.int .i64 x.1)/\w.cell? ((a.add (i*2)).add 1)=some (.string x.2)
 i:In_ x.1
 s:(x.2.size:Int)<=9223372036854775807
def RdI(w:World)(B:Option Addr)(j:Nat)(l:List (Int×ByteArray)):Prop:=∀i x,l[i]?=some x->ah0 w B (j+i) x
abbrev inC(k:List Item):List Item:=.inLoop abi :: .inBlock 52::k
abbrev mI:List Nat:=[4,5,9,10,11,13,15,26,25,22]
def Tm.mi{T : Array Value}{d:Nat}(h:Tm [d] T T')(b:mI.contains d=true):Tm mI T T':=h.mono λt a=>by
 simp at a;subst a;exact b
section
variable {X:Cx} {T:Array Value} {k:List Item} {w:World}
def At.aA8{B:Option Addr}{m j : Nat}(h:At X T (.code abi::inC k) w)(V:T.getD 27 undef=.slice B m c)(jB:T.getD 28 undef=.int .i64 m)(n:T.getD 5 undef=.int .i64 j)(hj:j<=m)(hm:(m:Int)<=9223372036854775807) :
  (j=m/\∃T',Tm mI T T'/\At X T' k w)\/(j<m/\∃x T',ah0 w B j x/\Tm mI T T'/\T'.getD 5 undef=.int .i64 (j+1:Nat)/\At X T' (.code abi::inC k) w):=by
 have o:=Tm.refl mI T;unfold Go.Proofs.YtokgbpkbaoeeoaaGreatDoor.abi at h;have h:=h.seq;replace h:=h.region (l:=[0]) rfl;obtain⟨v,A,T1,⟨g,f⟩,m,s4,b⟩:=h.jJ (d:=4) (Φ:=λv i=>v=.bool (decide ((j:Int)<m))/\i=w) rfl rfl rfl (by decide) λy i q=>gV (by exact n) (by exact jB) q;rw[g] at s4;rw[f] at b;clear g f;replace n:=(m.same 5 rfl).trans n;replace V:=(m.same 27 rfl).trans V;replace o:=o.trans (m.mi rfl);clear m;replace h:=b;clear b;replace h:=h.jC.seq.cond s4;by_cases F:(j:Int)<m
 .right;rw[dk F] at h;simp only[qe] at h;replace h:=h.skip.seq.seq;replace h:=h.region (l:=[0,1,2,3,4]) rfl;obtain⟨ii,hi,hz⟩:=(faQ true).i110;obtain⟨fs,g0,g1,O,U,Y,Z,W,Q,M⟩:=(faQ true).avm;obtain⟨v,A,T2,⟨a,hB,g,f⟩,m,R,b⟩:=h.jJ (d:=9) (Φ:=λv i=>∃a,B=some a/\v=.pointer (some (a.add (j*ii.size)))/\i=w) rfl rfl rfl (by decide) λy i q=>acy (faQ true).u38 hi (by exact V) (by exact n) (by omega) q;rw[g,hz] at R;rw[f] at b;clear g f;replace n:=(m.same 5 rfl).trans n;replace o:=o.trans (m.mi rfl);clear m;replace h:=b;clear b;have hv:=h.noV (t:=9) rfl rfl rfl R (λe w he=>afc he);obtain⟨v,A,T3,⟨E,C,g,L,a1,f⟩,m,r,b⟩:=h.jJ (d:=10) (Φ:=λv i=>∃E C,v=.agg #[E,C]/\w.cell? (a.add (j*2))=some E/\w.cell? ((a.add (j*2)).add 1)=some C/\i=w) rfl rfl rfl (by decide) λy i q=>ajM O hi hz (by exact R) hv.1 hv.2 q;rw[g] at r;rw[f] at b;clear g f;replace n:=(m.same 5 rfl).trans n;replace o:=o.trans (m.mi rfl);clear m;replace h:=b;clear b;obtain⟨v,A,T4,⟨g,f⟩,m,u,b⟩:=h.jJ (d:=11) (Φ:=λv i=>v=E/\i=w) rfl rfl rfl (by decide) λy i q=>acx O U (by rw[W];exact(faQ true).u3) rfl (by exact r) (by rw[Z];rfl) q;rw[g] at u;rw[f] at b;clear g f;replace n:=(m.same 5 rfl).trans n;replace r:=(m.same 10 rfl).trans r;replace o:=o.trans (m.mi rfl);clear m;replace h:=b;clear b;obtain⟨v,A,T5,⟨z,P,g,f⟩,m,I,b⟩:=h.jJ (d:=13) (Φ:=λv i=>∃z,E=.int .i64 z/\v=.int .i64 (IntKind.i64.wrap (z*1))/\i=w) rfl rfl rfl (by decide) λy i q=>let⟨v,J,z,D,H,N⟩:=al5 q rfl;⟨v,J,z,u.symm.trans D,H,N⟩
  rw[g] at I;rw[f] at b;clear g f;replace n:=(m.same 5 rfl).trans n;replace r:=(m.same 10 rfl).trans r;replace u:=(m.same 11 rfl).trans u;replace o:=o.trans (m.mi rfl);clear m;replace h:=b;clear b;subst P;obtain⟨v,A,T6,⟨g,f⟩,m,p,b⟩:=h.jJ (d:=15) (Φ:=λv i=>v=.bool (IntKind.i64.wrap (z*1) ==z)/\i=w) rfl rfl rfl (by decide) λy i q=>al7 (by exact I) (by exact u) q;rw[g] at p;rw[f] at b;clear g f;replace n:=(m.same 5 rfl).trans n;replace r:=(m.same 10 rfl).trans r;replace o:=o.trans (m.mi rfl);clear m;replace h:=b;clear b;obtain⟨hq,b⟩:=h.jC.ayH p;replace h:=b.seq.seq;clear b;replace h:=h.region (l:=[0,1,2]) rfl;obtain⟨v,A,T7,⟨g,f⟩,m,G,b⟩:=h.jJ (d:=26) (Φ:=λv i=>v=C/\i=w) rfl rfl rfl (by decide) λy i q=>acx O Y (by rw[M];exact(faQ true).u9) rfl (by exact r) (by rw[Q];rfl) q;rw[g] at G;rw[f] at b;clear g f;replace n:=(m.same 5 rfl).trans n;replace p:=(m.same 15 rfl).trans p;replace o:=o.trans (m.mi rfl);clear m;replace h:=b;clear b;obtain⟨v,A,T8,⟨s,S,g,f⟩,m,K,b⟩:=h.jJ (d:=25) (Φ:=λv i=>∃s:ByteArray,C=.string s/\v=.int .i64 s.size/\i=w) rfl rfl rfl (by decide) λy i q=>let⟨v,J,z,D,H,N⟩:=avq (faQ true) q;⟨v,J,z,G.symm.trans D,H,N⟩
  rw[g] at K;rw[f] at b;clear g f;replace n:=(m.same 5 rfl).trans n;replace p:=(m.same 15 rfl).trans p;replace o:=o.trans (m.mi rfl);clear m;replace h:=b;clear b;subst S;clear p;obtain⟨v,A,T9,⟨g,f⟩,m,p,b⟩:=h.jJ (d:=15) (Φ:=λv i=>v=.bool (decide ((9223372036854775807:Int)<s.size))/\i=w) rfl rfl rfl (by decide) λy i q=>gV rfl (by exact K) q;rw[g] at p;rw[f] at b;clear g f;replace n:=(m.same 5 rfl).trans n;replace o:=o.trans (m.mi rfl);clear m;replace h:=b;clear b;obtain⟨a0,b⟩:=h.jC.chk p;replace h:=b.region (l:=[0,1]) rfl;clear b;obtain⟨v,A,a3,⟨g,f⟩,m,pG,b⟩:=h.jJ (d:=22) (Φ:=λv i=>v=.int .i64 (IntKind.i64.wrap ((j:Int)+1))/\i=w) rfl rfl rfl (by decide) λy i q=>al6 (by exact n) rfl q;rw[g] at pG;rw[f] at b;clear g f;replace n:=(m.same 5 rfl).trans n;replace o:=o.trans (m.mi rfl);clear m;replace h:=b;clear b;clear n;obtain⟨v,A,a2,⟨g,f⟩,m,n,b⟩:=h.jJ (d:=5) (Φ:=λv i=>v=.int .i64 (IntKind.i64.wrap ((j:Int)+1))/\i=w) rfl rfl rfl (by decide) λy i q=>let⟨v,J,D,H⟩:=ahX q;⟨v,J,D.trans pG,H⟩
  rw[g] at n;rw[f] at b;clear g f;replace o:=o.trans (m.mi rfl);clear m;replace h:=b;clear b;rw[afd (by omega)] at n;exact⟨by omega,(z,s),_,⟨⟨a,hB,L,a1⟩,aby hq,fe a0⟩,o,n,h.jC.again⟩
 .left;rw[da F] at h;simp only[li,qM] at h;exact⟨by omega,_,o,h.exit rfl⟩
def At.axg{B:Option Addr}{m c:Nat}(g:(m:Int)<=9223372036854775807):∀(n j:Nat) {T:Array Value},m=j+n->At X T (.code Go.Proofs.YtokgbpkbaoeeoaaGreatDoor.abi::inC k) w->T.getD 27 undef=.slice B m c->T.getD 28 undef=.int .i64 m->T.getD 5 undef=.int .i64 j->
  ∃l T',l.length=n/\RdI w B j l/\Tm mI T T'/\At X T' k w
 |0,j,T,e,h,jq,jB,s5=>by
  rcases h.aA8 jq jB s5 (by omega) g with⟨_,T',u,t⟩|⟨d,_⟩
  .exact⟨[],T',rfl,λi x b=>by simp at b,u,t⟩
  .omega
 |n+1,j,T,e,h,jq,jB,s5=>by
  rcases h.aA8 jq jB s5 (by omega) g with⟨A,_⟩|⟨d,x,z,s,a,o,v⟩
  .omega
  .obtain⟨l,T',p,r,f,q⟩:=At.axg g n (j+1) (by omega) v ((a.same 27 rfl).trans jq) ((a.same 28 rfl).trans jB) o;refine⟨x::l,T',by simp[p],λi y b=> ?_,a.trans f,q⟩;cases i with
   |zero=>simp at b;subst b;exact s
   |succ i=>
    have:=r i y (by simpa using b);have e:j+1+i=j+(i+1):=by omega
    rwa [e] at this
end
structure aA9 (w:World) (A:Option Addr) (i:Nat) (x:Int×List (Int×ByteArray)):Prop where
 c:∃a B c,A=some a/\w.cell? (a.add (i*2))=some (.int .i64 x.1)/\w.cell? ((a.add (i*2)).add 1)=some (.slice B x.2.length c)/\1<=x.2.length/\x.2.length<=c/\(c:Int)<=9223372036854775807/\RdI w B 0 x.2
 i:In_ x.1
def RdP(w:World)(A:Option Addr)(j:Nat)(l:List (Int×List (Int×ByteArray))):Prop:=∀i x,l[i]?=some x->aA9 w A (j+i) x
def Rgd(X:Cx)(b:Nat):Prop:=(∃a,X.iT.r a b)\/X.w0.heap.size<=b
def PkR(X:Cx)(w:World)(A:Option Addr)(i:Nat):Prop:=∀a b n c,A=some a->w.cell? ((a.add (i*2)).add 1)=some (.slice (some b) n c)->Rgd X b.block
abbrev inB(k:List Item):List Item:=.inLoop abj :: .inBlock 51::k
def aBa(t:Nat)(h:mI.contains t=true):cQ.contains t=true:=by
 simp only[mI,tF,List.contains_nil,vL,rm,nF] at h;rcases h with rfl|rfl|rfl|rfl|rfl|rfl|rfl|rfl|rfl|rfl<;>rfl
section
variable {X:Cx} {T:Array Value} {k:List Item} {w:World}
def aeh{e:Operand->Value}{n:Tmp}{i ty : TypeId}{dst:Option Tmp}(g:P.underlying t0=some (.slice i))(j:e (.tmp n)=.tuple #[]):∀d a,(execOp e ⟨dst,.call ⟨.builtin .len,#[.tmp n],#[t0]⟩,ty,pos,af,gd⟩).run P w ≠ .ok d a:=λd a f=>by
 obtain⟨v,_,A,m,c,b,_⟩:=ahY g f;rw[j] at b;cases b
def At.avs     (h:At X T (.inRegion Z (i::rest)::k) w) (j:Z[i]?=some o) (q:o.guard=none) (b:aaF gA gL o.op=false)
  (d:∀(e:Operand->Value) (w:World),e (.tmp t)=.tuple #[]->∀s l,(execOp e o).run (ah true) w ≠ .ok s l):∀a n c,T.getD t undef=.slice (some a) n c->a.block<w.heap.size:=λa n c e=>by
 obtain⟨p,c,u,h⟩:=h;obtain⟨x,g,r⟩:=h.apt j q b t d;rw[e] at g;cases g with
 |slice f=>cases f with
  |some f=>obtain⟨m,_,_⟩:=f;exact(h.wr.lt m).2
 |gp=>exact absurd rfl r
def At.ah1     (h:At X T (.inRegion Z (i::rest)::k) w) (j:Z[i]?=some o) (q:o.guard=none) (b:aaF gA gL o.op=false)
  (d:∀(e:Operand->Value) (w:World),e (.tmp t)=.tuple #[]->∀s l,(execOp e o).run (ah true) w ≠ .ok s l):∀a n c,T.getD t undef=.slice (some a) n c->Rgd X a.block:=λa n c e=>by
 obtain⟨p,c,u,h⟩:=h;obtain⟨x,g,r⟩:=h.apt j q b t d;rw[e] at g;cases g with
 |slice f=>cases f with
  |some f=>
   obtain⟨m,_,_⟩:=f;exact(h.kept.new m).imp (λh=>⟨_,h⟩) (·.2)
 |gp=>exact absurd rfl r
def At.aBb{A:Option Addr}{c0 j : Nat}(h:At X T (.code abj::inB k) w)(s1:T.getD 1 undef=.slice A n c0)(C:T.getD 16 undef=.int .i64 n)(y:T.getD 20 undef=.int .i64 j)(hj:j<=n)(hm:(n:Int)<=9223372036854775807) :
  (j=n/\∃T',Tm cQ T T'/\At X T' k w)\/(j<n/\∃x T',aA9 w A j x/\PkR X w A j/\Tm cQ T T'/\T'.getD 16 undef=.int .i64 n/\T'.getD 20 undef=.int .i64 (j+1:Nat)/\At X T' (.code abj::inB k) w):=by
 have D:=Tm.refl cQ T;unfold Go.Proofs.YtokgbpkbaoeeoaaGreatDoor.abj at h;have h:=h.seq;replace h:=h.region (l:=[0]) rfl;obtain⟨v,K,af,⟨r,q⟩,m,g,f⟩:=h.jJ (d:=21) (Φ:=λv s=>v=.bool (decide ((j:Int)<n))/\s=w) rfl rfl rfl (by decide) λJ s E=>gV (by exact y) (by exact C) E;rw[r] at g;rw[q] at f;clear r q;replace s1:=(m.same 1 rfl).trans s1;replace C:=(m.same 16 rfl).trans C;replace y:=(m.same 20 rfl).trans y;replace D:=D.trans (m.sw rfl);clear m;replace h:=f;clear f;replace h:=h.jC.seq.cond g;by_cases V:(j:Int)<n
 .right;rw[dk V] at h;simp only[qe] at h;replace h:=h.skip.seq.seq;replace h:=h.region (l:=[0,1,2,3,4]) rfl;obtain⟨ii,hi,hz⟩:=(faQ true).i40;obtain⟨fs,g0,g1,hu,a8,aa,ad,a9,a6,a3⟩:=(faQ true).u40;obtain⟨v,K,aI,⟨a,hB,r,q⟩,m,i,f⟩:=h.jJ (d:=23) (Φ:=λv s=>∃a,A=some a/\v=.pointer (some (a.add (j*ii.size)))/\s=w) rfl rfl rfl (by decide) λJ s E=>acy (faQ true).u23 hi (by exact s1) (by exact y) (by omega) E;rw[r,hz] at i;rw[q] at f;clear r q;replace s1:=(m.same 1 rfl).trans s1;replace C:=(m.same 16 rfl).trans C;replace y:=(m.same 20 rfl).trans y;replace g:=(m.same 21 rfl).trans g;replace D:=D.trans (m.sw rfl);clear m;replace h:=f;clear f;have hv:=h.noV (t:=23) rfl rfl rfl i (λe w he=>afc he);obtain⟨v,K,al,⟨S,P,r,a2,a0,q⟩,m,o,f⟩:=h.jJ (d:=24) (Φ:=λv s=>∃S P,v=.agg #[S,P]/\w.cell? (a.add (j*2))=some S/\w.cell? ((a.add (j*2)).add 1)=some P/\s=w) rfl rfl rfl (by decide) λJ s E=>ajM hu hi hz (by exact i) hv.1 hv.2 E;rw[r] at o;rw[q] at f;clear r q;replace s1:=(m.same 1 rfl).trans s1;replace C:=(m.same 16 rfl).trans C;replace y:=(m.same 20 rfl).trans y;replace g:=(m.same 21 rfl).trans g;replace i:=(m.same 23 rfl).trans i;replace D:=D.trans (m.sw rfl);clear m;replace h:=f;clear f;obtain⟨v,K,ao,⟨r,q⟩,m,p,f⟩:=h.jJ (d:=25) (Φ:=λv s=>v=S/\s=w) rfl rfl rfl (by decide) λJ s E=>acx hu a8 (by rw[a9];exact(faQ true).u3) rfl (by exact o) (by rw[ad];rfl) E;rw[r] at p;rw[q] at f;clear r q;replace s1:=(m.same 1 rfl).trans s1;replace C:=(m.same 16 rfl).trans C;replace y:=(m.same 20 rfl).trans y;replace g:=(m.same 21 rfl).trans g;replace i:=(m.same 23 rfl).trans i;replace o:=(m.same 24 rfl).trans o;replace D:=D.trans (m.sw rfl);clear m;replace h:=f;clear f;obtain⟨v,K,ax,⟨z,a5,r,q⟩,m,u,f⟩:=h.jJ (d:=26) (Φ:=λv s=>∃z,S=.int .i64 z/\v=.int .i64 (IntKind.i64.wrap (z*1))/\s=w) rfl rfl rfl (by decide) λJ s E=>let⟨v,a1,z,O,Y,a4⟩:=al5 E rfl;⟨v,a1,z,p.symm.trans O,Y,a4⟩
  rw[r] at u;rw[q] at f;clear r q;replace s1:=(m.same 1 rfl).trans s1;replace C:=(m.same 16 rfl).trans C;replace y:=(m.same 20 rfl).trans y;replace g:=(m.same 21 rfl).trans g;replace i:=(m.same 23 rfl).trans i;replace o:=(m.same 24 rfl).trans o;replace p:=(m.same 25 rfl).trans p;replace D:=D.trans (m.sw rfl);clear m;replace h:=f;clear f;subst a5;obtain⟨v,K,aL,⟨r,q⟩,m,G,f⟩:=h.jJ (d:=22) (Φ:=λv s=>v=.bool (IntKind.i64.wrap (z*1) ==z)/\s=w) rfl rfl rfl (by decide) λJ s E=>al7 (by exact u) (by exact p) E;rw[r] at G;rw[q] at f;clear r q;replace s1:=(m.same 1 rfl).trans s1;replace C:=(m.same 16 rfl).trans C;replace y:=(m.same 20 rfl).trans y;replace g:=(m.same 21 rfl).trans g;replace i:=(m.same 23 rfl).trans i;replace o:=(m.same 24 rfl).trans o;replace p:=(m.same 25 rfl).trans p;replace u:=(m.same 26 rfl).trans u;replace D:=D.trans (m.sw rfl);clear m;replace h:=f;clear f;obtain⟨hq,f⟩:=h.jC.ayH G;replace h:=f.seq.seq;clear f;replace h:=h.region (l:=[0,1,2,3]) rfl;obtain⟨v,K,an,⟨r,q⟩,m,H,f⟩:=h.jJ (d:=27) (Φ:=λv s=>v=P/\s=w) rfl rfl rfl (by decide) λJ s E=>acx hu aa (by rw[a3];exact(faQ true).u38) rfl (by exact o) (by rw[a6];rfl) E;rw[r] at H;rw[q] at f;clear r q;replace s1:=(m.same 1 rfl).trans s1;replace C:=(m.same 16 rfl).trans C;replace y:=(m.same 20 rfl).trans y;replace g:=(m.same 21 rfl).trans g;replace G:=(m.same 22 rfl).trans G;replace i:=(m.same 23 rfl).trans i;replace o:=(m.same 24 rfl).trans o;replace p:=(m.same 25 rfl).trans p;replace u:=(m.same 26 rfl).trans u;replace D:=D.trans (m.sw rfl);clear m;replace h:=f;clear f;have W:=h.ah1 (t:=27) rfl rfl rfl λe w he=>aeh (faQ true).u38 he;rw[H] at W;obtain⟨v,K,aV,⟨B,m,c,a7,r,q⟩,m,I,f⟩:=h.jJ (d:=28) (Φ:=λv s=>∃B m c,P=.slice B m c/\v=.int .i64 m/\s=w) rfl rfl rfl (by decide) λJ s E=>let⟨v,a1,B,m,c,O,Y,a4⟩:=ahY (faQ true).u38 E;⟨v,a1,B,m,c,H.symm.trans O,Y,a4⟩
  rw[r] at I;rw[q] at f;clear r q;replace s1:=(m.same 1 rfl).trans s1;replace C:=(m.same 16 rfl).trans C;replace y:=(m.same 20 rfl).trans y;replace g:=(m.same 21 rfl).trans g;replace G:=(m.same 22 rfl).trans G;replace i:=(m.same 23 rfl).trans i;replace o:=(m.same 24 rfl).trans o;replace p:=(m.same 25 rfl).trans p;replace u:=(m.same 26 rfl).trans u;replace H:=(m.same 27 rfl).trans H;replace D:=D.trans (m.sw rfl);clear m;replace h:=f;clear f;subst a7;obtain⟨v,K,aZ,⟨r,q⟩,m,M,f⟩:=h.jJ (d:=3) (Φ:=λv s=>v=.int .i64 c/\s=w) rfl rfl rfl (by decide) λJ s E=>al8 (faQ true).u38 (by exact H) E;rw[r] at M;rw[q] at f;clear r q;replace s1:=(m.same 1 rfl).trans s1;replace C:=(m.same 16 rfl).trans C;replace y:=(m.same 20 rfl).trans y;replace g:=(m.same 21 rfl).trans g;replace G:=(m.same 22 rfl).trans G;replace i:=(m.same 23 rfl).trans i;replace o:=(m.same 24 rfl).trans o;replace p:=(m.same 25 rfl).trans p;replace u:=(m.same 26 rfl).trans u;replace H:=(m.same 27 rfl).trans H;replace I:=(m.same 28 rfl).trans I;replace D:=D.trans (m.sw rfl);clear m;replace h:=f;clear f;obtain⟨v,K,aH,⟨r,q⟩,m,L,f⟩:=h.jJ (d:=4) (Φ:=λv s=>v=.bool (decide ((m:Int)<1))/\s=w) rfl rfl rfl (by decide) λJ s E=>gV (by exact I) rfl E;rw[r] at L;rw[q] at f;clear r q;replace s1:=(m.same 1 rfl).trans s1;replace M:=(m.same 3 rfl).trans M;replace C:=(m.same 16 rfl).trans C;replace y:=(m.same 20 rfl).trans y;replace g:=(m.same 21 rfl).trans g;replace G:=(m.same 22 rfl).trans G;replace i:=(m.same 23 rfl).trans i;replace o:=(m.same 24 rfl).trans o;replace p:=(m.same 25 rfl).trans p;replace u:=(m.same 26 rfl).trans u;replace H:=(m.same 27 rfl).trans H;replace I:=(m.same 28 rfl).trans I;replace D:=D.trans (m.sw rfl);clear m;replace h:=f;clear f;obtain⟨U,f⟩:=h.jC.chk L;replace h:=f.seq.seq;clear f;replace h:=h.region (l:=[0]) rfl;clear L;obtain⟨v,K,b2,⟨r,q⟩,m,L,f⟩:=h.jJ (d:=4) (Φ:=λv s=>v=.bool (decide ((9223372036854775807:Int)<c))/\s=w) rfl rfl rfl (by decide) λJ s E=>gV rfl (by exact M) E;rw[r] at L;rw[q] at f;clear r q;replace s1:=(m.same 1 rfl).trans s1;replace M:=(m.same 3 rfl).trans M;replace C:=(m.same 16 rfl).trans C;replace y:=(m.same 20 rfl).trans y;replace g:=(m.same 21 rfl).trans g;replace G:=(m.same 22 rfl).trans G;replace i:=(m.same 23 rfl).trans i;replace o:=(m.same 24 rfl).trans o;replace p:=(m.same 25 rfl).trans p;replace u:=(m.same 26 rfl).trans u;replace H:=(m.same 27 rfl).trans H;replace I:=(m.same 28 rfl).trans I;replace D:=D.trans (m.sw rfl);clear m;replace h:=f;clear f;obtain⟨N,f⟩:=h.jC.chk L;replace h:=f.seq.seq;clear f;replace h:=h.region (l:=[0]) rfl;clear L;obtain⟨v,K,b0,⟨r,q⟩,m,L,f⟩:=h.jJ (d:=4) (Φ:=λv s=>v=.bool (decide ((c:Int)<m))/\s=w) rfl rfl rfl (by decide) λJ s E=>gV (by exact M) (by exact I) E;rw[r] at L;rw[q] at f;clear r q;replace s1:=(m.same 1 rfl).trans s1;replace M:=(m.same 3 rfl).trans M;replace C:=(m.same 16 rfl).trans C;replace y:=(m.same 20 rfl).trans y;replace g:=(m.same 21 rfl).trans g;replace G:=(m.same 22 rfl).trans G;replace i:=(m.same 23 rfl).trans i;replace o:=(m.same 24 rfl).trans o;replace p:=(m.same 25 rfl).trans p;replace u:=(m.same 26 rfl).trans u;replace H:=(m.same 27 rfl).trans H;replace I:=(m.same 28 rfl).trans I;replace D:=D.trans (m.sw rfl);clear m;replace h:=f;clear f;obtain⟨R,f⟩:=h.jC.chk L;replace h:=f.seq;clear f;replace h:=h.region (l:=[0]) rfl;obtain⟨v,K,b1,⟨r,q⟩,m,s5,f⟩:=h.jJ (d:=5) (Φ:=λv s=>v=.int .i64 (0:Nat)/\s=w) rfl rfl rfl (by decide) λJ s E=>jI E;rw[r] at s5;rw[q] at f;clear r q;replace s1:=(m.same 1 rfl).trans s1;replace M:=(m.same 3 rfl).trans M;replace L:=(m.same 4 rfl).trans L;replace C:=(m.same 16 rfl).trans C;replace y:=(m.same 20 rfl).trans y;replace g:=(m.same 21 rfl).trans g;replace G:=(m.same 22 rfl).trans G;replace i:=(m.same 23 rfl).trans i;replace o:=(m.same 24 rfl).trans o;replace p:=(m.same 25 rfl).trans p;replace u:=(m.same 26 rfl).trans u;replace H:=(m.same 27 rfl).trans H;replace I:=(m.same 28 rfl).trans I;replace D:=D.trans (m.sw rfl);clear m;replace h:=f;clear f;replace U:=fe U;replace N:=fe N;replace R:=fe R;replace h:=h.jC.seq.block.loop;obtain⟨l,T2,hl,E,F,f⟩:=At.axg (by omega) m 0 (by omega) h H I s5;replace h:=f.region (l:=[0,1]) rfl;clear f;replace s1:=(F.same 1 rfl).trans s1;replace M:=(F.same 3 rfl).trans M;clear L;clear s5;replace C:=(F.same 16 rfl).trans C;replace y:=(F.same 20 rfl).trans y;replace g:=(F.same 21 rfl).trans g;clear G;replace i:=(F.same 23 rfl).trans i;replace o:=(F.same 24 rfl).trans o;clear p;clear u;replace H:=(F.same 27 rfl).trans H;replace I:=(F.same 28 rfl).trans I;replace D:=D.trans (F.mono aBa);clear F;obtain⟨v,K,ay,⟨r,q⟩,m,G,f⟩:=h.jJ (d:=22) (Φ:=λv s=>v=.int .i64 (IntKind.i64.wrap ((j:Int)+1))/\s=w) rfl rfl rfl (by decide) λJ s E=>al6 (by exact y) rfl E;rw[r] at G;rw[q] at f;clear r q;replace C:=(m.same 16 rfl).trans C;replace y:=(m.same 20 rfl).trans y;replace D:=D.trans (m.sw rfl);clear m;replace h:=f;clear f;clear y;obtain⟨v,K,aT,⟨r,q⟩,m,y,f⟩:=h.jJ (d:=20) (Φ:=λv s=>v=.int .i64 (IntKind.i64.wrap ((j:Int)+1))/\s=w) rfl rfl rfl (by decide) λJ s E=>let⟨v,a1,O,Y⟩:=ahX E;⟨v,a1,O.trans G,Y⟩
  rw[r] at y;rw[q] at f;clear r q;replace C:=(m.same 16 rfl).trans C;replace D:=D.trans (m.sw rfl);clear m;replace h:=f;clear f;rw[afd (by omega)] at y;subst hl;exact⟨by omega,(z,l),_,⟨⟨a,B,c,hB,a2,a0,(by show 1<=l.length;omega),(by show l.length<=c;omega),N,E⟩,aby hq⟩,λO b n2 c2 Q Z=>(by rw[hB] at Q;cases Q;rw[a0] at Z;exact W b n2 c2 (dq Z)),D,C,y,h.jC.again⟩
 .left;rw[da V] at h;simp only[li,qM] at h;exact⟨by omega,_,D,h.exit rfl⟩
def At.axh{A:Option Addr}{m c:Nat}(g:(m:Int)<=9223372036854775807):∀(n j:Nat) {T:Array Value},m=j+n->At X T (.code abj::inB k) w->T.getD 1 undef=.slice A m c->T.getD 16 undef=.int .i64 m->T.getD 20 undef=.int .i64 j->
  ∃l T',l.length=n/\RdP w A j l/\(∀i,i<n->PkR X w A (j+i))/\Tm cQ T T'/\At X T' k w
 |0,j,T,e,h,s1,dD,iF=>by
  rcases h.aBb s1 dD iF (by omega) g with⟨_,T',B,v⟩|⟨d,_⟩
  .exact⟨[],T',rfl,λi x a=>by simp at a,λi a=>absurd a (sT i),B,v⟩
  .omega
 |n+1,j,T,e,h,s1,dD,iF=>by
  rcases h.aBb s1 dD iF (by omega) g with⟨E,_⟩|⟨d,x,D,u,q,b,o,p,C⟩
  .omega
  .obtain⟨l,T',r,t,z,f,s⟩:=At.axh g n (j+1) (by omega) C ((b.same 1 rfl).trans s1) o p;refine⟨x::l,T',by simp[r],λi y a=> ?_,λi a=> ?_,b.trans f,s⟩
   case refine_2=>
    cases i with
    |zero=>exact q
    |succ i=>
     have:=z i (by omega);have e:j+1+i=j+(i+1):=by omega
     rwa [e] at this
   cases i with
   |zero=>simp at a;subst a;exact u
   |succ i=>
    have:=t i y (by simpa using a);have e:j+1+i=j+(i+1):=by omega
    rwa [e] at this
end
end
end Go.Proofs.YtokgbpkbaoeeoaaGreatDoor