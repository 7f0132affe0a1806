/- A part. -/
import Derived.Test.YtmicddpknimniaaGreatDoorG5
import Derived.Below
set_option maxRecDepth 100000
set_option maxHeartbeats 8000000
set_option linter.all false
open Go Go.Conc Go.ConcN Go.RowKit Go.Proofs.Tryz Go.Proofs.YtmicddpknimniaaGreatDoor
variable {B Wg c i n:Nat} {d t:Tmp} {ρ:Ren} {V:Type} {A:Addr} {a b:Code} {o:Oper} {q:Bool} {W w w' w2:World} {e:Event} {u v:Value} {x y:Frame} {X t0:TypeId} {f:FuncId} {pos:String} {P:Program} {R rest:List Nat} {k k2:List Item} {Z:Array Oper} {Y l l' xs:List Frame} {af:Array Edge} {U T':Array Value} {S:Array Field} {es:Array Event} {gd:Option (Nat × Bool)}
namespace Go.Proofs.YtmicddpknimniaaGreatDoor
def sd:=@List.mem_toArray
def sN:=@Array.size_replicate
def sR:=@Go.Conc.mem_seen
def sW:=@Relation.TransGen.trans
def te:=@List.contains_cons
def tM:=@Go.World.cell?_setCell_other
def uj:=@Array.getElem?_push_lt
def uu:=@Go.Conc.awake_of
def uw:=@Go.World.frozen?_setCell
def vu:=@Array.mem_append
def vP:=@Array.mem_iff_getElem
section
open Go.Conc Go.ConcN
open Go.ConcR (KK wgBlock WgAt stA smA rd wr mk Payload DC0 Bk g_of_ofEvents ofEvent_mk ofEvent_loc_mark loc_of_ofEvent bk_of_mute again_blocked)
variable [Payload]
omit [Payload] in
def pV(h:aaZ Wg e):e.loc ≠ .mark .disable/\e.loc ≠ .mark .enable/\e.loc ≠ .mark (.release (stA Wg)):=by
 obtain⟨a,_,rfl|rfl⟩:=h<;>simp[mk]
omit [Payload] in
def nu(h:aaZ Wg e){x:Touch}(b:(MemAct.ofEvent e).touch?=some x):ShN Wg x.loc/\x.kind ≠ .plain:=by
 obtain⟨a,c,rfl|rfl⟩:=h<;>(simp[mk,MemAct.ofEvent,MemAct.touch?] at b;subst b;exact⟨⟨a,rfl,c⟩,by simp⟩)
omit [Payload] in
def ajj(h:aaZ Wg e)(b:Wg<B):(MemAct.ofEvent e).low B:=by
 obtain⟨a,c,rfl|rfl⟩:=h<;>(show a.block<B;omega)
section
variable {P:Program} {ty:TypeId} {Wg C n K0:Nat} {val:Nat->Value} {aS:ak} {aM Fin:ak->ak->Goroutine->World->Prop}
 {gs:Array Goroutine} {w w':World} {sl:Option (Nat×Nat)} {j:Nat} {D:Nat->WD} {TV:Nat->jg} {R S S':ak} {O Rk:Nat->ak} {q:Nat->Nat} {tag dF:CTag} {f0 f' d0:Nat} {a a':Goroutine} {t:Trace} {st sm st' sm':Int} {es:Array Event} {T':jg}
def jO (v:gs[0]?=some a) (f:MI P ty Wg C n K0 val aS j gs w t D TV R S O Rk q d0) (o:stepG P true a w=.go a' w' es) (c:Aside Wg w w') (i:WgAt ty Wg w' st' sm') (k:∀e∈es,Bk Wg e)
  (z:eQ P ty Wg C n val aM Fin dF j R S (TV 0) f' (deafBehind d0 es) a' w') (r:ConcN.Mode j D dF st' sm')
  (l:phi n (Vc j D) dF<phi n (Vc j D) tag\/(phi n (Vc j D) dF=phi n (Vc j D) tag/\f'<f0)) :
  ∃d g s,runT P (crowd gs w sl) 0=(.next d,g)/\aaY (n+1) s (phi n (Vc j D) tag+Ssum j D,(TV,f0+2*Fsum j D+2*sumTo (K0+1) q))/\aae P ty Wg C n K0 val aS aM Fin s d (t++g):=by
 obtain⟨y,p,m⟩:=f.pay;exact jA v f o (mu c.size.symm) (λu _=>f.wgO c ⟨_,_,i⟩ u) (λb x=>.inl x) (arJ k) (norel_of_Bk k) (ahH (by rw[c.size];exact f.cj.wlt) k) ⟨y,(c.block C f.cj.cw).trans p,m⟩ z i r
  (l.imp id λx=>⟨x.1,.inr ⟨rfl,x.2⟩⟩)
def ax6 (v:gs[0]?=some a) (f:MI P ty Wg C n K0 val aS j gs w t D TV R S O Rk q d0) (o:stepG P true a w=.go a' w' es) (c:Aside Wg w w') (i:WgAt ty Wg w' st' sm') (k:∀e∈es,Bk Wg e)
  (z:eQ P ty Wg C n val aM Fin dF j R S T' f' (deafBehind d0 es) a' w') (r:ConcN.Mode j D dF st' sm') (l:phi n (Vc j D) dF<phi n (Vc j D) tag) :
  ∃d g s,runT P (crowd gs w sl) 0=(.next d,g)/\aaY (n+1) s (phi n (Vc j D) tag+Ssum j D,(TV,f0+2*Fsum j D+2*sumTo (K0+1) q))/\aae P ty Wg C n K0 val aS aM Fin s d (t++g):=by
 obtain⟨y,p,m⟩:=f.pay;exact jA v f o (mu c.size.symm) (λu _=>f.wgO c ⟨_,_,i⟩ u) (λb x=>.inl x) (arJ k) (norel_of_Bk k) (ahH (by rw[c.size];exact f.cj.wlt) k) ⟨y,(c.block C f.cj.cw).trans p,m⟩ z i r (.inl l)
def nz (v:gs[0]?=some a) (k:MI P ty Wg C n K0 val aS j gs w t D TV R S O Rk q d0) (y:WgAt ty Wg w st sm) (u:ConcN.Mode j D tag st sm) (l:stepG P true a w=.go a' w' es) (s:DSd Wg w w' es)
  (z:eQ P ty Wg C n val aM Fin tag j R S (TV 0) f' d0 a' w') (r:f'<f0) :
  ∃f i p,runT P (crowd gs w sl) 0=(.next f,i)/\aaY (n+1) p (phi n (Vc j D) tag+Ssum j D,(TV,f0+2*Fsum j D+2*sumTo (K0+1) q))/\aae P ty Wg C n K0 val aS aM Fin p f (t++i):=by
 obtain⟨rfl,c⟩:=s;have m:deafBehind d0 es=d0:=tA (λe d=>⟨(pV (c e d)).1,(pV (c e d)).2.1⟩) d0;refine jA v k l (am _) (λ_ _=>.refl _ _ _ _) (λb x=>.inl x) (λop g=> ?_) (λe d=>(pV (c e d)).2.2) (λop g=> ?_) k.pay (by rw[m];exact z) y u (.inr ⟨rfl,.inr ⟨rfl,r⟩⟩)
 .obtain⟨e,d,rfl⟩:=lP g;exact⟨rfl,λx o=>.inl ⟨alI (nu (c e d) o).1,(nu (c e d) o).2⟩⟩
 .obtain⟨e,d,rfl⟩:=lP g;exact ajj (c e d) k.cj.wlt
def alK (T:gs[0]?=some a) (c:MI P ty Wg C n K0 val aS j gs w t D TV R S O Rk q d0) (K:WgAt ty Wg w st sm) (Q:ConcN.Mode j D tag st sm) (G:stepG P true a w=.go a' w' es) (f:Gua Wg C (2*n) R noC S S' w w' es)
  (U:eQ P ty Wg C n val aM Fin tag j R S' T' f' d0 a' w') (L:jg.Lt T' (TV 0)) :
  ∃o s H,runT P (crowd gs w sl) 0=(.next o,s)/\aaY (n+1) H (phi n (Vc j D) tag+Ssum j D,(TV,f0+2*Fsum j D+2*sumTo (K0+1) q))/\aae P ty Wg C n K0 val aS aM Fin H o (t++s):=by
 have B:deafBehind d0 es=d0:=tA (λe p=>⟨(f.ev e p).dis,(f.ev e p).en⟩) d0;have l:Wg<w.heap.size/\¬S Wg/\Wg≠C:=⟨c.cj.wlt,c.cj.ws,λe=>c.cj.cw e.symm⟩;have g:=c.cj.awt f.size f.new;refine jA T c G f.size (λd _=>.alF f (λb z=>z.elim (λx=>⟨c.cj.olt d b x,λy=>c.cj.os d b x y,λe=>c.cj.co d (e▸x)⟩) λx=>⟨c.cj.rlt b (c.cj.rk d b x),λy=>c.cj.rs b (c.cj.rk d b x) y,λe=>c.cj.cr (e▸c.cj.rk d b x)⟩) (λi _ y=>y.elim) l)
  f.new (λop A=> ?_) (λe p=>(f.ev e p).rel) (anw f.ev) (f.pay c.pay) (by rw[B];exact U) (K.of_block (f.keep Wg l.1 l.2.1 l.2.2)) Q (.inr ⟨rfl,.inl L⟩)
 obtain⟨e,p,rfl⟩:=lP A;refine⟨rfl,λx N=>.inr ?_⟩;have u:∀{Z:ak},(¬Z Wg)->(∀b,aS b->¬Z b)->In Z x.loc->¬Shr Wg aS x.loc:=λF E v ⟨M,e,h⟩=>by
  have:=In.block v e;rcases h with h|h
  .rw[h] at this;exact F this
  .exact E _ h this
 have r:∀{Z:ak},(∀d b,O d b->¬Z b)->(¬Z C)->In Z x.loc->∀k,¬aa0 C K0 O k x.loc:=λF E v k ⟨d,_,h⟩=>by
  rcases h with h|⟨M,e,h,_⟩
  .exact In.no (F d) h v
  .have:=In.block v e;rw[h] at this;exact E this
 rcases(f.ev e p).touch x N with m|⟨_,_,_,m⟩|⟨m,J⟩
 .refine⟨u g.ws g.shs m,λk _ _=>r g.os g.cs m k,λ_ k _ _ ⟨d,_,hr⟩=> ?_⟩;exact In.no (λb z=>g.rs b (c.cj.rk d b z)) hr m
 .exact m.elim
 .refine⟨u c.cj.wr c.cj.shr m,λk _ _=>r c.cj.orr c.cj.cr m k,λI=> ?_⟩;rw[J] at I;cases I
def apa (hn:n<2147483648) (b8:∀R S g w,aM R S g w->∃m,GP P ty Wg C n R S (MW1 P ty Wg C n R S aM Fin) m g w)
  (v:gs[0]?=some a) (lh:eQ P ty Wg C n val aM Fin tag j R S (TV 0) f0 d0 a w) (k:MI P ty Wg C n K0 val aS j gs w t D TV R S O Rk q d0) (o:WgAt ty Wg w st sm) (z:ConcN.Mode j D tag st sm) (af:a.status=.running) :
  (∃B M,runT P (crowd gs w sl) 0=(.next B,M)/\anv P ty Wg C n K0 val aS Fin B (t++M))\/
  (∃B M lS,runT P (crowd gs w sl) 0=(.next B,M)/\aaY (n+1) lS (phi n (Vc j D) tag+Ssum j D,(TV,f0+2*Fsum j D+2*sumTo (K0+1) q))/\aae P ty Wg C n K0 val aS aM Fin lS B (t++M)):=by
 have b5:=Vc_le j D;have F:RM ty Wg C n R S w w:=.refl _ _ _ _;have ao:∀{m':Nat} {tag:CTag},j=n->d0=1->isOpen tag->pend tag=0->phi n (Vc n D) .w1<=phi n (Vc n D) tag->f0=f0->(tag=.w1->m'<=f0)->ConcN.Mode j D tag st sm->GP P ty Wg C n R S (MW1 P ty Wg C n R S aM Fin) m' a w->
   (∃B M lS,runT P (crowd gs w sl) 0=(.next B,M)/\aaY (n+1) lS (phi n (Vc j D) tag+Ssum j D,(TV,f0+2*Fsum j D+2*sumTo (K0+1) q))/\aae P ty Wg C n K0 val aS aM Fin lS B (t++M)):=by
  intro m' tag hj hd J hp T _ hm z h;subst hj hd;have a3:ConcN.Mode j D .w1 st sm:=z.reopen J trivial (by rw[hp];rfl) (by simp);rcases rJ h with E|⟨m',rfl,c⟩
  .obtain⟨_,N⟩:=E w F;obtain⟨W,rfl,rfl,_⟩:=a3.open_inv trivial;obtain⟨a',d,h0,ay⟩:=N (Vc j D) (by omega) (by simpa[pend] using o);by_cases hv:Vc j D=0
   .obtain⟨s,A⟩:=h0 hv;refine jO v k d (.refl Wg w) o bk_rd (dF:=.ke) (.ke A) ?_ (.inl (by simp only[phi] at T ⊢;omega));have e:((Vc j D+pend .w1:Nat):Int)*KK=0:=by rw[hv];simp[pend]
    rw[e];exact .fin trivial (allQuit_of W hv)
   .obtain⟨s,A⟩:=ay hv;exact jO v k d (.refl Wg w) o bk_rd (dF:=.w2 (Vc j D)) (.w2 A) (a3.reopen trivial trivial rfl (λvs e=>by cases e;omega)) (.inl (by simp only[phi] at T ⊢;omega))
  .obtain⟨a',w',es,d,K,I⟩:=c w F;rcases Nat.lt_or_eq_of_le T with T|T
   .obtain⟨rfl,U⟩:=K;have b3:deafBehind 1 es=1:=tA (λe he=>⟨(pV (U e he)).1,(pV (U e he)).2.1⟩) 1;refine jA v k d (am _) (λ_ _=>.refl _ _ _ _) (λb x=>.inl x) (λop J=> ?_) (λe he=>(pV (U e he)).2.2) (λop J=> ?_) k.pay (T':=TV 0) (dF:=.w1) (by rw[b3];exact .w1 I) o a3 (.inl T)
    .obtain⟨e,he,rfl⟩:=lP J;exact⟨rfl,λx Y=>.inl ⟨alI (nu (U e he) Y).1,(nu (U e he) Y).2⟩⟩
    .obtain⟨e,he,rfl⟩:=lP J;exact ajj (U e he) k.cj.wlt
   .have aN:tag=.w1:=by
     cases tag<;>first|rfl|exact J.elim|(simp only[phi] at T;omega)
    subst aN;exact nz v k o z d K (.w1 I) (by have:=hm rfl;omega)
 cases lh with
 |skd Z h=>
  rcases h.cases with E|⟨f,hT,_,c⟩
  .obtain⟨_,a',d,s,A⟩:=E w F;exact .inr (jO v k d (.refl Wg w) o bk_dis (.sa1 Z A) (z.reopen trivial trivial rfl (by simp)) (.inl (by simp only[phi];omega)))
  .obtain⟨a',w',es,S',d,hG,V⟩:=c w F;exact .inr (alK v k o z d hG (.skd Z V) (by rw[hT];exact⟨f,w,rfl,rfl⟩))
 |sa1 Z h=>
  rename_i r;rcases rJ h with E|⟨m',rfl,c⟩
  .obtain⟨_,N⟩:=E w F;obtain⟨W,rfl,rfl,_⟩:=z.open_inv trivial;obtain⟨a',d,s,A⟩:=N (Vc (n-(r+1)) D) (by omega) (by simpa[pend] using o);refine .inr (jO v k d (sG w (stA Wg) _) (o.setSt _) bk_rw (.ske Z A) ?_ (.inl (by simp only[phi];omega)));have e:(((Vc (n-(r+1)) D:Nat):Int)+1)*KK=((Vc (n-(r+1)) D+pend (.sp r 3):Nat):Int)*KK:=by simp[pend]
   rw[e];exact .opn trivial W (by simp)
  .obtain⟨a',w',es,d,K,I⟩:=c w F;exact .inr (nz v k o z d K (.sa1 Z I) (by omega))
 |ske Z h=>
  rcases rJ h with E|⟨m',rfl,c⟩
  .obtain⟨_,a',d,ba,A⟩:=E w F;exact .inr (ax6 v k d (.refl Wg w) o bk_en (.sgo Z A) (z.reopen trivial trivial rfl (by simp)) (by simp only[phi];omega))
  .obtain⟨a',w',es,d,K,I⟩:=c w F;exact .inr (nz v k o z d K (.ske Z I) (by omega))
 |sgo Z h=>
  rename_i r;rcases h.cases with E|⟨f,hT,_,c⟩
  .obtain⟨_,a',H,X,b2,hX,aJ,eB⟩:=E w F;obtain⟨W,rfl,rfl,_⟩:=z.open_inv trivial;obtain⟨Tc,ad⟩:=aJ k.pay ⟨_,_,o⟩;obtain⟨l,b4⟩:∃l,n-(r+1)=l:=⟨_,rfl⟩;rw[b4] at k o z W ad b5 ⊢;have G:=runT_crowd_spawn (P:=P) (sl:=sl) (i:=0) v (by simpa using b2);rw[k.size] at G;have a9:=k.cj.hand l hX;have b7:=k.ti.fork (X:=X) (m':=0) a9.apart (x:={g:=0,fn:=a.frame.fn,pos:=a.frame.place,act:=.go (K0+1+l)}) (y:={g:=K0+1+l,fn:=H.frame.fn,pos:=a.frame.place,act:=.start})
    ⟨rfl,by rw[show K0+1+l=K0+l+1 by omega]⟩ ⟨by show K0+1+l=_;omega,rfl⟩
   have eV:Vc (l+1) (upd D l ⟨7,0,0⟩)=Vc l D+1:=by
    simp only[Vc,sumTo,qe];rw[sumTo_upd_out D _ cnt (am _)];rfl
   have eS:Ssum (l+1) (upd D l ⟨7,0,0⟩)=Ssum l D+7:=by
    simp only[Ssum,sumTo,qe];rw[sumTo_upd_out D _ WD.stage (am _)]
   have nW:OpenSt (l+1) (upd D l ⟨7,0,0⟩):=λi hi=>by
    by_cases e:i=l
    .subst e;rw[qe];simp
    .rw[qI D _ e];exact W i (by omega)
   have ax:((gs.setIfInBounds 0 a').push H)[0]?=some a':=by
    have an:0<gs.size:=by rw[k.size];omega
    rw[uj (by simpa using an),<-fm];simp[an]
   have ej:l+1=n-r:=by omega
   have a7:∀dF,pend dF=0->((Vc l D+pend (.sp r 2):Nat):Int)*KK=((Vc (l+1) (upd D l ⟨7,0,0⟩)+pend dF:Nat):Int)*KK:=λdF hp=>by rw[eV,hp];simp[pend]
   have mi:∀T0,MI P ty Wg C n K0 val aS (l+1) ((gs.setIfInBounds 0 a').push H) w (t++#[{g:=0,fn:=a.frame.fn,pos:=a.frame.place,act:=.go (K0+1+l)},{g:=K0+1+l,fn:=H.frame.fn,pos:=a.frame.place,act:=.start}]) (upd D l ⟨7,0,0⟩) (upd (upd TV (l+1) Tc) 0 T0) (λb=>S b\/R b) (λ_=>False) O (upd Rk l X) q 0:=λT0=>by
    refine⟨by simp[k.size];omega,λi x a5 hi Y=> ?_,λu gz=> ?_,b7,a9,λu gz hs=> ?_,k.pay,λu gz=>k.unO u (by omega)⟩
    .rw[uj (by simp[k.size];omega),<-fm,ip (by omega)] at Y;rw[Deaf_still t i _ (λop J=>by simp at J;rcases J with rfl|rfl<;>simp)];exact k.old i x a5 hi Y
    .rw[qI _ _ (show u+1≠0 by omega)];rcases oR u l with a0|nT
     .obtain⟨g,hg,b6⟩:=k.wk u a0;refine⟨g, ?_,by rw[qI D _ (by omega),qI Rk _ (by omega),qI TV _ (by omega)];exact b6⟩;rw[uj (by simp[k.size];omega),<-fm,ip (by omega)];exact hg
     .obtain rfl:u=l:=by omega
      refine⟨H, ?_,by rw[qe,qe,qe,k.unO u (am _)];exact .work ad⟩;rw[show K0+1+u=(gs.setIfInBounds 0 a').size by simp[k.size],qO]
    .rcases oR u l with a0|nT
     .rw[qI D _ (by omega)] at hs;exact k.has u a0 hs
     .obtain rfl:u=l:=by omega
      rw[qe] at hs;simp at hs
   cases r with
   |zero=>
    obtain⟨Q,A⟩:=eB;have a4:l+1=n:=by omega
    have a2:eQ P ty Wg C n val aM Fin .kd (l+1) (λb=>S b\/R b) (λ_=>False) (upd (upd TV (l+1) Tc) 0 Q 0) 0 0 a' w:=by
     rw[qe,a4];exact .kd A
    refine .inr ⟨_,_,(phi n (Vc (l+1) (upd D l ⟨7,0,0⟩)) .kd+Ssum (l+1) (upd D l ⟨7,0,0⟩),(upd (upd TV (l+1) Tc) 0 Q,0+2*Fsum (l+1) (upd D l ⟨7,0,0⟩)+2*sumTo (K0+1) q)),G,Prod.Lex.left _ _ (by simp only[phi];omega),
     _,w,sl,l+1,_,_,_,_,O,_,q,.kd,0,0,a',_,_,rfl,ax,a2,mi Q,o, ?_,rfl⟩
    rw[a7 .kd rfl];exact .opn trivial nW (by simp)
   |succ r'=>
    obtain⟨Q,A⟩:=eB;have a4:l+1=n-(r'+1):=by omega
    have a2:eQ P ty Wg C n val aM Fin (.sp r' 5) (l+1) (λb=>S b\/R b) (λ_=>False) (upd (upd TV (l+1) Tc) 0 Q 0) 0 0 a' w:=by
     rw[qe,a4];exact .skd (by omega) A
    refine .inr ⟨_,_,(phi n (Vc (l+1) (upd D l ⟨7,0,0⟩)) (.sp r' 5)+Ssum (l+1) (upd D l ⟨7,0,0⟩),(upd (upd TV (l+1) Tc) 0 Q,0+2*Fsum (l+1) (upd D l ⟨7,0,0⟩)+2*sumTo (K0+1) q)),G,Prod.Lex.left _ _ (by simp only[phi];omega),
     _,w,sl,l+1,_,_,_,_,O,_,q,.sp r' 5,0,0,a',_,_,rfl,ax,a2,mi Q,o, ?_,rfl⟩
    rw[a7 (.sp r' 5) rfl];exact .opn trivial nW (by simp)
  .obtain⟨a',w',es,S',d,hG,V⟩:=c w F;exact .inr (alK v k o z d hG (.sgo Z V) (by rw[hT];exact⟨f,w,rfl,rfl⟩))
 |kd h=>
  rcases h.cases with E|⟨f,hT,_,c⟩
  .obtain⟨_,a',d,s,A⟩:=E w F;exact .inr (jO v k d (.refl Wg w) o bk_dis (.anch A) (z.reopen trivial trivial rfl (by simp)) (.inl (by simp only[phi];omega)))
  .obtain⟨a',w',es,S',d,hG,V⟩:=c w F;exact .inr (alK v k o z d hG (.kd V) (by rw[hT];exact⟨f,w,rfl,rfl⟩))
 |anch h=>
  rcases rJ h with E|⟨m',rfl,c⟩
  .obtain⟨s,A⟩:=b8 R S a w (E w F);exact .inr (ao rfl rfl trivial rfl (by simp only[phi];omega) rfl (by simp) z A)
  .obtain⟨a',w',es,d,K,I⟩:=c w F;exact .inr (nz v k o z d K (.anch I) (by omega))
 |w1 h=>exact .inr (ao rfl rfl trivial rfl (am _) rfl (λ_=>am _) z h)
 |w2 h=>
  rename_i vs;rcases rJ h with E|⟨m',rfl,c⟩
  .obtain⟨_,N⟩:=E w F;obtain⟨W,rfl,rfl,aO⟩:=z.open_inv trivial;obtain⟨bb,h1⟩:=aO vs rfl;obtain⟨aZ,b1⟩:=N (Vc n D) (by omega) (by simpa[pend] using o);by_cases e:Vc n D=vs
   .obtain⟨a',d,s,A⟩:=aZ e;exact .inr (jO v k d (sG w (stA Wg) _) (o.setSt _) bk_rw (.w3 A) (.reg trivial W (by omega)) (.inl (by simp only[phi];omega)))
   .obtain⟨a',d,s,A⟩:=b1 e;exact .inr (jO v k d (.refl Wg w) o bk_rd (.anch A) (z.reopen trivial trivial rfl (by simp)) (.inl (by simp only[phi];omega)))
  .obtain⟨a',w',es,d,K,I⟩:=c w F;exact .inr (nz v k o z d K (.w2 I) (by omega))
 |w3 h=>
  rcases rJ h with E|⟨m',rfl,c⟩
  .obtain⟨_,b9,a1,nI⟩:=E w F;cases z with
   |opn h1 _ _=>exact h1.elim
   |reg h1 h2 h3=>exact .inr (jO v k (a1 ⟨_,o⟩) (.refl Wg w) o (by simp) (.blk E) (.reg trivial h2 h3) (.inr ⟨rfl,by omega⟩))
   |last L h1 h2 h3 h4=>exact .inr (jO v k (a1 ⟨_,o⟩) (.refl Wg w) o (by simp) (.blk E) (.last L trivial h2 h3 h4) (.inr ⟨rfl,by omega⟩))
   |sema h2=>
    obtain⟨a',d,s,A⟩:=nI o;exact .inr (jO v k d (sG w (smA Wg) _) (o.setSm 0) bk_sem (.w4 A) (.fin trivial h2) (.inl (by simp only[phi];omega)))
   |fin h1 _=>exact h1.elim
  .obtain⟨a',w',es,d,K,I⟩:=c w F;exact .inr (nz v k o z d K (.w3 I) (by omega))
 |blk h=>simp at af
 |w4 h=>
  rcases rJ h with E|⟨m',rfl,c⟩
  .obtain⟨_,Y⟩:=E w F;obtain⟨hq,rfl,rfl⟩:=z.fin_inv trivial;obtain⟨a',d,s,A⟩:=Y o;exact .inr (jO v k d (.refl Wg w) o bk_rd (.ke A) (.fin trivial hq) (.inl (by simp only[phi];omega)))
  .obtain⟨a',w',es,d,K,I⟩:=c w F;exact .inr (nz v k o z d K (.w4 I) (by omega))
 |ke h=>
  rcases rJ h with E|⟨m',rfl,c⟩
  .obtain⟨_,a',d,s,A⟩:=E w F;obtain⟨hq,rfl,rfl⟩:=z.fin_inv trivial;exact .inr (jO v k d (.refl Wg w) o bk_en (.acq A) (.fin trivial hq) (.inl (by simp only[phi];omega)))
  .obtain⟨a',w',es,d,K,I⟩:=c w F;exact .inr (nz v k o z d K (.ke I) (by omega))
 |acq h=>
  rcases rJ h with E|⟨m',rfl,c⟩
  .obtain⟨_,a',d,b0⟩:=E w F;obtain⟨hq,rfl,rfl⟩:=z.fin_inv trivial;have G:=sY (P:=P) (sl:=sl) (i:=0) v (by simpa using d);have h6:∀u,u<n->(D u).stage<=6:=λu gz=>by rw[hq u gz];omega
   have al:=k.ti.join h6 k.cj.apart a.frame.fn a.frame.place k.cj.wlt;refine .inl ⟨_,_,G,_,w,sl,a',λi=>if i<=K0 then q i else(D (i-(K0+1))).fuel,R,S,rfl,ur _ _ _ (by rw[k.size];omega),by simp[k.size],b0,⟨λi x a5 Y=> ?_,λi hi=> ?_⟩,al,k.pay,λu gz=>k.has u gz (h6 u gz),⟨_,_,o⟩,λb hb=> ?_⟩
   .rw[sO _ _ _ _ (by omega)] at Y;obtain⟨y,hy,rfl⟩:=io.1 Y;rw[rb t (g':=0) (by omega) _ g_of_ofEvents];by_cases hi:i<=K0
    .have aa:=k.old i y a5 hi hy;rw[sQ aa];simp only[dk hi];exact aa
    .have a0:i<K0+1+n:=by have:=(de.1 hy).1;rw[k.size] at this;omega
     obtain⟨u,rfl⟩:∃u,i=K0+1+u:=⟨i-(K0+1),by omega⟩;obtain⟨g',I,a8⟩:=k.wk u (by omega);rw[hy] at I;cases I;have hd:=k.ti.deafW u (by omega);have h1:=hq u (by omega);rw[h1] at a8;have a6:QuitsD P (D u).fuel (D u).deaf y:=by
      cases a8 with
      |rest _ h=>exact h.quits rfl
     rw[sQ a6,hd];simp only[be hi];rw[show K0+1+u-(K0+1)=u by omega];exact a6
   .refine Deaf_absent λp op W e=> ?_;have h1:=al.gs op (qw W);simp[k.size] at hi;omega
   .rcases hb with hb|rfl
    .exact⟨k.cj.shr b hb,k.cj.shs b hb,λe=>k.cj.shc (e▸hb),k.cj.ajf b hb⟩
    .exact⟨k.cj.wr,k.cj.ws,λe=>k.cj.cw e.symm,k.cj.wlt⟩
  .obtain⟨a',w',es,d,K,I⟩:=c w F;exact .inr (nz v k o z d K (.acq I) (by omega))
end
end
section
open Go.Conc Go.ConcN
open Go.ConcR (KK wgBlock WgAt stA smA rd wr mk Payload DC0 Bk g_of_ofEvents ofEvent_mk ofEvent_loc_mark loc_of_ofEvent bk_of_mute again_blocked)
variable [Payload]
section
variable {P:Program} {ty:TypeId} {Wg C n K0:Nat} {val:Nat->Value} {aS:ak} {aM Fin:ak->ak->Goroutine->World->Prop}
 {gs:Array Goroutine} {w:World} {sl:Option (Nat×Nat)} {j:Nat} {D:Nat->WD} {TV:Nat->jg} {R S:ak} {O Rk:Nat->ak} {q:Nat->Nat} {tag:CTag} {f0 d0:Nat} {a:Goroutine} {t:Trace} {st sm:Int}
def afE(d:∀R S g w,aM R S g w->g.status=.running)(r:gs[0]?=some a)(m:eQ P ty Wg C n val aM Fin tag j R S (TV 0) f0 d0 a w)(f:MI P ty Wg C n K0 val aS j gs w t D TV R S O Rk q d0)(p:ConcN.Mode j D tag st sm) :
  ∃(i:Nat) (g:Goroutine),gs[i]?=some g/\g.status=.running:=by
 rcases m.status d with⟨b,_⟩|⟨_,rfl⟩
 .exact⟨0,a,r,b⟩
 .cases p with
  |opn e _ _=>exact e.elim
  |reg _ _ k=>
   obtain⟨i,o,s⟩:=exists_counted k;obtain⟨g,c,b⟩:=f.wk i o;exact⟨K0+1+i,g,c,b.running_of (by omega)⟩
  |last L _ l k _=>
   obtain⟨g,c,b⟩:=f.wk L l;exact⟨K0+1+L,g,c,b.running_of (by omega)⟩
  |fin e _=>exact e.elim
def alO(f:∀R S g w,aM R S g w->g.status=.running)(s:gs[0]?=some a)(p:eQ P ty Wg C n val aM Fin tag j R S (TV 0) f0 d0 a w)(d:MI P ty Wg C n K0 val aS j gs w t D TV R S O Rk q d0):∀g∈gs,awake g:=by
 intro g r;obtain⟨i,c⟩:=vH.1 r;rcases pa i with rfl|o
 .rw[s] at c;cases c;rcases p.status f with⟨b,_⟩|⟨b,_⟩
  .exact uu (.inl b)
  .exact uu (.inr (.inl b))
 .by_cases k:i<=K0
  .exact uu ((d.old i g o k c).status.elim .inl λx=>.inr (.inr x))
  .have m:i<K0+1+j:=by have:=(de.1 c).1;rw[d.size] at this;exact this
   obtain⟨e,rfl⟩:∃e,i=K0+1+e:=⟨i-(K0+1),by omega⟩;obtain⟨u,l,b⟩:=d.wk e (by omega);rw[c] at l;cases l;exact uu (b.status.elim .inl λx=>.inr (.inr x))
def ajk (G:n<2147483648) (f:∀R S g w,aM R S g w->g.status=.running) (y:∀R S g w,aM R S g w->∃m,GP P ty Wg C n R S (MW1 P ty Wg C n R S aM Fin) m g w) (B:Mu) (m:Machine) (t:Trace)
  (h:aae P ty Wg C n K0 val aS aM Fin B m t) :
  (∃b e,stepT P m=(.next b,e)/\anv P ty Wg C n K0 val aS Fin b (t++e))\/(∃b e F,stepT P m=(.next b,e)/\aaY (n+1) F B/\aae P ty Wg C n K0 val aS aM Fin F b (t++e)):=by
 obtain⟨gs,w,sl,j,D,TV,R,S,O,Rk,q,tag,f0,d0,a,st,sm,rfl,r,x,u,J,v,rfl⟩:=h;obtain⟨i,g,d,p,s,c,k⟩:=crowd_pick (P:=P) (w:=w) (sl:=sl) (alO f r x u) (afE f r x u v);rw[k];have A:=x.rely (.at _ _ _ w d);have o:=u.at d;have l:WgAt ty Wg (w.at d) st sm:=J;rcases pa i with rfl|I
 .rw[r] at s;cases s;exact apa (sl:=p) G y r A o l v c
 .by_cases z:i<=K0
  .exact .inr (arI (sl:=p) f r A o l v I z s c)
  .have H:i<K0+1+j:=by have:=(de.1 s).1;rw[u.size] at this;exact this
   obtain⟨E,rfl⟩:∃E,i=K0+1+E:=⟨i-(K0+1),by omega⟩;exact .inr (aji (sl:=p) G f r A o l v (by omega) s c)
def ae1(p:n<2147483648)(l:∀R S g w,aM R S g w->g.status=.running)(i:∀R S g w,aM R S g w->∃m,GP P ty Wg C n R S (MW1 P ty Wg C n R S aM Fin) m g w) :
  ∀(c:Mu) (m:Machine) (t:Trace),aae P ty Wg C n K0 val aS aM Fin c m t->∃N e d,runNT P N m t=(.next e,d)/\anv P ty Wg C n K0 val aS Fin e d:=by
 intro c
 induction c using(auF (n+1)).induction with
 |_ c r=>
  intro m t h;rcases ajk p l i c m t h with⟨a,b,j,k⟩|⟨a,b,q,j,f,k⟩
  .exact⟨1,a,t++b,by rw[runNT_succ_next j];rfl,k⟩
  .obtain⟨N,e,d,s,o⟩:=r q f a (t++b) k;exact⟨N+1,e,d,by rw[runNT_succ_next j];exact s,o⟩
def ajl (B:n<2147483648) (b:∀R S g w,aM R S g w->g.status=.running) (c:∀R S g w,aM R S g w->∃m,GP P ty Wg C n R S (MW1 P ty Wg C n R S aM Fin) m g w)
  (u:gs[0]?=some a) (o:gs.size=K0+1) (M:Leavers P t gs q) (Q:eD aS K0 w.heap.size t) (d:tI P ty Wg C n val aM n R a w) (v:WgAt ty Wg w 0 0) (p:PayAt C (2*n) w)
  (K:∀(i:Nat) (x:Touch),touchAt t i=some x->∀a,x.loc=.cell a->a.block≠Wg) (f:NoRelease (stA Wg) t) (U:Sets Wg C aS w R (λ_=>False) (λ_ _=>False) (λ_ _=>False)) :
  ∃N A s,runNT P N (crowd gs w sl) t=(.next A,s)/\anv P ty Wg C n K0 val aS Fin A s:=by
 have y:∀T0,MI P ty Wg C n K0 val aS 0 gs w t (λ_=>⟨0,0,0⟩) (upd (λ_=>jg.leaf) 0 T0) R (λ_=>False) (λ_ _=>False) (λ_ _=>False) q 0:=λT0=>
  ⟨o,λi g z _ J=>M.old i g z J,λI G=>by omega,.begin Q K f,U,λI G=>by omega,p,λ_ _=>rfl⟩
 have E:∀tag,isOpen tag->pend tag=0->(∀l,tag ≠ .w2 l)->ConcN.Mode 0 (λ_=>(⟨0,0,0⟩:WD)) tag 0 0:=λtag L H O=>by
  have:=ConcN.Mode.opn (j:=0) (D:=λ_=>(⟨0,0,0⟩:WD)) L (λi z=>by omega) (λl e=>absurd e (O l));simpa[Vc,sumTo,H] using this
 cases n with
 |zero=>
  obtain⟨T,k⟩:=d;exact ae1 B b c _ _ _ ⟨gs,w,sl,0,_,_,R,_,_,_,q,.kd,0,0,a,0,0,rfl,u,.kd (by rw[qe];exact k),y T,v,E .kd trivial rfl (by simp),rfl⟩
 |succ r=>
  obtain⟨T,k⟩:=d;have F:=eQ.skd (Fin:=Fin) (Nat.lt_succ_self r) k;rw[uB] at F;exact ae1 B b c _ _ _ ⟨gs,w,sl,0,_,_,R,_,_,_,q,.sp r 5,0,0,a,0,0,rfl,u,by rw[qe];exact F,y T,v,E (.sp r 5) trivial rfl (by simp),rfl⟩
end
end
section
open Go.Conc Go.ConcN
section
variable {P:Program} {main:Bool} {Rl Rl':ak->World->World->Prop} {Gr Gr':ak->ak->World->World->Array Event->Prop} {Stop aeY:ak->Goroutine->World->Prop}
def pT.weak(i:∀S w a,Rl' S w a->Rl S w a)(k:∀S e w c d,Gr S e w c d->Gr' S e w c d)(j:∀S g w,Stop S g w->aeY S g w):∀{T:jg} {S:ak} {g:Goroutine} {w:World},pT P main Rl Gr Stop T S g w->pT P main Rl' Gr' aeY T S g w
 |.leaf,_,_,_,h=>λa b=>j _ _ _ (h a (i _ _ _ b))
 |.node f,_,_,_,h=>Or.imp (λh a b=>j _ _ _ (h a (i _ _ _ b))) (λx=>⟨x.1,λa b=>let⟨o,c,d,e,n,l,m⟩:=x.2 a (i _ _ _ b);⟨o,c,d,e,n,k _ _ _ _ _ l,pT.weak i k j m⟩⟩) h
def bD.weak(i:∀S w a,Rl' S w a->Rl S w a)(e:∀S d w b c,Gr S d w b c->Gr' S d w b c)(f:∀S g w,Stop S g w->aeY S g w){S:ak}{g:Goroutine}(h:bD P main Rl Gr Stop S g w):bD P main Rl' Gr' aeY S g w:=
 let⟨T,h⟩:=h;⟨T,pT.weak i e f h⟩
end
def RlB(_:ak)(w w₁:World):Prop:=AtRel w w₁
def GrB(aS:ak)(_ _:ak)(w w':World)(es:Array Event):Prop:=
 w.heap.size<=w'.heap.size/\∀e∈es,(∀x,(MemAct.ofEvent e).touch?=some x->¬ShL aS x.loc)/\e.loc ≠ .mark .disable/\e.loc ≠ .mark .enable/\(MemAct.ofEvent e).low w'.heap.size
section
variable {aS:ak} {K B B':Nat} {t u:Trace}
def eD.own(h:eD aS K B t)(u:B<=B'){fn:FuncId}(d:∀e∈es,(∀x,(MemAct.ofEvent e).touch?=some x->¬ShL aS x.loc)/\e.loc ≠ .mark .disable/\e.loc ≠ .mark .enable/\(MemAct.ofEvent e).low B') :
  eD aS K B' (t++MemOp.ofEvents 0 fn pos es):=by
 have k:∀op∈MemOp.ofEvents 0 fn pos es,op.g=0:=λop c=>by obtain⟨e,_,rfl⟩:=lP c;rfl
 refine⟨λg=>noRace_append (h.clean g) k λi a s op c b p v=> ?_,λi op x j n r=> ?_,h.quiet.app λop c x n m=> ?_,handedOver_app h.over λop c=>.inl (k op c), ?_,seen_app (acN h.seen u) λop c=> ?_,λop c=> ?_⟩
 .obtain⟨e,f,rfl⟩:=lP c;obtain⟨op,j,o⟩:=touch_of s;exact h.known i op a j o λm=>(d e f).1 b p (v.1▸m)
 .rcases ru j with⟨_,q⟩|⟨_,l⟩
  .exact(h.known i op x q n r).app _
  .have:=knows_own j;rwa [k op l] at this
 .obtain⟨e,f,rfl⟩:=lP c;exact absurd m ((d e f).1 x n)
 .rw[Deaf_own,h.hears];exact deafBehind_still (λe f=>⟨(d e f).2.1,(d e f).2.2.1⟩) 0
 .obtain⟨e,f,rfl⟩:=lP c;exact(d e f).2.2.2
 .rcases vu.1 c with c|c
  .exact h.gs op c
  .rw[k op c];exact fb _
def eD.mute(h:eD aS K B t){g:Nat}(m:g≠0)(n:g<=K){fn:FuncId}(q:∀e∈es,e.mute=true):eD aS K B (t++MemOp.ofEvents g fn pos es):=by
 have l:∀op∈MemOp.ofEvents g fn pos es,op.g=g:=λop c=>by obtain⟨e,_,rfl⟩:=lP c;rfl
 have j:∀op∈MemOp.ofEvents g fn pos es,op.act.touch?=none:=λop c=>by obtain⟨e,o,rfl⟩:=lP c;exact touch_mute (q e o)
 refine⟨λf=>noRace_append (h.clean f) l λi a _ op c b p _=>(by rw[j op c] at p;cases p),λi op x r d s=> ?_,h.quiet.app λop c x d _=>(by rw[j op c] at d;cases d),handedOver_app h.over λop c=>.inr (j op c),(rb t m _ l).trans h.hears,seen_app h.seen λop c=> ?_,λop c=> ?_⟩
 .rcases ru r with⟨_,u⟩|⟨_,k⟩
  .exact(h.known i op x u d s).app _
  .rw[j op k] at d;cases d
 .obtain⟨e,o,rfl⟩:=lP c;exact low_mute (q e o) B
 .rcases vu.1 c with c|c
  .exact h.gs op c
  .rw[l op c];exact n
def eD.nil(B:Nat):eD (λ_=>False) 0 B #[]:=
 ⟨λd=>by rintro⟨i,j,_,⟨a,b,e,_⟩,_⟩;simp[Trace.act?] at e,λi op x c=>by simp at c,λi op x c=>by simp at c,λi g f=>by simp[Trace.g?] at f,rfl,by simp,by simp⟩
end
structure ax7 (Gr:ak->ak->World->World->Array Event->Prop) (TQ:Nat->Nat->Trace->Prop):Prop where
 own:∀{K:Nat} {t:Trace} {S S':ak} {w w':World} {es:Array Event} (fn:FuncId) (pos:String),Gr S S' w w' es->TQ K w.heap.size t->TQ K w'.heap.size (t++MemOp.ofEvents 0 fn pos es)
 mute:∀{K B:Nat} {t:Trace} {g:Nat} {es:Array Event} (fn:FuncId) (pos:String),g≠0->g<=K->(∀e∈es,e.mute=true)->TQ K B t->TQ K B (t++MemOp.ofEvents g fn pos es)
def aa3{aS:ak}:ax7 (GrB aS) (eD aS):=⟨λ_ _ b a=>a.own b.1 b.2,λ_ _ e c d a=>a.mute e c d⟩
section
variable {P:Program} {TQ:Nat->Nat->Trace->Prop} {Gr:ak->ak->World->World->Array Event->Prop} (HT:ax7 Gr TQ) {Stop:ak->Goroutine->World->Prop}
include HT
theorem ajm(T:jg):∀(M:Nat) (l:Array Goroutine) (a:Goroutine) (w:World) (sl:Option (Nat×Nat)) (t:Trace) (q:Nat->Nat) (S:ak),sumTo l.size q<=M->l[0]?=some a->Leavers P t l q->TQ (l.size-1) w.heap.size t->
  pT P true RlB Gr Stop T S a w->
  ∃(N:Nat) (o:Array Goroutine) (z:Goroutine) (Q:World) (r:Option (Nat×Nat)) (X:Trace) (q':Nat->Nat) (S':ak),
   runNT P N (crowd l w sl) t=(.next (crowd o Q r),X)/\o.size=l.size/\o[0]?=some z/\Stop S' z Q/\Leavers P X o q'/\TQ (l.size-1) Q.heap.size X:=by
 induction T using jg.wf.induction with
 |_ T a3=>
 intro M
 induction M with
 |zero=> 
  intro l a w sl t q S hM W B hP hG;rcases hG.cases with bW|⟨f,rfl,p,v⟩
  .exact⟨0,l,a,w,sl,t,q,S,rfl,rfl,W,bW w (atRel_refl w),B,hP⟩
  have a0:∀g∈l,awake g:=by
   intro g R;obtain⟨i,s,rfl⟩:=vP.1 R;rcases pa i with rfl|gK
   .have:l[0]=a:=by simpa[fm s] using W
    rw[this];exact uu (.inl p)
   .exact uu ((B.old i _ gK (fm s)).status.elim .inl λx=>.inr (.inr x))
  obtain⟨i,g,d,r,s,R,Z⟩:=crowd_pick (P:=P) (w:=w) (sl:=sl) a0 ⟨0,a,W,p⟩;have C:i<l.size:=(de.1 s).1;rcases pa i with rfl|gK
  .obtain rfl:g=a:=by rw[W] at s;exact(dq s).symm
   obtain⟨z,Q,es,S',a2,hD,a1⟩:=v (w.at d) ⟨d,rfl⟩;have I:=sY (P:=P) (sl:=r) (i:=0) s (show stepG P (0 ==0) g (w.at d)=_ from a2);have m:((l.map (woken P g z Q)).setIfInBounds 0 z).size=l.size:=by simp
   obtain⟨N,o,O,G,K,X,q',J,hr,F,L,hS,H,u⟩:=a3 _ ⟨f,w.at d,rfl,rfl⟩ _ ((l.map (woken P g z Q)).setIfInBounds 0 z) z Q r (t++MemOp.ofEvents 0 g.frame.fn g.frame.place es) q S' (am _) (by simp[C])
    ⟨λj x A V=>by
     have E:0≠j:=by omega
     rw[ip E,qY] at V;obtain⟨y,hy,rfl⟩:=io.1 V;have D:=B.old j y A hy;rw[sQ D,rb t (by omega) _ (λop n=>by obtain⟨e,_,rfl⟩:=lP n;rfl)];exact D,λj A=>by
     rw[rb t (g':=0) (by simp at A;omega) _ (λop n=>by obtain⟨e,_,rfl⟩:=lP n;rfl)];exact B.above j (by simpa using A)⟩
    (by rw[m];exact HT.own _ _ hD hP) a1
   exact⟨N+1,o,O,G,K,X,q',J,by simp only[runNT,Z,I];exact hr,F.trans m,L,hS,H,by rw[m] at u;exact u⟩
  .have D:=B.old i g gK s;have:q i<=sumTo l.size q:=le_sumTo C;have U:q i=0:=by omega
   rw[U] at D;rw[D.1] at R;cases R
 |succ M ih=>
  intro l a w sl t q S hM W B hP hG;rcases hG.cases with bW|⟨f,rfl,p,v⟩
  .exact⟨0,l,a,w,sl,t,q,S,rfl,rfl,W,bW w (atRel_refl w),B,hP⟩
  have a0:∀g∈l,awake g:=by
   intro g R;obtain⟨i,s,rfl⟩:=vP.1 R;rcases pa i with rfl|gK
   .have:l[0]=a:=by simpa[fm s] using W
    rw[this];exact uu (.inl p)
   .exact uu ((B.old i _ gK (fm s)).status.elim .inl λx=>.inr (.inr x))
  obtain⟨i,g,d,r,s,R,Z⟩:=crowd_pick (P:=P) (w:=w) (sl:=sl) a0 ⟨0,a,W,p⟩;have C:i<l.size:=(de.1 s).1;rcases pa i with rfl|gK
  .obtain rfl:g=a:=by rw[W] at s;exact(dq s).symm
   obtain⟨z,Q,es,S',a2,hD,a1⟩:=v (w.at d) ⟨d,rfl⟩;have I:=sY (P:=P) (sl:=r) (i:=0) s (show stepG P (0 ==0) g (w.at d)=_ from a2);have m:((l.map (woken P g z Q)).setIfInBounds 0 z).size=l.size:=by simp
   obtain⟨N,o,O,G,K,X,q',J,hr,F,L,hS,H,u⟩:=a3 _ ⟨f,w.at d,rfl,rfl⟩ _ ((l.map (woken P g z Q)).setIfInBounds 0 z) z Q r (t++MemOp.ofEvents 0 g.frame.fn g.frame.place es) q S' (am _) (by simp[C])
    ⟨λj x A V=>by
     have E:0≠j:=by omega
     rw[ip E,qY] at V;obtain⟨y,hy,rfl⟩:=io.1 V;have D:=B.old j y A hy;rw[sQ D,rb t (by omega) _ (λop n=>by obtain⟨e,_,rfl⟩:=lP n;rfl)];exact D,λj A=>by
     rw[rb t (g':=0) (by simp at A;omega) _ (λop n=>by obtain⟨e,_,rfl⟩:=lP n;rfl)];exact B.above j (by simpa using A)⟩
    (by rw[m];exact HT.own _ _ hD hP) a1
   exact⟨N+1,o,O,G,K,X,q',J,by simp only[runNT,Z,I];exact hr,F.trans m,L,hS,H,by rw[m] at u;exact u⟩
  .have D:=B.old i g gK s;have a7:(i ==0)=false:=by simp;omega
   cases U:q i with
   |zero=>rw[U] at D;rw[D.1] at R;cases R
   |succ k=>
    rw[U] at D;rcases D with⟨hf,_⟩|⟨_,g',es,hm,a5,a6⟩
    .rw[hf] at R;cases R
    have I:=sY (P:=P) (sl:=r) (i:=i) s (by rw[a7];exact a5 (w.at d));have m:((l.map (woken P g g' (w.at d))).setIfInBounds i g').size=l.size:=by simp
    have a9:sumTo l.size (upd q i k)+(k+1)=sumTo l.size q+k:=by
     have:=sumTo_upd q k id C;simpa[U] using this
    have a8:∀S a b c,RlB S a b->RlB S b c->RlB S a c:=λ_ a b c=>atRel_trans a b c;obtain⟨N,o,O,G,K,X,q',J,hr,F,L,hS,H,u⟩:=ih ((l.map (woken P g g' (w.at d))).setIfInBounds i g') a (w.at d) r (t++MemOp.ofEvents i g.frame.fn g.frame.place es) (upd q i k) S (by rw[m];omega)
     (by
      have E:i≠0:=by omega
      rw[ip E,qY,W];simp[woken_run p])
     ⟨λj x A V=>by
      by_cases Y:i=j
      .subst Y;rw[pv (by simpa using C)] at V;obtain rfl:=dq V;rw[qe,Deaf_own];exact a6
      .rw[ip Y,qY] at V;obtain⟨y,hy,rfl⟩:=io.1 V;have a4:=B.old j y A hy;rw[sQ a4,qI q k (sP Y),rb t Y _ (λop n=>by obtain⟨e,_,rfl⟩:=lP n;rfl)];exact a4,λj A=>by
      rw[rb t (g':=i) (by simp at A;omega) _ (λop n=>by obtain⟨e,_,rfl⟩:=lP n;rfl)];exact B.above j (by simpa using A)⟩
     (by rw[m];exact HT.mute _ _ (by omega) (by omega) hm hP) (pT.rely a8 hG ⟨d,rfl⟩)
    exact⟨N+1,o,O,G,K,X,q',J,by simp only[runNT,Z,I];exact hr,F.trans m,L,hS,H,by rw[m] at u;exact u⟩
theorem pW{gs:Array Goroutine}{a:Goroutine}{sl:Option (Nat×Nat)}{t:Trace}{q:Nat->Nat}{S:ak}(i:gs[0]?=some a)(m:Leavers P t gs q)(k:TQ (gs.size-1) w.heap.size t)(e:bD P true RlB Gr Stop S a w) :
  ∃(N:Nat) (b:Array Goroutine) (g:Goroutine) (c:World) (f:Option (Nat×Nat)) (d:Trace) (l:Nat->Nat) (j:ak),
   runNT P N (crowd gs w sl) t=(.next (crowd b c f),d)/\b.size=gs.size/\b[0]?=some g/\Stop j g c/\Leavers P d b l/\TQ (gs.size-1) c.heap.size d:=
 let⟨T,e⟩:=e;ajm HT T _ gs a w sl t q S (am _) i m k e
end
def gZ(P:Program):Cfg->Cfg->Prop:=Relation.TransGen λa b=>aes P b a
def Rng(ρ:Ren)(w:World)(S Rr:ak):Prop:=∀b a,ρ.r b a->S a\/(Rr a/\bB w b/\NoB w b)
def my(S Rr:ak)(B:Nat)(e:Event):Prop:=
 (∀x,(MemAct.ofEvent e).touch?=some x->In S x.loc\/(In Rr x.loc/\x.write=false))/\(∀m,e.loc=.mark m->(∃f,m=.extern f)\/m=.noRoom)/\(MemAct.ofEvent e).low B
def PkG(ρ:Ren)(w w' w1 cP:World):Prop:=∀b a,ρ.r b a->Rw w b->Rw w1 b/\∀i u,ad4 u->w1.cell? ⟨b,i,none⟩=some u->w.cell? ⟨b,i,none⟩=some u/\cP.cell? ⟨a,i,none⟩=w'.cell? ⟨a,i,none⟩
def PkG.rely(h:∀b a,ρ.r b a->W.heap[a]?=w'.heap[a]?):PkG ρ w w' w W:=λ_ _ d c=>⟨c,λ_ _ _ e=>⟨e,iP (h _ _ d)⟩⟩
def PkG.anx{k : Ren}{f : World}(d:Kept ρ k w w' W f)(h:∀b e,ρ.r b e->w2.heap[e]?=f.heap[e]?):PkG ρ w w' W w2:=λ_ _ a c=>
 ⟨(d.poi a c).1,λi u g j=>⟨((d.poi a c).2 i u g j).1,(iP (h _ _ a)).trans ((d.poi a c).2 i u g j).2⟩⟩
def PkG.trans{j : Ren}{d a : World}(h:PkG ρ w w' W d)(c:ρ.Le j)(k:PkG j W d w2 a):PkG ρ w w' w2 a:=λb g e m=>by
 obtain⟨q,r⟩:=h b g e m;obtain⟨o,p⟩:=k b g (c.r e) q;refine⟨o,λi u f t=> ?_⟩;obtain⟨v,l⟩:=p i u f t;obtain⟨s,n⟩:=r i u f v;exact⟨s,l.trans n⟩
structure ajn (P:Program) (R:List Frame->World->Prop) (Rr S:ak) (ρ:Ren) (c:Cfg) (l':List Frame) (w':World):Prop where
 st:ik P ρ c.l l'
 wr:WR ρ c.w w'
 gl:GlR ρ
 will:jK P R c
 rng:Rng ρ c.w S Rr
def Rt(P':Program)(J:Nat->Bool)(l l':List Frame):Prop:=
 l'=l\/∃c d a,l=c::a/\l'=d::a/\a≠[]/\JR J c d/\∃fn,P'.funcs[c.fn]?=some fn/\∀t b:Array Value,b.size=t.size->(∀i,J i=false->b[i]?=t[i]?)->results fn b=results fn t
def lJ.mem{ρ:Ren}:∀{l b:List Event},lJ ρ l b->∀a∈b,∃e∈l,EvR ρ e a
 |_,_,.nil,_,h=>by cases h
 |_,_,.cons x y,a,h=>by
  rcases jp.1 h with rfl|h
  .exact⟨_,qQ ..,x⟩
  .obtain⟨e,c,d⟩:=lJ.mem y a h;exact⟨e,qE _ c,d⟩
section
variable {P P':Program} {R:List Frame->World->Prop} {Rr S:ak} {ρ σ:Ren} {w w' w1 cP:World} {es es':Array Event}
def Rng.step(h:Rng ρ w S Rr)(j:WR σ w1 cP)(d:Kept ρ σ w w' w1 cP):Rng σ w1 (λb=>S b\/(w'.heap.size<=b/\b<cP.heap.size)) Rr:=λb k i=>by
 rcases d.new i with f|⟨_,a⟩
 .rcases h b k f with c|⟨c,a,g⟩
  .exact .inl (.inl c)
  .have e:=(d.still f a g).1;exact .inr ⟨c,a.of_eq e,g.of_eq e⟩
 .exact .inl (.inr ⟨a,(j.lt i).2⟩)
def arL(h:Rng ρ w S Rr)(u:WR σ w1 cP)(D:Kept ρ σ w w' w1 cP)(v:EvW w σ es es'):∀e∈es',my (λb=>S b\/(w'.heap.size<=b/\b<cP.heap.size)) Rr cP.heap.size e:=by
 intro E t;obtain⟨e,A,j⟩:=v.ev.mem E (by simpa using t);have p:∀{b i},σ.r b i->(S i\/(w'.heap.size<=i/\i<cP.heap.size))\/(Rr i/\bB w b):=λ{b i} y=>by
  rcases D.new y with C|⟨_,g⟩
  .rcases h b i C with c|⟨c,g,_⟩
   .exact .inl (.inl c)
   .exact .inr ⟨c,g⟩
  .exact .inl (.inr ⟨g,(u.lt y).2⟩)
 cases j with
 |mk n wr q=>
  cases n with
  |@cell a z G=>
   have j:σ.r a.block z.block:=by cases G with|mk h o s=>exact h
   refine⟨λx k=> ?_,λm l=>(by cases l),(u.lt j).2⟩;have d:x=⟨.cell z,wr,if q then .atomic else .plain⟩:=by simp[MemAct.ofEvent,MemAct.touch?] at k;exact k.symm
   subst d;rcases p j with c|⟨c,g⟩
   .exact .inl c
   .cases wr with
    |false=>exact .inr ⟨c,rfl⟩
    |true=>exact absurd rfl ((v.nw _ g _ A rfl).1 _ rfl)
  |@obj r B j=>
   refine⟨λx k=> ?_,λm l=>(by cases l), ?_⟩
   .have d:x.loc=.obj B/\x.write=wr:=by
     cases wr<;>cases q<;>simp[MemAct.ofEvent,MemAct.touch?] at k<;>(subst k;exact⟨rfl,rfl⟩)
    obtain⟨H,F⟩:=d;rw[H];rcases p j with c|⟨c,g⟩
    .exact .inl c
    .cases wr with
     |false=>exact .inr ⟨c,F⟩
     |true=>exact absurd rfl ((v.nw _ g _ A rfl).2 _ rfl)
   .have:=(u.lt j).2;cases wr<;>cases q<;>exact this
  |mark l=>
   refine⟨λx k=> ?_,λm e=> ?_, ?_⟩
   .cases l<;>simp[MemAct.ofEvent,MemAct.touch?] at k
   .cases e;cases l with
    |extern f=>exact .inl ⟨f,rfl⟩
    |noRoom=>exact .inr rfl
   .cases l<;>trivial
def ajo(h:Rng ρ w S Rr)(d:Kept ρ σ w w' w1 cP):∀b,b<w'.heap.size->¬S b->cP.heap[b]?=w'.heap[b]?:=λb l i=>by
 by_cases f:∃a,ρ.r a b
 .obtain⟨a,e⟩:=f;rcases h a b e with j|⟨_,g,k⟩
  .exact absurd j i
  .exact(d.still e g k).2
 .exact d.out' l λc m=>f ⟨c,m⟩
def WR.rely(h:WR ρ w w')(g:Rng ρ w S Rr)(i:∀b,S b\/Rr b->cP.heap[b]?=w'.heap[b]?)(e:w'.heap.size<=cP.heap.size)(j:cP.ou=w'.ou):WR ρ w cP:=
 ⟨λ{b a} c=>by
  obtain⟨o,l,f,d,k⟩:=h.obj c;exact⟨o,l,f,(i a ((g b a c).imp id (·.1))).trans d,k⟩,h.os.trans j.symm,h.kq.1,bd h.kq.2 e⟩
end
def ik.ne'   :ik P ρ l l'->∃x b y a,l=x::b/\l'=y::a
 |.one .. =>⟨_,_,_,_,rfl,rfl⟩
 |.cons .. =>⟨_,_,_,_,rfl,rfl⟩
def ik.hd   :ik P ρ l l'->∀{y a},l'=y::a->(y.mode=.run\/y.mode=.returning)/\y.kind=.normal
 |.one hx _,_,_,e=>by cases e;exact⟨hx.mode.elim (λy=>.inl y.2) (λy=>.inr y.2),hx.kind.2⟩
 |.cons hx _,_,_,e=>by cases e;exact⟨hx.mode.elim (λy=>.inl y.2) (λy=>.inr y.2),hx.kind.2⟩
def ik.lone   :ik P ρ l l'->∀{x},l=[x]->∀{y a},l'=y::a->a=[]
 |.one ..,_,_,_,_,e=>by cases e;rfl
 |.cons _ hl,_,e,_,_,_=>by
  obtain⟨_,_,_,_,b,_⟩:=hl.ne';cases e;cases b
section
variable {P P':Program} {R:List Frame->World->Prop} {Rr:ak} {main:Bool} {Rl:ak->World->World->Prop} {Gr:ak->ak->World->World->Array Event->Prop} {J:Nat->Bool} {base:List Frame}
def arM(P P':Program)(R:List Frame->World->Prop)(Rr:ak)(base:List Frame)(c0:Cfg)(ib:Ren)(w0:World)(S0 S:ak)(g:Goroutine)(w1:World):Prop:=
 ∃c d e,(c=c0\/gZ P c c0)/\ib.Le d/\(∀b,S0 b->S b)/\g=Gl e base/\WR d c.w w1/\GlR d/\jK P R c/\Rng d c.w S Rr/\PkG ib c0.w w0 c.w w1/\
  ((oD c.l/\ik P d c.l e)\/∃a f m i,cU d a f/\ik P d m i/\c.l=Frame.enter P cx a .normal::m/\e=Frame.enter P' cx f .normal::i)
def wN(P P':Program)(R:List Frame->World->Prop)(Rr:ak)(main:Bool)(Rl:ak->World->World->Prop)(Gr:ak->ak->World->World->Array Event->Prop)(base:List Frame):Prop:=
 ∀(f:FuncId) (c:Cfg) (ρ:Ren) (a l:Array Value) (m o:List Frame) (e:World) (S:ak),gH f=true->f≠cx->cU ρ a l->ik P ρ m o->c.l=Frame.enter P f a .normal::m->WR ρ c.w e->GlR ρ->jK P R c->Rng ρ c.w S Rr->
  bD P' main Rl Gr (λn g j=>∃i d k,gZ P i c/\ρ.Le d/\(∀b,S b->n b)/\g=Gl k base/\ajn P R Rr n d i k j/\PkG ρ c.w e i.w j) S (Gl (Frame.enter P' f l .normal::o) base) e
def ajp (T:Twin P P') (X:aih P P') (fu:∀S w,Rl S w w) (tr:∀S a b c,Rl S a b->Rl S b c->Rl S a c)
  (rl:∀S w o,Rl S w o->(∀b,S b\/Rr b->o.heap[b]?=w.heap[b]?)/\w.heap.size<=o.heap.size/\o.ou=w.ou)
  (gr:∀S w l es,(∀b,b<w.heap.size->¬S b->l.heap[b]?=w.heap[b]?)->w.heap.size<=l.heap.size->l.ou=w.ou->(∀e∈es,my (λb=>S b\/(w.heap.size<=b/\b<l.heap.size)) Rr l.heap.size e)->
   Gr S (λb=>S b\/(w.heap.size<=b/\b<l.heap.size)) w l es)
  (al:∀f,gH f=true->∀a,(Frame.enter P' f a .normal).todo.all (lF J)=false)
  (a0:wN P P' R Rr main Rl Gr base) {c:Cfg} (aN:Acc (gZ P) c) :
  ∀{ρ:Ren} {l' lR:List Frame} {l:World} {S:ak},ajn P R Rr S ρ c l' l->Rt P' J l' lR->bD P' main Rl Gr (arM P P' R Rr base c ρ l S) S (Gl lR base) l:=by
 induction aN with
 |intro c _ ih=>
  intro ρ l' lR l S h hR;have on:∀{s:Cfg} {I:Ren} {l1 lR1:List Frame} {o:World} {S1:ak},gZ P s c->ρ.Le I->(∀b,S b->S1 b)->ajn P R Rr S1 I s l1 o->PkG ρ c.w l s.w o->Rt P' J l1 lR1->bD P' main Rl Gr (arM P P' R Rr base c ρ l S) S1 (Gl lR1 base) o:=λ{s I l1 lR1 o S1} hl d hS h1 U A=>
   bD.weak (λ_ _ _ x=>x) (λ_ _ _ _ _ x=>x) (λS2 g w2 ⟨c2,ρ2,l2,a1,a2,a3,a4,a5,a6,a7,a8,a9,a10⟩=>⟨c2,ρ2,l2,.inr (a1.elim (λe=>e▸hl) λx=>sW x hl),d.trans a2,λb n=>a3 b (hS b n),a4,a5,a6,a7,a8,U.trans d a9,a10⟩) (ih s hl h1 A)
  have b4:∀{x:Frame} {xs:List Frame},(Gl (x::xs) base).status=.running:=rfl;by_cases hf:oD c.l
  .-- at its end: one frame,and it is clean
   refine .stop λo hr=> ?_;obtain⟨r1,r2,r3⟩:=rl _ _ _ hr;have aO:lR=l':=by
    rcases hR with e|⟨fr,cB,j,K,_,b0,_⟩
    .exact e
    .exfalso;obtain⟨f0,hl,_⟩:=hf;exact b0 (h.st.lone hl K)
   subst aO;exact⟨c,ρ,_,.inl rfl,Ren.Le.refl _,λ_ n=>n,rfl,h.wr.rely h.rng r1 r2 r3,h.gl,h.will,h.rng,.rely λb E n=>r1 E ((h.rng b E n).imp id (·.1)),.inl ⟨hf,h.st⟩⟩
  .obtain⟨_,_,x0,b6,_,b1⟩:=h.st.ne';have aS:(Gl lR base).status=.running:=by
    rcases hR with e|⟨fr,cB,j,_,C,_⟩
    .rw[e,b1];rfl
    .rw[C];rfl
   refine .step aS λo hr=> ?_;obtain⟨r1,r2,r3⟩:=rl _ _ _ hr;have cu:=h.wr.rely h.rng r1 r2 r3;obtain⟨s,σ,p,B,es,v,hs,G,d,k,t,N,hE,z⟩:=sim T X h.gl main h.st cu hf h.will;have L:gZ P s c:=.single hs;have V:=h.rng.step t N;have b2:PkG ρ c.w l c.w o:=.rely λb E n=>r1 E ((h.rng b E n).imp id (·.1));have U:PkG ρ c.w l s.w B:=b2.trans (.refl _) (.anx N λ_ _ _=>rfl);have hG:=gr S o B v (ajo h.rng N) N.size' N.os.2 (arL h.rng t N hE);have after:∀{lR1:List Frame},(Rt P' J p lR1/\(ik P σ s.l p\/lR1=p))->bD P' main Rl Gr (arM P P' R Rr base c ρ l S) (λb=>S b\/(o.heap.size<=b/\b<B.heap.size)) (Gl lR1 base) B:=λ{lR1} ⟨A,hor⟩=>by
    rcases z with i|⟨f,a,H,m,m',u,W,i,K,C⟩
    .exact on L d (λb n=>.inl n) ⟨i,t,h.gl.mono d,G,V⟩ U A
    .have jG:lR1=p:=by
      rcases hor with b5|e
      .rcases A with e|⟨fr,cB,j,O,_,_,M,_⟩
       .exact e
       .exfalso;rw[C] at O;injection O with e4 e5
        have:=M.items;rw[<-e4,al f u H] at this;cases this
      .exact e
     subst jG;by_cases Q:f=cx
     .subst Q;refine .stop λw2 ao=> ?_;obtain⟨q1,q2,q3⟩:=rl _ _ _ ao;exact⟨s,σ,_,.inr L,d,λb n=>.inl n,rfl,t.rely V q1 q2 q3,h.gl.mono d,G,V,U.trans d (.rely λb E n=>q1 E ((V b E n).imp id (·.1))),.inr ⟨a,H,m,m',W,i,K,C⟩⟩
     .rw[C];refine bD.bind fu tr (a0 f s σ a H m m' B _ u Q W i K t (h.gl.mono d) G V) λS2 g w2 ⟨c2,ρ2,l2,a1,a2,a3,a4,a5,a6⟩=> ?_;rw[a4];exact on (sW a1 L) (d.trans a2) (λb n=>a3 b (.inl n)) a5 (U.trans d a6) (.inl rfl)
   rcases hR with e|⟨fr,cB,j,K,C,an,M,fn,aa,D⟩
   .subst e;exact⟨_,B,v,_,k base,hG,after ⟨.inl rfl,.inr rfl⟩⟩
   .rw[K] at k;have aZ:=h.st.hd K;obtain⟨y,F,hy⟩:∃y F,p=y::F:=by
     rcases z with i|⟨f,a,H,m,m',_,_,_,_,e⟩
     .obtain⟨_,_,y,F,_,e⟩:=i.ne';exact⟨y,F,e⟩
     .exact⟨_,_,e⟩
    have ad:(y.mode=.run\/y.mode=.returning)/\y.kind=.normal:=by
     rcases z with i|⟨f,a,H,m,m',_,_,_,_,e⟩
     .exact i.hd hy
     .rw[hy] at e;injection e with O e4
      subst O;exact⟨.inl rfl,rfl⟩
    rcases aZ.1 with hm|hm
    .have q:=k base;rw[hy] at q;obtain⟨b3,aM,Y,af,ay⟩:=arD M hm q ad.1 ad.2;have ax:F=j:=List.append_cancel_right b3;subst ax;refine⟨_,B,v,_,by rw[C];exact ay (F++base),hG, ?_⟩;have:=after (lR1:=Y::F) ⟨.inr ⟨y,Y,F,hy,rfl,an,af,fn,by rw[aM];exact aa,D⟩, ?_⟩
     .exact this
     .rcases z with i|⟨f,a,H,m,m',u,_,_,_,e⟩
      .exact .inl i
      .exfalso;rw[hy] at e;injection e with O e4
       have:=af.items;rw[O,al f u H] at this;cases this
    .obtain⟨r0,rs,Z⟩:∃r rs,j=r::rs:=by
      cases j with
      |nil=>exact absurd rfl an
      |cons r rs=>exact⟨r,rs,rfl⟩
     have aJ:=arE (P:=P') M hm ⟨fn,aa,D _ _ M.size M.agree⟩ (c:=r0) (cs:=rs++base) (main:=main) (w:=o);refine⟨_,B,v,_, ?_,hG,after (lR1:=p) ⟨.inl rfl,.inr rfl⟩⟩;rw[C,Z];have q:=k base;rw[Z] at q;exact aJ.trans q
end
section
variable {P P':Program} {ρ:Ren} {w w':World}
def auK(T:Twin P P'){fr : Frame}(hS:ik P ρ [fr] [x])(Y:WR ρ w w'){t0:Tape}{Post:Value->World->Prop}(J:∀t,(∀i q,i<w.drawn->t i q=t0 i q)->∃v,fr.leaving P (w.dw t) (.returned v)/\Post v (w.dw t)) :
  ∃j v M l o es u t,ρ.Le j/\Post v (w.dw t)/\(∀i q,i<w.drawn->t i q=t0 i q)/\l.dw t=w.dw t/\VR j v M/\WR j l o/\Kept ρ j w w' l o/\EvW w j es u/\∀m c z,stepG P' m (Gl [x] (c::z)) w'=.go ⟨c.finish M,z,.running,none,none⟩ o u:=by
 have lL:=hS.head;obtain⟨f,tm,L,d,md,kd,r⟩:=fr;obtain⟨f',a0,fe,d',A,a1,r'⟩:=x;obtain⟨O,G,h3,I,n,R,h7⟩:=lL;dsimp only at O G h3 I n R h7;subst O;obtain⟨v0,⟨Q,hd,N,fn,E,hr⟩,hp⟩:=J t0 λ_ _ _=>rfl;dsimp only at Q hd N E hr;subst Q hd N;obtain rfl:A=.returning:=by
  rcases n with n|n
  .cases n.1
  .exact n.2
 obtain⟨-,rfl⟩:=R;obtain rfl:d'=[]:=by cases I;rfl
 obtain⟨cX,C,hR⟩:=T.func f fn E;have good:∀t:Tape,(∀i q,i<w.drawn->t i q=t0 i q)->∃v,(results fn tm).run P (w.dw t)=.ok v (w.dw t)/\Post v (w.dw t):=λt y=>by
  obtain⟨v,⟨_,_,_,V,k,g⟩,B⟩:=J t y;dsimp only at k g;rw[E] at k;cases k;exact⟨v,g,B⟩
 obtain⟨b,D,H⟩:=(afX T hR.results G).run w w' #[] #[] Y;have s:Agr w D b λi q=>if i<w.drawn then t0 i q else b i q:=λi q K _=>be (by omega)
 have y:∀i q,i<w.drawn->(λi q=>if i<w.drawn then t0 i q else b i q) i q=t0 i q:=λi q K=>dk K;obtain⟨v,p,F⟩:=good _ y;rcases H with H|⟨j,a,l,U,o,us,S,g1,g2,g3,Z,g5,g6,X,g8⟩
 .exfalso;obtain⟨h,l,mJ,g, -⟩:=H _ s;rw[<-rc _ _ _ #[],g] at p;cases p
 .have e:=g1 _ s;rw[<-rc _ _ _ #[],e] at p;simp only[sA] at p;obtain⟨rfl,W⟩:=p;refine⟨j,a,U,l,o,_,_,_,g3,F,y,W,g5,g6,X,aaD T f g8,λm c z=> ?_⟩;simp only[Gl,stepG,unwind,C,Z,qW];simp[doReturn,GStep.after]
end
end
section
def anz(a:FuncId->Bool)(b:List Nat)(c:TypeId)(o:Oper):(aac a b c o).op=o.op:=by unfold aac;split<;>rfl
def apb(a:FuncId->Bool)(b:List Nat)(c:TypeId)(o:Oper):aac a b c (aac a b c o)=aac a b c o:=by
 by_cases h:aab a b o.op=true
 .unfold aac;simp[h]
 .unfold aac;simp[h]
def acO(P:Program)(c:FuncId->Bool)(d:List Nat)(e:TypeId)(id:Nat)(a:Array Oper)(b:Bool):bK P c d e (.region id a b)=if(a.toList.all λo=>lI P c d o.op)=true then .region id a b
  else if(a.toList.all λo=>lI P c d o.op||aab c d o.op)=true then .region id (a.map (aac c d e)) b else .refuse "" :=rfl
def anA(P:Program)(d:FuncId->Bool)(e:List Nat)(f:TypeId)(c:Operand)(a b:Code):bK P d e f (.cond c a b)=if bI d e c=true then .cond c (bK P d e f a) (bK P d e f b) else .refuse "" :=rfl
def ajq(P:Program)(d:FuncId->Bool)(c:List Nat)(e:TypeId)(f:Operand)(g:Array Tmp)(a b:Code):bK P d c e (.rangeFunc f g a b)=if bI d c f=true then .rangeFunc f g (bK P d c e a) (bK P d c e b) else .refuse "" :=rfl
def arN(P:Program)(c:FuncId->Bool)(d:List Nat)(e:TypeId)(a b:Code):bK P c d e (.seq a b)=.seq (bK P c d e a) (bK P c d e b):=rfl
def alQ(P:Program)(e:FuncId->Bool)(d:List Nat)(l:TypeId):∀c:Code,bK P e d l (bK P e d l c)=bK P e d l c:=by
 intro c
 induction c with
 |region id i draw=>
  rw[acO];by_cases h:(i.toList.all λo=>lI P e d o.op)=true
  .rw[dk h,acO,dk h]
  .rw[be h];by_cases n:(i.toList.all λo=>lI P e d o.op||aab e d o.op)=true
   .rw[dk n,acO];have p:((i.map (aac e d l)).toList.all λo=>lI P e d o.op)=i.toList.all λo=>lI P e d o.op:=by
     rw[qC,List.all_map];congr 1;funext o;simp only[Function.comp,anz]
    have q:((i.map (aac e d l)).toList.all λo=>lI P e d o.op||aab e d o.op)=i.toList.all λo=>lI P e d o.op||aab e d o.op:=by
     rw[qC,List.all_map];congr 1;funext o;simp only[Function.comp,anz]
    rw[p,q,be h,dk n,Array.map_map];exact fi (λg=>Code.region id (Array.map g i) draw) (funext λo=>apb e d l o)
   .rw[be n];rfl
 |seq a b k j=>rw[arN,arN,k,j]
 |cond c a b k j=>
  rw[anA];by_cases h:bI e d c=true
  .rw[dk h,anA,dk h,k,j]
  .rw[be h];rfl
 |rangeFunc f r a b k j=>
  rw[ajq];by_cases h:bI e d f=true
  .rw[dk h,ajq,dk h,k,j]
  .rw[be h];rfl
 |block id a m=>exact fi (Code.block id) m
 |loop a m=>exact fi Code.loop m
 |scope a m=>exact fi Code.scope m
 |_=>rfl
def auL(c:Code):gP (gP c)=gP c:=by unfold gP;exact alQ _ _ _ _ c
def aCu:fw prog (alw prog) gL mM=true:=by unfold gL;kernel_rfl
def aCv:fw prog (alw prog) gL jH=true:=by unfold gL;kernel_rfl
def arO{c:Code}(h:fw prog (alw prog) gL c=true):gP c=c:=by
 have e:gA=alw prog:=by unfold gA;rfl
 unfold gP;rw[e];exact ah8 _ _ _ _ c h
section
variable (β:Bool)
def arP{fn:Func}{c:Code}(h:(ah β).funcs[f]?=some fn)(a:fn.body=some c):gP c=c:=by
 by_cases d:f=nCC
 .subst d;rw[acr] at h;obtain rfl:=dq h;obtain rfl:mM=c:=dq a;exact arO aCu
 by_cases b:f=cx
 .subst b;rw[acs] at h;obtain rfl:=dq h;cases β with
  |true=>obtain rfl:jH=c:=dq a;exact arO aCv
  |false=>obtain rfl:Code.refuse "" =c:=dq a;exact arO rfl
 rw[akD β d b] at h;obtain⟨k,j,rfl⟩:=io.1 h;have e:k.body.map gP=some c:=a;obtain⟨i,g,rfl⟩:=io.1 e;exact auL i
def auM(f:FuncId)(fn:Func)(h:(ah β).funcs[f]?=some fn):∃a,(ah β).funcs[f]?=some a/\FnR (gH f) fn a:=by
 obtain⟨g,e,d⟩:=ag6 β f fn h;exact⟨fn,h,rfl,d.ay4,rfl,rfl,rfl,λ_=>rfl,λc b=>⟨c,b,λ_=>(arP β h b).symm⟩⟩
def ahI:Twin (ah β) (ah β) where
 info _:=rfl
 under _:=rfl
 rt:=rfl
 depth:=rfl
 globals:=⟨(lu β).globals.1,(lu β).globals.1⟩
 zero:=(lu β).zero
 stood _:=rfl
 avV:=rfl
 cellAt _ _ _ _ _:=rfl
 lies _ _ _ _ _ _:=rfl
 akn _ _:=rfl
 follows _:=rfl
 pc:=(lu β).pc
 atk:=(lu β).atk
 func:=auM β
 aib:=rfl
 mL:=(lu β).mL
def ax8:aih (ah β) (ah β):=λf fn c i k o a j h=>by
 obtain⟨p,b,n⟩:=ag6 β f fn c;obtain rfl:=n.none i;have g:=(de.1 b).1;have d:=jt.1 aet f (qh.2 g);have d:=af1 b d;have m:alw prog f=true:=by
  have:gA f=alw prog f:=by unfold gA;rfl
  rw[<-this];exact k
 rw[m,i] at d;simp only[uT,ta,uS,uo,qN,mw] at d;rcases d with rfl|rfl
 .have e:=b.symm.trans func163;obtain rfl:=dq e;exact abw c c amY amY (cF func163) (cF func163) am0 am0 am1 am1 (λl a j h=>abv (ahI β) _ _ h) h
 .have e:=b.symm.trans func179;obtain rfl:=dq e;exact abw c c amZ amZ (cF func179) (cF func179) ac5 ac5 am2 am2 (λl a j h=>ac4 h) h
def ae2{a : Array Value}(g:cU ρ a U):FrR (ah β) ρ (Frame.enter (ah β) f a .normal) (Frame.enter (ah β) f U .normal):=by
 have i:∀n,cU ρ (a++Array.replicate (n-a.size) undef) (U++Array.replicate (n-U.size) undef):=λn=>by
  rw[g.size];exact cU.app g (bQ.jT λv d=>by simp at d;rw[d.2];exact VR.undef)
 cases b:(ah β).funcs[f]? with
 |none=>
  unfold Frame.enter;rw[b];exact⟨rfl,i _,abp (ahI β) _,.nil,.inl ⟨rfl,rfl⟩,⟨rfl,rfl⟩,.none⟩
 |some fn=>
  unfold Frame.enter;rw[b];refine⟨rfl,i _, ?_,.nil,.inl ⟨rfl,rfl⟩,⟨rfl,rfl⟩,.none⟩;show jm (ah β) ρ [.code (fn.body.getD _)] [.code (fn.body.getD _)];cases j:fn.body with
  |none=>exact abp (ahI β) _
  |some c=>
   have e:gP c=c:=arP β b j;have:ItR (ah β) ρ (.code (gP c)) (.code c):=.code c;rw[e] at this;exact .cons this .nil
def ax9(h:GoR (ah β) (ah β) ρ l l'):ik (ah β) ρ l l':=by
 rcases h with h|⟨f,a,d,m,e, -,c,b,rfl,rfl⟩
 .exact h
 .exact .cons (ae2 β c) b
def aCw{R:List Frame->World->Prop}(m:GlR ρ){c:Cfg}(m':Bool)(q:ik (ah β) ρ c.l l')(i:WR ρ c.w w')(n:¬oD c.l)(o:jK (ah β) R c) :
  ∃e d a f g b,aes (ah β) c e/\jK (ah β) R e/\ρ.Le d/\(∀base,stepG (ah β) m' (Gl l' base) w'=.go (Gl a base) f b)/\WR d e.w f/\Kept ρ d c.w w' e.w f/\EvW c.w d g b/\ik (ah β) d e.l a:=by
 obtain⟨e,d,a,f,g,b,s,k,l,r,u,p,t,j⟩:=sim (ahI β) (ax8 β) m m' q i n o;exact⟨e,d,a,f,g,b,s,k,l,r,u,p,t,ax9 β j⟩
end
end
section
open Go.Conc Go.ConcN Go.RowKit Go.Lib
def dC{β : Type}{s:Sem V}{f:V->Sem β}{v:β}(h:(Bind.bind s f).run P w=.ok v w2):∃a b,s.run P w=.ok a b/\(f a).run P b=.ok v w2:=by
 have h:(s.bind f).run P w=.ok v w2:=h;rw[qJ] at h;cases c:s.run P w with
 |ok a b=>rw[c] at h;exact⟨a,b,rfl,h⟩
 |halt q b=>rw[c] at h;cases h
def NoV(P:Program)(w:World)(A:Addr):Prop:=(∀s a,(viewAt A.block).run P w ≠ .ok (some s) a)/\(w.cell? A=none->(∀b,∃e,w.farLoad P A b=.error e)/\∀v b,∃e,w.farStore P A v b=.error e)
def arQ{m:String}{v:V}:(runtimePanic (.error m):Sem V).run P w ≠ .ok v w2:=by
 intro h;unfold runtimePanic at h;simp[goPanic] at h
structure CcT (P:Program):Prop where
 u:P.underlying 177=some (.pointer 179)
 up:P.underlying 164=some .unsafePointer
 i6:∃i,P.info? 177=some i/\i.size=1
 i8:∃i,P.info? 179=some i/\i.size=2/\i.bytes<1000
 f:∃fs g,P.underlying 179=some (.struct fs)/\fs[0]?=some g/\g.offset=0/\g.type=177
section
variable {P:Program} (T:CcT P) {w w2:World} {x v:Value}
include T
theorem arR{y:Value}(D:y=.int .i64 1)(j:∀A,x=.pointer (some A)->NoV P w A)(h:(Builtin.unsafeSlice_ #[177,3] 0 #[x,y]).run P w=.ok v w2) :
  w2=w/\∃A e n,x=.pointer (some A)/\w.shape? A.block=some (e,n)/\liesAt P P.depth e (n / P.cellsOf e) A.off 179 1=true:=by
 obtain⟨i,u,t,F⟩:=T.i8;have m:¬IntKind.i64.max<1:=by decide
 have g:¬18446744073709551616<=i.bytes:=by omega
 have c:∃l,l=[x,y]:=⟨_,rfl⟩;obtain⟨l,c⟩:=c;replace h:(Builtin.unsafeSlice_ #[177,3] 0 ⟨l⟩).run P w=.ok v w2:=by rw[c];exact h
 unfold Builtin.unsafeSlice_ at h;cases l with
 |nil=>cases c
 |cons a l=>
  cases l with
  |nil=>cases c
  |cons b l=>
   cases l with
   |cons=>cases c
   |nil=>
    injection c with E k
    injection k with k G
    cases a with
    |pointer a=>
     subst E k;subst D;obtain⟨n,C,r,B⟩:=dC (s:=asInt (.int .i64 1)) h;clear h;obtain⟨rfl,rfl⟩:(1:Int)=n/\w=C:=by simpa[asInt,asIntOf] using r
     obtain⟨e,f,p,h⟩:=dC (s:=elemOf 177) B;clear B;obtain⟨rfl,rfl⟩:179=e/\w=f:=by simpa[elemOf,lm T.u] using p
     clear r p;cases a with
     |none=>
      simp[m] at h;exact absurd h arQ
     |some A=>
      have j:=(j A rfl).1;cases o:w.shape? A.block with
      |none=>
       simp[m,g,typeInfo,sizeOf,u,t,variablesAt,o] at h;cases d:(viewAt A.block).run P w with
       |halt q f=>rw[d] at h;cases h
       |ok z f=>
        cases z with
        |some z=>exact absurd d (j _ _)
        |none=>rw[d] at h;cases h
      |some z=>
       obtain⟨e,n⟩:=z;simp[m,g,typeInfo,sizeOf,u,t,variablesAt,o] at h;by_cases c:liesAt P P.depth e (n / P.cellsOf e) A.off 179 1=true
       .simp only[c,pb,sA] at h;exact⟨h.2.symm,A,e,n,rfl,o,c⟩
       .simp only[c,qA,kw] at h;cases d:(viewAt A.block).run P w with
        |halt q f=>rw[d] at h;cases h
        |ok z f=>
         cases z with
         |some z=>exact absurd d (j _ _)
         |none=>rw[d] at h;cases h
    |_=>cases(show Result.halt _ _=Result.ok v w2 from h)
theorem arS(A:Addr):(Instr.fieldAt 179 (.pointer (some A)) 0).run P w=.ok (.pointer (some A)) w:=by
 obtain⟨j,g,c,a,d,b⟩:=T.f;obtain⟨i,e,f⟩:=T.i6;simp[Instr.fieldAt,Instr.sureAddr,lm c,a,fieldPlace,sizeOf,typeInfo,b,e,f,d,Addr.add]
theorem auN(b:NoV P w A)(h:(Instr.loadAt 177 (.pointer (some A))).run P w=.ok v w2):w2=w/\w.cell? A=some v:=by
 have h:(Sem.load .plain A Sem.pure).run P w=.ok v w2:=by simpa[Instr.loadAt,Instr.sureAddr,loadVar,isAgg,lm T.u,load] using h
 unfold Sem.run at h;cases a:w.cell? A with
 |some u=>
  simp only[a,Sem.run,sA] at h;exact⟨h.2.symm,by rw[h.1]⟩
 |none=>
  obtain⟨e,c⟩:=(b.2 a).1 (Mode.plain ==.atomic);simp only[a,c] at h;cases h
theorem arT{u:Option Addr}{r:Unit}(c:NoV P w A)(h:(Instr.storeAt 177 (.pointer (some A)) (.pointer u)).run P w=.ok r w2):w2=w.setCell A (.pointer u)/\w.frozen? A=false/\∃v,w.cell? A=some v:=by
 obtain⟨i,f,g⟩:=T.i6;have h:(Sem.store .plain A (.pointer u) (Sem.pure ())).run P w=.ok r w2:=by
  simpa[Instr.storeAt,Instr.sureAddr,storeVar,sizeOf,typeInfo,f,g,Value.cells,storeCells,store,Addr.add] using h
 unfold Sem.run at h;cases a:w.cell? A with
 |some v=>
  simp only[a] at h;cases b:w.frozen? A with
  |true=>rw[b] at h;cases h
  |false=>
   rw[b] at h;simp only[kw,qA,Sem.run,sA] at h;exact⟨h.2.symm,rfl,v,rfl⟩
 |none=>
  obtain⟨e,d⟩:=(c.2 a).2 (.pointer u) (Mode.plain ==.atomic);simp only[a,d] at h;cases h
theorem aya{b:Value}(h:(binOp .eql 177 v (.pointer none)).run P w=.ok b w2):w2=w/\((v=.pointer none/\b=.bool true)\/∃B,v=.pointer (some B)/\b=.bool false):=by
 have i:∀(d:Nat) (a:Option Addr),(Op.equalIn (d+1) 177 (.pointer a) (.pointer none)).run P w=.ok a.isNone w:=λd a=>by
  cases a<;>simp[Op.equalIn,lm T.u]
 have j:∀(d:Nat) (r:Bool) (c:World),(∀a,v ≠ .pointer a)->(Op.equalIn (d+1) 177 v (.pointer none)).run P w ≠ .ok r c:=λd r c l=>by
  cases v with
  |pointer a=>exact absurd rfl (l a)
  |_=>simp[Op.equalIn,lm T.u,stuck]
 simp only[binOp] at h;by_cases g:∃a,v=.pointer a
 .obtain⟨a,rfl⟩:=g;simp[Op.equal,Op.maxDepth,i 9999] at h;refine⟨h.2.symm, ?_⟩;cases a with
  |none=>exact .inl ⟨rfl,h.1.symm⟩
  |some B=>exact .inr ⟨B,rfl,h.1.symm⟩
 .exfalso;have f:∀a,v ≠ .pointer a:=λa e=>g ⟨a,e⟩;obtain⟨r,c,k, -⟩:=dC h;exact j 9999 r c f k
end
end
section
open Go.Conc Go.ConcN
def aAl:(prog.info? 177).map (·.size ==1)=some true:=by kernel_rfl
def aAm:(prog.info? 179).map (λi=>i.size ==2&&decide (i.bytes<1000))=some true:=by kernel_rfl
def aAn:prog.underlying 177=some (.pointer 179):=by kernel_rfl
def aAo:prog.underlying 164=some .unsafePointer:=by kernel_rfl
def aAp:(match prog.underlying 179 with
 |some (.struct fs)=>(match fs[0]? with
  |some g=>g.offset ==0&&g.type ==177
  |none=>false)
 |_=>false)=true:=by kernel_rfl
def ccT:CcT prog where
 u:=aAn
 up:=aAo
 i6:=by
  obtain⟨i,c,a⟩:=io.1 aAl;exact⟨i,c,by simpa using a⟩
 i8:=by
  obtain⟨i,c,a⟩:=io.1 aAm;simp only[fd,mw,qH] at a;exact⟨i,c,a⟩
 f:=by
  have h:=aAp;generalize prog.underlying 179=q at h;cases q with
  |none=>cases h
  |some d=>
   cases d with
   |struct e=>
    dsimp only at h;cases b:e[0]? with
    |none=>rw[b] at h;cases h
    |some g=>
     rw[b] at h;simp only[fd,mw] at h;exact⟨e,g,rfl,b,h⟩
   |_=>cases h
def ccQ(β:Bool):CcT (ah β) where
 u:=(cG prog _ 177).trans ccT.u
 up:=(cG prog _ 164).trans ccT.up
 i6:=let⟨i,h,k⟩:=ccT.i6;⟨i,(jI prog _ 177).trans h,k⟩
 i8:=let⟨i,h,k⟩:=ccT.i8;⟨i,(jI prog _ 179).trans h,k⟩
 f:=let⟨a,g,h,k⟩:=ccT.f;⟨a,g,(cG prog _ 179).trans h,k⟩
def WR.noV(h:WR ρ w w'){a : Addr}(f:AR ρ a A):NoV P w' A:=by
 obtain⟨d,o,s⟩:=f;obtain⟨x,j,i,b,c⟩:=h.obj d;refine⟨λs g=> ?_,λk=> ?_⟩
 .intro e;unfold viewAt at e;cases c<;>simp[World.shape?,b,shape,getObj,Sem.run] at e
 .unfold World.farLoad World.farStore;simp only[b];cases c<;>exact⟨λ_=>⟨_,rfl⟩,λ_ _=>⟨_,rfl⟩⟩
section
variable {β m:Bool} {fr:Frame} {xs base:List Frame} {ops:Array Oper} {i:Nat} {rest:List Nat} {k:List Item} {o:Oper} {w w2:World} {l2:List Frame} {es:Array Event}
def xd (H:fr.mode=.run) (E:fr.kind=.normal) (l:fr.roundOf=none) (D:fr.todo=.inRegion ops (i::rest)::k) (P:ops[i]?=some o) (L:o.guard=none)
  (a:stepG (ah β) m (Gl (fr::xs) base) w=.go (Gl l2 base) w2 es) (e:∀y f,l2=y::f->(y.mode=.run\/y.mode=.returning)/\y.kind=.normal) (B:l2≠[])
  (G:∀n j,(execOp fr.eval o).run (ah β) w=.ok n j->(∃v,n=.value v)\/n=.skip) :
  (∃v,(execOp fr.eval o).run (ah β) w=.ok (.value v) w2/\l2=fr.finish v::xs)\/((execOp fr.eval o).run (ah β) w=.ok .skip w2/\l2=fr.finish undef::xs):=by
 obtain⟨fn,b,I,p,V,U,T⟩:=fr;dsimp only at H E l D;subst H E l D;have O:∀y,Region.wanted o y=true:=λy=>by unfold Region.wanted;rw[L]
 have Q:stepG (ah β) m (Gl (⟨fn,b,.inRegion ops (i::rest)::k,p,.run,.normal,none⟩::xs) base) w =
   stepG.apply (ah β) true ⟨fn,b,.inRegion ops (i::rest)::k,p,.run,.normal,none⟩ (xs++base) none (execOp (Frame.eval ⟨fn,b,.inRegion ops (i::rest)::k,p,.run,.normal,none⟩) o) w:=by
  simp[Gl,stepG,stepG.exec,stepG.oper,Frame.oper?,P,O]
 rw[Q] at a;generalize execOp (Frame.eval ⟨fn,b,.inRegion ops (i::rest)::k,p,.run,.normal,none⟩) o=s at a G ⊢;have C:(CallKind.normal ==CallKind.early)=false:=rfl;cases t:s.runT (ah β) w #[] with
 |mk r N=>
  have d:s.run (ah β) w=r:=by rw[<-rc _ _ _ #[],t]
  cases r with
  |ok n j=>
   rcases G n j d with⟨v,rfl⟩|rfl
   .unfold stepG.apply at a;simp only[t,pb] at a;simp[GStep.after,C] at a;obtain⟨A,x, -⟩:=a;refine .inl ⟨v,by rw[d,x], ?_⟩;exact(mO (base:=base) (by simp) B (by rw[<-A];rfl)).symm
   .unfold stepG.apply at a;simp only[t,pb] at a;simp[GStep.after,C] at a;obtain⟨A,x, -⟩:=a;refine .inr ⟨by rw[d,x], ?_⟩;exact(mO (base:=base) (by simp) B (by rw[<-A];rfl)).symm
  |halt q j=>
   exfalso;obtain⟨y,f,rfl⟩:∃y f,l2=y::f:=by cases l2 with|nil=>exact absurd rfl B|cons y f=>exact⟨y,f,rfl⟩
   obtain⟨e,K⟩:=e y f rfl;unfold stepG.apply at a;simp only[t,pb] at a;cases q with
   |unsupported u=>
    cases u with
    |initOrder g=>
     have R:=(lu β).mL.1;have S:=(lu β).mL.2;simp[C,early,R,S,GStep.after] at a
    |_=>simp[GStep.after] at a
   |panic v=>simp[GStep.after,Gl] at a;obtain⟨⟨rfl, -⟩, -⟩:=a;rcases e with h|h<;>simp[Frame.raise] at h
   |goexit=>simp[GStep.after,Gl] at a;obtain⟨⟨rfl, -⟩, -⟩:=a;rcases e with h|h<;>simp[Frame.raise] at h
   |blocked=>simp[GStep.after,Gl] at a
   |waiting=>simp[GStep.after,Gl] at a
   |exit c=>simp[GStep.after] at a
   |stuck c=>simp[GStep.after] at a
   |throw J=>simp[GStep.after,endThrow,dieOf,Gl] at a
   |fatal J=>
    dsimp only at a;unfold endFatal at a;dsimp only at a;generalize Sem.run (ah β) _ j=z at a;cases z with
    |ok F M=>simp[GStep.after,dieOf,Gl] at a
    |halt F M=>cases F<;>simp[GStep.after] at a
end
structure gD (β:Bool) (R:List Frame->World->Prop) (c0:Cfg) (ib:Ren) (w0:World) (c:Cfg) (ρ:Ren) (l:List Frame) (w:World):Prop where
 later:c=c0\/gZ (ah β) c c0
 le:ib.Le ρ
 st:ik (ah β) ρ c.l l
 wr:WR ρ c.w w
 gl:GlR ρ
 will:jK (ah β) R c
 kept:Kept ib ρ c0.w w0 c.w w
section
variable {β:Bool} {R:List Frame->World->Prop} {c0 c:Cfg} {ib ρ:Ren} {w0 w w2:World} {l l2:List Frame}
def ik.two(h:ik P ρ l l')(e:l'=x::y::Y):¬oD l:=λ⟨b,a,_⟩=>by
 have:=h.lone a e;cases this
def gD.ac5(h:gD β R c0 ib w0 c ρ l w)(m:Bool)(q:¬oD c.l) :
  ∃a d f b n,gD β R c0 ib w0 a d f b/\gZ (ah β) a c0/\ρ.Le d/\(∀base,stepG (ah β) m (Gl l base) w=.go (Gl f base) b n)/\aes (ah β) c a:=by
 obtain⟨a,d,f,b,n,j,i,p,g,s,t,r,u,o⟩:=aCw β h.gl m h.st h.wr q h.will;have k:gZ (ah β) a c0:=h.later.elim (λe=>e ▸ .single i) λx=>sW (.single i) x;exact⟨a,d,f,b,j,⟨.inr k,h.le.trans g,o,t,h.gl.mono g,p,h.kept.trans r⟩,k,g,s,i⟩
def gD.next(h:gD β R c0 ib w0 c ρ l w)(m:Bool)(e:l=x::y::Y) :
  ∃f b d a g,gD β R c0 ib w0 f b d a/\gZ (ah β) f c0/\ρ.Le b/\∀base,stepG (ah β) m (Gl l base) w=.go (Gl d base) a g:=
 let⟨f,b,d,a,g,n,i,j,k,_⟩:=h.ac5 m (h.st.two e);⟨f,b,d,a,g,n,i,j,k⟩
def gD.go(h:gD β R c0 ib w0 c ρ l w)(e:l=x::y::Y)(m:Bool){x2:Frame}{xs2:List Frame}(i:∀base,stepG (ah β) m (Gl l base) w=.go (Gl (x2::xs2) base) w2 es) :
  ∃b a,gD β R c0 ib w0 b a (x2::xs2) w2/\gZ (ah β) b c0/\ρ.Le a:=by
 obtain⟨b,a,n,r,t,d,f,g,o⟩:=h.next m e
 have:=o [];rw[i []] at this;injection this with j q u
 obtain⟨_,_,s,k,_,p⟩:=d.st.ne';have:x2::xs2=n:=mO (base:=[]) (by simp) (by rw[p];simp) j;subst this q;exact⟨b,a,d,f,g⟩
def gD.no(h:gD β R c0 ib w0 c ρ l w)(e:l=x::y::Y)(m:Bool){o:Outcome}(b:stepG (ah β) m (Gl l []) w=.ended o w2):False:=by
 obtain⟨p,n,g,d,f,j,i,k,a⟩:=h.next m e
 have:=a [];rw[b] at this;cases this
abbrev FQ(f:FuncId)(T:Array Value)(k:List Item):Frame:=⟨f,T,k,[],.run,.normal,none⟩
abbrev FC(T:Array Value)(k:List Item):Frame:=FQ nCC T k
def ik.hdL   :ik P ρ l l'->∀{y a},l=y::a->(y.mode=.run\/y.mode=.returning)/\y.kind=.normal
 |.one hx _,_,_,e=>by cases e;exact⟨hx.mode.elim (λy=>.inl y.1) (λy=>.inr y.1),hx.kind.1⟩
 |.cons hx _,_,_,e=>by cases e;exact⟨hx.mode.elim (λy=>.inl y.1) (λy=>.inr y.1),hx.kind.1⟩
def gD.apc {T:Array Value}       (h:gD β R c0 ib w0 c ρ (FQ f T (.inRegion Z (i::rest)::k)::y::Y) w)
  (A:Z[i]?=some o) (X:o.guard=none) (r:aab gA gL o.op=false) (t:Tmp) (b:∀(e:Operand->Value) (w:World),e (.tmp t)=.tuple #[]->∀q S,(execOp e o).run (ah β) w ≠ .ok q S) :
  ∃x,VR ρ x (T.getD t undef)/\x ≠ .tuple #[]:=by
 obtain⟨c1,σ,l1,w1,es,F, -, -, -,hR⟩:=h.ac5 true (h.st.two rfl);obtain⟨E,a0,_,_,C,e2⟩:=h.st.ne';have I:=h.st;rw[C] at I;have G:=I.head;have N:VR ρ (E.eval (.tmp t)) (T.getD t undef):=G.env h.gl (.tmp t) rfl;refine⟨_,N,λp=> ?_⟩;obtain⟨x1,U,_,_,e3,_⟩:=F.st.ne';obtain⟨a1,a⟩:=hR.step;have a:=a [] c1.t λ_ _ _=>rfl;rw[C] at a;obtain⟨fn,P,D,ds,K,kd,V⟩:=E;obtain⟨L,O,J,Q,B,H,u⟩:=G;dsimp only at L O J Q B H u;obtain rfl:K=.run:=B.elim (·.1) λx=>by cases x.2
 obtain rfl:V=none:=by cases u;rfl
 cases J with
 |cons x hl=>
  cases x with
  |@inRegion d _ z l=>
   have M:i<d.size:=by rw[z.1];exact(de.1 A).1
   have n:d[i]?=some o:=by
    obtain⟨s,n⟩:∃s,d[i]?=some s:=⟨_,fm M⟩;rcases z.2 i s o n A with⟨rfl,_⟩|⟨g,_⟩
    .exact n
    .rw[r] at g;cases g
   have hq:=xd (β:=β) (m:=true) (fr:=⟨fn,P,_,ds,.run,kd,none⟩) rfl H.1 rfl rfl n X a (λy Y e=>F.st.hdL e) (by rw[e3];simp) (λq W j=>absurd j (b _ _ p q W));rcases hq with⟨v,j,_⟩|⟨j,_⟩
   .exact b _ _ p _ _ j
   .exact b _ _ p _ _ j
def gD.op {T:Array Value}       (h:gD β R c0 ib w0 c ρ (FQ f T (.inRegion Z (i::rest)::k)::y::Y) w)
  (p:Z[i]?=some o) (s:o.guard=none) (u:∀m r,(execOp (FQ f T (.inRegion Z (i::rest)::k)).eval o).run (ah β) w=.ok m r->(∃v,m=.value v)\/m=.skip) :
  ∃v a j g,((execOp (FQ f T (.inRegion Z (i::rest)::k)).eval o).run (ah β) w=.ok (.value v) a\/((execOp (FQ f T (.inRegion Z (i::rest)::k)).eval o).run (ah β) w=.ok .skip a/\v=undef))/\
   gD β R c0 ib w0 j g (FQ f (match o.dst with|some d=>T.setIfInBounds d v|none=>T) (.inRegion Z rest::k)::y::Y) a/\ρ.Le g:=by
 obtain⟨j,g,D,a,C,b,A,q,t⟩:=h.next true rfl
 obtain⟨_,_,B,x,_,z⟩:=b.st.ne';have n:∀v,Frame.finish (FQ f T (.inRegion Z (i::rest)::k)) v=FQ f (match o.dst with|some d=>T.setIfInBounds d v|none=>T) (.inRegion Z rest::k):=λv=>by
  simp only[Frame.finish,p,qB];cases o.dst<;>rfl
 rcases xd (base:=[]) rfl rfl rfl rfl p s (t []) (λy Y e=>b.st.hd e) (by rw[z];simp) u with⟨v,l,rfl⟩|⟨l,rfl⟩
 .rw[n] at b;exact⟨v,a,j,g,.inl l,b,q⟩
 .rw[n] at b;exact⟨undef,a,j,g,.inr ⟨l,rfl⟩,b,q⟩
section
variable {T:Array Value} {k:List Item} {y:Frame} {ys:List Frame}
def gD.seq(h:gD β R c0 ib w0 c ρ (FC T (.code (.seq a b)::k)::y::ys) w):∃e d,gD β R c0 ib w0 e d (FC T (.code a :: .code b::k)::y::ys) w/\ρ.Le d:=by
 obtain⟨e,d,g, -,f⟩:=h.go rfl true (es:=#[]) (x2:=FC T (.code a :: .code b::k)) (xs2:=y::ys) (w2:=w) λbase=>by simp[Gl,stepG,stepG.exec]
 exact⟨e,d,g,f⟩
def gD.region{id:Nat}(h:gD β R c0 ib w0 c ρ (FC T (.code (.region id Z false)::k)::y::ys) w):∃b a,gD β R c0 ib w0 b a (FC T (.inRegion Z (List.range Z.size)::k)::y::ys) w/\ρ.Le a:=by
 obtain⟨b,a,e, -,d⟩:=h.go rfl true (es:=#[]) (x2:=FC T (.inRegion Z (List.range Z.size)::k)) (xs2:=y::ys) (w2:=w) λbase=>by simp[Gl,stepG,stepG.exec]
 exact⟨b,a,e,d⟩
def gD.iO(h:gD β R c0 ib w0 c ρ (FC T (.inRegion Z []::k)::y::ys) w):∃b a,gD β R c0 ib w0 b a (FC T k::y::ys) w/\ρ.Le a:=by
 obtain⟨b,a,d, -,e⟩:=h.go rfl true (es:=#[]) (x2:=FC T k) (xs2:=y::ys) (w2:=w) λbase=>by simp[Gl,stepG,stepG.exec]
 exact⟨b,a,d,e⟩
def gD.skip(h:gD β R c0 ib w0 c ρ (FC T (.code .skip::k)::y::ys) w):∃b a,gD β R c0 ib w0 b a (FC T k::y::ys) w/\ρ.Le a:=by
 obtain⟨b,a,d, -,e⟩:=h.go rfl true (es:=#[]) (x2:=FC T k) (xs2:=y::ys) (w2:=w) λbase=>by simp[Gl,stepG,stepG.exec]
 exact⟨b,a,d,e⟩
def gD.cond(f:T.getD t undef=.bool q)(h:gD β R c0 ib w0 c ρ (FC T (.code (.cond (.tmp t) a b)::k)::y::ys) w):∃e d,gD β R c0 ib w0 e d (FC T (.code (if q then a else b)::k)::y::ys) w/\ρ.Le d:=by
 have g:Frame.eval (FC T (.code (.cond (.tmp t) a b)::k)) (.tmp t)=.bool q:=f;obtain⟨e,d,j, -,i⟩:=h.go rfl true (es:=#[]) (x2:=FC T (.code (if q then a else b)::k)) (xs2:=y::ys) (w2:=w) λbase=>by simp[Gl,stepG,stepG.exec,g]
 exact⟨e,d,j,i⟩
def gD.ret(h:gD β R c0 ib w0 c ρ (FC T (.code .ret::k)::y::ys) w):∃d b,gD β R c0 ib w0 d b (y.finish (.tuple #[])::ys) w/\ρ.Le b/\gZ (ah β) d c0:=by
 obtain⟨d,b,l, -,g⟩:=h.go rfl true (es:=#[]) (x2:=⟨nCC,T,.code .ret::k,[],.returning,.normal,none⟩) (xs2:=y::ys) (w2:=w) λbase=>by simp[Gl,stepG,stepG.exec]
 have f:(ah β).funcs[nCC]?=some qCC:=acr β;have a:qCC.results=#[]:=rfl;obtain⟨e,n,o,i,m⟩:=l.go rfl true (es:=#[]) (x2:=y.finish (.tuple #[])) (xs2:=ys) (w2:=w) λbase=>by
  have j:(results qCC T).runT (ah β) w #[]=(.ok (.tuple #[]) w,#[]):=by
   simp[results,a,Sem.runT]
  simp only[Gl,stepG,unwind,f,j];simp[doReturn,GStep.after,seen]
 exact⟨e,n,o,g.trans m,i⟩
end
end
section
variable {β:Bool} {R:List Frame->World->Prop} {c0 c:Cfg} {ib ρ:Ren} {w0 w w2:World} {T:Array Value} {k:List Item} {y:Frame} {ys:List Frame}
def gD.noV(h:gD β R c0 ib w0 c ρ (FC T k::y::ys) w)(e:T.getD t undef=.pointer (some A))(b:∃x,VR ρ x (T.getD t undef)/\x ≠ .tuple #[]):(∃d,AR ρ d A)/\NoV (ah β) w A:=by
 obtain⟨x,b,f⟩:=b;rw[e] at b;cases b with
 |pointer a=>cases a with
  |some a=>exact⟨⟨_,a⟩,h.wr.noV a⟩
 |fj=>exact absurd rfl f
def aD{T:Array Value}{d t:Nat}(a:d<T.size):(T.setIfInBounds d v).getD t undef=if t=d then v else T.getD t undef:=by
 rw[ga,ga,qd];by_cases e:d=t
 .subst e;simp[a]
 .rw[be e,be (λx=>e x.symm)]
def eqG{x y:Operand} :eqGuard .eql 177 x y v (.pointer none)=Sem.pure ():=by
 unfold eqGuard;cases v<;>rfl
def gD.slice(h:gD β R c0 ib w0 c ρ (FC T (.inRegion oF (0::rest)::k)::y::ys) w) :
  ∃A e n q i,T.getD 0 undef=.pointer (some A)/\(∃x,AR ρ x A)/\w.shape? A.block=some (e,n)/\liesAt (ah β) (ah β).depth e (n / (ah β).cellsOf e) A.off 179 1=true/\gD β R c0 ib w0 q i (FC T (.inRegion oF rest::k)::y::ys) w/\ρ.Le i:=by
 have a:∀d g,(execOp (FC T (.inRegion oF (0::rest)::k)).eval (gV none (.call ⟨.builtin .unsafeSlice,#[.tmp 0,.const (.int .i64 1)],#[177,3]⟩) 0)).run (ah β) w=.ok d g->
   ∃v,(Builtin.unsafeSlice_ #[177,3] 0 #[T.getD 0 undef,.int .i64 1]).run (ah β) w=.ok v g/\d=.value v:=λd g b=>by
  have j:execOp (FC T (.inRegion oF (0::rest)::k)).eval (gV none (.call ⟨.builtin .unsafeSlice,#[.tmp 0,.const (.int .i64 1)],#[177,3]⟩) 0) =
    (Builtin.unsafeSlice_ #[177,3] 0 #[T.getD 0 undef,.int .i64 1]).bind λv=>Sem.pure (.value v):=by
   have p:Array.map (FC T (.inRegion oF (0::rest)::k)).eval #[.tmp 0,.const (.int .i64 1)]=#[T.getD 0 undef,.int .i64 1]:=by simp[Frame.eval]
   simp only[execOp,gV,resolve];rw[p];rfl
  rw[j] at b;obtain⟨v,z,f,l⟩:=dC (s:=Builtin.unsafeSlice_ #[177,3] 0 #[T.getD 0 undef,.int .i64 1]) b;cases(show Result.ok (Next.value v) z=Result.ok d g from l);exact⟨v,f,rfl⟩
 obtain⟨v,B,q,i,m,f,l⟩:=h.op (o:=gV none (.call ⟨.builtin .unsafeSlice,#[.tmp 0,.const (.int .i64 1)],#[177,3]⟩) 0) rfl rfl λd g b=>.inl (let⟨v,_,e⟩:=a d g b;⟨v,e⟩);have G:∃u,(Builtin.unsafeSlice_ #[177,3] 0 #[T.getD 0 undef,.int .i64 1]).run (ah β) w=.ok u B:=by
  rcases m with b|⟨b, -⟩
  .obtain⟨u,f, -⟩:=a _ _ b;exact⟨u,f⟩
  .obtain⟨u,f, -⟩:=a _ _ b;exact⟨u,f⟩
 obtain⟨u,E⟩:=G;have r:=h.apc (o:=gV none (.call ⟨.builtin .unsafeSlice,#[.tmp 0,.const (.int .i64 1)],#[177,3]⟩) 0) rfl rfl rfl 0 λe w H d C b=>by
  have j:execOp e (gV none (.call ⟨.builtin .unsafeSlice,#[.tmp 0,.const (.int .i64 1)],#[177,3]⟩) 0)=(Builtin.unsafeSlice_ #[177,3] 0 #[.tuple #[],e (.const (.int .i64 1))]).bind λv=>Sem.pure (.value v):=by
   have p:Array.map e #[.tmp 0,.const (.int .i64 1)]=#[.tuple #[],e (.const (.int .i64 1))]:=by simp[H]
   simp only[execOp,gV,resolve];rw[p];rfl
  rw[j] at b;cases(show Result.halt _ _=Result.ok d C from b)
 obtain⟨rfl,A,e,n,t,D,F⟩:=arR (ccQ β) rfl (λA e=>(h.noV e r).2) E;exact⟨A,e,n,q,i,t,(h.noV t r).1,D,F,f,l⟩
def gD.field(h:gD β R c0 ib w0 c ρ (FC T (.inRegion Z (i::rest)::k)::y::ys) w)(l:Z[i]?=some (gV (some d) (.fieldAddr 179 (.tmp t) 0) 0))(e:T.getD t undef=.pointer (some A)) :
  ∃j g,gD β R c0 ib w0 j g (FC (T.setIfInBounds d (.pointer (some A))) (.inRegion Z rest::k)::y::ys) w/\ρ.Le g:=by
 have a:(execOp (FC T (.inRegion Z (i::rest)::k)).eval (gV (some d) (.fieldAddr 179 (.tmp t) 0) 0)).run (ah β) w=.ok (.value (.pointer (some A))) w:=by
  have:(execOp (FC T (.inRegion Z (i::rest)::k)).eval (gV (some d) (.fieldAddr 179 (.tmp t) 0) 0))=(Instr.fieldAt 179 (T.getD t undef) 0).bind λv=>Sem.pure (.value v):=rfl;rw[this,e,qJ,arS (ccQ β)];rfl
 obtain⟨v,o,j,g,f,n,m⟩:=h.op l rfl λq p b=>by rw[a] at b;cases b;exact .inl ⟨_,rfl⟩
 rw[a] at f;rcases f with b|⟨b, -⟩
 .cases b;exact⟨j,g,n,m⟩
 .cases b
def gD.load(h:gD β R c0 ib w0 c ρ (FC T (.inRegion Z (i::rest)::k)::y::ys) w)(x:Z[i]?=some (gV (some d) (.load 177 (.tmp t)) 177))(e:T.getD t undef=.pointer (some A)) :
  ∃v r m,w.cell? A=some v/\gD β R c0 ib w0 r m (FC (T.setIfInBounds d v) (.inRegion Z rest::k)::y::ys) w/\ρ.Le m:=by
 have a:∀g j,(execOp (FC T (.inRegion Z (i::rest)::k)).eval (gV (some d) (.load 177 (.tmp t)) 177)).run (ah β) w=.ok g j->∃v,j=w/\w.cell? A=some v/\g=.value v:=λg j b=>by
  obtain⟨v,n,f,l⟩:=dC (s:=Instr.loadAt 177 (T.getD t undef)) b;rw[e] at f;have z:=h.apc x rfl rfl t λe w B g D b=>by
   obtain⟨v,n,f,l⟩:=dC (s:=Instr.loadAt 177 (e (.tmp t))) b;rw[B] at f;cases(show Result.halt _ _=Result.ok v n from f)
  obtain⟨rfl,p⟩:=auN (ccQ β) (h.noV e z).2 f;cases(show Result.ok (Next.value v) n=Result.ok g j from l);exact⟨v,rfl,p,rfl⟩
 obtain⟨v,C,r,m,o,f,l⟩:=h.op x rfl λg j b=>.inl (let⟨v,_,_,e⟩:=a g j b;⟨v,e⟩);rcases o with b|⟨b, -⟩
 .obtain⟨u,rfl,p,q⟩:=a _ _ b;cases q;exact⟨v,r,m,p,f,l⟩
 .obtain⟨u, -, -,q⟩:=a _ _ b;cases q
def gD.eql(h:gD β R c0 ib w0 c ρ (FC T (.inRegion Z (i::rest)::k)::y::ys) w)(A:Z[i]?=some (gV (some d) (.binOp .eql 177 (.tmp t) (.const (.pointer none)) 177) 4)) :
  ∃b x l,((T.getD t undef=.pointer none/\b=true)\/∃B,T.getD t undef=.pointer (some B)/\b=false)/\gD β R c0 ib w0 x l (FC (T.setIfInBounds d (.bool b)) (.inRegion Z rest::k)::y::ys) w/\ρ.Le l:=by
 have a:∀j g,(execOp (FC T (.inRegion Z (i::rest)::k)).eval (gV (some d) (.binOp .eql 177 (.tmp t) (.const (.pointer none)) 177) 4)).run (ah β) w=.ok j g->
   ∃b,g=w/\((T.getD t undef=.pointer none/\b=true)\/∃B,T.getD t undef=.pointer (some B)/\b=false)/\j=.value (.bool b):=λj g f=>by
  have:(execOp (FC T (.inRegion Z (i::rest)::k)).eval (gV (some d) (.binOp .eql 177 (.tmp t) (.const (.pointer none)) 177) 4))=((eqGuard .eql 177 (.tmp t) (.const (.pointer none)) (T.getD t undef) (.pointer none)).bind λ_=>binOp .eql 177 (T.getD t undef) (.pointer none)).bind λv=>Sem.pure (.value v):=rfl;rw[this,eqG] at f;obtain⟨v,z,r,m⟩:=dC (s:=binOp .eql 177 (T.getD t undef) (.pointer none)) f;obtain⟨rfl,o⟩:=aya (ccQ β) r;cases(show Result.ok (Next.value v) z=Result.ok j g from m);rcases o with⟨p,rfl⟩|⟨B,p,rfl⟩
  .exact⟨true,rfl,.inl ⟨p,rfl⟩,rfl⟩
  .exact⟨false,rfl,.inr ⟨B,p,rfl⟩,rfl⟩
 obtain⟨v,C,x,l,n,r,m⟩:=h.op A rfl λj g f=>.inl (let⟨b,_,_,e⟩:=a j g f;⟨_,e⟩);rcases n with f|⟨f, -⟩
 .obtain⟨u,rfl,o,q⟩:=a _ _ f;cases q;exact⟨u,x,l,o,r,m⟩
 .obtain⟨u, -, -,q⟩:=a _ _ f;cases q
def gD.store    {x:Operand} (h:gD β R c0 ib w0 c ρ (FC T (.inRegion Z (i::rest)::k)::y::ys) w) (r:Z[i]?=some (gV none (.store 177 (.tmp t) x) 0)) {u:Option Addr}
  (e:T.getD t undef=.pointer (some A)) (z:(FC T (.inRegion Z (i::rest)::k)).eval x=.pointer u) :
  ∃n l,w.frozen? A=false/\(∃v,w.cell? A=some v)/\gD β R c0 ib w0 n l (FC T (.inRegion Z rest::k)::y::ys) (w.setCell A (.pointer u))/\ρ.Le l:=by
 have a:∀d f,(execOp (FC T (.inRegion Z (i::rest)::k)).eval (gV none (.store 177 (.tmp t) x) 0)).run (ah β) w=.ok d f->f=w.setCell A (.pointer u)/\w.frozen? A=false/\(∃v,w.cell? A=some v)/\d=.skip:=λd f b=>by
  have:(execOp (FC T (.inRegion Z (i::rest)::k)).eval (gV none (.store 177 (.tmp t) x) 0))=(Instr.storeAt 177 (T.getD t undef) ((FC T (.inRegion Z (i::rest)::k)).eval x)).bind λ_=>Sem.pure .skip:=rfl;rw[this,e,z] at b;obtain⟨v,q,g,j⟩:=dC (s:=Instr.storeAt 177 (.pointer (some A)) (.pointer u)) b;have B:=h.apc r rfl rfl t λe w D d F b=>by
   obtain⟨v,q,g,j⟩:=dC (s:=Instr.storeAt 177 (e (.tmp t)) (e x)) b;rw[D] at g;cases(show Result.halt _ _=Result.ok v q from g)
  obtain⟨rfl,p,m⟩:=arT (ccQ β) (h.noV e B).2 g;cases(show Result.ok Next.skip _=Result.ok d f from j);exact⟨rfl,p,m,rfl⟩
 obtain⟨v,E,n,l,o,g,j⟩:=h.op r rfl λd f b=>.inr (a d f b).2.2.2;rcases o with b|⟨b, -⟩
 .obtain⟨-, -, -,C⟩:=a _ _ b;cases C
 .obtain⟨rfl,p,m, -⟩:=a _ _ b;exact⟨n,l,p,m,g,j⟩
end
abbrev T0C(a:Array Value):Array Value:=a++Array.replicate (20-a.size) undef
section
variable {β:Bool} {R:List Frame->World->Prop} {c0 c:Cfg} {ib ρ:Ren} {w0 w w2:World} {T:Array Value} {k:List Item} {y:Frame} {ys m:List Frame} {a a':Array Value}
def auO:Frame.enter (ah β) nCC a' .normal=FC (T0C a') [.code mM]:=by
 have a:(ah β).funcs[nCC]?=some qCC:=acr β;unfold Frame.enter;rw[a];rfl
def fR(e:W.heap[A.block]?=w.heap[A.block]?):W.cell? A=w.cell? A:=by
 unfold World.cell?;rw[e]
def wG{xs:Array Obj}{f:Obj->Obj}(h:∀o,xs[i]?=some o->f o=o):xs.modify i f=xs:=by
 apply su;intro j;rw[oE];by_cases e:i=j
 .subst e;rw[dk rfl];cases a:xs[i]? with
  |none=>rfl
  |some o=>simp[h o a]
 .rw[be e]
def ahJ{xs:Array Obj}{f g:Obj->Obj}(h:∀o,g (f o)=g o):(xs.modify i f).modify i g=xs.modify i g:=by
 apply su;intro j;rw[oE,oE,oE];by_cases e:i=j
 .simp only[e,pb,Option.map_map]
  congr 1
  funext o
  exact h o
 .simp only[e,qA]
def ahK(h:w.cell? A=some v):w.setCell A v=w:=by
 unfold World.setCell;rw[wG];intro o b;unfold World.cell? at h;rw[b] at h;cases o with
 |cells c t z=>
  cases a:A.spot with
  |some s=>simp[a] at h
  |none=>
   simp[a] at h;simp only[ta,kw,qA]
   congr 1
   apply su;intro j;rw[qd];by_cases e:A.off=j
   .subst e;rw[dk rfl,h];rw[dk (de.1 h).1]
   .rw[be e]
 |_=>rfl
def afF   :(w.setCell A u).setCell A v=w.setCell A v:=by
 unfold World.setCell;dsimp only;rw[ahJ];intro o;cases o with
 |cells c t z=>
  dsimp only;split
  .rfl
  .simp
 |_=>rfl
def auP(Q:cU ib a a')(O:ik (ah β) ib m (y::ys))(hc:c0.l=Frame.enter (ah β) nCC a .normal::m)(hw:WR ib c0.w w0)(Y:GlR ib)(Z:jK (ah β) R c0) :
  ∃A v e n g σ,(T0C a').getD 0 undef=.pointer (some A)/\w0.shape? A.block=some (e,n)/\liesAt (ah β) (ah β).depth e (n / (ah β).cellsOf e) A.off 179 1=true/\w0.cell? A=some v/\w0.frozen? A=false/\(v=.pointer none\/v=.pointer (some A))/\
   (∃z,AR ib z A)/\(∀E,ib.r E A.block->bB c0.w E->NoB c0.w E->False)/\gD β R c0 ib w0 g σ (y.finish (.tuple #[])::ys) (w0.setCell A (.pointer (some A)))/\gZ (ah β) g c0:=by
 have hz:20<=(T0C a').size:=by simp only[T0C,rV,sN];omega
 have h:gD β R c0 ib w0 c0 ib (FC (T0C a') [.code mM]::y::ys) w0:=⟨.inl rfl,.refl _,by rw[hc,<-auO (β:=β)];exact .cons (ae2 β Q) O,hw,Y,Z,Kept.refl _ _ _⟩;generalize T0C a'=T at hz h ⊢;unfold mM at h;obtain⟨g,c,h, -⟩:=h.seq;obtain⟨g,c,h, -⟩:=h.region;have l:List.range oF.size=[0,1,2,3]:=rfl;rw[l] at h;obtain⟨A,e,n,S,p,D,⟨z,U⟩,x,F,h', -⟩:=h.slice;have C:∃z,AR ib z A:=by
  refine⟨z, ?_⟩;obtain⟨l,o,s⟩:=U;rename_i bl br;rcases h.kept.new l with r|⟨_,r⟩
  .exact .mk r o s
  .exfalso;dsimp only at x;simp only[World.shape?] at x;cases j:w0.heap[br]? with
   |none=>rw[j] at x;cases x
   |some q=>have:=(de.1 j).1;omega
 replace h:=h';obtain⟨g,c,h, -⟩:=h.field rfl D;obtain⟨v,g,c,f,h, -⟩:=h.load (A:=A) rfl (by rw[aD (by omega)];rfl);obtain⟨b,g,c,j,h, -⟩:=h.eql rfl;obtain⟨g,c,h, -⟩:=h.iO;obtain⟨g,c,h, -⟩:=h.seq;have X:((T.setIfInBounds 4 (.pointer (some A))).setIfInBounds 5 v).getD 5 undef=v:=by rw[aD (by simp;omega)];rfl
 rw[X] at j;obtain⟨g,c,h, -⟩:=h.cond (q:=b) (by rw[aD (by simp;omega)];rfl);have k:∀{J:Array Value} {S:Cfg} {p:Ren} {w2:World},gD β R c0 ib w0 S p (FC J [.code (.seq (.region 1 ag3 false) .ret)]::y::ys) w2->J.getD 4 undef=.pointer (some A)->J.getD 0 undef=.pointer (some A)->
   ∃w i,w2.frozen? A=false/\gD β R c0 ib w0 w i (y.finish (.tuple #[])::ys) (w2.setCell A (.pointer (some A)))/\gZ (ah β) w c0:=λ{J S p w2} h g4 g0=>by
  obtain⟨g,c,h, -⟩:=h.seq;obtain⟨g,c,h, -⟩:=h.region;have l:List.range ag3.size=[0]:=rfl;rw[l] at h;obtain⟨g,c,H, -,h, -⟩:=h.store (A:=A) (u:=some A) rfl g4 g0;obtain⟨g,c,h, -⟩:=h.iO;obtain⟨g,c,h, -,G⟩:=h.ret;exact⟨g,c,H,h,G⟩
 rcases j with⟨rfl,rfl⟩|⟨B,rfl,rfl⟩
 .simp only[pb] at h;obtain⟨g,c,h, -⟩:=h.skip;obtain⟨w,i,H,h,G⟩:=k h (by rw[aD (by simp;omega),be (by decide),aD (by simp;omega),be (by decide),aD (by omega),dk rfl]) (by rw[aD (by simp;omega),be (by decide),aD (by simp;omega),be (by decide),aD (by omega),be (by decide)];exact D);refine⟨A,_,e,n,w,i,D,x,F,f,H,.inl rfl,C,λE r L V=> ?_,h,G⟩;have:=(h.kept.still r L V).2;have W:(w0.setCell A (.pointer (some A))).cell? A=some (.pointer (some A)):=World.cell?_setCell_same _ _ _ f;rw[fR this,f] at W;cases W
 .simp only[qA,kw] at h;obtain⟨g,c,h, -⟩:=h.seq;obtain⟨g,c,h, -⟩:=h.region;have l:List.range akC.size=[0,1,2,3]:=rfl;rw[l] at h;obtain⟨g,c,h, -⟩:=h.field (A:=B) (t:=5) (d:=7) rfl (by rw[aD (by simp;omega),be (by decide)];exact X);obtain⟨g,c,N,⟨vB,a0⟩,h, -⟩:=h.store (A:=B) (u:=none) (t:=7) rfl (by rw[aD (by simp;omega)];rfl) rfl;have hk:=h.kept;obtain⟨u,g,c,I,h, -⟩:=h.load (A:=A) (t:=4) (d:=8) rfl (by rw[aD (by simp;omega),be (by decide),aD (by simp;omega),be (by decide),aD (by simp;omega),be (by decide),aD (by omega),dk rfl]);obtain⟨b,g,c,j,h, -⟩:=h.eql (t:=8) (d:=9) rfl;rw[aD (by simp;omega),dk rfl] at j;obtain⟨g,c,h, -⟩:=h.iO;obtain⟨g,c,h, -⟩:=h.cond (q:=b) (by rw[aD (by simp;omega)];rfl);rcases j with⟨rfl,rfl⟩|⟨B',rfl,rfl⟩
  .have P:A=B:=by
    refine qz λK=> ?_;rw[tM _ _ _ _ (λe=>K e.symm),f] at I;cases I
   subst P;simp only[pb] at h;obtain⟨g,c,h, -⟩:=h.skip;obtain⟨w,i,H,h,G⟩:=k h
    (by rw[aD (by simp;omega),be (by decide),aD (by simp;omega),be (by decide),aD (by simp;omega),be (by decide),aD (by simp;omega),be (by decide),aD (by simp;omega),be (by decide),aD (by omega),dk rfl])
    (by rw[aD (by simp;omega),be (by decide),aD (by simp;omega),be (by decide),aD (by simp;omega),be (by decide),aD (by simp;omega),be (by decide),aD (by simp;omega),be (by decide),aD (by omega),be (by decide)];exact D)
   have M:(w0.setCell A (.pointer none)).setCell A (.pointer (some A))=w0.setCell A (.pointer (some A)):=afF;rw[M] at h;refine⟨A,_,e,n,w,i,D,x,F,f,N,.inr rfl,C,λE r L V=> ?_,h,G⟩;have:=(hk.still r L V).2;rw[fR this,f] at I;cases I
  .exfalso;simp only[qA,kw] at h;exact h.no rfl true (o:=_) (w2:=w0.setCell B (.pointer none)) (by simp only[Gl,stepG,stepG.exec];rfl)
end
end
section
open Go.Conc Go.ConcN Go.RowKit Go.Lib
section
variable {P:Program} (T:CcT P) {w:World} {e:Operand->Value} {x y:Operand} {A:Addr} {v:Value} {dst:Option Tmp} {ty:TypeId} {pos:String} {af:Array Edge} {gd:Option (Nat×Bool)}
def auQ:(execOp e ⟨dst,.move x,ty,pos,af,gd⟩).runT P w #[]=(.ok (.value (e x)) w,#[]):=rfl
def alR(h:e x=.pointer (some A)):(execOp e ⟨dst,.nilCheck x,ty,pos,af,gd⟩).runT P w #[]=(.ok (.value (.pointer (some A))) w,#[]):=by
 simp only[execOp,h];rfl
include T
theorem ae3(h:e x=.pointer (some A)):(execOp e ⟨dst,.fieldAddr 179 x 0,ty,pos,af,gd⟩).runT P w #[]=(.ok (.value (.pointer (some A))) w,#[]):=by
 obtain⟨k,g,c,a,d,b⟩:=T.f;obtain⟨i,f,j⟩:=T.i6;simp[execOp,h,Instr.fieldAt,Instr.sureAddr,lm c,a,fieldPlace,sizeOf,typeInfo,b,f,j,d,Addr.add]
theorem anB(h:e x=.pointer (some A))(a:w.cell? A=some v):(execOp e ⟨dst,.load 177 x,ty,pos,af,gd⟩).runT P w #[]=(.ok (.value v) w,#[⟨.cell A,false,false⟩]):=by
 simp[execOp,h,Instr.loadAt,Instr.sureAddr,loadVar,isAgg,lm T.u,a]
theorem ayb{a:Option Addr}(h:e x=.pointer a)(f:e y=.pointer none):(execOp e ⟨dst,.binOp .eql 177 x y 177,ty,pos,af,gd⟩).runT P w #[]=(.ok (.value (.bool a.isNone)) w,#[]):=by
 have b:∀(d:Nat),(Op.equalIn (d+1) 177 (.pointer a) (.pointer none)).run P w=.ok a.isNone w:=λd=>by
  cases a<;>simp[Op.equalIn,lm T.u]
 have c:∀(d:Nat),(Op.equalIn (d+1) 177 (.pointer a) (.pointer none)).events P w #[]=#[]:=λd=>by
  cases a<;>simp[Op.equalIn,lm T.u]
 simp only[execOp,h,f,eqG,binOp];simp[Op.equal,Op.maxDepth,b 9999,c 9999]
theorem ayc(h:e x=.pointer (some A))(g:e y=.pointer (some A)):(execOp e ⟨dst,.binOp .neq 177 x y 177,ty,pos,af,gd⟩).runT P w #[]=(.ok (.value (.bool false)) w,#[]):=by
 obtain⟨i,a,j, -⟩:=T.i8;have b:∀(d:Nat),(Op.equalIn (d+1) 177 (.pointer (some A)) (.pointer (some A))).run P w=.ok true w:=λd=>by
  simp[Op.equalIn,lm T.u,sizeOf,typeInfo,a,run_sameAddr_same]
 have f:∀(d:Nat),(Op.equalIn (d+1) 177 (.pointer (some A)) (.pointer (some A))).events P w #[]=#[]:=λd=>by
  simp[Op.equalIn,lm T.u,sizeOf,typeInfo,a,j,sameAddr]
 have c:eqGuard .neq 177 x y (.pointer (some A)) (.pointer (some A))=Sem.pure ():=rfl;simp only[execOp,h,g,c,binOp];simp[Op.equal,Op.maxDepth,b 9999,f 9999]
theorem ayd(h:e x=.pointer (some A))(a:w.shape? A.block=some (X,n))(f:A.off<n):(execOp e ⟨dst,.convert 177 164 x,ty,pos,af,gd⟩).runT P w #[]=(.ok (.value (.pointer (some A))) w,#[]):=by
 obtain⟨i,b,d, -⟩:=T.i8;have c:¬n<=A.off:=by omega
 simp[execOp,h,convert,lm T.u,lm T.up,Conv.unsafePointer,Conv.seenAt,viewAt,cellsIn,a,sizeOf,typeInfo,b,d,c]
theorem arU(h:e x=.pointer (some A))(a:w.shape? A.block=some (X,n))(b:liesAt P P.depth X (n / P.cellsOf X) A.off 179 1=true):(execOp e ⟨dst,.convert 164 177 x,ty,pos,af,gd⟩).runT P w #[]=(.ok (.value (.pointer (some A))) w,#[]):=by
 obtain⟨i,c,d, -⟩:=T.i8;simp[execOp,h,convert,lm T.u,lm T.up,Conv.unsafePointer,Conv.seenAt,viewAt,a,variablesAt,b,sizeOf,typeInfo,c,d]
theorem arV{u:Option Addr}(h:e x=.pointer (some A))(d:e y=.pointer u)(g:w.cell? A=some v)(c:w.frozen? A=false):(execOp e ⟨dst,.store 177 x y,ty,pos,af,gd⟩).runT P w #[]=(.ok .skip (w.setCell A (.pointer u)),#[⟨.cell A,true,false⟩]):=by
 obtain⟨i,j,k⟩:=T.i6;have a:(Sem.store .plain A (.pointer u) (Sem.pure ())).runT P w #[]=(.ok () (w.setCell A (.pointer u)),#[⟨.cell A,true,false⟩]):=by
  unfold Sem.runT;simp only[g,c,kw,qA];rfl
 have f:(store A (.pointer u)).run P w=.ok () (w.setCell A (.pointer u)):=by
  rw[<-rc _ _ _ #[]];exact fi Prod.fst a
 have b:(store A (.pointer u)).events P w #[]=#[⟨.cell A,true,false⟩]:=fi Prod.snd a;simp[execOp,h,d,Instr.storeAt,Instr.sureAddr,storeVar,sizeOf,typeInfo,j,k,Value.cells,storeCells,Addr.add,f,b]
end
end
section
open Go.Conc Go.ConcN
abbrev nNE:FuncId:=162
def auR:f162.body.isNone=true:=by kernel_rfl
def ne_next:Extern.findNext f162=none:=by kernel_rfl
def auS:Extern.find f162=some Extern.AbiNoEscape.same:=by kernel_rfl
def afG{fn:Func}{s:Array Value->Sem Value}{args:Array Value}(c:P.funcs[f]?=some fn)(e:(fn.name == "runtime.NumGoroutine")=false)(g:fn.body.isNone=true)(j:Extern.findNext fn=none)(d:Extern.find fn=some s)(i:s args=Sem.pure v) :
  (callFunc f args).runT P w #[]=(.ok (.value v) w,#[⟨.mark (.extern f),false,true⟩]):=by
 unfold callFunc;have a:¬fn.name= "runtime.NumGoroutine" :=by simpa using e
 have b:fn.body=none:=by simpa using g
 simp[c,a,b,j,d,i]
section
variable {w:World} {e:Operand->Value} {x:Operand} {v:Value} {dst:Option Tmp} {ty:TypeId} {pos:String} {af:Array Edge} {gd:Option (Nat×Bool)} {ts:Array TypeId}
def arW(d:e (.func nNE)=.func (.func nNE) #[] #[]):(execOp e ⟨dst,.call ⟨.value (.func nNE),#[x],ts⟩,ty,pos,af,gd⟩).runT prog w #[]=(.ok (.value (e x)) w,#[⟨.mark (.extern nNE),false,true⟩]):=by
 have a:Array.map e #[x]=#[e x]:=by simp
 have b:execOp e ⟨dst,.call ⟨.value (.func nNE),#[x],ts⟩,ty,pos,af,gd⟩=callFunc nNE #[e x]:=by
  simp only[execOp,resolve,a,d];simp[Deferred.ofValue,invoke];try rfl
 rw[b];exact afG func162 (cF func162) auR ne_next auS rfl
def apd(a:e (.func nNE)=.func (.func nNE) #[] #[])(h:e x=v):(execOp e ⟨dst,.call ⟨.value (.func nNE),#[x],ts⟩,ty,pos,af,gd⟩).runT prog w #[]=(.ok (.value v) w,#[⟨.mark (.extern nNE),false,true⟩]):=by
 rw[arW a,h]
end
section
variable {P:Program} {m:Bool} {fr:Frame} {xs base:List Frame} {ops:Array Oper} {i:Nat} {rest:List Nat} {k:List Item} {o:Oper} {w w2:World} {es:Array Event} {v:Value}
def anC (e:fr.mode=.run) (f:fr.kind=.normal) (b:fr.roundOf=none) (d:fr.todo=.inRegion ops (i::rest)::k) (l:ops[i]?=some o) (p:o.guard=none)
  (n:(execOp fr.eval o).runT P w #[]=(.ok (.value v) w2,es)):stepG P m (Gl (fr::xs) base) w=.go (Gl (fr.finish v::xs) base) w2 (seen P fr.fn es):=by
 obtain⟨fn,a,g,c,u,t,s⟩:=fr;dsimp only at e f b d;subst e f b d;have j:∀y,Region.wanted o y=true:=λy=>by unfold Region.wanted;rw[p]
 have q:stepG P m (Gl (⟨fn,a,.inRegion ops (i::rest)::k,c,.run,.normal,none⟩::xs) base) w =
   stepG.apply P true ⟨fn,a,.inRegion ops (i::rest)::k,c,.run,.normal,none⟩ (xs++base) none (execOp (Frame.eval ⟨fn,a,.inRegion ops (i::rest)::k,c,.run,.normal,none⟩) o) w:=by
  simp[Gl,stepG,stepG.exec,stepG.oper,Frame.oper?,l,j]
 rw[q];unfold stepG.apply;simp only[n,pb];have r:(CallKind.normal ==CallKind.early)=false:=rfl;simp[GStep.after,r,Gl]
def ae4 (e:fr.mode=.run) (f:fr.kind=.normal) (b:fr.roundOf=none) (d:fr.todo=.inRegion ops (i::rest)::k) (l:ops[i]?=some o) (p:o.guard=none)
  (n:(execOp fr.eval o).runT P w #[]=(.ok .skip w2,es)):stepG P m (Gl (fr::xs) base) w=.go (Gl (fr.finish undef::xs) base) w2 (seen P fr.fn es):=by
 obtain⟨fn,a,g,c,u,t,s⟩:=fr;dsimp only at e f b d;subst e f b d;have j:∀y,Region.wanted o y=true:=λy=>by unfold Region.wanted;rw[p]
 have q:stepG P m (Gl (⟨fn,a,.inRegion ops (i::rest)::k,c,.run,.normal,none⟩::xs) base) w =
   stepG.apply P true ⟨fn,a,.inRegion ops (i::rest)::k,c,.run,.normal,none⟩ (xs++base) none (execOp (Frame.eval ⟨fn,a,.inRegion ops (i::rest)::k,c,.run,.normal,none⟩) o) w:=by
  simp[Gl,stepG,stepG.exec,stepG.oper,Frame.oper?,l,j]
 rw[q];unfold stepG.apply;simp only[n,pb];have r:(CallKind.normal ==CallKind.early)=false:=rfl;simp[GStep.after,r,Gl]
end
section
variable {P:Program} {main:Bool} {Rl:ak->World->World->Prop} {Gr:ak->ak->World->World->Array Event->Prop} {St:ak->Goroutine->World->Prop} {S Rr:ak} {w0:World}
structure Cmp (Rl:ak->World->World->Prop) (Gr:ak->ak->World->World->Array Event->Prop) (Rr:ak):Prop where
 fu:∀S w,Rl S w w
 tr:∀S a b c,Rl S a b->Rl S b c->Rl S a c
 rl:∀S w w1,Rl S w w1->(∀b,S b\/Rr b->w1.heap[b]?=w.heap[b]?)/\w.heap.size<=w1.heap.size/\w1.ou=w.ou
 gr:∀S w w' es,(∀b,b<w.heap.size->¬S b->w'.heap[b]?=w.heap[b]?)->w.heap.size<=w'.heap.size->w'.ou=w.ou->(∀e∈es,my (λb=>S b\/(w.heap.size<=b/\b<w'.heap.size)) Rr w'.heap.size e)->
   Gr S (λb=>S b\/(w.heap.size<=b/\b<w'.heap.size)) w w' es
def Cmp.same(C:Cmp Rl Gr Rr)(c:∀b,b<w.heap.size->¬S b->w'.heap[b]?=w.heap[b]?)(a:w'.heap.size=w.heap.size)(d:w'.ou=w.ou)(f:∀e∈es,my S Rr w.heap.size e):Gr S S w w' es:=by
 have e:(λb=>S b\/(w.heap.size<=b/\b<w'.heap.size))=S:=by
  funext b
  rw[a];exact propext ⟨λh=>h.elim id λh=>absurd h.1 (by omega),.inl⟩
 have:=C.gr S w w' es c (mu a.symm) d (by rw[e,a];exact f);rw[e] at this;exact this
def bD.still (C:Cmp Rl Gr Rr) {fr:Frame} {base l2 : List Frame} {es:World->Array Event} (f:∀w,Rl S w0 w->stepG P main (Gl (fr::xs) base) w=.go (Gl l2 base) w (es w)) (d:∀w,Rl S w0 w->∀e∈es w,my S Rr w.heap.size e)
  (g:∀w,Rl S w0 w->bD P main Rl Gr St S (Gl l2 base) w):∀w,Rl S w0 w->bD P main Rl Gr St S (Gl (fr::xs) base) w:=λw a=>
 .step rfl λb c=>⟨_,_,_,S,f b (C.tr _ _ _ _ a c),C.same (λ_ _ _=>rfl) rfl rfl (d b (C.tr _ _ _ _ a c)),g b (C.tr _ _ _ _ a c)⟩
variable {f:FuncId} {T:Array Value} {k:List Item} {xs base:List Frame}
def dT(C:Cmp Rl Gr Rr)(c:∀w,Rl S w0 w->bD P main Rl Gr St S (Gl (FQ f T (.code a :: .code b::k)::xs) base) w):∀w,Rl S w0 w->bD P main Rl Gr St S (Gl (FQ f T (.code (.seq a b)::k)::xs) base) w:=
 bD.still C (es:=λ_=>#[]) (λw _=>by simp[Gl,stepG,stepG.exec]) (λ_ _ e h=>by cases(by simpa using h:False)) c
def fI(C:Cmp Rl Gr Rr){id:Nat}{l:List Nat}(a:List.range Z.size=l)(b:∀w,Rl S w0 w->bD P main Rl Gr St S (Gl (FQ f T (.inRegion Z l::k)::xs) base) w):∀w,Rl S w0 w->bD P main Rl Gr St S (Gl (FQ f T (.code (.region id Z false)::k)::xs) base) w:=
 bD.still C (es:=λ_=>#[]) (λw _=>by subst a;simp[Gl,stepG,stepG.exec]) (λ_ _ e h=>by cases(by simpa using h:False)) b
def gQ(C:Cmp Rl Gr Rr)(a:∀w,Rl S w0 w->bD P main Rl Gr St S (Gl (FQ f T k::xs) base) w):∀w,Rl S w0 w->bD P main Rl Gr St S (Gl (FQ f T (.inRegion Z []::k)::xs) base) w:=
 bD.still C (es:=λ_=>#[]) (λw _=>by simp[Gl,stepG,stepG.exec]) (λ_ _ e h=>by cases(by simpa using h:False)) a
def anD(C:Cmp Rl Gr Rr)(a:∀w,Rl S w0 w->bD P main Rl Gr St S (Gl (FQ f T k::xs) base) w):∀w,Rl S w0 w->bD P main Rl Gr St S (Gl (FQ f T (.code .skip::k)::xs) base) w:=
 bD.still C (es:=λ_=>#[]) (λw _=>by simp[Gl,stepG,stepG.exec]) (λ_ _ e h=>by cases(by simpa using h:False)) a
def abY(C:Cmp Rl Gr Rr)(c:T.getD t undef=.bool q)(g:∀w,Rl S w0 w->bD P main Rl Gr St S (Gl (FQ f T (.code (if q then a else b)::k)::xs) base) w):∀w,Rl S w0 w->bD P main Rl Gr St S (Gl (FQ f T (.code (.cond (.tmp t) a b)::k)::xs) base) w:=
 have d:Frame.eval (FQ f T (.code (.cond (.tmp t) a b)::k)) (.tmp t)=.bool q:=c
 bD.still C (es:=λ_=>#[]) (λw _=>by simp[Gl,stepG,stepG.exec,d]) (λ_ _ e h=>by cases(by simpa using h:False)) g
def aAr (C:Cmp Rl Gr Rr)       (a:Z[i]?=some o) (l:o.guard=none) (b:o.dst=some d)
  (j:∀w,Rl S w0 w->(execOp (FQ f T (.inRegion Z (i::rest)::k)).eval o).runT P w #[]=(.ok (.value v) w,es)) (g:∀w,Rl S w0 w->∀e∈seen P f es,my S Rr w.heap.size e)
  (m:∀w,Rl S w0 w->bD P main Rl Gr St S (Gl (FQ f (T.setIfInBounds d v) (.inRegion Z rest::k)::xs) base) w):∀w,Rl S w0 w->bD P main Rl Gr St S (Gl (FQ f T (.inRegion Z (i::rest)::k)::xs) base) w:=
 bD.still C (l2:=FQ f (T.setIfInBounds d v) (.inRegion Z rest::k)::xs) (es:=λ_=>seen P f es) (λw c=>by
  rw[anC rfl rfl rfl rfl a l (j w c)];have:Frame.finish (FQ f T (.inRegion Z (i::rest)::k)) v=FQ f (T.setIfInBounds d v) (.inRegion Z rest::k):=by
   simp only[Frame.finish,a,qB,b]
  rw[this]) g m
def ajr(C:Cmp Rl Gr Rr){fn:Func}(b:P.funcs[f]?=some fn)(a:fn.results=#[])(d:∀w,Rl S w0 w->bD P main Rl Gr St S (Gl (y.finish (.tuple #[])::Y) base) w):∀w,Rl S w0 w->bD P main Rl Gr St S (Gl (FQ f T []::y::Y) base) w:=
 bD.still C (l2:=⟨f,T,[],[],.returning,.normal,none⟩::y::Y) (es:=λ_=>#[]) (λw _=>by simp[Gl,stepG,stepG.exec]) (λ_ _ e h=>by cases(by simpa using h:False))
  (bD.still C (es:=λ_=>#[]) (λw _=>by
   have c:(results fn T).runT P w #[]=(.ok (.tuple #[]) w,#[]):=by simp[results,a]
   simp only[Gl,stepG,unwind,b,c];simp[doReturn,GStep.after,seen]) (λ_ _ e h=>by cases(by simpa using h:False)) d)
def ae5(C:Cmp Rl Gr Rr){id:Nat}(b:∀w,Rl S w0 w->bD P main Rl Gr St S (Gl (FQ f T (.code a :: .inBlock id::k)::xs) base) w):∀w,Rl S w0 w->bD P main Rl Gr St S (Gl (FQ f T (.code (.block id a)::k)::xs) base) w:=
 bD.still C (es:=λ_=>#[]) (λw _=>by simp[Gl,stepG,stepG.exec]) (λ_ _ e h=>by cases(by simpa using h:False)) b
def anE(C:Cmp Rl Gr Rr)(b:∀w,Rl S w0 w->bD P main Rl Gr St S (Gl (FQ f T (.code a :: .inLoop a::k)::xs) base) w):∀w,Rl S w0 w->bD P main Rl Gr St S (Gl (FQ f T (.code (.loop a)::k)::xs) base) w:=
 bD.still C (es:=λ_=>#[]) (λw _=>by simp[Gl,stepG,stepG.exec]) (λ_ _ e h=>by cases(by simpa using h:False)) b
def arX(C:Cmp Rl Gr Rr)(b:∀w,Rl S w0 w->bD P main Rl Gr St S (Gl (FQ f T (.code a :: .inLoop a::k)::xs) base) w):∀w,Rl S w0 w->bD P main Rl Gr St S (Gl (FQ f T (.inLoop a::k)::xs) base) w:=
 bD.still C (es:=λ_=>#[]) (λw _=>by simp[Gl,stepG,stepG.exec]) (λ_ _ e h=>by cases(by simpa using h:False)) b
def ajs(C:Cmp Rl Gr Rr){id:Nat}(a:∀w,Rl S w0 w->bD P main Rl Gr St S (Gl (FQ f T k::xs) base) w):∀w,Rl S w0 w->bD P main Rl Gr St S (Gl (FQ f T (.inBlock id::k)::xs) base) w:=
 bD.still C (es:=λ_=>#[]) (λw _=>by simp[Gl,stepG,stepG.exec]) (λ_ _ e h=>by cases(by simpa using h:False)) a
def anF(C:Cmp Rl Gr Rr){id:Nat}(a:exitTo id k=some k2)(b:∀w,Rl S w0 w->bD P main Rl Gr St S (Gl (FQ f T k2::xs) base) w):∀w,Rl S w0 w->bD P main Rl Gr St S (Gl (FQ f T (.code (.exit id)::k)::xs) base) w:=
 bD.still C (es:=λ_=>#[]) (λw _=>by simp[Gl,stepG,stepG.exec,a]) (λ_ _ e h=>by cases(by simpa using h:False)) b
end
section
variable {P:Program} {w:World} {e:Operand->Value} {x:Operand} {v:Value} {dst:Option Tmp} {ty:TypeId} {pos:String} {af:Array Edge} {gd:Option (Nat×Bool)}
def eR(h:e x=v):(execOp e ⟨dst,.move x,ty,pos,af,gd⟩).runT P w #[]=(.ok (.value v) w,#[]):=by rw[auQ,h]
end
section
variable {P:Program} {main:Bool} {Rl:ak->World->World->Prop} {Gr:ak->ak->World->World->Array Event->Prop} {St:ak->Goroutine->World->Prop} {S Rr:ak} {w0:World}
def bj(B:Nat):∀e∈seen P f #[],my S Rr B e:=λe a=>by cases(by simpa using sR a:False)
def abZ{wr:Bool}(d:S A.block)(g:A.block<B):∀e∈seen P f #[⟨.cell A,wr,false⟩],my S Rr B e:=λe c=>by
 have h:=sR c;simp only[sd,jp,rA,tR] at h;subst h;refine⟨λx a=>.inl ?_,λm b=>(by cases b),g⟩;simp[MemAct.ofEvent,MemAct.touch?] at a;rw[<-a];exact d
def aye{g : FuncId} :∀e∈seen P f #[⟨.mark (.extern g),false,true⟩],my S Rr B e:=λe b=>by
 have h:=sR b;simp only[sd,jp,rA,tR] at h;subst h;refine⟨λx c=> ?_,λm a=>.inl ⟨g,by cases a;rfl⟩,trivial⟩;simp[MemAct.ofEvent,MemAct.touch?] at c
def ae6(C:Cmp Rl Gr Rr)(a:S A.block)(h:Rl S w0 w):w.cell? A=w0.cell? A/\w.frozen? A=w0.frozen? A/\w.shape? A.block=w0.shape? A.block/\w0.heap.size<=w.heap.size:=by
 obtain⟨b,c, -⟩:=C.rl _ _ _ h;have e:=b A.block (.inl a);refine⟨fR e, ?_, ?_,c⟩
 .unfold World.frozen?;rw[e]
 .unfold World.shape?;rw[e]
def bc(w:World)(A:Addr)(v:Value){b:Nat}(h:A.block≠b):(w.setCell A v).heap[b]?=w.heap[b]?:=by
 unfold World.setCell;simp only[oE,be h]
def ae7 (C:Cmp Rl Gr Rr) {T:Array Value} {base : List Frame}       (g:Z[i]?=some o) (n:o.guard=none) (j:o.dst=none)
  (m:∀w,Rl S w0 w->(execOp (FQ f T (.inRegion Z (i::rest)::k)).eval o).runT P w #[]=(.ok .skip (w.setCell A u),es)) (s:S A.block) (r:∀w,Rl S w0 w->∀e∈seen P f es,my S Rr w.heap.size e)
  (q:∀w,Rl S w0 w->∀a,Rl S (w.setCell A u) a->bD P main Rl Gr St S (Gl (FQ f T (.inRegion Z rest::k)::xs) base) a):∀w,Rl S w0 w->bD P main Rl Gr St S (Gl (FQ f T (.inRegion Z (i::rest)::k)::xs) base) w:=λw l=>by
 refine .step rfl λa c=> ?_;have d:=C.tr _ _ _ _ l c;refine⟨_,_,_,S,ae4 rfl rfl rfl rfl g n (m a d),C.same (λb _ p=>bc _ _ _ (λe=>p (e▸s))) (ef _ _ _) rfl (r a d), ?_⟩;have:Frame.finish (FQ f T (.inRegion Z (i::rest)::k)) undef=FQ f T (.inRegion Z rest::k):=by
  simp only[Frame.finish,g,qB,j]
 rw[this];exact q a d _ (C.fu _ _)
def bJ (C:Cmp Rl Gr Rr) {T:Array Value} {base : List Frame}       (b:d<T.size) (c:Z[i]?=some o) (l:o.guard=none) (a:o.dst=some d)
  (g:∀w,Rl S w0 w->(execOp (FQ f T (.inRegion Z (i::rest)::k)).eval o).runT P w #[]=(.ok (.value v) w,es)) (n:∀w,Rl S w0 w->∀e∈seen P f es,my S Rr w.heap.size e)
  (m:∀T':Array Value,T'.size=T.size->T'.getD d undef=v->(∀t,t≠d->T'.getD t undef=T.getD t undef)->∀w,Rl S w0 w->bD P main Rl Gr St S (Gl (FQ f T' (.inRegion Z rest::k)::xs) base) w):∀w,Rl S w0 w->bD P main Rl Gr St S (Gl (FQ f T (.inRegion Z (i::rest)::k)::xs) base) w:=
 aAr C c l a g n (m _ (by simp) (by rw[aD b,dk rfl]) λt j=>by rw[aD b,be j])
def arY:Code->Code
 |.seq _ (.cond _ a _)=>a
 |c=>c
def arZ:Code->Code
 |.seq _ (.cond _ _ b)=>b
 |c=>c
def aAs(C:Cmp Rl Gr Rr){T:Array Value}{base : List Frame}(c:20<=T.size)(e:T.getD 0 undef=.pointer (some A))(p:S A.block)(D:A.block<w0.heap.size)(s:w0.shape? A.block=some (X,n))(x:A.off<n)(z:liesAt prog prog.depth X (n / prog.cellsOf X) A.off 179 1=true)(E:w0.cell? A=some (.pointer none))(t:w0.frozen? A=false)(B:∀w,Rl S w0 w->∀r,Rl S (w.setCell A (.pointer (some A))) r->bD prog main Rl Gr St S (Gl (y.finish (.tuple #[])::Y) base) r) :
  ∀w,Rl S w0 w->bD prog main Rl Gr St S (Gl (FC T [.code (arY (f151.body.getD .skip))]::y::Y) base) w:=by
 have F:=λw (h:Rl S w0 w)=>ae6 (A:=A) C p h;simp only[f151,qi,arY];refine fI C (l:=[0,1,2,3,4,5,6,7]) rfl ?_;refine bJ C (d:=7) (v:=.pointer (some A)) (es:=#[]) (aE (by decide) c) rfl rfl rfl (λw b=>eR e) (λw b=>bj _) ?_;intro T a g o;replace c:=bd c (mu a.symm);replace e:=(o 0 (by decide)).trans e;clear o a;refine bJ C (d:=8) (v:=.pointer (some A)) (es:=#[]) (aE (by decide) c) rfl rfl rfl (λw b=>eR e) (λw b=>bj _) ?_;intro T a j o;replace c:=bd c (mu a.symm);replace e:=(o 0 (by decide)).trans e;replace g:=(o 7 (by decide)).trans g;clear o a;refine bJ C (d:=9) (v:=.pointer (some A)) (es:=#[]) (aE (by decide) c) rfl rfl rfl (λw b=>ayd ccT j ((F w b).2.2.1.trans s) x) (λw b=>bj _) ?_;intro T a k o;replace c:=bd c (mu a.symm);replace e:=(o 0 (by decide)).trans e;replace g:=(o 7 (by decide)).trans g;replace j:=(o 8 (by decide)).trans j;clear o a;refine bJ C (d:=10) (v:=.pointer (some A)) (aE (by decide) c) rfl rfl rfl (λw b=>apd rfl k) (λw b=>aye) ?_;intro T a f o;replace c:=bd c (mu a.symm);replace e:=(o 0 (by decide)).trans e;replace g:=(o 7 (by decide)).trans g;replace j:=(o 8 (by decide)).trans j;replace k:=(o 9 (by decide)).trans k;clear o a;refine bJ C (d:=11) (v:=.pointer (some A)) (es:=#[]) (aE (by decide) c) rfl rfl rfl (λw b=>arU ccT f ((F w b).2.2.1.trans s) z) (λw b=>bj _) ?_;intro T a i o;replace c:=bd c (mu a.symm);replace e:=(o 0 (by decide)).trans e;replace g:=(o 7 (by decide)).trans g;replace j:=(o 8 (by decide)).trans j;replace k:=(o 9 (by decide)).trans k;replace f:=(o 10 (by decide)).trans f;clear o a;refine bJ C (d:=12) (v:=.pointer (some A)) (es:=#[]) (aE (by decide) c) rfl rfl rfl (λw b=>alR g) (λw b=>bj _) ?_;intro T a m o;replace c:=bd c (mu a.symm);replace e:=(o 0 (by decide)).trans e;replace g:=(o 7 (by decide)).trans g;replace j:=(o 8 (by decide)).trans j;replace k:=(o 9 (by decide)).trans k;replace f:=(o 10 (by decide)).trans f;replace i:=(o 11 (by decide)).trans i;clear o a;refine bJ C (d:=13) (v:=.pointer (some A)) (es:=#[]) (aE (by decide) c) rfl rfl rfl (λw b=>ae3 ccT m) (λw b=>bj _) ?_;intro T a q o;replace c:=bd c (mu a.symm);replace e:=(o 0 (by decide)).trans e;replace g:=(o 7 (by decide)).trans g;replace j:=(o 8 (by decide)).trans j;replace k:=(o 9 (by decide)).trans k;replace f:=(o 10 (by decide)).trans f;replace i:=(o 11 (by decide)).trans i;replace m:=(o 12 (by decide)).trans m;clear o a;refine ae7 C (A:=A) (u:=.pointer (some A)) rfl rfl rfl (λw b=>arV ccT (A:=A) (u:=some A) q i ((F w b).1.trans E) ((F w b).2.1.trans t)) p (λw b=>abZ p (aE D (F w b).2.2.2)) ?_;intro w b;exact gQ C (ajr C func151 rfl (B w b))
def aAt(C:Cmp Rl Gr Rr){T:Array Value}{base : List Frame}(e:20<=T.size)(i:T.getD 0 undef=.pointer (some A))(m:S A.block)(t:A.block<w0.heap.size)(r:w0.cell? A=some (.pointer (some A)))(s:∀w,Rl S w0 w->∀p,Rl S (w.setCell A (.pointer (some A))) p->bD prog main Rl Gr St S (Gl (y.finish (.tuple #[])::Y) base) p) :
  ∀w,Rl S w0 w->bD prog main Rl Gr St S (Gl (FC T [.code (arZ (f151.body.getD .skip))]::y::Y) base) w:=by
 have F:=λw (h:Rl S w0 w)=>ae6 (A:=A) C m h;simp only[f151,qi,arZ];refine dT C ?_;refine fI C (l:=[0,1,2,3,4,5]) rfl ?_;refine bJ C (d:=14) (v:=.pointer (some A)) (es:=#[]) (aE (by decide) e) rfl rfl rfl (λw f=>eR i) (λw f=>bj _) ?_;intro T a b o;replace e:=bd e (mu a.symm);replace i:=(o 0 (by decide)).trans i;clear o a;refine bJ C (d:=15) (v:=.pointer (some A)) (es:=#[]) (aE (by decide) e) rfl rfl rfl (λw f=>alR b) (λw f=>bj _) ?_;intro T a c o;replace e:=bd e (mu a.symm);replace i:=(o 0 (by decide)).trans i;replace b:=(o 14 (by decide)).trans b;clear o a;refine bJ C (d:=16) (v:=.pointer (some A)) (es:=#[]) (aE (by decide) e) rfl rfl rfl (λw f=>ae3 ccT c) (λw f=>bj _) ?_;intro T a g o;replace e:=bd e (mu a.symm);replace i:=(o 0 (by decide)).trans i;replace b:=(o 14 (by decide)).trans b;replace c:=(o 15 (by decide)).trans c;clear o a;refine bJ C (d:=17) (v:=.pointer (some A)) (aE (by decide) e) rfl rfl rfl (λw f=>anB ccT g ((F w f).1.trans r)) (λw f=>abZ m (aE t (F w f).2.2.2)) ?_;intro T a j o;replace e:=bd e (mu a.symm);replace i:=(o 0 (by decide)).trans i;replace b:=(o 14 (by decide)).trans b;replace c:=(o 15 (by decide)).trans c;replace g:=(o 16 (by decide)).trans g;clear o a;refine bJ C (d:=18) (v:=.pointer (some A)) (es:=#[]) (aE (by decide) e) rfl rfl rfl (λw f=>eR i) (λw f=>bj _) ?_;intro T a k o;replace e:=bd e (mu a.symm);replace i:=(o 0 (by decide)).trans i;replace b:=(o 14 (by decide)).trans b;replace c:=(o 15 (by decide)).trans c;replace g:=(o 16 (by decide)).trans g;replace j:=(o 17 (by decide)).trans j;clear o a;refine bJ C (d:=19) (v:=.bool false) (es:=#[]) (aE (by decide) e) rfl rfl rfl (λw f=>ayc ccT (A:=A) j k) (λw f=>bj _) ?_;intro T a n o;replace e:=bd e (mu a.symm);replace i:=(o 0 (by decide)).trans i;replace b:=(o 14 (by decide)).trans b;replace c:=(o 15 (by decide)).trans c;replace g:=(o 16 (by decide)).trans g;replace j:=(o 17 (by decide)).trans j;replace k:=(o 18 (by decide)).trans k;clear o a;refine gQ C ?_;refine abY C (q:=false) n ?_;simp only[qA,kw];refine anD C ?_;refine ajr C func151 rfl ?_;intro w f;refine s w f w ?_;rw[ahK ((F w f).1.trans r)];exact C.fu _ _
def ar0(C:Cmp Rl Gr Rr){T:Array Value}{base : List Frame}(c:20<=T.size)(g:T.getD 0 undef=.pointer (some A))(j:S A.block)(t:A.block<w0.heap.size)(K:w0.shape? A.block=some (X,n))(H:A.off<n)(I:liesAt prog prog.depth X (n / prog.cellsOf X) A.off 179 1=true)(u:w0.cell? A=some v)(G:w0.frozen? A=false)(E:v=.pointer none\/v=.pointer (some A))(B:∀w,Rl S w0 w->∀z,Rl S (w.setCell A (.pointer (some A))) z->bD prog main Rl Gr St S (Gl (y.finish (.tuple #[])::Y) base) z) :
  ∀w,Rl S w0 w->bD prog main Rl Gr St S (Gl (FC T [.code (f151.body.getD .skip)]::y::Y) base) w:=by
 have F:=λw (h:Rl S w0 w)=>ae6 (A:=A) C j h;obtain⟨a,rfl⟩:∃a,v=.pointer a:=E.elim (λe=>⟨_,e⟩) λe=>⟨_,e⟩;have x:=λ(p:Array Value) (b:20<=p.size) (f:p.getD 0 undef=.pointer (some A)) (k:w0.cell? A=some (.pointer none))=>aAs (T:=p) C b f j t K H I k G B
 have D:=λ(p:Array Value) (b:20<=p.size) (f:p.getD 0 undef=.pointer (some A)) (k:w0.cell? A=some (.pointer (some A)))=>aAt (T:=p) C b f j t k B
 simp only[f151,qi,arY,arZ] at x D ⊢;refine dT C ?_;refine fI C (l:=[0,1,2,3,4]) rfl ?_;refine bJ C (d:=2) (v:=.pointer (some A)) (es:=#[]) (aE (by decide) c) rfl rfl rfl (λw i=>eR g) (λw i=>bj _) ?_;intro T b f o;replace c:=bd c (mu b.symm);replace g:=(o 0 (by decide)).trans g;clear o b;refine bJ C (d:=3) (v:=.pointer (some A)) (es:=#[]) (aE (by decide) c) rfl rfl rfl (λw i=>alR f) (λw i=>bj _) ?_;intro T b m o;replace c:=bd c (mu b.symm);replace g:=(o 0 (by decide)).trans g;replace f:=(o 2 (by decide)).trans f;clear o b;refine bJ C (d:=4) (v:=.pointer (some A)) (es:=#[]) (aE (by decide) c) rfl rfl rfl (λw i=>ae3 ccT m) (λw i=>bj _) ?_;intro T b r o;replace c:=bd c (mu b.symm);replace g:=(o 0 (by decide)).trans g;replace f:=(o 2 (by decide)).trans f;replace m:=(o 3 (by decide)).trans m;clear o b;refine bJ C (d:=5) (v:=.pointer a) (aE (by decide) c) rfl rfl rfl (λw i=>anB ccT r ((F w i).1.trans u)) (λw i=>abZ j (aE t (F w i).2.2.2)) ?_;intro T b s o;replace c:=bd c (mu b.symm);replace g:=(o 0 (by decide)).trans g;replace f:=(o 2 (by decide)).trans f;replace m:=(o 3 (by decide)).trans m;replace r:=(o 4 (by decide)).trans r;clear o b;refine bJ C (d:=6) (v:=.bool a.isNone) (aE (by decide) c) rfl rfl rfl (λw i=>ayb ccT (a:=a) s rfl) (λw i=>bj _) ?_;intro T b J o;replace c:=bd c (mu b.symm);replace g:=(o 0 (by decide)).trans g;replace f:=(o 2 (by decide)).trans f;replace m:=(o 3 (by decide)).trans m;replace r:=(o 4 (by decide)).trans r;replace s:=(o 5 (by decide)).trans s;clear o b;refine gQ C ?_;refine abY C (q:=a.isNone) J ?_;rcases E with e|e
 .cases e;simp only[Option.isNone_none,pb];exact x _ c g u
 .cases e;simp only[Option.isNone_some,qA,kw];exact D _ c g u
end
noncomputable def ar1(f:FuncId):Bool:=match prog.funcs[f]? with
 |some fn=>!(fn.name == "loop.example/depositary/impl.fetchAll" || fn.name == "(*strings.Builder).copyCheck")||f ==cx||f ==nCC
 |none=>true
def alS:(List.range prog.funcs.size).all ar1=true:=by kernel_rfl
def wX(h:gH f=true):f=cx\/f=nCC:=by
 unfold gH at h;cases b:prog.funcs[f]? with
 |none=>rw[b] at h;cases h
 |some fn=>
  rw[b] at h;have a:=jt.1 alS f (qh.2 (de.1 b).1);unfold ar1 at a;rw[b] at a;dsimp only at h a;rw[h] at a;simpa using a
def ar2 :Frame.enter prog nCC U .normal=FC (T0C U) [.code (f151.body.getD .skip)]:=by
 unfold Frame.enter;rw[func151];rfl
def ar3{e:TypeId}(d:w.shape? A.block=some (e,n))(a:w.cell? A=some v):A.off<n:=by
 unfold World.shape? at d;unfold World.cell? at a;cases f:w.heap[A.block]? with
 |none=>rw[f] at a;simp at a
 |some o=>
  rw[f] at d a;cases o with
  |cells c t z=>
   cases b:A.spot with
   |some s=>simp[b] at a
   |none=>
    simp[b] at a d;have:=(de.1 a).1;omega
  |_=>simp at a
def aar{b:Nat}(h:W.heap[b]?=w.heap[b]?):(W.setCell A u).heap[b]?=(w.setCell A u).heap[b]?:=by
 unfold World.setCell;simp only[oE,h]
section
variable {β main:Bool} {Rl:ak->World->World->Prop} {Gr:ak->ak->World->World->Array Event->Prop} {Rr:ak} {R:List Frame->World->Prop}
def agk(C:Cmp Rl Gr Rr){base:List Frame}:wN (ah β) prog R Rr main Rl Gr base:=by
 intro f c ρ a Q m m' l S hf r ha L hc H hg hW F;obtain rfl:f=nCC:=(wX hf).resolve_left r;obtain⟨_,_,y,ys,rfl,rfl⟩:=L.ne';obtain⟨A,v,e,n,c1,X,h0,M,V,d,Y,hv,⟨N,t⟩,D,i,B⟩:=auP ha L hc H hg hW;have j:ρ.r N.block A.block:=by cases t with|mk h o s=>exact h
 have z:S A.block:=by
  rcases F _ _ j with h|⟨_,P,W⟩
  .exact h
  .exact(D _ j P W).elim
 have hB:A.block<l.heap.size:=(H.lt j).2;have U:20<=(T0C Q).size:=by simp only[T0C,rV,sN];omega
 rw[ar2];have G:liesAt prog prog.depth e (n / prog.cellsOf e) A.off 179 1=true:=by
  rw[<-V];exact(aqy prog _ _ _ _ _ _ _).symm
 refine ar0 C U h0 z hB M (ar3 M d) G d Y hv (λw T w1 x=> ?_) l (C.fu _ _);refine .stop λw2 u=> ?_;have K:=i.kept;have p:(l.setCell A (.pointer (some A))).heap.size=l.heap.size:=ef _ _ _;have g:=F.step i.wr K;have hS:(λb=>S b\/(l.heap.size<=b/\b<(l.setCell A (.pointer (some A))).heap.size))=S:=by
  funext b
  rw[p];exact propext ⟨λh=>h.elim id λh=>absurd h.1 (by omega),.inl⟩
 rw[hS] at g;obtain⟨J,r2,O⟩:=C.rl _ _ _ T;obtain⟨I,s2,Z⟩:=C.rl _ _ _ (C.tr _ _ _ _ x u);refine⟨c1,X,_,B,i.le,λ_ k=>k,rfl,⟨i.st, ?_,i.gl,i.will,g⟩,.anx K λb E k=> ?_⟩
 case refine_2=>
  have q:=(F b E k).imp (λh=>h) (λh=>h.1);exact(I E q).trans (aar (J E q))
 refine i.wr.rely g (λb k=>(I b k).trans (aar (J b k))) ?_ ?_
 .rw[p];have:(w.setCell A (.pointer (some A))).heap.size=w.heap.size:=ef _ _ _;omega
 .exact Z.trans O
end
structure FaT (P:Program):Prop where
 u3:P.underlying 3=some (.int .i64)
 u9:P.underlying 9=some .string
 u23:P.underlying 23=some (.slice 32)
 u31:P.underlying 40=some (.slice 3)
 u38:P.underlying 30=some (.slice 49)
 ahL:P.underlying 125=some (.slice 136)
 auT:∃ms,P.underlying 153=some (.interface ms)
 u40:∃fs g0 g1,P.underlying 32=some (.struct fs)/\fs[0]?=some g0/\fs[1]?=some g1/\g0.offset=0/\g0.type=3/\g1.offset=1/\g1.type=30
 auU:∃fs g0 g1,P.underlying 49=some (.struct fs)/\fs[0]?=some g0/\fs[1]?=some g1/\g0.offset=0/\g0.type=3/\g1.offset=1/\g1.type=9
 auV:∃fs,P.underlying 136=some (.struct fs)
 i3:∃i,P.info? 3=some i/\i.size=1
 i40:∃i,P.info? 32=some i/\i.size=2
 i110:∃i,P.info? 49=some i/\i.size=2
 adK:∃i,P.info? 136=some i/\i.size=2/\i.bytes=24/\i.zero=some (.agg #[.string ⟨#[]⟩,.bool false])
 i247:∃i,P.info? 125=some i/\i.size=1/\i.zero=some (.slice none 0 0)
def auW:((prog.info? 3).map (·.size ==1)=some true/\(prog.info? 32).map (·.size ==2)=some true)/\((prog.info? 49).map (·.size ==2)=some true/\(prog.info? 136).map (λi=>i.size ==2&&i.bytes ==24)=some true):=by
 refine⟨⟨?_, ?_⟩, ?_, ?_⟩<;>kernel_rfl
def aAu:(prog.info? 136).map (·.zero)=some (some (.agg #[.string ⟨#[]⟩,.bool false])):=by kernel_rfl
def aAv:(prog.info? 125).map (λi=>(i.size,i.zero))=some (1,some (.slice none 0 0)):=by kernel_rfl
def faT:FaT prog where
 u3:=underlying3
 u9:=underlying9
 u23:=underlying23
 u31:=underlying40
 u38:=underlying30
 ahL:=underlying125
 auT:=⟨_,underlying153⟩
 u40:=⟨_,_,_,underlying32,rfl,rfl,rfl,rfl,rfl,rfl⟩
 auU:=⟨_,_,_,underlying49,rfl,rfl,rfl,rfl,rfl,rfl⟩
 auV:=⟨_,underlying136⟩
 i3:=let⟨i,h,k⟩:=io.1 auW.1.1;⟨i,h,by simpa using k⟩
 i40:=let⟨i,h,k⟩:=io.1 auW.1.2;⟨i,h,by simpa using k⟩
 i110:=let⟨i,h,k⟩:=io.1 auW.2.1;⟨i,h,by simpa using k⟩
 adK:=by
  obtain⟨i,h,k⟩:=io.1 auW.2.2;have z:=aAu;rw[h] at z;simp only[fd,mw] at k;exact⟨i,h,k.1,k.2,by simpa using z⟩
 i247:=by
  obtain⟨i,h,k⟩:=io.1 aAv;simp only[uO] at k;exact⟨i,h,k.1,k.2⟩
def faQ(β:Bool):FaT (ah β) where
 u3:=(cG prog _ _).trans faT.u3
 u9:=(cG prog _ _).trans faT.u9
 u23:=(cG prog _ _).trans faT.u23
 u31:=(cG prog _ _).trans faT.u31
 u38:=(cG prog _ _).trans faT.u38
 ahL:=(cG prog _ _).trans faT.ahL
 auT:=let⟨d,h⟩:=faT.auT;⟨d,(cG prog _ _).trans h⟩
 u40:=let⟨a,b,c,h,k⟩:=faT.u40;⟨a,b,c,(cG prog _ _).trans h,k⟩
 auU:=let⟨a,b,c,h,k⟩:=faT.auU;⟨a,b,c,(cG prog _ _).trans h,k⟩
 auV:=let⟨d,h⟩:=faT.auV;⟨d,(cG prog _ _).trans h⟩
 i3:=let⟨i,h,k⟩:=faT.i3;⟨i,(jI prog _ _).trans h,k⟩
 i40:=let⟨i,h,k⟩:=faT.i40;⟨i,(jI prog _ _).trans h,k⟩
 i110:=let⟨i,h,k⟩:=faT.i110;⟨i,(jI prog _ _).trans h,k⟩
 adK:=let⟨i,h,k⟩:=faT.adK;⟨i,(jI prog _ _).trans h,k⟩
 i247:=let⟨i,h,k⟩:=faT.i247;⟨i,(jI prog _ _).trans h,k⟩
def kT{s:Sem Value}{a:Next}(h:(s.bind λv=>Sem.pure (Next.value v)).run P w=.ok a W):∃v,a=.value v/\s.run P w=.ok v W:=by
 obtain⟨v,b,d,c⟩:=dC (s:=s) h;cases(show Result.ok (Next.value v) b=Result.ok a W from c);exact⟨v,rfl,d⟩
section
variable {P:Program} {w w3:World} {e:Operand->Value} {x y:Operand} {nx:Next} {a b:Int} {dst:Option Tmp} {ty:TypeId} {pos:String} {af:Array Edge} {gd:Option (Nat×Bool)}
def ja(h:(execOp e ⟨dst,.assign x,ty,pos,af,gd⟩).run P w=.ok nx w3):∃v,nx=.value v/\(v=e x/\w3=w):=by
 cases(show Result.ok (Next.value (e x)) w=Result.ok nx w3 from h);exact⟨_,rfl,rfl,rfl⟩
def ahM(h:(execOp e ⟨dst,.move x,ty,pos,af,gd⟩).run P w=.ok nx w3):∃v,nx=.value v/\(v=e x/\w3=w):=by
 cases(show Result.ok (Next.value (e x)) w=Result.ok nx w3 from h);exact⟨_,rfl,rfl,rfl⟩
def ar5(f:e y=.int .i64 b)(h:(execOp e ⟨dst,.binOp .lss 3 x y 3,ty,pos,af,gd⟩).run P w=.ok nx w3):∃v,nx=.value v/\(∃a,e x=.int .i64 a/\v=.bool (decide (a<b))/\w3=w):=by
 obtain⟨v,rfl,d⟩:=kT (s:=binOp .lss 3 (e x) (e y)) h;clear h;have h:=d;clear d;refine⟨v,rfl, ?_⟩;rw[f] at h;generalize e x=u at h ⊢;cases u with
 |int k n=>
  by_cases c:k=.i64
  .subst c;cases(show Result.ok (.bool (decide (n<b))) w=Result.ok v w3 from h);exact⟨_,rfl,rfl,rfl⟩
  .simp only[binOp,c,ne_eq,not_false_eq_true,pb] at h;cases(show Result.halt _ _=Result.ok v w3 from h)
 |pointer p=>cases p<;>cases(show Result.halt _ _=Result.ok v w3 from h)
 |_=>cases(show Result.halt _ _=Result.ok v w3 from h)
def fS(i:e x=.int .i64 a)(d:e y=.int .i64 b)(h:(execOp e ⟨dst,.binOp .lss 3 x y 3,ty,pos,af,gd⟩).run P w=.ok nx w3):∃v,nx=.value v/\(v=.bool (decide (a<b))/\w3=w):=by
 obtain⟨v,rfl,j,c,f,g⟩:=ar5 d h;rw[i] at c;cases c;exact⟨_,rfl,f,g⟩
def alT(h:(execOp e ⟨dst,.binOp .mul 3 x (.const (.int .i64 1)) 3,ty,pos,af,gd⟩).run P w=.ok nx w3)(d:e (.const (.int .i64 1))=.int .i64 1):∃v,nx=.value v/\(∃a,e x=.int .i64 a/\v=.int .i64 (IntKind.i64.wrap (a*1))/\w3=w):=by
 obtain⟨v,rfl,c⟩:=kT (s:=binOp .mul 3 (e x) (e (.const (.int .i64 1)))) h;clear h;have h:=c;clear c;refine⟨v,rfl, ?_⟩;rw[d] at h;generalize e x=u at h ⊢;cases u with
 |int k n=>
  by_cases b:k=.i64
  .subst b;cases(show Result.ok (.int .i64 (IntKind.i64.wrap (n*1))) w=Result.ok v w3 from h);exact⟨_,rfl,rfl,rfl⟩
  .simp only[binOp,b,ne_eq,not_false_eq_true,pb] at h;cases(show Result.halt _ _=Result.ok v w3 from h)
 |pointer p=>cases p<;>cases(show Result.halt _ _=Result.ok v w3 from h)
 |_=>cases(show Result.halt _ _=Result.ok v w3 from h)
def alU(d:e x=.int .i64 a)(c:e (.const (.int .i64 1))=.int .i64 1)(h:(execOp e ⟨dst,.binOp .add 3 x (.const (.int .i64 1)) 3,ty,pos,af,gd⟩).run P w=.ok nx w3):∃v,nx=.value v/\(v=.int .i64 (IntKind.i64.wrap (a+1))/\w3=w):=by
 obtain⟨v,rfl,b⟩:=kT (s:=binOp .add 3 (e x) (e (.const (.int .i64 1)))) h;clear h;have h:=b;clear b;rw[d,c] at h;cases(show Result.ok (.int .i64 (IntKind.i64.wrap (a+1))) w=Result.ok v w3 from h);exact⟨_,rfl,rfl,rfl⟩
def alV(f:e x=.int .i64 a)(d:e y=.int .i64 b)(h:(execOp e ⟨dst,.binOp .eql 3 x y 3,ty,pos,af,gd⟩).run P w=.ok nx w3):∃v,nx=.value v/\(v=.bool (a ==b)/\w3=w):=by
 have g:eqGuard .eql 3 x y (e x) (e y)=Sem.pure ():=by rw[f,d];rfl
 have c:(((eqGuard .eql 3 x y (e x) (e y)).bind λ_=>binOp .eql 3 (e x) (e y)).bind λv=>Sem.pure (Next.value v)).run P w=.ok nx w3:=h;clear h;rw[g] at c;obtain⟨v,rfl,h⟩:=kT (s:=binOp .eql 3 (e x) (e y)) c;clear c;rw[f,d] at h;cases(show Result.ok (.bool (a ==b)) w=Result.ok v w3 from h);exact⟨_,rfl,rfl,rfl⟩
def oZ{a:Builtin}{s:Value->Sem Value}(d:∀c v,builtin a #[t0] ty c #[v]=(s v).bind λu=>Sem.pure (.value u)):execOp e ⟨dst,.call ⟨.builtin a,#[.tmp t],#[t0]⟩,ty,pos,af,gd⟩=(s (e (.tmp t))).bind λu=>Sem.pure (.value u):=by
 have b:Array.map e #[.tmp t]=#[e (.tmp t)]:=by simp
 simp only[execOp,resolve];rw[b];exact d _ _
def ahN(k:P.underlying t0=some (.slice X))(h:(execOp e ⟨dst,.call ⟨.builtin .len,#[.tmp t],#[t0]⟩,ty,pos,af,gd⟩).run P w=.ok nx w3) :
  ∃v,nx=.value v/\(∃A n c,e (.tmp t)=.slice A n c/\v=.int .i64 n/\w3=w):=by
 rw[oZ (s:=λv=>Builtin.len_ #[t0] ty #[v]) λ_ v=>rfl] at h;obtain⟨v,rfl,g⟩:=kT h;clear h;have h:=g;clear g;refine⟨v,rfl, ?_⟩;generalize e (.tmp t)=u at h ⊢;obtain⟨d,l,g,j⟩:=dC (s:=underlying t0) (f:=λd=>match d,u with
  |.string,.string s=>pure (goInt s.size)
  |.array n _,_=>pure (goInt n)
  |.pointer arr,_=>(underlying arr).bind λd=>match d with
   |.array n _=>pure (goInt n)
   |_=>stuck "len: pointer to array expected"
  |.slice _,.slice _ n _=>pure (goInt n)
  |.map _ _,.map none|.chan _ _,.chan none=>pure (goInt 0)
  |.map _ _,.map (some r)=>(getObj r).bind λo=>match o with
   |.map a _=>pure (goInt a.size)
   |_=>stuck "len: map expected"
  |.chan _ _,.chan (some r)=>(getObj r).bind λo=>match o with
   |.chan _ i _ _ _ b=>pure (goInt (if b then 0 else i.size))
   |_=>stuck "len: channel expected"
  |_,_=>stuck "len: string, array, pointer to array, slice, map or channel expected") h
 rw[lm k] at g;cases g;cases u with
 |slice A n c=>
  cases(show Result.ok (.int .i64 n) w=Result.ok v w3 from j);exact⟨A,n,c,rfl,rfl,rfl⟩
 |_=>cases(show Result.halt _ _=Result.ok v w3 from j)
end
def aju:TypeDesc->Bool
 |.struct _|.array .. =>false
 |_=>true
def auX{s:Sem V}(h:ku P s){v:V}:s.run P w ≠ .ok v w':=λe=>by
 obtain⟨q,b,c,a, -⟩:=Leaves.avU h w #[];rw[<-rc _ _ _ #[],a] at e;cases e
def ajv(k:IntKind)(x y:Int)(c:BoundsCode):ku P (boundsPanic k x y c:Sem V):=by
 rw[acm];refine im ?_ λa=>dR _;split
 .exact λ_=>trivial
 .exact trivial
section
variable {P:Program} (F:FaT P) {w w3:World} {e:Operand->Value} {x y:Operand} {nx:Next} {dst:Option Tmp} {ty:TypeId} {pos:String} {af:Array Edge} {gd:Option (Nat×Bool)}
def alW{A:Option Addr}(b:P.underlying t0=some (.slice X))(d:e (.tmp t)=.slice A n c)(h:(execOp e ⟨dst,.call ⟨.builtin .cap,#[.tmp t],#[t0]⟩,ty,pos,af,gd⟩).run P w=.ok nx w3) :
  ∃v,nx=.value v/\(v=.int .i64 c/\w3=w):=by
 rw[oZ (s:=λv=>Builtin.cap_ #[t0] ty #[v]) λ_ v=>rfl,d] at h;obtain⟨v,rfl,a⟩:=kT h;refine⟨v,rfl, ?_⟩;have:(Builtin.cap_ #[t0] ty #[.slice A n c]).run P w=.ok (.int .i64 c) w:=by
  simp[Builtin.cap_,lm b,goInt]
 rw[this] at a;cases a;exact⟨rfl,rfl⟩
include F in
theorem auY(h:(execOp e ⟨dst,.call ⟨.builtin .len,#[.tmp t],#[9]⟩,ty,pos,af,gd⟩).run P w=.ok nx w3) :
  ∃v,nx=.value v/\(∃s:ByteArray,e (.tmp t)=.string s/\v=.int .i64 s.size/\w3=w):=by
 rw[oZ (s:=λv=>Builtin.len_ #[9] ty #[v]) λ_ v=>rfl] at h;obtain⟨v,rfl,a⟩:=kT h;refine⟨v,rfl, ?_⟩;generalize e (.tmp t)=u at a ⊢;cases u with
 |string s=>
  have:(Builtin.len_ #[9] ty #[.string s]).run P w=.ok (.int .i64 s.size) w:=by
   simp[Builtin.len_,lm F.u9,goInt]
  rw[this] at a;cases a;exact⟨s,rfl,rfl,rfl⟩
 |_=>simp[Builtin.len_,lm F.u9,stuck] at a
theorem aas{t:TypeId}{a:TypeDesc}(b:P.underlying t=some a):Leaves P (λd=>d=a) (underlying t):=by
 unfold underlying;show Leaves P (λd=>d=a) (match P.underlying t with
  |some d=>pure d
  |none=>stuck "no such type")
 rw[b];exact rfl
theorem auZ{t:TypeId}(a:P.underlying t=some (.struct S)):(isAgg t).run P w=.ok true w:=by simp[isAgg,lm a]
theorem ajw{t:TypeId}{d:TypeDesc}(a:P.underlying t=some d)(b:aju d=true):(isAgg t).run P w=.ok false w:=by
 cases d<;>first|(cases b;done)|simp[isAgg,lm a]
theorem ae8(b:NoV P w A)(h:(load A).run P w=.ok v w3):w3=w/\w.cell? A=some v:=by
 have h:(Sem.load .plain A Sem.pure).run P w=.ok v w3:=h;unfold Sem.run at h;cases a:w.cell? A with
 |some u=>
  simp only[a,Sem.run,sA] at h;exact⟨h.2.symm,by rw[h.1]⟩
 |none=>
  obtain⟨e,c⟩:=(b.2 a).1 (Mode.plain ==.atomic);simp only[a,c] at h;cases h
theorem ahO{t:TypeId}{d:TypeDesc}(j:P.underlying t=some d)(i:aju d=true)(l:e x=.pointer (some A))(m:NoV P w A)(h:(execOp e ⟨dst,.load t x,ty,pos,af,gd⟩).run P w=.ok nx w3) :
  ∃v,nx=.value v/\(w.cell? A=some v/\w3=w):=by
 obtain⟨v,rfl,g⟩:=kT (s:=Instr.loadAt t (e x)) h;refine⟨v,rfl, ?_⟩;rw[l] at g;obtain⟨q,r,a,k⟩:=dC (s:=isAgg t) (f:=λb=>if b then(sizeOf t).bind λn=>(loadCells A n).bind λc=>Sem.pure (Value.agg c) else load A) g;rw[ajw j i] at a;cases a;obtain⟨o,p⟩:=ae8 m k;exact⟨p,o⟩
theorem ajx{t:TypeId}{i:TypeInfo}(D:P.underlying t=some (.struct S))(hi:P.info? t=some i)(B:i.size=2)(F:e x=.pointer (some A))(I:NoV P w A)(k:NoV P w (A.add 1))(h:(execOp e ⟨dst,.load t x,ty,pos,af,gd⟩).run P w=.ok nx w3) :
  ∃v,nx=.value v/\(∃d a,v=.agg #[d,a]/\w.cell? A=some d/\w.cell? (A.add 1)=some a/\w3=w):=by
 obtain⟨v,rfl,u⟩:=kT (s:=Instr.loadAt t (e x)) h;refine⟨v,rfl, ?_⟩;rw[F] at u;obtain⟨q,g,p,E⟩:=dC (s:=isAgg t) (f:=λb=>if b then(sizeOf t).bind λn=>(loadCells A n).bind λc=>Sem.pure (Value.agg c) else load A) u;rw[auZ D] at p;cases p;obtain⟨n,g,r,z⟩:=dC (s:=sizeOf t) (f:=λn=>(loadCells A n).bind λc=>Sem.pure (Value.agg c)) E;have:(sizeOf t).run P w=.ok 2 w:=by simp[sizeOf,typeInfo,hi,B]
 rw[this] at r;cases r;obtain⟨c,g,G,y⟩:=dC (s:=loadCells A 2) (f:=λc=>Sem.pure (Value.agg c)) z;cases(show Result.ok (.agg c) g=Result.ok v w3 from y);obtain⟨d,K,C,H⟩:=dC (s:=load (A.add 0)) (f:=λd=>(load (A.add 1)).bind λa=>Sem.pure #[d,a]) G;obtain⟨rfl,l⟩:=ae8 I C;obtain⟨a,J,o,m⟩:=dC (s:=load (A.add 1)) (f:=λa=>Sem.pure #[d,a]) H;obtain⟨rfl,j⟩:=ae8 k o;cases(show Result.ok #[d,a] _=Result.ok c _ from m);exact⟨d,a,rfl,l,j,rfl⟩
theorem ab0{t:TypeId}{g:Field}{f:Nat}{d:TypeDesc}{cs:Array Value}(i:P.underlying t=some (.struct S))(c:S[f]?=some g)(j:P.underlying g.type=some d)(b:aju d=true)(l:e x=.agg cs)(k:cs[g.offset]?=some u)(h:(execOp e ⟨dst,.field t x f,ty,pos,af,gd⟩).run P w=.ok nx w3) :
  ∃v,nx=.value v/\(v=u/\w3=w):=by
 obtain⟨v,rfl,a⟩:=kT (s:=Instr.field t (e x) f) h;refine⟨v,rfl, ?_⟩;rw[l] at a;have:(Instr.field t (.agg cs) f).run P w=.ok u w:=by
  simp[Instr.field,lm i,c,asAgg,part,ajw j b,k]
 rw[this] at a;cases a;exact⟨rfl,rfl⟩
theorem ab1{t : TypeId}{i:TypeInfo}{A:Option Addr}{k : Nat}(f:P.underlying t=some (.slice X))(hi:P.info? X=some i)(l:e x=.slice A n c)(j:e y=.int .i64 k)(m:k<n)(h:(execOp e ⟨dst,.indexAddr t x y,ty,pos,af,gd⟩).run P w=.ok nx w3) :
  ∃v,nx=.value v/\(∃a,A=some a/\v=.pointer (some (a.add (k*i.size)))/\w3=w):=by
 obtain⟨v,rfl,b⟩:=kT (s:=Instr.indexAt t (e x) (e y)) h;refine⟨v,rfl, ?_⟩;rw[l,j] at b;have o:(0:Int)<=k/\(k:Int)<n:=by omega
 cases A with
 |none=>
  exfalso;have hd:ku P (Instr.indexAt t (.slice none n c) (.int .i64 k)):=by
   unfold Instr.indexAt;refine Leaves.bind (A:=λq=>q=(IntKind.i64,(k:Int))) rfl λq g=> ?_;subst g;refine Leaves.bind (aas f) λd hd=> ?_;subst hd;refine Leaves.bind (s:=Sem.pure (none,n,X)) (A:=λq=>q=(none,n,X)) rfl λq g=> ?_;subst g;exact Leaves.bind (aas f) λd hd=>ajv _ _ _ _
  exact auX hd b
 |some a=>
  have:(Instr.indexAt t (.slice (some a) n c) (.int .i64 k)).run P w=.ok (.pointer (some (a.add (k*i.size)))) w:=by
   simp[Instr.indexAt,asIntOf,lm f,m,sizeOf,typeInfo,hi]
  rw[this] at b;cases b;exact⟨a,rfl,rfl,rfl⟩
end
def alX:Value->Bool
 |.agg _|.tuple _=>false
 |_=>true
section
variable {P:Program} (F:FaT P) {w w3:World} {e:Operand->Value} {x y:Operand} {nx:Next} {dst:Option Tmp} {ty:TypeId} {pos:String} {af:Array Edge} {gd:Option (Nat×Bool)}
def acP{c : Value}(b:alX u=true)(f:w.cell? A=some c)(d:w.frozen? A=false)(k:Sem V):(Sem.store .plain A u k).run P w=k.run P (w.setCell A u):=by
 have a:(∀x,u ≠ .agg x)/\∀x,u ≠ .tuple x:=⟨λx e=>(by subst e;cases b),λx e=>(by subst e;cases b)⟩;rw[<-rc _ _ _ #[],rX _ _ _ _ _ _ _ a.1 a.2];simp only[f,d,kw,qA];rw[rc]
def ar6 :A.add 1≠A:=by
 unfold Addr.add;intro e;have:=fi Addr.off e;simp at this
include F in
theorem ape{u0 u1 c0 c1:Value}(k:alX u0=true)(r:alX u1=true)(o:e x=.pointer (some A))(j:e y=.agg #[u0,u1])(a:w.cell? A=some c0)(d:w.frozen? A=false)(f:w.cell? (A.add 1)=some c1)(b:w.frozen? (A.add 1)=false) :
  (execOp e ⟨dst,.store 136 x y,ty,pos,af,gd⟩).run P w=.ok .skip ((w.setCell A u0).setCell (A.add 1) u1):=by
 obtain⟨i,m,t, -⟩:=F.adK;have p:(storeCells A [u0,u1] 0).run P w=.ok () ((w.setCell A u0).setCell (A.add 1) u1):=by
  show(Sem.store .plain (A.add 0) u0 (Sem.store .plain (A.add 1) u1 (Sem.pure ()))).run P w=_;have g:A.add 0=A:=by unfold Addr.add;simp
  rw[g,acP k a d,acP r (c:=c1) (by rw[tM _ _ _ _ (λe=>ar6 e.symm)];exact f) (by rw[uw];exact b)];rfl
 have s:(storeVar 136 A (.agg #[u0,u1])).run P w=.ok () ((w.setCell A u0).setCell (A.add 1) u1):=by
  have l:(sizeOf 136).run P w=.ok 2 w:=by simp[sizeOf,typeInfo,m,t]
  unfold storeVar;show((sizeOf 136).bind λn=>if(Value.agg #[u0,u1]).cells.size≠n then stuck _ else storeCells A (Value.agg #[u0,u1]).cells.toList 0).run P w=_;rw[qJ,l];exact p
 have:execOp e ⟨dst,.store 136 x y,ty,pos,af,gd⟩=(Instr.storeAt 136 (e x) (e y)).bind λ_=>Sem.pure .skip:=rfl;rw[this,o,j,qJ];have q:(Instr.storeAt 136 (.pointer (some A)) (.agg #[u0,u1])).run P w=.ok () ((w.setCell A u0).setCell (A.add 1) u1):=s;rw[q];rfl
include F in
theorem apf{c0 : Value}(j:∃a n c,u=.slice a n c)(o:e x=.pointer (some A))(g:e y=u)(b:w.cell? A=some c0)(d:w.frozen? A=false) :
  (execOp e ⟨dst,.store 125 x y,ty,pos,af,gd⟩).run P w=.ok .skip (w.setCell A u):=by
 obtain⟨i,l,s, -⟩:=F.i247;obtain⟨a,n,c,rfl⟩:=j;have p:(storeCells A [.slice a n c] 0).run P w=.ok () (w.setCell A (.slice a n c)):=by
  show(Sem.store .plain (A.add 0) (.slice a n c) (Sem.pure ())).run P w=_;have f:A.add 0=A:=by unfold Addr.add;simp
  rw[f,acP rfl b d];rfl
 have r:(storeVar 125 A (.slice a n c)).run P w=.ok () (w.setCell A (.slice a n c)):=by
  have k:(sizeOf 125).run P w=.ok 1 w:=by simp[sizeOf,typeInfo,l,s]
  unfold storeVar;show((sizeOf 125).bind λm=>if(Value.slice a n c).cells.size≠m then stuck _ else storeCells A (Value.slice a n c).cells.toList 0).run P w=_;rw[qJ,k];exact p
 have:execOp e ⟨dst,.store 125 x y,ty,pos,af,gd⟩=(Instr.storeAt 125 (e x) (e y)).bind λ_=>Sem.pure .skip:=rfl;rw[this,o,g,qJ];have q:(Instr.storeAt 125 (.pointer (some A)) (.slice a n c)).run P w=.ok () (w.setCell A (.slice a n c)):=r;rw[q];rfl
include F in
theorem ar7:(execOp e ⟨dst,.alloc 125,ty,pos,af,gd⟩).run P w=.ok (.value (.pointer (some ⟨w.heap.size,0,none⟩))) (w.alloc (.cells #[.slice none 0 0] 125)):=by
 obtain⟨i,b,c,a⟩:=F.i247;have:execOp e ⟨dst,.alloc 125,ty,pos,af,gd⟩=(Instr.alloc 125 true (.tuple #[])).bind λv=>Sem.pure (.value v):=rfl;rw[this,qJ];have:(Instr.alloc 125 true (.tuple #[])).run P w=.ok (.pointer (some ⟨w.heap.size,0,none⟩)) (w.alloc (.cells #[.slice none 0 0] 125)):=by
  simp[Instr.alloc,zeroValue,typeInfo,b,a,newVar,newRow,Value.cells]
 rw[this];rfl
include F in
theorem anG(t:(n:Int)<=2147483647)(o:e x=.int .i64 n):∃c:Array Value,c.size=2*n/\(execOp e ⟨dst,.makeSlice 125 x x,ty,pos,af,gd⟩).run P w=.ok (.value (.slice (some ⟨w.heap.size,0,none⟩) n n)) (w.alloc (.cells c 136)):=by
 obtain⟨i,a,r,g,p⟩:=F.adK;have k:IntKind.i64.wrap (n:Int)=n:=by
  unfold IntKind.wrap;simp[IntKind.signed,IntKind.bits];omega
 have q:¬(n:Int)<0:=by omega
 have s:¬(2:Int) ^ 48<24*n:=by omega
 have:execOp e ⟨dst,.makeSlice 125 x x,ty,pos,af,gd⟩=(Instr.makeSlice 125 (e x) (e x)).bind λv=>Sem.pure (.value v):=rfl;rw[this,o];have l:¬(281474976710656:Int)<24*n:=by omega
 have j:∀w,(sizeOf 136).run P w=.ok 2 w:=λw=>by simp[sizeOf,typeInfo,a,r]
 have d:∀m:Nat,(askRoom m).run P w=.ok () w:=λm=>by
  unfold askRoom;split<;>rfl
 by_cases f:n=0
 .subst f;refine⟨(Array.range 0).map λ_=>default,by simp, ?_⟩;rw[qJ];have:(Instr.makeSlice 125 (.int .i64 (0:Nat)) (.int .i64 (0:Nat))).run P w=.ok (.slice (some ⟨w.heap.size,0,none⟩) 0 0) (w.alloc (.cells ((Array.range 0).map λ_=>default) 136)):=by
   simp[Instr.makeSlice,lm F.ahL,asInt,asIntOf,typeInfo,a,g,d,j,newRow,(show IntKind.i64.wrap 0=0 by decide)]
  rw[this];rfl
 .refine⟨(Array.range (n*2)).map λi=>(#[.string ⟨#[]⟩,.bool false]:Array Value)[i % 2]!,by simp;omega, ?_⟩;rw[qJ];have:(Instr.makeSlice 125 (.int .i64 n) (.int .i64 n)).run P w=.ok (.slice (some ⟨w.heap.size,0,none⟩) n n) (w.alloc (.cells ((Array.range (n*2)).map λi=>(#[.string ⟨#[]⟩,.bool false]:Array Value)[i % 2]!) 136)):=by
   have b:∀w,(zeroValue 136).run P w=.ok (.agg #[.string ⟨#[]⟩,.bool false]) w:=λw=>by simp[zeroValue,typeInfo,a,p]
   simp[Instr.makeSlice,lm F.ahL,asInt,asIntOf,typeInfo,a,g,k,q,l,d,j,b,newRow,f,Value.cells];intro h;omega
  rw[this];rfl
end
def fT(h:w.cell? A=some v):A.block<w.heap.size:=by
 unfold World.cell? at h;cases a:w.heap[A.block]? with
 |none=>rw[a] at h;simp at h
 |some o=>exact(de.1 a).1
structure Cx where
 R:List Frame->World->Prop
 c0:Cfg
 ib:Ren
 w0:World
 y:Frame
 ys:List Frame
def At(X:Cx)(T:Array Value)(k:List Item)(w:World):Prop:=45<=T.size/\∃c a,gD true X.R X.c0 X.ib X.w0 c a (FQ cx T k::X.y::X.ys) w
structure Tm (M:List Nat) (T T':Array Value):Prop where
 size:T'.size=T.size
 same:∀t,M.contains t=false->T'.getD t undef=T.getD t undef
def Tm.refl(M:List Nat)(T:Array Value):Tm M T T:=⟨rfl,λ_ _=>rfl⟩
def Tm.trans{T : Array Value}(h:Tm R T T')(k:Tm R T' U):Tm R T U:=⟨k.size.trans h.size,λt a=>(k.same t a).trans (h.same t a)⟩
def Tm.mono{T : Array Value}(h:Tm R T T')(b:∀t,R.contains t=true->rest.contains t=true):Tm rest T T':=⟨h.size,λt a=>h.same t (by
 cases e:R.contains t with
 |false=>rfl
 |true=>rw[b t e] at a;cases a)⟩
def Tm.sw{T : Array Value}{d:Nat}(h:Tm [d] T T')(b:cK.contains d=true):Tm cK T T':=h.mono λt a=>by
 simp at a;subst a;exact b
def Tm.one{T : Array Value}{d:Nat}(b:T'.size=T.size)(h:∀t,t≠d->T'.getD t undef=T.getD t undef):Tm [d] T T':=⟨b,λt a=>h t λe=>by subst e;simp at a⟩
def ae9{e:Operand->Value}{n:Tmp}{t ty:TypeId}{dst:Option Tmp}(f:e (.tmp n)=.tuple #[]):∀c a,(execOp e ⟨dst,.load t (.tmp n),ty,pos,af,gd⟩).run P w ≠ .ok c a:=λc a g=>by
 obtain⟨v,d,b,i⟩:=dC (s:=Instr.loadAt t (e (.tmp n))) g;rw[f] at b;cases(show Result.halt _ _=Result.ok v d from b)
section
variable {X:Cx} {T:Array Value} {k:List Item} {w w2:World}
def At.go(h:At X T k w)(b:∀base,stepG (ah true) true (Gl (FQ cx T k::X.y::X.ys) base) w=.go (Gl (FQ cx T k2::X.y::X.ys) base) w2 es):At X T k2 w2:=
 let⟨e,_,_,h⟩:=h;let⟨d,c,a,_,_⟩:=h.go rfl true b;⟨e,d,c,a⟩
def At.seq(h:At X T (.code (.seq a b)::k) w):At X T (.code a :: .code b::k) w:=h.go (es:=#[]) λbase=>by simp[Gl,stepG,stepG.exec]
def At.region{id:Nat}{l:List Nat}(a:List.range Z.size=l)(h:At X T (.code (.region id Z false)::k) w):At X T (.inRegion Z l::k) w:=h.go (es:=#[]) λbase=>by subst a;simp[Gl,stepG,stepG.exec]
def At.iO(h:At X T (.inRegion Z []::k) w):At X T k w:=h.go (es:=#[]) λbase=>by simp[Gl,stepG,stepG.exec]
def AtL(X:Cx)(T:Array Value)(k:List Item)(w:World):Prop:=45<=T.size/\∃c a,gD true X.R X.c0 X.ib X.w0 c a (FQ cx T k::X.y::X.ys) w/\gZ (ah true) c X.c0
def At.aAw(h:At X T (.inRegion Z []::k) w):AtL X T k w:=
 let⟨e,_,_,h⟩:=h;let⟨d,c,b,a,_⟩:=h.go (w2:=w) (x2:=FQ cx T k) (xs2:=X.y::X.ys) (es:=#[]) rfl true λbase=>by simp[Gl,stepG,stepG.exec]
 ⟨e,d,c,b,a⟩
def At.skip(h:At X T (.code .skip::k) w):At X T k w:=h.go (es:=#[]) λbase=>by simp[Gl,stepG,stepG.exec]
def At.cond(d:T.getD t undef=.bool q)(h:At X T (.code (.cond (.tmp t) a b)::k) w):At X T (.code (if q then a else b)::k) w:=h.go (es:=#[]) λbase=>by
 have c:Frame.eval (FQ cx T (.code (.cond (.tmp t) a b)::k)) (.tmp t)=.bool q:=d;simp[Gl,stepG,stepG.exec,c]
def At.block{id:Nat}(h:At X T (.code (.block id a)::k) w):At X T (.code a :: .inBlock id::k) w:=h.go (es:=#[]) λbase=>by simp[Gl,stepG,stepG.exec]
def At.loop(h:At X T (.code (.loop a)::k) w):At X T (.code a :: .inLoop a::k) w:=h.go (es:=#[]) λbase=>by simp[Gl,stepG,stepG.exec]
def At.again(h:At X T (.inLoop a::k) w):At X T (.code a :: .inLoop a::k) w:=h.go (es:=#[]) λbase=>by simp[Gl,stepG,stepG.exec]
def At.exit{id:Nat}(a:exitTo id k=some k2)(h:At X T (.code (.exit id)::k) w):At X T k2 w:=h.go (es:=#[]) λbase=>by simp[Gl,stepG,stepG.exec,a]
def At.no(h:At X T (.code (.refuse "")::k) w):False:=by
 obtain⟨a,c,b,h⟩:=h;exact h.no rfl true (o:=_) (w2:=w) (by simp only[Gl,stepG,stepG.exec];rfl)
def At.jb     {Φ:Value->World->Prop} (h:At X T (.inRegion Z (i::rest)::k) w) (A:Z[i]?=some o) (y:o.guard=none) (s:o.dst=some d) (l:d<45)
  (a:∀m j,(execOp (FQ cx T (.inRegion Z (i::rest)::k)).eval o).run (ah true) w=.ok m j->∃v,m=.value v/\Φ v j) :
  ∃v b n,Φ v b/\Tm [d] T n/\n.getD d undef=v/\At X n (.inRegion Z rest::k) b:=by
 obtain⟨f,c,D,h⟩:=h;obtain⟨v,b,z,C,q,r, -⟩:=h.op A y λm j g=>.inl (let⟨v,e,_⟩:=a m j g;⟨v,e⟩);have p:Φ v b:=by
  rcases q with g|⟨g, -⟩
  .obtain⟨u,e,B⟩:=a _ _ g;cases e;exact B
  .obtain⟨u,e, -⟩:=a _ _ g;cases e
 rw[s] at r;replace l:d<T.size:=aE l f;exact⟨v,b,_,p,.one (by simp) (λt x=>by rw[aD l,be x]),by rw[aD l,dk rfl],by simpa using f,z,C,r⟩
def At.opk    (h:At X T (.inRegion Z (i::rest)::k) w) (j:Z[i]?=some o) (l:o.guard=none) (g:o.dst=none)
  (b:(execOp (FQ cx T (.inRegion Z (i::rest)::k)).eval o).run (ah true) w=.ok .skip w2):At X T (.inRegion Z rest::k) w2:=by
 obtain⟨d,c,q,h⟩:=h;obtain⟨v,p,n,m,e,f, -⟩:=h.op j l λs r a=>.inr (by rw[b] at a;cases a;rfl);rw[g] at f;rcases e with a|⟨a, -⟩
 .rw[b] at a;cases a
 .rw[b] at a;cases a;exact⟨d,n,m,f⟩
def At.noV      (h:At X T (.inRegion Z (i::rest)::k) w) (g:Z[i]?=some o) (m:o.guard=none) (b:aab gA gL o.op=false) (e:T.getD t undef=.pointer (some A))
  (d:∀(e:Operand->Value) (w:World),e (.tmp t)=.tuple #[]->∀p j,(execOp e o).run (ah true) w ≠ .ok p j):NoV (ah true) w A/\NoV (ah true) w (A.add 1):=by
 obtain⟨l,c,q,h⟩:=h;obtain⟨x,f,n⟩:=h.apc g m b t d;rw[e] at f;cases f with
 |pointer a=>cases a with
  |some a=>exact⟨h.wr.noV a,h.wr.noV (a.add 1)⟩
 |fj=>exact absurd rfl n
def At.aAx{g:Nat}(b:g∈gL)(h:At X T k w):NoV (ah true) w ⟨g,0,none⟩:=by
 obtain⟨a,c,d,h⟩:=h;exact h.wr.noV (.mk (h.gl g b) 0 none)
def At.chk(a:T.getD t undef=.bool q)(h:At X T (.code (.cond (.tmp t) (.refuse "") .skip)::k) w):q=false/\At X T k w:=by
 have h:=h.cond a;cases q with
 |true=>exact(h.no).elim
 |false=>exact⟨rfl,h.skip⟩
def At.ayf(a:T.getD t undef=.bool q)(h:At X T (.code (.cond (.tmp t) .skip (.refuse ""))::k) w):q=true/\At X T k w:=by
 have h:=h.cond a;cases q with
 |false=>exact(h.no).elim
 |true=>exact⟨rfl,h.skip⟩
end
def In_(x:Int):Prop:= -9223372036854775808<=x/\x<=9223372036854775807
def aa4{x:Int}(h:(IntKind.i64.wrap (x*1) ==x)=true):In_ x:=by
 rw[mw] at h;unfold IntKind.wrap at h;simp[IntKind.signed,IntKind.bits] at h;unfold In_;omega
def afa(h:(n:Int)<9223372036854775807):IntKind.i64.wrap ((n:Int)+1)=((n+1:Nat):Int):=by
 unfold IntKind.wrap;simp[IntKind.signed,IntKind.bits];omega
def eE{a b:Int}(h:decide (a<b)=false):b<=a:=by simpa using h
structure ahP (w:World) (B:Option Addr) (i:Nat) (x:Int×ByteArray):Prop where
 c:∃a,B=some a/\w.cell? (a.add (i*2))=some (.int .i64 x.1)/\w.cell? ((a.add (i*2)).add 1)=some (.string x.2)
 i:In_ x.1
 s:(x.2.size:Int)<=9223372036854775807
def RdI(w:World)(B:Option Addr)(j:Nat)(l:List (Int×ByteArray)):Prop:=∀i x,l[i]?=some x->ahP w B (j+i) x
abbrev inC(k:List Item):List Item:=.inLoop aaH :: .inBlock 52::k
abbrev mI:List Nat:=[4,5,9,10,11,13,15,26,25,22]
def Tm.mi{T : Array Value}{d:Nat}(h:Tm [d] T T')(b:mI.contains d=true):Tm mI T T':=h.mono λt a=>by
 simp at a;subst a;exact b
section
variable {X:Cx} {T:Array Value} {k:List Item} {w:World}
def At.aAy{B:Option Addr}{m j : Nat}(h:At X T (.code aaH::inC k) w)(V:T.getD 27 undef=.slice B m c)(iM:T.getD 28 undef=.int .i64 m)(n:T.getD 5 undef=.int .i64 j)(hj:j<=m)(hm:(m:Int)<=9223372036854775807) :
  (j=m/\∃T',Tm mI T T'/\At X T' k w)\/(j<m/\∃x T',ahP w B j x/\Tm mI T T'/\T'.getD 5 undef=.int .i64 (j+1:Nat)/\At X T' (.code aaH::inC k) w):=by
 have o:=Tm.refl mI T;unfold Go.Proofs.YtmicddpknimniaaGreatDoor.aaH at h;have h:=h.seq;replace h:=h.region (l:=[0]) rfl;obtain⟨v,A,T1,⟨g,f⟩,m,s4,b⟩:=h.jb (d:=4) (Φ:=λv i=>v=.bool (decide ((j:Int)<m))/\i=w) rfl rfl rfl (by decide) λy i q=>fS (by exact n) (by exact iM) q;rw[g] at s4;rw[f] at b;clear g f;replace n:=(m.same 5 rfl).trans n;replace V:=(m.same 27 rfl).trans V;replace o:=o.trans (m.mi rfl);clear m;replace h:=b;clear b;replace h:=h.iO.seq.cond s4;by_cases F:(j:Int)<m
 .right;rw[db F] at h;simp only[pb] at h;replace h:=h.skip.seq.seq;replace h:=h.region (l:=[0,1,2,3,4]) rfl;obtain⟨ii,hi,hz⟩:=(faQ true).i110;obtain⟨fs,g0,g1,O,U,Y,Z,W,Q,M⟩:=(faQ true).auU;obtain⟨v,A,T2,⟨a,hB,g,f⟩,m,R,b⟩:=h.jb (d:=9) (Φ:=λv i=>∃a,B=some a/\v=.pointer (some (a.add (j*ii.size)))/\i=w) rfl rfl rfl (by decide) λy i q=>ab1 (faQ true).u38 hi (by exact V) (by exact n) (by omega) q;rw[g,hz] at R;rw[f] at b;clear g f;replace n:=(m.same 5 rfl).trans n;replace o:=o.trans (m.mi rfl);clear m;replace h:=b;clear b;have hv:=h.noV (t:=9) rfl rfl rfl R (λe w he=>ae9 he);obtain⟨v,A,T3,⟨E,C,g,L,a1,f⟩,m,r,b⟩:=h.jb (d:=10) (Φ:=λv i=>∃E C,v=.agg #[E,C]/\w.cell? (a.add (j*2))=some E/\w.cell? ((a.add (j*2)).add 1)=some C/\i=w) rfl rfl rfl (by decide) λy i q=>ajx O hi hz (by exact R) hv.1 hv.2 q;rw[g] at r;rw[f] at b;clear g f;replace n:=(m.same 5 rfl).trans n;replace o:=o.trans (m.mi rfl);clear m;replace h:=b;clear b;obtain⟨v,A,T4,⟨g,f⟩,m,u,b⟩:=h.jb (d:=11) (Φ:=λv i=>v=E/\i=w) rfl rfl rfl (by decide) λy i q=>ab0 O U (by rw[W];exact(faQ true).u3) rfl (by exact r) (by rw[Z];rfl) q;rw[g] at u;rw[f] at b;clear g f;replace n:=(m.same 5 rfl).trans n;replace r:=(m.same 10 rfl).trans r;replace o:=o.trans (m.mi rfl);clear m;replace h:=b;clear b;obtain⟨v,A,T5,⟨z,P,g,f⟩,m,I,b⟩:=h.jb (d:=13) (Φ:=λv i=>∃z,E=.int .i64 z/\v=.int .i64 (IntKind.i64.wrap (z*1))/\i=w) rfl rfl rfl (by decide) λy i q=>let⟨v,J,z,D,H,N⟩:=alT q rfl;⟨v,J,z,u.symm.trans D,H,N⟩
  rw[g] at I;rw[f] at b;clear g f;replace n:=(m.same 5 rfl).trans n;replace r:=(m.same 10 rfl).trans r;replace u:=(m.same 11 rfl).trans u;replace o:=o.trans (m.mi rfl);clear m;replace h:=b;clear b;subst P;obtain⟨v,A,T6,⟨g,f⟩,m,p,b⟩:=h.jb (d:=15) (Φ:=λv i=>v=.bool (IntKind.i64.wrap (z*1) ==z)/\i=w) rfl rfl rfl (by decide) λy i q=>alV (by exact I) (by exact u) q;rw[g] at p;rw[f] at b;clear g f;replace n:=(m.same 5 rfl).trans n;replace r:=(m.same 10 rfl).trans r;replace o:=o.trans (m.mi rfl);clear m;replace h:=b;clear b;obtain⟨hq,b⟩:=h.iO.ayf p;replace h:=b.seq.seq;clear b;replace h:=h.region (l:=[0,1,2]) rfl;obtain⟨v,A,T7,⟨g,f⟩,m,G,b⟩:=h.jb (d:=26) (Φ:=λv i=>v=C/\i=w) rfl rfl rfl (by decide) λy i q=>ab0 O Y (by rw[M];exact(faQ true).u9) rfl (by exact r) (by rw[Q];rfl) q;rw[g] at G;rw[f] at b;clear g f;replace n:=(m.same 5 rfl).trans n;replace p:=(m.same 15 rfl).trans p;replace o:=o.trans (m.mi rfl);clear m;replace h:=b;clear b;obtain⟨v,A,T8,⟨s,S,g,f⟩,m,K,b⟩:=h.jb (d:=25) (Φ:=λv i=>∃s:ByteArray,C=.string s/\v=.int .i64 s.size/\i=w) rfl rfl rfl (by decide) λy i q=>let⟨v,J,z,D,H,N⟩:=auY (faQ true) q;⟨v,J,z,G.symm.trans D,H,N⟩
  rw[g] at K;rw[f] at b;clear g f;replace n:=(m.same 5 rfl).trans n;replace p:=(m.same 15 rfl).trans p;replace o:=o.trans (m.mi rfl);clear m;replace h:=b;clear b;subst S;clear p;obtain⟨v,A,T9,⟨g,f⟩,m,p,b⟩:=h.jb (d:=15) (Φ:=λv i=>v=.bool (decide ((9223372036854775807:Int)<s.size))/\i=w) rfl rfl rfl (by decide) λy i q=>fS rfl (by exact K) q;rw[g] at p;rw[f] at b;clear g f;replace n:=(m.same 5 rfl).trans n;replace o:=o.trans (m.mi rfl);clear m;replace h:=b;clear b;obtain⟨a0,b⟩:=h.iO.chk p;replace h:=b.region (l:=[0,1]) rfl;clear b;obtain⟨v,A,a3,⟨g,f⟩,m,nZ,b⟩:=h.jb (d:=22) (Φ:=λv i=>v=.int .i64 (IntKind.i64.wrap ((j:Int)+1))/\i=w) rfl rfl rfl (by decide) λy i q=>alU (by exact n) rfl q;rw[g] at nZ;rw[f] at b;clear g f;replace n:=(m.same 5 rfl).trans n;replace o:=o.trans (m.mi rfl);clear m;replace h:=b;clear b;clear n;obtain⟨v,A,a2,⟨g,f⟩,m,n,b⟩:=h.jb (d:=5) (Φ:=λv i=>v=.int .i64 (IntKind.i64.wrap ((j:Int)+1))/\i=w) rfl rfl rfl (by decide) λy i q=>let⟨v,J,D,H⟩:=ahM q;⟨v,J,D.trans nZ,H⟩
  rw[g] at n;rw[f] at b;clear g f;replace o:=o.trans (m.mi rfl);clear m;replace h:=b;clear b;rw[afa (by omega)] at n;exact⟨by omega,(z,s),_,⟨⟨a,hB,L,a1⟩,aa4 hq,eE a0⟩,o,n,h.iO.again⟩
 .left;rw[bv F] at h;simp only[kw,qA] at h;exact⟨by omega,_,o,h.exit rfl⟩
def At.awA{B:Option Addr}{m c:Nat}(g:(m:Int)<=9223372036854775807):∀(n j:Nat) {T:Array Value},m=j+n->At X T (.code Go.Proofs.YtmicddpknimniaaGreatDoor.aaH::inC k) w->T.getD 27 undef=.slice B m c->T.getD 28 undef=.int .i64 m->T.getD 5 undef=.int .i64 j->
  ∃l T',l.length=n/\RdI w B j l/\Tm mI T T'/\At X T' k w
 |0,j,T,e,h,iI,iM,s5=>by
  rcases h.aAy iI iM s5 (by omega) g with⟨_,T',u,t⟩|⟨d,_⟩
  .exact⟨[],T',rfl,λi x b=>by simp at b,u,t⟩
  .omega
 |n+1,j,T,e,h,iI,iM,s5=>by
  rcases h.aAy iI iM s5 (by omega) g with⟨A,_⟩|⟨d,x,z,s,a,o,v⟩
  .omega
  .obtain⟨l,T',p,r,f,q⟩:=At.awA g n (j+1) (by omega) v ((a.same 27 rfl).trans iI) ((a.same 28 rfl).trans iM) o;refine⟨x::l,T',by simp[p],λi y b=> ?_,a.trans f,q⟩;cases i with
   |zero=>simp at b;subst b;exact s
   |succ i=>
    have:=r i y (by simpa using b);have e:j+1+i=j+(i+1):=by omega
    rwa [e] at this
end
structure aAz (w:World) (A:Option Addr) (i:Nat) (x:Int×List (Int×ByteArray)):Prop where
 c:∃a B c,A=some a/\w.cell? (a.add (i*2))=some (.int .i64 x.1)/\w.cell? ((a.add (i*2)).add 1)=some (.slice B x.2.length c)/\1<=x.2.length/\x.2.length<=c/\(c:Int)<=9223372036854775807/\RdI w B 0 x.2
 i:In_ x.1
def RdP(w:World)(A:Option Addr)(j:Nat)(l:List (Int×List (Int×ByteArray))):Prop:=∀i x,l[i]?=some x->aAz w A (j+i) x
def Rgd(X:Cx)(b:Nat):Prop:=(∃a,X.ib.r a b)\/X.w0.heap.size<=b
def PkR(X:Cx)(w:World)(A:Option Addr)(i:Nat):Prop:=∀a b n c,A=some a->w.cell? ((a.add (i*2)).add 1)=some (.slice (some b) n c)->Rgd X b.block
abbrev inB(k:List Item):List Item:=.inLoop aaI :: .inBlock 51::k
def aAA(t:Nat)(h:mI.contains t=true):cK.contains t=true:=by
 simp only[mI,te,List.contains_nil,uS,qN,mw] at h;rcases h with rfl|rfl|rfl|rfl|rfl|rfl|rfl|rfl|rfl|rfl<;>rfl
section
variable {X:Cx} {T:Array Value} {k:List Item} {w:World}
def ad1{e:Operand->Value}{n:Tmp}{i ty : TypeId}{dst:Option Tmp}(g:P.underlying t0=some (.slice i))(j:e (.tmp n)=.tuple #[]):∀d a,(execOp e ⟨dst,.call ⟨.builtin .len,#[.tmp n],#[t0]⟩,ty,pos,af,gd⟩).run P w ≠ .ok d a:=λd a f=>by
 obtain⟨v,_,A,m,c,b,_⟩:=ahN g f;rw[j] at b;cases b
def At.au0     (h:At X T (.inRegion Z (i::rest)::k) w) (j:Z[i]?=some o) (q:o.guard=none) (b:aab gA gL o.op=false)
  (d:∀(e:Operand->Value) (w:World),e (.tmp t)=.tuple #[]->∀s l,(execOp e o).run (ah true) w ≠ .ok s l):∀a n c,T.getD t undef=.slice (some a) n c->a.block<w.heap.size:=λa n c e=>by
 obtain⟨p,c,u,h⟩:=h;obtain⟨x,g,r⟩:=h.apc j q b t d;rw[e] at g;cases g with
 |slice f=>cases f with
  |some f=>obtain⟨m,_,_⟩:=f;exact(h.wr.lt m).2
 |fj=>exact absurd rfl r
def At.ahQ     (h:At X T (.inRegion Z (i::rest)::k) w) (j:Z[i]?=some o) (q:o.guard=none) (b:aab gA gL o.op=false)
  (d:∀(e:Operand->Value) (w:World),e (.tmp t)=.tuple #[]->∀s l,(execOp e o).run (ah true) w ≠ .ok s l):∀a n c,T.getD t undef=.slice (some a) n c->Rgd X a.block:=λa n c e=>by
 obtain⟨p,c,u,h⟩:=h;obtain⟨x,g,r⟩:=h.apc j q b t d;rw[e] at g;cases g with
 |slice f=>cases f with
  |some f=>
   obtain⟨m,_,_⟩:=f;exact(h.kept.new m).imp (λh=>⟨_,h⟩) (·.2)
 |fj=>exact absurd rfl r
def At.aAB{A:Option Addr}{c0 j : Nat}(h:At X T (.code aaI::inB k) w)(s1:T.getD 1 undef=.slice A n c0)(C:T.getD 16 undef=.int .i64 n)(y:T.getD 20 undef=.int .i64 j)(hj:j<=n)(hm:(n:Int)<=9223372036854775807) :
  (j=n/\∃T',Tm cK T T'/\At X T' k w)\/(j<n/\∃x T',aAz w A j x/\PkR X w A j/\Tm cK T T'/\T'.getD 16 undef=.int .i64 n/\T'.getD 20 undef=.int .i64 (j+1:Nat)/\At X T' (.code aaI::inB k) w):=by
 have D:=Tm.refl cK T;unfold Go.Proofs.YtmicddpknimniaaGreatDoor.aaI at h;have h:=h.seq;replace h:=h.region (l:=[0]) rfl;obtain⟨v,K,af,⟨r,q⟩,m,g,f⟩:=h.jb (d:=21) (Φ:=λv s=>v=.bool (decide ((j:Int)<n))/\s=w) rfl rfl rfl (by decide) λJ s E=>fS (by exact y) (by exact C) E;rw[r] at g;rw[q] at f;clear r q;replace s1:=(m.same 1 rfl).trans s1;replace C:=(m.same 16 rfl).trans C;replace y:=(m.same 20 rfl).trans y;replace D:=D.trans (m.sw rfl);clear m;replace h:=f;clear f;replace h:=h.iO.seq.cond g;by_cases V:(j:Int)<n
 .right;rw[db V] at h;simp only[pb] at h;replace h:=h.skip.seq.seq;replace h:=h.region (l:=[0,1,2,3,4]) rfl;obtain⟨ii,hi,hz⟩:=(faQ true).i40;obtain⟨fs,g0,g1,hu,a8,aa,ad,a9,a6,a3⟩:=(faQ true).u40;obtain⟨v,K,aM,⟨a,hB,r,q⟩,m,i,f⟩:=h.jb (d:=23) (Φ:=λv s=>∃a,A=some a/\v=.pointer (some (a.add (j*ii.size)))/\s=w) rfl rfl rfl (by decide) λJ s E=>ab1 (faQ true).u23 hi (by exact s1) (by exact y) (by omega) E;rw[r,hz] at i;rw[q] at f;clear r q;replace s1:=(m.same 1 rfl).trans s1;replace C:=(m.same 16 rfl).trans C;replace y:=(m.same 20 rfl).trans y;replace g:=(m.same 21 rfl).trans g;replace D:=D.trans (m.sw rfl);clear m;replace h:=f;clear f;have hv:=h.noV (t:=23) rfl rfl rfl i (λe w he=>ae9 he);obtain⟨v,K,al,⟨S,P,r,a2,a0,q⟩,m,o,f⟩:=h.jb (d:=24) (Φ:=λv s=>∃S P,v=.agg #[S,P]/\w.cell? (a.add (j*2))=some S/\w.cell? ((a.add (j*2)).add 1)=some P/\s=w) rfl rfl rfl (by decide) λJ s E=>ajx hu hi hz (by exact i) hv.1 hv.2 E;rw[r] at o;rw[q] at f;clear r q;replace s1:=(m.same 1 rfl).trans s1;replace C:=(m.same 16 rfl).trans C;replace y:=(m.same 20 rfl).trans y;replace g:=(m.same 21 rfl).trans g;replace i:=(m.same 23 rfl).trans i;replace D:=D.trans (m.sw rfl);clear m;replace h:=f;clear f;obtain⟨v,K,ao,⟨r,q⟩,m,p,f⟩:=h.jb (d:=25) (Φ:=λv s=>v=S/\s=w) rfl rfl rfl (by decide) λJ s E=>ab0 hu a8 (by rw[a9];exact(faQ true).u3) rfl (by exact o) (by rw[ad];rfl) E;rw[r] at p;rw[q] at f;clear r q;replace s1:=(m.same 1 rfl).trans s1;replace C:=(m.same 16 rfl).trans C;replace y:=(m.same 20 rfl).trans y;replace g:=(m.same 21 rfl).trans g;replace i:=(m.same 23 rfl).trans i;replace o:=(m.same 24 rfl).trans o;replace D:=D.trans (m.sw rfl);clear m;replace h:=f;clear f;obtain⟨v,K,ax,⟨z,a5,r,q⟩,m,u,f⟩:=h.jb (d:=26) (Φ:=λv s=>∃z,S=.int .i64 z/\v=.int .i64 (IntKind.i64.wrap (z*1))/\s=w) rfl rfl rfl (by decide) λJ s E=>let⟨v,a1,z,O,Y,a4⟩:=alT E rfl;⟨v,a1,z,p.symm.trans O,Y,a4⟩
  rw[r] at u;rw[q] at f;clear r q;replace s1:=(m.same 1 rfl).trans s1;replace C:=(m.same 16 rfl).trans C;replace y:=(m.same 20 rfl).trans y;replace g:=(m.same 21 rfl).trans g;replace i:=(m.same 23 rfl).trans i;replace o:=(m.same 24 rfl).trans o;replace p:=(m.same 25 rfl).trans p;replace D:=D.trans (m.sw rfl);clear m;replace h:=f;clear f;subst a5;obtain⟨v,K,aN,⟨r,q⟩,m,G,f⟩:=h.jb (d:=22) (Φ:=λv s=>v=.bool (IntKind.i64.wrap (z*1) ==z)/\s=w) rfl rfl rfl (by decide) λJ s E=>alV (by exact u) (by exact p) E;rw[r] at G;rw[q] at f;clear r q;replace s1:=(m.same 1 rfl).trans s1;replace C:=(m.same 16 rfl).trans C;replace y:=(m.same 20 rfl).trans y;replace g:=(m.same 21 rfl).trans g;replace i:=(m.same 23 rfl).trans i;replace o:=(m.same 24 rfl).trans o;replace p:=(m.same 25 rfl).trans p;replace u:=(m.same 26 rfl).trans u;replace D:=D.trans (m.sw rfl);clear m;replace h:=f;clear f;obtain⟨hq,f⟩:=h.iO.ayf G;replace h:=f.seq.seq;clear f;replace h:=h.region (l:=[0,1,2,3]) rfl;obtain⟨v,K,an,⟨r,q⟩,m,H,f⟩:=h.jb (d:=27) (Φ:=λv s=>v=P/\s=w) rfl rfl rfl (by decide) λJ s E=>ab0 hu aa (by rw[a3];exact(faQ true).u38) rfl (by exact o) (by rw[a6];rfl) E;rw[r] at H;rw[q] at f;clear r q;replace s1:=(m.same 1 rfl).trans s1;replace C:=(m.same 16 rfl).trans C;replace y:=(m.same 20 rfl).trans y;replace g:=(m.same 21 rfl).trans g;replace G:=(m.same 22 rfl).trans G;replace i:=(m.same 23 rfl).trans i;replace o:=(m.same 24 rfl).trans o;replace p:=(m.same 25 rfl).trans p;replace u:=(m.same 26 rfl).trans u;replace D:=D.trans (m.sw rfl);clear m;replace h:=f;clear f;have W:=h.ahQ (t:=27) rfl rfl rfl λe w he=>ad1 (faQ true).u38 he;rw[H] at W;obtain⟨v,K,aS,⟨B,m,c,a7,r,q⟩,m,I,f⟩:=h.jb (d:=28) (Φ:=λv s=>∃B m c,P=.slice B m c/\v=.int .i64 m/\s=w) rfl rfl rfl (by decide) λJ s E=>let⟨v,a1,B,m,c,O,Y,a4⟩:=ahN (faQ true).u38 E;⟨v,a1,B,m,c,H.symm.trans O,Y,a4⟩
  rw[r] at I;rw[q] at f;clear r q;replace s1:=(m.same 1 rfl).trans s1;replace C:=(m.same 16 rfl).trans C;replace y:=(m.same 20 rfl).trans y;replace g:=(m.same 21 rfl).trans g;replace G:=(m.same 22 rfl).trans G;replace i:=(m.same 23 rfl).trans i;replace o:=(m.same 24 rfl).trans o;replace p:=(m.same 25 rfl).trans p;replace u:=(m.same 26 rfl).trans u;replace H:=(m.same 27 rfl).trans H;replace D:=D.trans (m.sw rfl);clear m;replace h:=f;clear f;subst a7;obtain⟨v,K,aZ,⟨r,q⟩,m,M,f⟩:=h.jb (d:=3) (Φ:=λv s=>v=.int .i64 c/\s=w) rfl rfl rfl (by decide) λJ s E=>alW (faQ true).u38 (by exact H) E;rw[r] at M;rw[q] at f;clear r q;replace s1:=(m.same 1 rfl).trans s1;replace C:=(m.same 16 rfl).trans C;replace y:=(m.same 20 rfl).trans y;replace g:=(m.same 21 rfl).trans g;replace G:=(m.same 22 rfl).trans G;replace i:=(m.same 23 rfl).trans i;replace o:=(m.same 24 rfl).trans o;replace p:=(m.same 25 rfl).trans p;replace u:=(m.same 26 rfl).trans u;replace H:=(m.same 27 rfl).trans H;replace I:=(m.same 28 rfl).trans I;replace D:=D.trans (m.sw rfl);clear m;replace h:=f;clear f;obtain⟨v,K,aJ,⟨r,q⟩,m,L,f⟩:=h.jb (d:=4) (Φ:=λv s=>v=.bool (decide ((m:Int)<1))/\s=w) rfl rfl rfl (by decide) λJ s E=>fS (by exact I) rfl E;rw[r] at L;rw[q] at f;clear r q;replace s1:=(m.same 1 rfl).trans s1;replace M:=(m.same 3 rfl).trans M;replace C:=(m.same 16 rfl).trans C;replace y:=(m.same 20 rfl).trans y;replace g:=(m.same 21 rfl).trans g;replace G:=(m.same 22 rfl).trans G;replace i:=(m.same 23 rfl).trans i;replace o:=(m.same 24 rfl).trans o;replace p:=(m.same 25 rfl).trans p;replace u:=(m.same 26 rfl).trans u;replace H:=(m.same 27 rfl).trans H;replace I:=(m.same 28 rfl).trans I;replace D:=D.trans (m.sw rfl);clear m;replace h:=f;clear f;obtain⟨U,f⟩:=h.iO.chk L;replace h:=f.seq.seq;clear f;replace h:=h.region (l:=[0]) rfl;clear L;obtain⟨v,K,b2,⟨r,q⟩,m,L,f⟩:=h.jb (d:=4) (Φ:=λv s=>v=.bool (decide ((9223372036854775807:Int)<c))/\s=w) rfl rfl rfl (by decide) λJ s E=>fS rfl (by exact M) E;rw[r] at L;rw[q] at f;clear r q;replace s1:=(m.same 1 rfl).trans s1;replace M:=(m.same 3 rfl).trans M;replace C:=(m.same 16 rfl).trans C;replace y:=(m.same 20 rfl).trans y;replace g:=(m.same 21 rfl).trans g;replace G:=(m.same 22 rfl).trans G;replace i:=(m.same 23 rfl).trans i;replace o:=(m.same 24 rfl).trans o;replace p:=(m.same 25 rfl).trans p;replace u:=(m.same 26 rfl).trans u;replace H:=(m.same 27 rfl).trans H;replace I:=(m.same 28 rfl).trans I;replace D:=D.trans (m.sw rfl);clear m;replace h:=f;clear f;obtain⟨N,f⟩:=h.iO.chk L;replace h:=f.seq.seq;clear f;replace h:=h.region (l:=[0]) rfl;clear L;obtain⟨v,K,b0,⟨r,q⟩,m,L,f⟩:=h.jb (d:=4) (Φ:=λv s=>v=.bool (decide ((c:Int)<m))/\s=w) rfl rfl rfl (by decide) λJ s E=>fS (by exact M) (by exact I) E;rw[r] at L;rw[q] at f;clear r q;replace s1:=(m.same 1 rfl).trans s1;replace M:=(m.same 3 rfl).trans M;replace C:=(m.same 16 rfl).trans C;replace y:=(m.same 20 rfl).trans y;replace g:=(m.same 21 rfl).trans g;replace G:=(m.same 22 rfl).trans G;replace i:=(m.same 23 rfl).trans i;replace o:=(m.same 24 rfl).trans o;replace p:=(m.same 25 rfl).trans p;replace u:=(m.same 26 rfl).trans u;replace H:=(m.same 27 rfl).trans H;replace I:=(m.same 28 rfl).trans I;replace D:=D.trans (m.sw rfl);clear m;replace h:=f;clear f;obtain⟨R,f⟩:=h.iO.chk L;replace h:=f.seq;clear f;replace h:=h.region (l:=[0]) rfl;obtain⟨v,K,b1,⟨r,q⟩,m,s5,f⟩:=h.jb (d:=5) (Φ:=λv s=>v=.int .i64 (0:Nat)/\s=w) rfl rfl rfl (by decide) λJ s E=>ja E;rw[r] at s5;rw[q] at f;clear r q;replace s1:=(m.same 1 rfl).trans s1;replace M:=(m.same 3 rfl).trans M;replace L:=(m.same 4 rfl).trans L;replace C:=(m.same 16 rfl).trans C;replace y:=(m.same 20 rfl).trans y;replace g:=(m.same 21 rfl).trans g;replace G:=(m.same 22 rfl).trans G;replace i:=(m.same 23 rfl).trans i;replace o:=(m.same 24 rfl).trans o;replace p:=(m.same 25 rfl).trans p;replace u:=(m.same 26 rfl).trans u;replace H:=(m.same 27 rfl).trans H;replace I:=(m.same 28 rfl).trans I;replace D:=D.trans (m.sw rfl);clear m;replace h:=f;clear f;replace U:=eE U;replace N:=eE N;replace R:=eE R;replace h:=h.iO.seq.block.loop;obtain⟨l,T2,hl,E,F,f⟩:=At.awA (by omega) m 0 (by omega) h H I s5;replace h:=f.region (l:=[0,1]) rfl;clear f;replace s1:=(F.same 1 rfl).trans s1;replace M:=(F.same 3 rfl).trans M;clear L;clear s5;replace C:=(F.same 16 rfl).trans C;replace y:=(F.same 20 rfl).trans y;replace g:=(F.same 21 rfl).trans g;clear G;replace i:=(F.same 23 rfl).trans i;replace o:=(F.same 24 rfl).trans o;clear p;clear u;replace H:=(F.same 27 rfl).trans H;replace I:=(F.same 28 rfl).trans I;replace D:=D.trans (F.mono aAA);clear F;obtain⟨v,K,ay,⟨r,q⟩,m,G,f⟩:=h.jb (d:=22) (Φ:=λv s=>v=.int .i64 (IntKind.i64.wrap ((j:Int)+1))/\s=w) rfl rfl rfl (by decide) λJ s E=>alU (by exact y) rfl E;rw[r] at G;rw[q] at f;clear r q;replace C:=(m.same 16 rfl).trans C;replace y:=(m.same 20 rfl).trans y;replace D:=D.trans (m.sw rfl);clear m;replace h:=f;clear f;clear y;obtain⟨v,K,aO,⟨r,q⟩,m,y,f⟩:=h.jb (d:=20) (Φ:=λv s=>v=.int .i64 (IntKind.i64.wrap ((j:Int)+1))/\s=w) rfl rfl rfl (by decide) λJ s E=>let⟨v,a1,O,Y⟩:=ahM E;⟨v,a1,O.trans G,Y⟩
  rw[r] at y;rw[q] at f;clear r q;replace C:=(m.same 16 rfl).trans C;replace D:=D.trans (m.sw rfl);clear m;replace h:=f;clear f;rw[afa (by omega)] at y;subst hl;exact⟨by omega,(z,l),_,⟨⟨a,B,c,hB,a2,a0,(by show 1<=l.length;omega),(by show l.length<=c;omega),N,E⟩,aa4 hq⟩,λO b n2 c2 Q Z=>(by rw[hB] at Q;cases Q;rw[a0] at Z;exact W b n2 c2 (dq Z)),D,C,y,h.iO.again⟩
 .left;rw[bv V] at h;simp only[kw,qA] at h;exact⟨by omega,_,D,h.exit rfl⟩
def At.awB{A:Option Addr}{m c:Nat}(p:(m:Int)<=9223372036854775807):∀(n j:Nat) {T:Array Value},m=j+n->At X T (.code aaI::inB k) w->T.getD 1 undef=.slice A m c->T.getD 16 undef=.int .i64 m->T.getD 20 undef=.int .i64 j->
  ∃l T',l.length=n/\RdP w A j l/\(∀i,i<n->PkR X w A (j+i))/\Tm cK T T'/\At X T' k w
 |0,j,T,e,h,s1,dc,gR=>by
  rcases h.aAB s1 dc gR (by omega) p with⟨_,T',B,v⟩|⟨d,_⟩
  .exact⟨[],T',rfl,λi x a=>by simp at a,λi a=>absurd a (rR i),B,v⟩
  .omega
 |n+1,j,T,e,h,s1,dc,gR=>by
  rcases h.aAB s1 dc gR (by omega) p with⟨E,_⟩|⟨d,x,D,u,q,b,f,g,C⟩
  .omega
  .obtain⟨l,T',r,t,z,o,s⟩:=At.awB p n (j+1) (by omega) C ((b.same 1 rfl).trans s1) f g;refine⟨x::l,T',by simp[r],λi y a=> ?_,λi a=> ?_,b.trans o,s⟩
   case refine_2=>
    cases i with
    |zero=>exact q
    |succ i=>
     have:=z i (by omega);have e:j+1+i=j+(i+1):=by omega
     rwa [e] at this
   cases i with
   |zero=>simp at a;subst a;exact u
   |succ i=>
    have:=t i y (by simpa using a);have e:j+1+i=j+(i+1):=by omega
    rwa [e] at this
end
end
end Go.Proofs.YtmicddpknimniaaGreatDoor