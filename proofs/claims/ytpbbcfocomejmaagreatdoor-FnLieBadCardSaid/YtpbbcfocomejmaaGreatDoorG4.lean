/- A part of the proof. -/
import Derived.Test.YtpbbcfocomejmaaGreatDoorG3
import Derived.Below
set_option maxRecDepth 100000
set_option maxHeartbeats 8000000
set_option linter.all false
open Go Go.Conc Go.ConcN Go.RowKit Go.Proofs.Tryz Go.Proofs.YtpbbcfocomejmaaGreatDoor
variable {B Wg c g i n:Nat} {d t:Tmp} {ρ:Ren} {V:Type} {A:Addr} {a b:Code} {o:Oper} {q:Bool} {W w w' w2:World} {e:Event} {u v:Value} {x y:Frame} {X t0:TypeId} {f:FuncId} {pos:String} {P:Program} {R rest:List Nat} {k k2:List Item} {Z:Array Oper} {Y l l' xs:List Frame} {U T':Array Value} {S:Array Field} {es:Array Event} {Own:Nat→Loc→Prop}
namespace Go.Proofs.YtpbbcfocomejmaaGreatDoor
def dj:=@_root_.Go.World.size_setCell
def rA:=@_root_.List.not_mem_nil
def rI:=@_root_.Go.Conc.Goes.cases
def sd:=@_root_.List.mem_toArray
def sJ:=@_root_.Go.Conc.aside_setCell
def sQ:=@_root_.Array.size_replicate
def sT:=@_root_.Go.Conc.mem_seen
def sX:=@_root_.Relation.TransGen.trans
def tv:=@_root_.Nat.sub_self
def tA:=@_root_.Go.ConcN.deafBehind_idle
def tM:=@_root_.Go.World.cell?_setCell_other
def tQ:=@_root_.or_false
def tZ:=@_root_.Go.ConcN.RW.refl
def ut:=@_root_.Array.getElem?_push_lt
def uE:=@_root_.Go.Conc.awake_of
def uH:=@_root_.Go.World.frozen?_setCell
def vG:=@_root_.Array.mem_append
def vY:=@_root_.Array.mem_iff_getElem
section
open Go.Conc Go.ConcN
open Go.ConcR (KK wgBlock WgAt stA smA rd wr mk Payload DC0 Bk g_of_ofEvents ofEvent_mk ofEvent_loc_mark loc_of_ofEvent bk_of_mute again_blocked)
section
variable {Wg C K0:Nat} {aT:aq}
def ali{l:Loc}(h:ShN Wg l):Shr Wg aT l:=let⟨a,e,h⟩:=h;⟨a,e,.inl h⟩
def ai1(h:Bk Wg e){x:Touch}(b:(MemAct.ofEvent e).touch?=some x):Shr Wg aT x.loc:=by
 rcases h with h|h|⟨a,wr,rfl,c⟩
 .rw[ofEvent_loc_mark h] at b;cases b
 .rw[ofEvent_loc_mark h] at b;cases b
 .simp[MemAct.ofEvent,MemAct.touch?] at b;subst b;exact⟨a,rfl,.inl c⟩
def ax8(h:Bk Wg e)(b:Wg<B):(MemAct.ofEvent e).low B:=by
 rcases h with h|h|⟨a,wr,rfl,c⟩
 .rw[ofEvent_loc_mark h];trivial
 .rw[ofEvent_loc_mark h];trivial
 .show a.block<B;omega
def ax9{Rd : Nat->Loc->Prop}{k:Nat}{fn:FuncId}(h:∀e∈es,Bk Wg e):∀op∈MemOp.ofEvents k fn pos es,OkW (Shr Wg aT) Own Rd k op:=λop c=>
 let⟨g,d⟩:=okW_of_Bk (Own:=Own) (Rd:=Rd) h op c;⟨g,λx f=>(d x f).imp (λ⟨a,b⟩=>⟨ali a,b⟩) id⟩
def arA{Rd : Nat->Loc->Prop}{j:Nat}{fn:FuncId}(h:∀e∈es,Bk Wg e):∀op∈MemOp.ofEvents 0 fn pos es,Ok0 (Shr Wg aT) Own Rd j op:=λop c=>by
 obtain⟨e,d,rfl⟩:=lE c;exact⟨rfl,λx b=>.inl ⟨ai1 (h e d) b,by
  rcases h e d with h|h|⟨a,wr,rfl,f⟩
  .simp only[ofEvent_loc_mark h] at b;cases b
  .simp only[ofEvent_loc_mark h] at b;cases b
  .simp[MemAct.ofEvent,MemAct.touch?] at b;subst b;simp⟩⟩
def auJ{κ:Nat}{R d:aq}{O c:Nat->aq}{fn:FuncId}(k:O κ=d)(j:c κ=R)(h:∀e∈es,EvP Wg C R (dN κ) d B e) :
  ∀op∈MemOp.ofEvents (K0+1+κ) fn pos es,OkW (Shr Wg aT) (aa4 C K0 O) (RdL K0 c) (K0+1+κ) op:=λop b=>by
 obtain⟨e,i,rfl⟩:=lE b;refine⟨rfl,λx g=> ?_⟩;rcases(h e i).touch x g with a|a|⟨a,f⟩
 .exact .inr (.inl ⟨κ,rfl,.inl (k▸a)⟩)
 .exact .inr (.inl ⟨κ,rfl,.inr a⟩)
 .exact .inr (.inr ⟨⟨κ,rfl,j▸a⟩,f⟩)
def anD{R c b:aq}{fn:FuncId}(h:∀e∈es,EvP Wg C R c b B e):∀op∈MemOp.ofEvents g fn pos es,op.act.low B:=λop a=>by
 obtain⟨e,d,rfl⟩:=lE a;exact(h e d).low
def ahF(b:Wg<B){fn:FuncId}(h:∀e∈es,Bk Wg e):∀op∈MemOp.ofEvents g fn pos es,op.act.low B:=λop a=>by
 obtain⟨e,c,rfl⟩:=lE a;exact ax8 (h e c) b
end
section
variable [Payload] {P:Program} {ty:TypeId} {Wg C n K0:Nat} {val:Nat->Value} {aT:aq} {aP Fin:aq->aq->Goroutine->World->Prop}
 {gs:Array Goroutine} {w w':World} {sl:Option (Nat×Nat)} {j:Nat} {D:Nat->WD} {TV:Nat->jo} {R S:aq} {O Rk:Nat->aq} {q:Nat->Nat} {tag:CTag} {f0 d0:Nat} {a:Goroutine} {t:Trace} {st sm:Int}
def MI.wgO(h:MI P ty Wg C n K0 val aT j gs w t D TV R S O Rk q d0)(d:Aside Wg w w')(a:WgLive ty Wg w')(κ:Nat):jC ty Wg C (2*n) (Rk κ) (dN κ) (O κ) w w':=
 .of_wg d a (λb c e=>by subst e;exact c.elim (h.cu.wo κ) λx=>h.cu.wr (h.cu.rk κ _ x)) h.cu.cw
def MI.wgM(h:MI P ty Wg C n K0 val aT j gs w t D TV R S O Rk q d0)(c:Aside Wg w w')(d:WgLive ty Wg w'):RM ty Wg C n R S w w':=
 .of_wg c d (λb a e=>by subst e;exact a.elim h.cu.ws h.cu.wr) h.cu.cw
def ai2 (hn:n<2147483648) (an:∀R S g w,aP R S g w->g.status=.running) (N:gs[0]?=some a) (lD:fe P ty Wg C n val aP Fin tag j R S (TV 0) f0 d0 a w) (p:MI P ty Wg C n K0 val aT j gs w t D TV R S O Rk q d0) (H:WgAt ty Wg w st sm) (aX:ConcN.Mode j D tag st sm)
  {κ:Nat} (F:κ<j) {g:Goroutine} (hg:gs[K0+1+κ]?=some g) (U:g.status=.running) :
  ∃l E mr,runT P (crowd gs w sl) (K0+1+κ)=(.next l,E)/\aa2 (n+1) mr (phi n (Vc j D) tag+Ssum j D,(TV,f0+2*Fsum j D+2*sumTo (K0+1) q))/\aan P ty Wg C n K0 val aT aP Fin mr l (t++E):=by
 obtain⟨b0,aK,hs⟩:=p.wk κ F;obtain rfl:g=b0:=by rw[hg] at aK;exact ef aK
 have hb:=lD.bound;have bl:=Vc_le j D;have a9:=p.ti.deafW κ F;have hW:=p.cu.wlt;generalize A:(D κ).stage=s at hs;generalize b4:(D κ).fuel=m at hs;generalize a3:(D κ).deaf=dd at hs;rw[a3] at a9;cases hs with
 |work h=>
  rcases h.cases with bR|⟨f,hT,_,d⟩
  .obtain⟨⟨_,a2,u,c,B,hk⟩,b5⟩:=bR w (.refl _ _ _ w);rw[Nat.add_sub_cancel] at a2;have e1:MemOp.ofEvents (K0+1+κ) g.frame.fn g.frame.place #[mk (.releaseMerge (stA Wg))]=#[{g:=K0+1+κ,fn:=g.frame.fn,pos:=g.frame.place,act:=.mark (.releaseMerge (stA Wg))}]:=by rw[ofEvents_eq];simp[ofEvent_mk]
   refine pw (T':=TV (κ+1)) an N lD p F hg c (.refl _ _ _ w) (λ_ _ _=>.refl _ _ _ w) (.rest (by omega) (.k1 hk)) (λ_ x=>x) (λ_ x=>.inl x) (λop J=> ?_) (by intro e k;simp at k;subst k;simp[mk]) (by rw[a3];rfl) (λop J=> ?_)
    (λ_=>⟨t.size,RelBy.new a9 _ _,λi op x hi ho _ _=> ?_⟩) (λ_=>⟨a2,b5⟩) p.pay H (λ_ ht _=>(aX.counted F (by omega) (.inl rfl) _ _).retag ht) (.inl ⟨by omega,by simp[cnt,A]⟩)
   .rw[e1] at J;simp at J;subst J;exact⟨rfl,λx hx=>by simp[MemAct.touch?] at hx⟩
   .rw[e1] at J;simp at J;subst J;exact hW
   .have:=lt_size_of_getElem? ho;rw[e1] at this;simp at this;omega
  .obtain⟨u,w',es,S',c,hG,b6⟩:=d w (.refl _ _ _ w);have Z:Wg<w.heap.size/\¬O κ Wg/\Wg≠C:=⟨hW,p.cu.wo κ,λe=>p.cu.cw e.symm⟩;have b7:WgAt ty Wg w' st sm:=H.of_block (hG.keep Wg Z.1 Z.2.1 Z.2.2);refine pw an N lD p F hg c
    (.alf hG (λb hb=>hb.elim (λx=>⟨p.cu.slt b x,λy=>p.cu.os κ b y x,λe=>p.cu.cs (e▸x)⟩) λx=>⟨p.cu.rlt b x,λy=>p.cu.orr κ b y x,λe=>p.cu.cr (e▸x)⟩) (λi x=>x.elim) Z)
    (λgj _ ao=>.alf hG (λb hb=>hb.elim (λx=>⟨p.cu.olt gj b x,λy=>ao (p.cu.oo gj κ b x y),λe=>p.cu.co gj (e▸x)⟩) λx=>⟨p.cu.rlt b (p.cu.rk gj b x),λy=>p.cu.orr κ b y (p.cu.rk gj b x),λe=>p.cu.cr (e▸p.cu.rk gj b x)⟩) (λi x y=>ao (x.symm.trans y)) Z)
    (.work b6) hG.mono hG.new (auJ (by rw[qf]) rfl hG.ev) (λe k=>(hG.ev e k).rel) (by rw[a3];exact tA (λe k=>⟨(hG.ev e k).dis,(hG.ev e k).en⟩) 0) (anD hG.ev)
    (λh=>by omega) (λh=>by omega) (hG.pay p.pay) b7 (λ_ ht _=>ConcN.Mode.retag (by have:=aX.same (i:=κ) 0 0;rwa [A] at this) ht) (.inr (.inl ⟨A.symm,by rw[hT];exact⟨f,w,rfl,rfl⟩⟩))
 |rest h6 h=>
  have ax:∀{u:Goroutine} {w':World} {es:Array Event} {V I G:Nat} {W Y:Int},stepG P false g w=.go u w' es->Aside Wg w w'->WgAt ty Wg w' W Y->(∀e∈es,Bk Wg e)->
    (∀jx e,es[jx]?=some e->(MemAct.ofEvent e).touch?=none\/0<deafBehind dd (es.extract 0 jx))->WSit P ty Wg C (2*n) FF FF 0 (2*κ+1) (val (2*κ)) V I G u w'->deafBehind dd es=G->V<=6->
    (∀dT,(dT=tag\/(tag=.blk/\dT=.w3))->(mayWake P g=true->u.status=.running->dT ≠ .blk)->ConcN.Mode j (upd D κ ⟨V,I,G⟩) dT W Y)->((V<s/\cnt ⟨V,I,G⟩<=cnt (D κ))\/(V=s/\I+1=m))->
    ∃l E mr,runT P (crowd gs w sl) (K0+1+κ)=(.next l,E)/\aa2 (n+1) mr (phi n (Vc j D) tag+Ssum j D,(TV,f0+2*Fsum j D+2*sumTo (K0+1) q))/\aan P ty Wg C n K0 val aT aP Fin mr l (t++E):=by
   intro u w' es V I G W Y c Q a4 iZ hd a0 af ba a7 aa;obtain⟨cs,b8,bf⟩:=p.pay;have hl:WgLive ty Wg w':=⟨_,_,a4⟩;have a2:=p.has κ F (by omega);have ec:∀o,w'.cell? ⟨C,o,none⟩=w.cell? ⟨C,o,none⟩:=uv (Q.block C p.cu.cw);exact pw an N lD p F hg c (p.wgM Q hl) (λgj _ _=>p.wgO Q hl gj) (.rest ba a0) (λ_ x=>x) (λ_ x=>.inl x) (ax9 iZ) (norel_of_Bk iZ) (by rw[a3];exact af) (ahF (by rw[Q.size];exact hW) iZ)
    (λ_=>let⟨r,hr,b9⟩:=p.ti.rel κ F (by omega);⟨r,hr.book a9 _ _ iZ hd,b9.app λop J _ x hx=>by obtain⟨e,k,rfl⟩:=lE J;exact ai1 (iZ e k) hx⟩)
    (λ_=>⟨(ec _).trans a2.1,(ec _).trans a2.2⟩) ⟨cs,(Q.block C p.cu.cw).trans b8,bf⟩ a4 a7
    (by rw[A,b4];exact aa.imp id λx=>.inr ⟨x.1,rfl,x.2⟩)
  have z:∀{u:Goroutine} {w':World} {es:Array Event} {V I G:Nat} {W Y:Int},stepG P false g w=.go u w' es->Aside Wg w w'->WgAt ty Wg w' W Y->(∀e∈es,Bk Wg e)->
    (∀jx e,es[jx]?=some e->(MemAct.ofEvent e).touch?=none\/0<deafBehind dd (es.extract 0 jx))->WSit P ty Wg C (2*n) FF FF 0 (2*κ+1) (val (2*κ)) V I G u w'->deafBehind dd es=G->V<=6->
    ConcN.Mode j (upd D κ ⟨V,I,G⟩) tag W Y->((V<s/\cnt ⟨V,I,G⟩<=cnt (D κ))\/(V=s/\I+1=m))->
    ∃l E mr,runT P (crowd gs w sl) (K0+1+κ)=(.next l,E)/\aa2 (n+1) mr (phi n (Vc j D) tag+Ssum j D,(TV,f0+2*Fsum j D+2*sumTo (K0+1) q))/\aan P ty Wg C n K0 val aT aP Fin mr l (t++E):=
   λc Q a4 iZ hd a0 af h6 a7 aa=>ax c Q a4 iZ hd a0 af h6 (λ_ ht _=>a7.retag ht) aa
  have K:∀{u:Goroutine} {I:Nat},stepG P false g w=.go u w #[]->WSit P ty Wg C (2*n) FF FF 0 (2*κ+1) (val (2*κ)) s I dd u w->I+1=m->
    ∃l E mr,runT P (crowd gs w sl) (K0+1+κ)=(.next l,E)/\aa2 (n+1) mr (phi n (Vc j D) tag+Ssum j D,(TV,f0+2*Fsum j D+2*sumTo (K0+1) q))/\aan P ty Wg C n K0 val aT aP Fin mr l (t++E):=by
   intro u I c a0 hm;exact z c (.refl Wg w) H (by simp) (by simp) a0 rfl h6 (by have:=aX.same (i:=κ) I dd;rwa [A] at this) (.inr ⟨rfl,hm⟩)
  cases h with
  |r0 h=>omega
  |k1 h=>
   rcases rI h with bR|⟨I,rfl,d⟩
   .obtain⟨_,u,c,B,hk⟩:=bR w (tZ w);exact z c (.refl Wg w) H (by intro e k;simp at k;subst k;exact .inl rfl) (by intro jx e k;exact .inl (by have:=qx k;simp at this;subst this;rfl)) (.d1 hk) rfl (by omega)
     (aX.counted F (by omega) (.inr rfl) _ _) (.inl ⟨by omega,by simp[cnt,A]⟩)
   .obtain⟨u,w',es,c,⟨rfl,rfl⟩,lU⟩:=d w (tZ w);exact K c (.k1 lU) rfl
  |d1 h=>
   rcases rI h with bR|⟨I,rfl,d⟩
   .obtain⟨_,a5⟩:=bR w (tZ w);have bi:cnt (D κ)=1:=by simp[cnt,A]
    have bk:1<=Vc j D:=by have:=le_sumTo (f:=λx=>cnt (D x)) F;simp only[Vc];omega
    have a6:∀e∈#[rd (stA Wg),wr (stA Wg)],Bk Wg e:=by intro e k;simp at k;rcases k with rfl|rfl<;>exact ConcN.bk_cell _ _ rfl
    have ad:∀jx e,(#[rd (stA Wg),wr (stA Wg)]:Array Event)[jx]?=some e->(MemAct.ofEvent e).touch?=none\/0<deafBehind 1 ((#[rd (stA Wg),wr (stA Wg)]:Array Event).extract 0 jx):=by
     intro jx e k
     match jx,k with
     |0,_=>exact .inr (by simp[deafBehind])
     |1,_=>exact .inr (by simp[deafBehind,rd])
     |jx+2,k=>simp at k
    have aJ:∀q,cnt (⟨1,q,1⟩:WD)=0:=λ_=>rfl;have aL:∀q,OpenSt j D->OpenSt j (upd D κ ⟨1,q,1⟩):=λq h a N=>by
     by_cases e:a=κ
     .subst e;rw[qf];simp
     .rw[qI D _ e];exact h a N
    cases aX with
    |opn h1 h2 h3=>
     obtain⟨v,hv⟩:∃v,Vc j D+pend tag=v+1:=⟨Vc j D+pend tag-1,by omega⟩;rw[hv] at H;have bI:WgAt ty Wg w (((v:Nat)+1)*KK+((0:Nat):Int)) 0:=by simpa using H
     obtain⟨u,c,_,X⟩:=a5 v 0 (by omega) (by omega) bI;obtain⟨M,X⟩:=X (by omega);have al:Vc j (upd D κ ⟨1,M,1⟩)+pend tag=v:=by have:=Vc_upd D (⟨1,M,1⟩:WD) F;have:=aJ M;omega
     refine z c (sJ w (stA Wg) _) (H.setSt _) a6 ad (.quit X) rfl (by omega) ?_ (.inl ⟨by omega,by simp[cnt]⟩);have e:((v:Nat):Int)*KK+((0:Nat):Int)=((Vc j (upd D κ ⟨1,M,1⟩)+pend tag:Nat):Int)*KK:=by rw[al];simp
     rw[e];exact .opn h1 (aL M h2) (λvs ev=>by have:=h3 vs ev;omega)
    |reg h1 h2 h3=>
     obtain⟨v,hv⟩:∃v,Vc j D=v+1:=⟨Vc j D-1,by omega⟩;rw[hv] at H;have hp:pend tag=0:=by cases tag<;>first|rfl|exact h1.elim
     have bI:WgAt ty Wg w (((v:Nat)+1)*KK+((1:Nat):Int)) 0:=by simpa using H
     obtain⟨u,c,hl,X⟩:=a5 v 1 (by omega) (by omega) bI;by_cases bb:v=0
     .subst bb;obtain⟨B,hk⟩:=hl ⟨rfl,rfl⟩;refine z c (sJ w (stA Wg) _) (H.setSt _) a6 ad (.d2 hk) rfl (by omega) ?_ (.inl ⟨by omega,by simp[cnt]⟩);have T:∀a,a<j->a≠κ->(D a).stage=1:=λa N e=>by
       have c0:=others_uncounted F hv bi a N e;have:=h2 a N;simp only[cnt] at c0;split at c0<;>omega
      have:=ConcN.Mode.last (j:=j) (D:=upd D κ ⟨4,B,1⟩) (tag:=tag) κ h1 F (by rw[qf];simp) (λa N e=>by rw[qI D _ e];exact T a N e);rw[qf] at this;simpa using this
     .obtain⟨M,X⟩:=X (by omega);have al:Vc j (upd D κ ⟨1,M,1⟩)=v:=by have:=Vc_upd D (⟨1,M,1⟩:WD) F;have:=aJ M;omega
      refine z c (sJ w (stA Wg) _) (H.setSt _) a6 ad (.quit X) rfl (by omega) ?_ (.inl ⟨by omega,by simp[cnt]⟩);have e:((v:Nat):Int)*KK+((1:Nat):Int)=((Vc j (upd D κ ⟨1,M,1⟩):Nat):Int)*KK+1:=by rw[al];simp
      rw[e];exact .reg h1 (aL M h2) (by omega)
    |last L _ h2 h3 h4=>
     by_cases e:κ=L
     .subst e;omega
     .have:=h4 κ F e;omega
    |sema h2=>have:=h2 κ F;omega
    |fin _ h2=>have:=h2 κ F;omega
   .obtain⟨u,w',es,c,⟨rfl,rfl⟩,lU⟩:=d w (tZ w);exact K c (.d1 lU) rfl
  |d2 h=>
   rcases rI h with bR|⟨I,rfl,d⟩
   .obtain⟨_,hx⟩:=bR w (tZ w);obtain⟨a1,T,rfl,rfl⟩:=aX.isLast F (by omega);simp only[A] at H;obtain⟨u,c,B,hk⟩:=hx (by simpa using H);refine z c (.refl Wg w) H (by intro e k;simp at k;subst k;exact ConcN.bk_cell _ _ rfl) (by intro jx e k;match jx,k with|0,_=>exact .inr (by simp[deafBehind])|jx+1,k=>simp at k) (.d3 hk) rfl (by omega) ?_ (.inl ⟨by omega,by simp[cnt]⟩);have:=ConcN.Mode.last (j:=j) (D:=upd D κ ⟨3,B,1⟩) (tag:=tag) κ a1 F (by rw[qf];simp) (λa N e=>by rw[qI D _ e];exact T a N e);rw[qf] at this;simpa using this
   .obtain⟨u,w',es,c,⟨rfl,rfl⟩,lU⟩:=d w (tZ w);exact K c (.d2 lU) rfl
  |d3 h=>
   rcases rI h with bR|⟨I,rfl,d⟩
   .obtain⟨_,hx⟩:=bR w (tZ w);obtain⟨a1,T,rfl,rfl⟩:=aX.isLast F (by omega);simp only[A] at H;obtain⟨u,c,B,hk⟩:=hx (by simpa using H);refine z c (sJ w (stA Wg) _) (H.setSt 0) (by intro e k;simp at k;subst k;exact ConcN.bk_cell _ _ rfl) (by intro jx e k;match jx,k with|0,_=>exact .inr (by simp[deafBehind])|jx+1,k=>simp at k) (.d4 hk) rfl (by omega) ?_ (.inl ⟨by omega,by simp[cnt]⟩);have:=ConcN.Mode.last (j:=j) (D:=upd D κ ⟨2,B,1⟩) (tag:=tag) κ a1 F (by rw[qf];simp) (λa N e=>by rw[qI D _ e];exact T a N e);rw[qf] at this;simpa using this
   .obtain⟨u,w',es,c,⟨rfl,rfl⟩,lU⟩:=d w (tZ w);exact K c (.d3 lU) rfl
  |d4 h=>
   rcases rI h with bR|⟨I,rfl,d⟩
   .obtain⟨_,b1,hx⟩:=bR w (tZ w);obtain⟨a1,T,rfl,rfl⟩:=aX.isLast F (by omega);simp only[A] at H;obtain⟨u,c,M,X⟩:=hx (by simpa using H);have a8:u.status=.running:=by
     cases M with
     |zero=>exact absurd X.2 (by decide)
     |succ M=>exact X.elim (λx=>absurd x.2 (by decide)) (λx=>x.1)
    refine ax c (sJ w (smA Wg) _) (H.setSm 1) (es:=semEvents (smA Wg)) ?_ ?_ (.quit X) (by simp[deafBehind,semEvents]) (by omega) ?_ (.inl ⟨by omega,by simp[cnt]⟩)
    .exact bk_sem
    .intro jx e k
     match jx,k with
     |0,k=>simp[semEvents] at k;subst k;exact .inl rfl
     |1,_=>exact .inr (by simp[deafBehind,semEvents])
     |2,_=>exact .inr (by simp[deafBehind,semEvents])
     |3,k=>simp[semEvents] at k;subst k;exact .inl rfl
     |jx+4,k=>simp[semEvents] at k
    .intro dT ht hw;have b3:=hw b1 a8;have e3:dT=.w3:=by
      rcases ht with rfl|⟨_,rfl⟩
      .cases dT<;>first|rfl|exact a1.elim|exact absurd rfl b3
      .rfl
     subst e3;simp only[ph];exact .sema λa N=>by
      by_cases e:a=κ
      .subst e;rw[qf]
      .rw[qI D _ e];exact T a N e
   .obtain⟨u,w',es,c,⟨rfl,rfl⟩,lU⟩:=d w (tZ w);exact K c (.d4 lU) rfl
  |quit h=>
   cases m with
   |zero=>rw[h.1] at U;cases U
   |succ M=>
    rcases h with⟨hf,_⟩|⟨_,u,es,ay,d,X⟩
    .rw[hf] at U;cases U
    .have iZ:∀e∈es,Bk Wg e:=λe k=>bk_of_mute (ay e k);have b2:∀jx e,es[jx]?=some e->(MemAct.ofEvent e).touch?=none\/0<deafBehind dd (es.extract 0 jx):=λjx e k=>.inl (touch_mute (ay e (qx k)));exact z (d w) (.refl Wg w) H iZ b2 (.quit X) rfl (by omega) (by have:=aX.same (i:=κ) M (deafBehind dd es);rwa [A] at this) (.inr ⟨rfl,rfl⟩)
end
variable [Payload]
omit [Payload] in
def aab(h:aa3 Wg e):e.loc ≠ .mark .disable/\e.loc ≠ .mark .enable/\e.loc ≠ .mark (.release (stA Wg)):=by
 obtain⟨a,_,rfl|rfl⟩:=h<;>simp[mk]
omit [Payload] in
def nH(h:aa3 Wg e){x:Touch}(b:(MemAct.ofEvent e).touch?=some x):ShN Wg x.loc/\x.kind ≠ .plain:=by
 obtain⟨a,c,rfl|rfl⟩:=h<;>(simp[mk,MemAct.ofEvent,MemAct.touch?] at b;subst b;exact⟨⟨a,rfl,c⟩,by simp⟩)
omit [Payload] in
def ai3(h:aa3 Wg e)(b:Wg<B):(MemAct.ofEvent e).low B:=by
 obtain⟨a,c,rfl|rfl⟩:=h<;>(show a.block<B;omega)
section
variable {P:Program} {ty:TypeId} {Wg C n K0:Nat} {val:Nat->Value} {aT:aq} {aP Fin:aq->aq->Goroutine->World->Prop}
 {gs:Array Goroutine} {w w':World} {sl:Option (Nat×Nat)} {j:Nat} {D:Nat->WD} {TV:Nat->jo} {R S S':aq} {O Rk:Nat->aq} {q:Nat->Nat} {tag dT:CTag} {f0 f' d0:Nat} {a a':Goroutine} {t:Trace} {st sm st' sm':Int} {es:Array Event} {T':jo}
def jS (y:gs[0]?=some a) (f:MI P ty Wg C n K0 val aT j gs w t D TV R S O Rk q d0) (m:stepG P true a w=.go a' w' es) (c:Aside Wg w w') (i:WgAt ty Wg w' st' sm') (o:∀e∈es,Bk Wg e)
  (u:fe P ty Wg C n val aP Fin dT j R S (TV 0) f' (deafBehind d0 es) a' w') (p:ConcN.Mode j D dT st' sm')
  (k:phi n (Vc j D) dT<phi n (Vc j D) tag\/(phi n (Vc j D) dT=phi n (Vc j D) tag/\f'<f0)) :
  ∃d g s,runT P (crowd gs w sl) 0=(.next d,g)/\aa2 (n+1) s (phi n (Vc j D) tag+Ssum j D,(TV,f0+2*Fsum j D+2*sumTo (K0+1) q))/\aan P ty Wg C n K0 val aT aP Fin s d (t++g):=by
 obtain⟨z,r,l⟩:=f.pay;exact jD y f m (mt c.size.symm) (λv _=>f.wgO c ⟨_,_,i⟩ v) (λb x=>.inl x) (arA o) (norel_of_Bk o) (ahF (by rw[c.size];exact f.cu.wlt) o) ⟨z,(c.block C f.cu.cw).trans r,l⟩ u i p
  (k.imp id λx=>⟨x.1,.inr ⟨rfl,x.2⟩⟩)
def aya (y:gs[0]?=some a) (f:MI P ty Wg C n K0 val aT j gs w t D TV R S O Rk q d0) (m:stepG P true a w=.go a' w' es) (c:Aside Wg w w') (i:WgAt ty Wg w' st' sm') (o:∀e∈es,Bk Wg e)
  (u:fe P ty Wg C n val aP Fin dT j R S T' f' (deafBehind d0 es) a' w') (p:ConcN.Mode j D dT st' sm') (k:phi n (Vc j D) dT<phi n (Vc j D) tag) :
  ∃d g s,runT P (crowd gs w sl) 0=(.next d,g)/\aa2 (n+1) s (phi n (Vc j D) tag+Ssum j D,(TV,f0+2*Fsum j D+2*sumTo (K0+1) q))/\aan P ty Wg C n K0 val aT aP Fin s d (t++g):=by
 obtain⟨z,r,l⟩:=f.pay;exact jD y f m (mt c.size.symm) (λv _=>f.wgO c ⟨_,_,i⟩ v) (λb x=>.inl x) (arA o) (norel_of_Bk o) (ahF (by rw[c.size];exact f.cu.wlt) o) ⟨z,(c.block C f.cu.cw).trans r,l⟩ u i p (.inl k)
def nI (y:gs[0]?=some a) (k:MI P ty Wg C n K0 val aT j gs w t D TV R S O Rk q d0) (s:WgAt ty Wg w st sm) (z:ConcN.Mode j D tag st sm) (l:stepG P true a w=.go a' w' es) (v:DSd Wg w w' es)
  (u:fe P ty Wg C n val aP Fin tag j R S (TV 0) f' d0 a' w') (r:f'<f0) :
  ∃f i o,runT P (crowd gs w sl) 0=(.next f,i)/\aa2 (n+1) o (phi n (Vc j D) tag+Ssum j D,(TV,f0+2*Fsum j D+2*sumTo (K0+1) q))/\aan P ty Wg C n K0 val aT aP Fin o f (t++i):=by
 obtain⟨rfl,c⟩:=v;have m:deafBehind d0 es=d0:=tA (λe d=>⟨(aab (c e d)).1,(aab (c e d)).2.1⟩) d0;refine jD y k l (am _) (λ_ _=>.refl _ _ _ _) (λb x=>.inl x) (λop g=> ?_) (λe d=>(aab (c e d)).2.2) (λop g=> ?_) k.pay (by rw[m];exact u) s z (.inr ⟨rfl,.inr ⟨rfl,r⟩⟩)
 .obtain⟨e,d,rfl⟩:=lE g;exact⟨rfl,λx p=>.inl ⟨ali (nH (c e d) p).1,(nH (c e d) p).2⟩⟩
 .obtain⟨e,d,rfl⟩:=lE g;exact ai3 (c e d) k.cu.wlt
def alk (T:gs[0]?=some a) (c:MI P ty Wg C n K0 val aT j gs w t D TV R S O Rk q d0) (N:WgAt ty Wg w st sm) (U:ConcN.Mode j D tag st sm) (G:stepG P true a w=.go a' w' es) (f:Gua Wg C (2*n) R noC S S' w w' es)
  (J:fe P ty Wg C n val aP Fin tag j R S' T' f' d0 a' w') (L:jo.Lt T' (TV 0)) :
  ∃o s I,runT P (crowd gs w sl) 0=(.next o,s)/\aa2 (n+1) I (phi n (Vc j D) tag+Ssum j D,(TV,f0+2*Fsum j D+2*sumTo (K0+1) q))/\aan P ty Wg C n K0 val aT aP Fin I o (t++s):=by
 have B:deafBehind d0 es=d0:=tA (λe p=>⟨(f.ev e p).dis,(f.ev e p).en⟩) d0;have l:Wg<w.heap.size/\¬S Wg/\Wg≠C:=⟨c.cu.wlt,c.cu.ws,λe=>c.cu.cw e.symm⟩;have g:=c.cu.awL f.size f.new;refine jD T c G f.size (λd _=>.alf f (λb z=>z.elim (λx=>⟨c.cu.olt d b x,λy=>c.cu.os d b x y,λe=>c.cu.co d (e▸x)⟩) λx=>⟨c.cu.rlt b (c.cu.rk d b x),λy=>c.cu.rs b (c.cu.rk d b x) y,λe=>c.cu.cr (e▸c.cu.rk d b x)⟩) (λi _ y=>y.elim) l)
  f.new (λop A=> ?_) (λe p=>(f.ev e p).rel) (anD f.ev) (f.pay c.pay) (by rw[B];exact J) (N.of_block (f.keep Wg l.1 l.2.1 l.2.2)) U (.inr ⟨rfl,.inl L⟩)
 obtain⟨e,p,rfl⟩:=lE A;refine⟨rfl,λx Q=>.inr ?_⟩;have u:∀{Z:aq},(¬Z Wg)->(∀b,aT b->¬Z b)->In Z x.loc->¬Shr Wg aT x.loc:=λF E v ⟨M,e,h⟩=>by
  have:=In.block v e;rcases h with h|h
  .rw[h] at this;exact F this
  .exact E _ h this
 have r:∀{Z:aq},(∀d b,O d b->¬Z b)->(¬Z C)->In Z x.loc->∀k,¬aa4 C K0 O k x.loc:=λF E v k ⟨d,_,h⟩=>by
  rcases h with h|⟨M,e,h,_⟩
  .exact In.no (F d) h v
  .have:=In.block v e;rw[h] at this;exact E this
 rcases(f.ev e p).touch x Q with m|⟨_,_,_,m⟩|⟨m,K⟩
 .refine⟨u g.ws g.shs m,λk _ _=>r g.os g.cs m k,λ_ k _ _ ⟨d,_,hr⟩=> ?_⟩;exact In.no (λb z=>g.rs b (c.cu.rk d b z)) hr m
 .exact m.elim
 .refine⟨u c.cu.wr c.cu.shr m,λk _ _=>r c.cu.orr c.cu.cr m k,λH=> ?_⟩;rw[K] at H;cases H
def ao7 (hn:n<2147483648) (b7:∀R S g w,aP R S g w->∃m,GP P ty Wg C n R S (MW1 P ty Wg C n R S aP Fin) m g w)
  (v:gs[0]?=some a) (lD:fe P ty Wg C n val aP Fin tag j R S (TV 0) f0 d0 a w) (k:MI P ty Wg C n K0 val aT j gs w t D TV R S O Rk q d0) (o:WgAt ty Wg w st sm) (z:ConcN.Mode j D tag st sm) (af:a.status=.running) :
  (∃B M,runT P (crowd gs w sl) 0=(.next B,M)/\anC P ty Wg C n K0 val aT Fin B (t++M))\/
  (∃B M mr,runT P (crowd gs w sl) 0=(.next B,M)/\aa2 (n+1) mr (phi n (Vc j D) tag+Ssum j D,(TV,f0+2*Fsum j D+2*sumTo (K0+1) q))/\aan P ty Wg C n K0 val aT aP Fin mr B (t++M)):=by
 have b4:=Vc_le j D;have F:RM ty Wg C n R S w w:=.refl _ _ _ _;have an:∀{m':Nat} {tag:CTag},j=n->d0=1->isOpen tag->pend tag=0->phi n (Vc n D) .w1<=phi n (Vc n D) tag->f0=f0->(tag=.w1->m'<=f0)->ConcN.Mode j D tag st sm->GP P ty Wg C n R S (MW1 P ty Wg C n R S aP Fin) m' a w->
   (∃B M mr,runT P (crowd gs w sl) 0=(.next B,M)/\aa2 (n+1) mr (phi n (Vc j D) tag+Ssum j D,(TV,f0+2*Fsum j D+2*sumTo (K0+1) q))/\aan P ty Wg C n K0 val aT aP Fin mr B (t++M)):=by
  intro m' tag hj hd J hp T _ hm z h;subst hj hd;have a5:ConcN.Mode j D .w1 st sm:=z.reopen J trivial (by rw[hp];rfl) (by simp);rcases rI h with E|⟨m',rfl,c⟩
  .obtain⟨_,N⟩:=E w F;obtain⟨W,rfl,rfl,_⟩:=a5.open_inv trivial;obtain⟨a',d,h0,ay⟩:=N (Vc j D) (by omega) (by simpa[pend] using o);by_cases hv:Vc j D=0
   .obtain⟨s,A⟩:=h0 hv;refine jS v k d (.refl Wg w) o bk_rd (dT:=.ke) (.ke A) ?_ (.inl (by simp only[phi] at T ⊢;omega));have e:((Vc j D+pend .w1:Nat):Int)*KK=0:=by rw[hv];simp[pend]
    rw[e];exact .fin trivial (allQuit_of W hv)
   .obtain⟨s,A⟩:=ay hv;exact jS v k d (.refl Wg w) o bk_rd (dT:=.w2 (Vc j D)) (.w2 A) (a5.reopen trivial trivial rfl (λvs e=>by cases e;omega)) (.inl (by simp only[phi] at T ⊢;omega))
  .obtain⟨a',w',es,d,K,I⟩:=c w F;rcases Nat.lt_or_eq_of_le T with T|T
   .obtain⟨rfl,U⟩:=K;have b1:deafBehind 1 es=1:=tA (λe he=>⟨(aab (U e he)).1,(aab (U e he)).2.1⟩) 1;refine jD v k d (am _) (λ_ _=>.refl _ _ _ _) (λb x=>.inl x) (λop J=> ?_) (λe he=>(aab (U e he)).2.2) (λop J=> ?_) k.pay (T':=TV 0) (dT:=.w1) (by rw[b1];exact .w1 I) o a5 (.inl T)
    .obtain⟨e,he,rfl⟩:=lE J;exact⟨rfl,λx Y=>.inl ⟨ali (nH (U e he) Y).1,(nH (U e he) Y).2⟩⟩
    .obtain⟨e,he,rfl⟩:=lE J;exact ai3 (U e he) k.cu.wlt
   .have b0:tag=.w1:=by
     cases tag<;>first|rfl|exact J.elim|(simp only[phi] at T;omega)
    subst b0;exact nI v k o z d K (.w1 I) (by have:=hm rfl;omega)
 cases lD with
 |skd Z h=>
  rcases h.cases with E|⟨f,hT,_,c⟩
  .obtain⟨_,a',d,s,A⟩:=E w F;exact .inr (jS v k d (.refl Wg w) o bk_dis (.sa1 Z A) (z.reopen trivial trivial rfl (by simp)) (.inl (by simp only[phi];omega)))
  .obtain⟨a',w',es,S',d,hG,V⟩:=c w F;exact .inr (alk v k o z d hG (.skd Z V) (by rw[hT];exact⟨f,w,rfl,rfl⟩))
 |sa1 Z h=>
  rename_i r;rcases rI h with E|⟨m',rfl,c⟩
  .obtain⟨_,N⟩:=E w F;obtain⟨W,rfl,rfl,_⟩:=z.open_inv trivial;obtain⟨a',d,s,A⟩:=N (Vc (n-(r+1)) D) (by omega) (by simpa[pend] using o);refine .inr (jS v k d (sJ w (stA Wg) _) (o.setSt _) bk_rw (.ske Z A) ?_ (.inl (by simp only[phi];omega)));have e:(((Vc (n-(r+1)) D:Nat):Int)+1)*KK=((Vc (n-(r+1)) D+pend (.sp r 3):Nat):Int)*KK:=by simp[pend]
   rw[e];exact .opn trivial W (by simp)
  .obtain⟨a',w',es,d,K,I⟩:=c w F;exact .inr (nI v k o z d K (.sa1 Z I) (by omega))
 |ske Z h=>
  rcases rI h with E|⟨m',rfl,c⟩
  .obtain⟨_,a',d,b9,A⟩:=E w F;exact .inr (aya v k d (.refl Wg w) o bk_en (.sgo Z A) (z.reopen trivial trivial rfl (by simp)) (by simp only[phi];omega))
  .obtain⟨a',w',es,d,K,I⟩:=c w F;exact .inr (nI v k o z d K (.ske Z I) (by omega))
 |sgo Z h=>
  rename_i r;rcases h.cases with E|⟨f,hT,_,c⟩
  .obtain⟨_,a',H,X,aX,hX,b8,dz⟩:=E w F;obtain⟨W,rfl,rfl,_⟩:=z.open_inv trivial;obtain⟨Tc,ad⟩:=b8 k.pay ⟨_,_,o⟩;obtain⟨l,b3⟩:∃l,n-(r+1)=l:=⟨_,rfl⟩;rw[b3] at k o z W ad b4 ⊢;have G:=runT_crowd_spawn (P:=P) (sl:=sl) (i:=0) v (by simpa using aX);rw[k.size] at G;have a6:=k.cu.hand l hX;have b6:=k.ti.fork (X:=X) (m':=0) a6.apart (x:={g:=0,fn:=a.frame.fn,pos:=a.frame.place,act:=.go (K0+1+l)}) (y:={g:=K0+1+l,fn:=H.frame.fn,pos:=a.frame.place,act:=.start})
    ⟨rfl,by rw[show K0+1+l=K0+l+1 by omega]⟩ ⟨by show K0+1+l=_;omega,rfl⟩
   have eV:Vc (l+1) (upd D l ⟨7,0,0⟩)=Vc l D+1:=by
    simp only[Vc,sumTo,qf];rw[sumTo_upd_out D _ cnt (am _)];rfl
   have eS:Ssum (l+1) (upd D l ⟨7,0,0⟩)=Ssum l D+7:=by
    simp only[Ssum,sumTo,qf];rw[sumTo_upd_out D _ WD.stage (am _)]
   have oH:OpenSt (l+1) (upd D l ⟨7,0,0⟩):=λi hi=>by
    by_cases e:i=l
    .subst e;rw[qf];simp
    .rw[qI D _ e];exact W i (by omega)
   have ax:((gs.setIfInBounds 0 a').push H)[0]?=some a':=by
    have al:0<gs.size:=by rw[k.size];omega
    rw[ut (by simpa using al),<-fm];simp[al]
   have ej:l+1=n-r:=by omega
   have a8:∀dT,pend dT=0->((Vc l D+pend (.sp r 2):Nat):Int)*KK=((Vc (l+1) (upd D l ⟨7,0,0⟩)+pend dT:Nat):Int)*KK:=λdT hp=>by rw[eV,hp];simp[pend]
   have mi:∀T0,MI P ty Wg C n K0 val aT (l+1) ((gs.setIfInBounds 0 a').push H) w (t++#[{g:=0,fn:=a.frame.fn,pos:=a.frame.place,act:=.go (K0+1+l)},{g:=K0+1+l,fn:=H.frame.fn,pos:=a.frame.place,act:=.start}]) (upd D l ⟨7,0,0⟩) (upd (upd TV (l+1) Tc) 0 T0) (λb=>S b\/R b) (λ_=>False) O (upd Rk l X) q 0:=λT0=>by
    refine⟨by simp[k.size];omega,λi x a4 hi Y=> ?_,λu gG=> ?_,b6,a6,λu gG hs=> ?_,k.pay,λu gG=>k.unO u (by omega)⟩
    .rw[ut (by simp[k.size];omega),<-fm,io (by omega)] at Y;rw[Deaf_still t i _ (λop J=>by simp at J;rcases J with rfl|rfl<;>simp)];exact k.old i x a4 hi Y
    .rw[qI _ _ (show u+1≠0 by omega)];rcases pa u l with a0|nu
     .obtain⟨g,hg,b5⟩:=k.wk u a0;refine⟨g, ?_,by rw[qI D _ (by omega),qI Rk _ (by omega),qI TV _ (by omega)];exact b5⟩;rw[ut (by simp[k.size];omega),<-fm,io (by omega)];exact hg
     .obtain rfl:u=l:=by omega
      refine⟨H, ?_,by rw[qf,qf,qf,k.unO u (am _)];exact .work ad⟩;rw[show K0+1+u=(gs.setIfInBounds 0 a').size by simp[k.size],qM]
    .rcases pa u l with a0|nu
     .rw[qI D _ (by omega)] at hs;exact k.has u a0 hs
     .obtain rfl:u=l:=by omega
      rw[qf] at hs;simp at hs
   cases r with
   |zero=>
    obtain⟨Q,A⟩:=dz;have a3:l+1=n:=by omega
    have a2:fe P ty Wg C n val aP Fin .kd (l+1) (λb=>S b\/R b) (λ_=>False) (upd (upd TV (l+1) Tc) 0 Q 0) 0 0 a' w:=by
     rw[qf,a3];exact .kd A
    refine .inr ⟨_,_,(phi n (Vc (l+1) (upd D l ⟨7,0,0⟩)) .kd+Ssum (l+1) (upd D l ⟨7,0,0⟩),(upd (upd TV (l+1) Tc) 0 Q,0+2*Fsum (l+1) (upd D l ⟨7,0,0⟩)+2*sumTo (K0+1) q)),G,Prod.Lex.left _ _ (by simp only[phi];omega),
     _,w,sl,l+1,_,_,_,_,O,_,q,.kd,0,0,a',_,_,rfl,ax,a2,mi Q,o, ?_,rfl⟩
    rw[a8 .kd rfl];exact .opn trivial oH (by simp)
   |succ r'=>
    obtain⟨Q,A⟩:=dz;have a3:l+1=n-(r'+1):=by omega
    have a2:fe P ty Wg C n val aP Fin (.sp r' 5) (l+1) (λb=>S b\/R b) (λ_=>False) (upd (upd TV (l+1) Tc) 0 Q 0) 0 0 a' w:=by
     rw[qf,a3];exact .skd (by omega) A
    refine .inr ⟨_,_,(phi n (Vc (l+1) (upd D l ⟨7,0,0⟩)) (.sp r' 5)+Ssum (l+1) (upd D l ⟨7,0,0⟩),(upd (upd TV (l+1) Tc) 0 Q,0+2*Fsum (l+1) (upd D l ⟨7,0,0⟩)+2*sumTo (K0+1) q)),G,Prod.Lex.left _ _ (by simp only[phi];omega),
     _,w,sl,l+1,_,_,_,_,O,_,q,.sp r' 5,0,0,a',_,_,rfl,ax,a2,mi Q,o, ?_,rfl⟩
    rw[a8 (.sp r' 5) rfl];exact .opn trivial oH (by simp)
  .obtain⟨a',w',es,S',d,hG,V⟩:=c w F;exact .inr (alk v k o z d hG (.sgo Z V) (by rw[hT];exact⟨f,w,rfl,rfl⟩))
 |kd h=>
  rcases h.cases with E|⟨f,hT,_,c⟩
  .obtain⟨_,a',d,s,A⟩:=E w F;exact .inr (jS v k d (.refl Wg w) o bk_dis (.anch A) (z.reopen trivial trivial rfl (by simp)) (.inl (by simp only[phi];omega)))
  .obtain⟨a',w',es,S',d,hG,V⟩:=c w F;exact .inr (alk v k o z d hG (.kd V) (by rw[hT];exact⟨f,w,rfl,rfl⟩))
 |anch h=>
  rcases rI h with E|⟨m',rfl,c⟩
  .obtain⟨s,A⟩:=b7 R S a w (E w F);exact .inr (an rfl rfl trivial rfl (by simp only[phi];omega) rfl (by simp) z A)
  .obtain⟨a',w',es,d,K,I⟩:=c w F;exact .inr (nI v k o z d K (.anch I) (by omega))
 |w1 h=>exact .inr (an rfl rfl trivial rfl (am _) rfl (λ_=>am _) z h)
 |w2 h=>
  rename_i vs;rcases rI h with E|⟨m',rfl,c⟩
  .obtain⟨_,N⟩:=E w F;obtain⟨W,rfl,rfl,aK⟩:=z.open_inv trivial;obtain⟨bb,h1⟩:=aK vs rfl;obtain⟨aL,aJ⟩:=N (Vc n D) (by omega) (by simpa[pend] using o);by_cases e:Vc n D=vs
   .obtain⟨a',d,s,A⟩:=aL e;exact .inr (jS v k d (sJ w (stA Wg) _) (o.setSt _) bk_rw (.w3 A) (.reg trivial W (by omega)) (.inl (by simp only[phi];omega)))
   .obtain⟨a',d,s,A⟩:=aJ e;exact .inr (jS v k d (.refl Wg w) o bk_rd (.anch A) (z.reopen trivial trivial rfl (by simp)) (.inl (by simp only[phi];omega)))
  .obtain⟨a',w',es,d,K,I⟩:=c w F;exact .inr (nI v k o z d K (.w2 I) (by omega))
 |w3 h=>
  rcases rI h with E|⟨m',rfl,c⟩
  .obtain⟨_,ba,a1,lT⟩:=E w F;cases z with
   |opn h1 _ _=>exact h1.elim
   |reg h1 h2 h3=>exact .inr (jS v k (a1 ⟨_,o⟩) (.refl Wg w) o (by simp) (.blk E) (.reg trivial h2 h3) (.inr ⟨rfl,by omega⟩))
   |last L h1 h2 h3 h4=>exact .inr (jS v k (a1 ⟨_,o⟩) (.refl Wg w) o (by simp) (.blk E) (.last L trivial h2 h3 h4) (.inr ⟨rfl,by omega⟩))
   |sema h2=>
    obtain⟨a',d,s,A⟩:=lT o;exact .inr (jS v k d (sJ w (smA Wg) _) (o.setSm 0) bk_sem (.w4 A) (.fin trivial h2) (.inl (by simp only[phi];omega)))
   |fin h1 _=>exact h1.elim
  .obtain⟨a',w',es,d,K,I⟩:=c w F;exact .inr (nI v k o z d K (.w3 I) (by omega))
 |blk h=>simp at af
 |w4 h=>
  rcases rI h with E|⟨m',rfl,c⟩
  .obtain⟨_,Y⟩:=E w F;obtain⟨hq,rfl,rfl⟩:=z.fin_inv trivial;obtain⟨a',d,s,A⟩:=Y o;exact .inr (jS v k d (.refl Wg w) o bk_rd (.ke A) (.fin trivial hq) (.inl (by simp only[phi];omega)))
  .obtain⟨a',w',es,d,K,I⟩:=c w F;exact .inr (nI v k o z d K (.w4 I) (by omega))
 |ke h=>
  rcases rI h with E|⟨m',rfl,c⟩
  .obtain⟨_,a',d,s,A⟩:=E w F;obtain⟨hq,rfl,rfl⟩:=z.fin_inv trivial;exact .inr (jS v k d (.refl Wg w) o bk_en (.acq A) (.fin trivial hq) (.inl (by simp only[phi];omega)))
  .obtain⟨a',w',es,d,K,I⟩:=c w F;exact .inr (nI v k o z d K (.ke I) (by omega))
 |acq h=>
  rcases rI h with E|⟨m',rfl,c⟩
  .obtain⟨_,a',d,b2⟩:=E w F;obtain⟨hq,rfl,rfl⟩:=z.fin_inv trivial;have G:=sZ (P:=P) (sl:=sl) (i:=0) v (by simpa using d);have h6:∀u,u<n->(D u).stage<=6:=λu gG=>by rw[hq u gG];omega
   have ao:=k.ti.join h6 k.cu.apart a.frame.fn a.frame.place k.cu.wlt;refine .inl ⟨_,_,G,_,w,sl,a',λi=>if i<=K0 then q i else(D (i-(K0+1))).fuel,R,S,rfl,uC _ _ _ (by rw[k.size];omega),by simp[k.size],b2,⟨λi x a4 Y=> ?_,λi hi=> ?_⟩,ao,k.pay,λu gG=>k.has u gG (h6 u gG),⟨_,_,o⟩,λb hb=> ?_⟩
   .rw[sR _ _ _ _ (by omega)] at Y;obtain⟨y,hy,rfl⟩:=gE.1 Y;rw[rc t (g':=0) (by omega) _ g_of_ofEvents];by_cases hi:i<=K0
    .have aa:=k.old i y a4 hi hy;rw[sS aa];simp only[dl hi];exact aa
    .have a0:i<K0+1+n:=by have:=(dk.1 hy).1;rw[k.size] at this;omega
     obtain⟨u,rfl⟩:∃u,i=K0+1+u:=⟨i-(K0+1),by omega⟩;obtain⟨g',I,a9⟩:=k.wk u (by omega);rw[hy] at I;cases I;have hd:=k.ti.deafW u (by omega);have h1:=hq u (by omega);rw[h1] at a9;have a7:QuitsD P (D u).fuel (D u).deaf y:=by
      cases a9 with
      |rest _ h=>exact h.quits rfl
     rw[sS a7,hd];simp only[be hi];rw[show K0+1+u-(K0+1)=u by omega];exact a7
   .refine Deaf_absent λp op W e=> ?_;have h1:=ao.gs op (qx W);simp[k.size] at hi;omega
   .rcases hb with hb|rfl
    .exact⟨k.cu.shr b hb,k.cu.shs b hb,λe=>k.cu.shc (e▸hb),k.cu.aiZ b hb⟩
    .exact⟨k.cu.wr,k.cu.ws,λe=>k.cu.cw e.symm,k.cu.wlt⟩
  .obtain⟨a',w',es,d,K,I⟩:=c w F;exact .inr (nI v k o z d K (.acq I) (by omega))
end
end
section
open Go.Conc Go.ConcN
open Go.ConcR (KK wgBlock WgAt stA smA rd wr mk Payload DC0 Bk g_of_ofEvents ofEvent_mk ofEvent_loc_mark loc_of_ofEvent bk_of_mute again_blocked)
variable [Payload]
section
variable {P:Program} {ty:TypeId} {Wg C n K0:Nat} {val:Nat->Value} {aT:aq} {aP Fin:aq->aq->Goroutine->World->Prop}
 {gs:Array Goroutine} {w:World} {sl:Option (Nat×Nat)} {j:Nat} {D:Nat->WD} {TV:Nat->jo} {R S:aq} {O Rk:Nat->aq} {q:Nat->Nat} {tag:CTag} {f0 d0:Nat} {a:Goroutine} {t:Trace} {st sm:Int}
def afN(d:∀R S g w,aP R S g w->g.status=.running)(o:gs[0]?=some a)(r:fe P ty Wg C n val aP Fin tag j R S (TV 0) f0 d0 a w)(f:MI P ty Wg C n K0 val aT j gs w t D TV R S O Rk q d0)(p:ConcN.Mode j D tag st sm) :
  ∃(i:Nat) (g:Goroutine),gs[i]?=some g/\g.status=.running:=by
 rcases r.status d with⟨b,_⟩|⟨_,rfl⟩
 .exact⟨0,a,o,b⟩
 .cases p with
  |opn e _ _=>exact e.elim
  |reg _ _ k=>
   obtain⟨i,m,s⟩:=exists_counted k;obtain⟨g,c,b⟩:=f.wk i m;exact⟨K0+1+i,g,c,b.running_of (by omega)⟩
  |last L _ l k _=>
   obtain⟨g,c,b⟩:=f.wk L l;exact⟨K0+1+L,g,c,b.running_of (by omega)⟩
  |fin e _=>exact e.elim
def alp(f:∀R S g w,aP R S g w->g.status=.running)(r:gs[0]?=some a)(s:fe P ty Wg C n val aP Fin tag j R S (TV 0) f0 d0 a w)(d:MI P ty Wg C n K0 val aT j gs w t D TV R S O Rk q d0):∀g∈gs,awake g:=by
 intro g p;obtain⟨i,c⟩:=vR.1 p;rcases oS i with rfl|o
 .rw[r] at c;cases c;rcases s.status f with⟨b,_⟩|⟨b,_⟩
  .exact uE (.inl b)
  .exact uE (.inr (.inl b))
 .by_cases k:i<=K0
  .exact uE ((d.old i g o k c).status.elim .inl λx=>.inr (.inr x))
  .have m:i<K0+1+j:=by have:=(dk.1 c).1;rw[d.size] at this;exact this
   obtain⟨e,rfl⟩:∃e,i=K0+1+e:=⟨i-(K0+1),by omega⟩;obtain⟨u,l,b⟩:=d.wk e (by omega);rw[c] at l;cases l;exact uE (b.status.elim .inl λx=>.inr (.inr x))
def ai4 (G:n<2147483648) (f:∀R S g w,aP R S g w->g.status=.running) (z:∀R S g w,aP R S g w->∃m,GP P ty Wg C n R S (MW1 P ty Wg C n R S aP Fin) m g w) (B:Mu) (m:Machine) (t:Trace)
  (h:aan P ty Wg C n K0 val aT aP Fin B m t) :
  (∃b e,stepT P m=(.next b,e)/\anC P ty Wg C n K0 val aT Fin b (t++e))\/(∃b e F,stepT P m=(.next b,e)/\aa2 (n+1) F B/\aan P ty Wg C n K0 val aT aP Fin F b (t++e)):=by
 obtain⟨gs,w,sl,j,D,TV,R,S,O,Rk,q,tag,f0,d0,a,st,sm,rfl,r,y,u,J,v,rfl⟩:=h;obtain⟨i,g,d,p,s,c,k⟩:=crowd_pick (P:=P) (w:=w) (sl:=sl) (alp f r y u) (afN f r y u v);rw[k];have x:=y.rely (.at _ _ _ w d);have l:=u.at d;have o:WgAt ty Wg (w.at d) st sm:=J;rcases oS i with rfl|I
 .rw[r] at s;cases s;exact ao7 (sl:=p) G z r x l o v c
 .by_cases A:i<=K0
  .exact .inr (arz (sl:=p) f r x l o v I A s c)
  .have H:i<K0+1+j:=by have:=(dk.1 s).1;rw[u.size] at this;exact this
   obtain⟨E,rfl⟩:∃E,i=K0+1+E:=⟨i-(K0+1),by omega⟩;exact .inr (ai2 (sl:=p) G f r x l o v (by omega) s c)
def aeR(q:n<2147483648)(l:∀R S g w,aP R S g w->g.status=.running)(i:∀R S g w,aP R S g w->∃m,GP P ty Wg C n R S (MW1 P ty Wg C n R S aP Fin) m g w) :
  ∀(c:Mu) (m:Machine) (t:Trace),aan P ty Wg C n K0 val aT aP Fin c m t->∃N e d,runNT P N m t=(.next e,d)/\anC P ty Wg C n K0 val aT Fin e d:=by
 intro c
 induction c using(auG (n+1)).induction with
 |_ c r=>
  intro m t h;rcases ai4 q l i c m t h with⟨a,b,j,k⟩|⟨a,b,p,j,f,k⟩
  .exact⟨1,a,t++b,by rw[runNT_succ_next j];rfl,k⟩
  .obtain⟨N,e,d,s,o⟩:=r p f a (t++b) k;exact⟨N+1,e,d,by rw[runNT_succ_next j];exact s,o⟩
def ai5 (B:n<2147483648) (b:∀R S g w,aP R S g w->g.status=.running) (c:∀R S g w,aP R S g w->∃m,GP P ty Wg C n R S (MW1 P ty Wg C n R S aP Fin) m g w)
  (u:gs[0]?=some a) (p:gs.size=K0+1) (L:Leavers P t gs q) (O:eK aT K0 w.heap.size t) (d:tH P ty Wg C n val aP n R a w) (v:WgAt ty Wg w 0 0) (l:PayAt C (2*n) w)
  (J:∀(i:Nat) (x:Touch),touchAt t i=some x->∀a,x.loc=.cell a->a.block≠Wg) (f:NoRelease (stA Wg) t) (Q:Sets Wg C aT w R (λ_=>False) (λ_ _=>False) (λ_ _=>False)) :
  ∃N A s,runNT P N (crowd gs w sl) t=(.next A,s)/\anC P ty Wg C n K0 val aT Fin A s:=by
 have y:∀T0,MI P ty Wg C n K0 val aT 0 gs w t (λ_=>⟨0,0,0⟩) (upd (λ_=>jo.leaf) 0 T0) R (λ_=>False) (λ_ _=>False) (λ_ _=>False) q 0:=λT0=>
  ⟨p,λi g z _ I=>L.old i g z I,λH U=>by omega,.begin O J f,Q,λH U=>by omega,l,λ_ _=>rfl⟩
 have E:∀tag,isOpen tag->pend tag=0->(∀o,tag ≠ .w2 o)->ConcN.Mode 0 (λ_=>(⟨0,0,0⟩:WD)) tag 0 0:=λtag K G M=>by
  have:=ConcN.Mode.opn (j:=0) (D:=λ_=>(⟨0,0,0⟩:WD)) K (λi z=>by omega) (λo e=>absurd e (M o));simpa[Vc,sumTo,G] using this
 cases n with
 |zero=>
  obtain⟨T,k⟩:=d;exact aeR B b c _ _ _ ⟨gs,w,sl,0,_,_,R,_,_,_,q,.kd,0,0,a,0,0,rfl,u,.kd (by rw[qf];exact k),y T,v,E .kd trivial rfl (by simp),rfl⟩
 |succ r=>
  obtain⟨T,k⟩:=d;have F:=fe.skd (Fin:=Fin) (Nat.lt_succ_self r) k;rw[tv] at F;exact aeR B b c _ _ _ ⟨gs,w,sl,0,_,_,R,_,_,_,q,.sp r 5,0,0,a,0,0,rfl,u,by rw[qf];exact F,y T,v,E (.sp r 5) trivial rfl (by simp),rfl⟩
end
end
section
open Go.Conc Go.ConcN
section
variable {P:Program} {main:Bool} {Rl Rl':aq->World->World->Prop} {Gr Gr':aq->aq->World->World->Array Event->Prop} {Stop aeO:aq->Goroutine->World->Prop}
def GoT.weak(i:∀S w a,Rl' S w a->Rl S w a)(k:∀S e w c d,Gr S e w c d->Gr' S e w c d)(j:∀S g w,Stop S g w->aeO S g w):∀{T:jo} {S:aq} {g:Goroutine} {w:World},GoT P main Rl Gr Stop T S g w->GoT P main Rl' Gr' aeO T S g w
 |.leaf,_,_,_,h=>λa b=>j _ _ _ (h a (i _ _ _ b))
 |.node f,_,_,_,h=>Or.imp (λh a b=>j _ _ _ (h a (i _ _ _ b))) (λx=>⟨x.1,λa b=>let⟨o,c,d,e,n,l,m⟩:=x.2 a (i _ _ _ b);⟨o,c,d,e,n,k _ _ _ _ _ l,GoT.weak i k j m⟩⟩) h
def bE.weak(i:∀S w a,Rl' S w a->Rl S w a)(e:∀S d w b c,Gr S d w b c->Gr' S d w b c)(f:∀S g w,Stop S g w->aeO S g w){S:aq}{g:Goroutine}(h:bE P main Rl Gr Stop S g w):bE P main Rl' Gr' aeO S g w:=
 let⟨T,h⟩:=h;⟨T,GoT.weak i e f h⟩
end
def RlB(_:aq)(w w₁:World):Prop:=AtRel w w₁
def GrB(aT:aq)(_ _:aq)(w w':World)(es:Array Event):Prop:=
 w.heap.size<=w'.heap.size/\∀e∈es,(∀x,(MemAct.ofEvent e).touch?=some x->¬ShL aT x.loc)/\e.loc ≠ .mark .disable/\e.loc ≠ .mark .enable/\(MemAct.ofEvent e).low w'.heap.size
section
variable {aT:aq} {K B B':Nat} {t u:Trace}
def eK.own(h:eK aT K B t)(u:B<=B'){fn:FuncId}(d:∀e∈es,(∀x,(MemAct.ofEvent e).touch?=some x->¬ShL aT x.loc)/\e.loc ≠ .mark .disable/\e.loc ≠ .mark .enable/\(MemAct.ofEvent e).low B') :
  eK aT K B' (t++MemOp.ofEvents 0 fn pos es):=by
 have k:∀op∈MemOp.ofEvents 0 fn pos es,op.g=0:=λop c=>by obtain⟨e,_,rfl⟩:=lE c;rfl
 refine⟨λg=>noRace_append (h.clean g) k λi a s op c b p v=> ?_,λi op x j n q=> ?_,h.quiet.app λop c x n m=> ?_,handedOver_app h.over λop c=>.inl (k op c), ?_,seen_app (acK h.seen u) λop c=> ?_,λop c=> ?_⟩
 .obtain⟨e,f,rfl⟩:=lE c;obtain⟨op,j,o⟩:=touch_of s;exact h.known i op a j o λm=>(d e f).1 b p (v.1▸m)
 .rcases ru j with⟨_,r⟩|⟨_,l⟩
  .exact(h.known i op x r n q).app _
  .have:=knows_own j;rwa [k op l] at this
 .obtain⟨e,f,rfl⟩:=lE c;exact absurd m ((d e f).1 x n)
 .rw[Deaf_own,h.hears];exact deafBehind_still (λe f=>⟨(d e f).2.1,(d e f).2.2.1⟩) 0
 .obtain⟨e,f,rfl⟩:=lE c;exact(d e f).2.2.2
 .rcases vG.1 c with c|c
  .exact h.gs op c
  .rw[k op c];exact fa _
def eK.mute(h:eK aT K B t)(m:g≠0)(n:g<=K){fn:FuncId}(q:∀e∈es,e.mute=true):eK aT K B (t++MemOp.ofEvents g fn pos es):=by
 have l:∀op∈MemOp.ofEvents g fn pos es,op.g=g:=λop c=>by obtain⟨e,_,rfl⟩:=lE c;rfl
 have j:∀op∈MemOp.ofEvents g fn pos es,op.act.touch?=none:=λop c=>by obtain⟨e,o,rfl⟩:=lE c;exact touch_mute (q e o)
 refine⟨λf=>noRace_append (h.clean f) l λi a _ op c b p _=>(by rw[j op c] at p;cases p),λi op x r d s=> ?_,h.quiet.app λop c x d _=>(by rw[j op c] at d;cases d),handedOver_app h.over λop c=>.inr (j op c),(rc t m _ l).trans h.hears,seen_app h.seen λop c=> ?_,λop c=> ?_⟩
 .rcases ru r with⟨_,u⟩|⟨_,k⟩
  .exact(h.known i op x u d s).app _
  .rw[j op k] at d;cases d
 .obtain⟨e,o,rfl⟩:=lE c;exact low_mute (q e o) B
 .rcases vG.1 c with c|c
  .exact h.gs op c
  .rw[l op c];exact n
def eK.nil(B:Nat):eK (λ_=>False) 0 B #[]:=
 ⟨λd=>by rintro⟨i,j,_,⟨a,b,e,_⟩,_⟩;simp[Trace.act?] at e,λi op x c=>by simp at c,λi op x c=>by simp at c,λi g f=>by simp[Trace.g?] at f,rfl,by simp,by simp⟩
end
structure ayb (Gr:aq->aq->World->World->Array Event->Prop) (TQ:Nat->Nat->Trace->Prop):Prop where
 own:∀{K:Nat} {t:Trace} {S S':aq} {w w':World} {es:Array Event} (fn:FuncId) (pos:String),Gr S S' w w' es->TQ K w.heap.size t->TQ K w'.heap.size (t++MemOp.ofEvents 0 fn pos es)
 mute:∀{K B:Nat} {t:Trace} {g:Nat} {es:Array Event} (fn:FuncId) (pos:String),g≠0->g<=K->(∀e∈es,e.mute=true)->TQ K B t->TQ K B (t++MemOp.ofEvents g fn pos es)
def aa7{aT:aq}:ayb (GrB aT) (eK aT):=⟨λ_ _ b a=>a.own b.1 b.2,λ_ _ e c d a=>a.mute e c d⟩
section
variable {P:Program} {TQ:Nat->Nat->Trace->Prop} {Gr:aq->aq->World->World->Array Event->Prop} (HT:ayb Gr TQ) {Stop:aq->Goroutine->World->Prop}
include HT
theorem ai6(T:jo):∀(M:Nat) (l:Array Goroutine) (a:Goroutine) (w:World) (sl:Option (Nat×Nat)) (t:Trace) (q:Nat->Nat) (S:aq),sumTo l.size q<=M->l[0]?=some a->Leavers P t l q->TQ (l.size-1) w.heap.size t->
  GoT P true RlB Gr Stop T S a w->
  ∃(N:Nat) (o:Array Goroutine) (z:Goroutine) (O:World) (r:Option (Nat×Nat)) (X:Trace) (q':Nat->Nat) (S':aq),
   runNT P N (crowd l w sl) t=(.next (crowd o O r),X)/\o.size=l.size/\o[0]?=some z/\Stop S' z O/\Leavers P X o q'/\TQ (l.size-1) O.heap.size X:=by
 induction T using jo.wf.induction with
 |_ T a3=>
 intro M
 induction M with
 |zero=> 
  intro l a w sl t q S hM W B hP hG;rcases hG.cases with bR|⟨f,rfl,p,v⟩
  .exact⟨0,l,a,w,sl,t,q,S,rfl,rfl,W,bR w (atRel_refl w),B,hP⟩
  have a0:∀g∈l,awake g:=by
   intro g Q;obtain⟨i,s,rfl⟩:=vY.1 Q;rcases oS i with rfl|gS
   .have:l[0]=a:=by simpa[fm s] using W
    rw[this];exact uE (.inl p)
   .exact uE ((B.old i _ gS (fm s)).status.elim .inl λx=>.inr (.inr x))
  obtain⟨i,g,d,r,s,Q,Z⟩:=crowd_pick (P:=P) (w:=w) (sl:=sl) a0 ⟨0,a,W,p⟩;have C:i<l.size:=(dk.1 s).1;rcases oS i with rfl|gS
  .obtain rfl:g=a:=by rw[W] at s;exact(ef s).symm
   obtain⟨z,O,es,S',a2,hD,a1⟩:=v (w.at d) ⟨d,rfl⟩;have J:=sZ (P:=P) (sl:=r) (i:=0) s (show stepG P (0 ==0) g (w.at d)=_ from a2);have m:((l.map (woken P g z O)).setIfInBounds 0 z).size=l.size:=by simp
   obtain⟨N,o,L,G,R,X,q',I,hr,F,K,hS,H,u⟩:=a3 _ ⟨f,w.at d,rfl,rfl⟩ _ ((l.map (woken P g z O)).setIfInBounds 0 z) z O r (t++MemOp.ofEvents 0 g.frame.fn g.frame.place es) q S' (am _) (by simp[C])
    ⟨λj x A V=>by
     have E:0≠j:=by omega
     rw[io E,qZ] at V;obtain⟨y,hy,rfl⟩:=gE.1 V;have D:=B.old j y A hy;rw[sS D,rc t (by omega) _ (λop n=>by obtain⟨e,_,rfl⟩:=lE n;rfl)];exact D,λj A=>by
     rw[rc t (g':=0) (by simp at A;omega) _ (λop n=>by obtain⟨e,_,rfl⟩:=lE n;rfl)];exact B.above j (by simpa using A)⟩
    (by rw[m];exact HT.own _ _ hD hP) a1
   exact⟨N+1,o,L,G,R,X,q',I,by simp only[runNT,Z,J];exact hr,F.trans m,K,hS,H,by rw[m] at u;exact u⟩
  .have D:=B.old i g gS s;have:q i<=sumTo l.size q:=le_sumTo C;have U:q i=0:=by omega
   rw[U] at D;rw[D.1] at Q;cases Q
 |succ M ih=>
  intro l a w sl t q S hM W B hP hG;rcases hG.cases with bR|⟨f,rfl,p,v⟩
  .exact⟨0,l,a,w,sl,t,q,S,rfl,rfl,W,bR w (atRel_refl w),B,hP⟩
  have a0:∀g∈l,awake g:=by
   intro g Q;obtain⟨i,s,rfl⟩:=vY.1 Q;rcases oS i with rfl|gS
   .have:l[0]=a:=by simpa[fm s] using W
    rw[this];exact uE (.inl p)
   .exact uE ((B.old i _ gS (fm s)).status.elim .inl λx=>.inr (.inr x))
  obtain⟨i,g,d,r,s,Q,Z⟩:=crowd_pick (P:=P) (w:=w) (sl:=sl) a0 ⟨0,a,W,p⟩;have C:i<l.size:=(dk.1 s).1;rcases oS i with rfl|gS
  .obtain rfl:g=a:=by rw[W] at s;exact(ef s).symm
   obtain⟨z,O,es,S',a2,hD,a1⟩:=v (w.at d) ⟨d,rfl⟩;have J:=sZ (P:=P) (sl:=r) (i:=0) s (show stepG P (0 ==0) g (w.at d)=_ from a2);have m:((l.map (woken P g z O)).setIfInBounds 0 z).size=l.size:=by simp
   obtain⟨N,o,L,G,R,X,q',I,hr,F,K,hS,H,u⟩:=a3 _ ⟨f,w.at d,rfl,rfl⟩ _ ((l.map (woken P g z O)).setIfInBounds 0 z) z O r (t++MemOp.ofEvents 0 g.frame.fn g.frame.place es) q S' (am _) (by simp[C])
    ⟨λj x A V=>by
     have E:0≠j:=by omega
     rw[io E,qZ] at V;obtain⟨y,hy,rfl⟩:=gE.1 V;have D:=B.old j y A hy;rw[sS D,rc t (by omega) _ (λop n=>by obtain⟨e,_,rfl⟩:=lE n;rfl)];exact D,λj A=>by
     rw[rc t (g':=0) (by simp at A;omega) _ (λop n=>by obtain⟨e,_,rfl⟩:=lE n;rfl)];exact B.above j (by simpa using A)⟩
    (by rw[m];exact HT.own _ _ hD hP) a1
   exact⟨N+1,o,L,G,R,X,q',I,by simp only[runNT,Z,J];exact hr,F.trans m,K,hS,H,by rw[m] at u;exact u⟩
  .have D:=B.old i g gS s;have a6:(i ==0)=false:=by simp;omega
   cases U:q i with
   |zero=>rw[U] at D;rw[D.1] at Q;cases Q
   |succ k=>
    rw[U] at D;rcases D with⟨hf,_⟩|⟨_,g',es,hm,a7,a5⟩
    .rw[hf] at Q;cases Q
    have J:=sZ (P:=P) (sl:=r) (i:=i) s (by rw[a6];exact a7 (w.at d));have m:((l.map (woken P g g' (w.at d))).setIfInBounds i g').size=l.size:=by simp
    have a9:sumTo l.size (upd q i k)+(k+1)=sumTo l.size q+k:=by
     have:=sumTo_upd q k id C;simpa[U] using this
    have a8:∀S a b c,RlB S a b->RlB S b c->RlB S a c:=λ_ a b c=>atRel_trans a b c;obtain⟨N,o,L,G,R,X,q',I,hr,F,K,hS,H,u⟩:=ih ((l.map (woken P g g' (w.at d))).setIfInBounds i g') a (w.at d) r (t++MemOp.ofEvents i g.frame.fn g.frame.place es) (upd q i k) S (by rw[m];omega)
     (by
      have E:i≠0:=by omega
      rw[io E,qZ,W];simp[woken_run p])
     ⟨λj x A V=>by
      by_cases Y:i=j
      .subst Y;rw[pY (by simpa using C)] at V;obtain rfl:=ef V;rw[qf,Deaf_own];exact a5
      .rw[io Y,qZ] at V;obtain⟨y,hy,rfl⟩:=gE.1 V;have a4:=B.old j y A hy;rw[sS a4,qI q k (sD Y),rc t Y _ (λop n=>by obtain⟨e,_,rfl⟩:=lE n;rfl)];exact a4,λj A=>by
      rw[rc t (g':=i) (by simp at A;omega) _ (λop n=>by obtain⟨e,_,rfl⟩:=lE n;rfl)];exact B.above j (by simpa using A)⟩
     (by rw[m];exact HT.mute _ _ (by omega) (by omega) hm hP) (GoT.rely a8 hG ⟨d,rfl⟩)
    exact⟨N+1,o,L,G,R,X,q',I,by simp only[runNT,Z,J];exact hr,F.trans m,K,hS,H,by rw[m] at u;exact u⟩
theorem aac{gs:Array Goroutine}{a:Goroutine}{sl:Option (Nat×Nat)}{t:Trace}{q:Nat->Nat}{S:aq}(i:gs[0]?=some a)(m:Leavers P t gs q)(k:TQ (gs.size-1) w.heap.size t)(e:bE P true RlB Gr Stop S a w) :
  ∃(N:Nat) (b:Array Goroutine) (g:Goroutine) (c:World) (f:Option (Nat×Nat)) (d:Trace) (l:Nat->Nat) (j:aq),
   runNT P N (crowd gs w sl) t=(.next (crowd b c f),d)/\b.size=gs.size/\b[0]?=some g/\Stop j g c/\Leavers P d b l/\TQ (gs.size-1) c.heap.size d:=
 let⟨T,e⟩:=e;ai6 HT T _ gs a w sl t q S (am _) i m k e
end
def im(P:Program):Cfg->Cfg->Prop:=Relation.TransGen λa b=>aew P b a
def Rng(ρ:Ren)(w:World)(S Rr:aq):Prop:=∀b a,ρ.r b a->S a\/(Rr a/\bD w b/\NoB w b)
def mK(S Rr:aq)(B:Nat)(e:Event):Prop:=
 (∀x,(MemAct.ofEvent e).touch?=some x->In S x.loc\/(In Rr x.loc/\x.write=false))/\(∀m,e.loc=.mark m->(∃f,m=.extern f)\/m=.noRoom)/\(MemAct.ofEvent e).low B
def PkG(ρ:Ren)(w w' w1 cR:World):Prop:=∀b a,ρ.r b a->Rw w b->Rw w1 b/\∀i u,ad3 u->w1.cell? ⟨b,i,none⟩=some u->w.cell? ⟨b,i,none⟩=some u/\cR.cell? ⟨a,i,none⟩=w'.cell? ⟨a,i,none⟩
def PkG.rely(h:∀b a,ρ.r b a->W.heap[a]?=w'.heap[a]?):PkG ρ w w' w W:=λ_ _ d c=>⟨c,λ_ _ _ e=>⟨e,iW (h _ _ d)⟩⟩
def PkG.anE{k : Ren}{f : World}(d:Kept ρ k w w' W f)(h:∀b e,ρ.r b e->w2.heap[e]?=f.heap[e]?):PkG ρ w w' W w2:=λ_ _ a c=>
 ⟨(d.poi a c).1,λi u g j=>⟨((d.poi a c).2 i u g j).1,(iW (h _ _ a)).trans ((d.poi a c).2 i u g j).2⟩⟩
def PkG.trans{j : Ren}{e a : World}(h:PkG ρ w w' W e)(c:ρ.Le j)(k:PkG j W e w2 a):PkG ρ w w' w2 a:=λb g d m=>by
 obtain⟨q,r⟩:=h b g d m;obtain⟨o,p⟩:=k b g (c.r d) q;refine⟨o,λi u f t=> ?_⟩;obtain⟨v,l⟩:=p i u f t;obtain⟨s,n⟩:=r i u f v;exact⟨s,l.trans n⟩
structure ai7 (P:Program) (R:List Frame->World->Prop) (Rr S:aq) (ρ:Ren) (c:Cfg) (l':List Frame) (w':World):Prop where
 st:iz P ρ c.l l'
 wr:WR ρ c.w w'
 gl:GlR ρ
 will:jQ P R c
 rng:Rng ρ c.w S Rr
def Rt(P':Program)(J:Nat->Bool)(l l':List Frame):Prop:=
 l'=l\/∃c d a,l=c::a/\l'=d::a/\a≠[]/\JR J c d/\∃fn,P'.funcs[c.fn]?=some fn/\∀t b:Array Value,b.size=t.size->(∀i,J i=false->b[i]?=t[i]?)->results fn b=results fn t
def mf.mem{ρ:Ren}:∀{l b:List Event},mf ρ l b->∀a∈b,∃e∈l,EvR ρ e a
 |_,_,.nil,_,h=>by cases h
 |_,_,.cons x y,a,h=>by
  rcases mc.1 h with rfl|h
  .exact⟨_,qR ..,x⟩
  .obtain⟨e,c,d⟩:=mf.mem y a h;exact⟨e,qS _ c,d⟩
section
variable {P P':Program} {R:List Frame->World->Prop} {Rr S:aq} {ρ σ:Ren} {w w' w1 cR:World} {es es':Array Event}
def Rng.step(h:Rng ρ w S Rr)(j:WR σ w1 cR)(d:Kept ρ σ w w' w1 cR):Rng σ w1 (λb=>S b\/(w'.heap.size<=b/\b<cR.heap.size)) Rr:=λb k i=>by
 rcases d.new i with f|⟨_,a⟩
 .rcases h b k f with c|⟨c,a,g⟩
  .exact .inl (.inl c)
  .have e:=(d.still f a g).1;exact .inr ⟨c,a.of_eq e,g.of_eq e⟩
 .exact .inl (.inr ⟨a,(j.lt i).2⟩)
def arC(h:Rng ρ w S Rr)(u:WR σ w1 cR)(D:Kept ρ σ w w' w1 cR)(v:EvW w σ es es'):∀e∈es',mK (λb=>S b\/(w'.heap.size<=b/\b<cR.heap.size)) Rr cR.heap.size e:=by
 intro E t;obtain⟨e,A,j⟩:=v.ev.mem E (by simpa using t);have p:∀{b i},σ.r b i->(S i\/(w'.heap.size<=i/\i<cR.heap.size))\/(Rr i/\bD w b):=λ{b i} y=>by
  rcases D.new y with C|⟨_,g⟩
  .rcases h b i C with c|⟨c,g,_⟩
   .exact .inl (.inl c)
   .exact .inr ⟨c,g⟩
  .exact .inl (.inr ⟨g,(u.lt y).2⟩)
 cases j with
 |mk n wr q=>
  cases n with
  |@cell a z G=>
   have j:σ.r a.block z.block:=by cases G with|mk h o s=>exact h
   refine⟨λx k=> ?_,λm l=>(by cases l),(u.lt j).2⟩;have d:x=⟨.cell z,wr,if q then .atomic else .plain⟩:=by simp[MemAct.ofEvent,MemAct.touch?] at k;exact k.symm
   subst d;rcases p j with c|⟨c,g⟩
   .exact .inl c
   .cases wr with
    |false=>exact .inr ⟨c,rfl⟩
    |true=>exact absurd rfl ((v.nw _ g _ A rfl).1 _ rfl)
  |@obj r B j=>
   refine⟨λx k=> ?_,λm l=>(by cases l), ?_⟩
   .have d:x.loc=.obj B/\x.write=wr:=by
     cases wr<;>cases q<;>simp[MemAct.ofEvent,MemAct.touch?] at k<;>(subst k;exact⟨rfl,rfl⟩)
    obtain⟨H,F⟩:=d;rw[H];rcases p j with c|⟨c,g⟩
    .exact .inl c
    .cases wr with
     |false=>exact .inr ⟨c,F⟩
     |true=>exact absurd rfl ((v.nw _ g _ A rfl).2 _ rfl)
   .have:=(u.lt j).2;cases wr<;>cases q<;>exact this
  |mark l=>
   refine⟨λx k=> ?_,λm e=> ?_, ?_⟩
   .cases l<;>simp[MemAct.ofEvent,MemAct.touch?] at k
   .cases e;cases l with
    |extern f=>exact .inl ⟨f,rfl⟩
    |noRoom=>exact .inr rfl
   .cases l<;>trivial
def ai8(h:Rng ρ w S Rr)(d:Kept ρ σ w w' w1 cR):∀b,b<w'.heap.size->¬S b->cR.heap[b]?=w'.heap[b]?:=λb l i=>by
 by_cases f:∃a,ρ.r a b
 .obtain⟨a,e⟩:=f;rcases h a b e with j|⟨_,g,k⟩
  .exact absurd j i
  .exact(d.still e g k).2
 .exact d.out' l λc m=>f ⟨c,m⟩
def WR.rely(h:WR ρ w w')(g:Rng ρ w S Rr)(i:∀b,S b\/Rr b->cR.heap[b]?=w'.heap[b]?)(e:w'.heap.size<=cR.heap.size)(j:cR.ou=w'.ou):WR ρ w cR:=
 ⟨λ{b a} c=>by
  obtain⟨o,l,f,d,k⟩:=h.obj c;exact⟨o,l,f,(i a ((g b a c).imp id (·.1))).trans d,k⟩,h.os.trans j.symm,h.kE.1,bd h.kE.2 e⟩
end
def iz.ne'   :iz P ρ l l'->∃x b y a,l=x::b/\l'=y::a
 |.one .. =>⟨_,_,_,_,rfl,rfl⟩
 |.cons .. =>⟨_,_,_,_,rfl,rfl⟩
def iz.hd   :iz P ρ l l'->∀{y a},l'=y::a->(y.mode=.run\/y.mode=.returning)/\y.kind=.normal
 |.one hx _,_,_,e=>by cases e;exact⟨hx.mode.elim (λy=>.inl y.2) (λy=>.inr y.2),hx.kind.2⟩
 |.cons hx _,_,_,e=>by cases e;exact⟨hx.mode.elim (λy=>.inl y.2) (λy=>.inr y.2),hx.kind.2⟩
def iz.lone   :iz P ρ l l'->∀{x},l=[x]->∀{y a},l'=y::a->a=[]
 |.one ..,_,_,_,_,e=>by cases e;rfl
 |.cons _ hl,_,e,_,_,_=>by
  obtain⟨_,_,_,_,b,_⟩:=hl.ne';cases e;cases b
section
variable {P P':Program} {R:List Frame->World->Prop} {Rr:aq} {main:Bool} {Rl:aq->World->World->Prop} {Gr:aq->aq->World->World->Array Event->Prop} {J:Nat->Bool} {base:List Frame}
def arD(P P':Program)(R:List Frame->World->Prop)(Rr:aq)(base:List Frame)(c0:Cfg)(iq:Ren)(w0:World)(S0 S:aq)(g:Goroutine)(w1:World):Prop:=
 ∃c d e,(c=c0\/im P c c0)/\iq.Le d/\(∀b,S0 b->S b)/\g=Gl e base/\WR d c.w w1/\GlR d/\jQ P R c/\Rng d c.w S Rr/\PkG iq c0.w w0 c.w w1/\
  ((oX c.l/\iz P d c.l e)\/∃a f m i,cZ d a f/\iz P d m i/\c.l=Frame.enter P cB a .normal::m/\e=Frame.enter P' cB f .normal::i)
def xd(P P':Program)(R:List Frame->World->Prop)(Rr:aq)(main:Bool)(Rl:aq->World->World->Prop)(Gr:aq->aq->World->World->Array Event->Prop)(base:List Frame):Prop:=
 ∀(f:FuncId) (c:Cfg) (ρ:Ren) (a l:Array Value) (m o:List Frame) (e:World) (S:aq),gH f=true->f≠cB->cZ ρ a l->iz P ρ m o->c.l=Frame.enter P f a .normal::m->WR ρ c.w e->GlR ρ->jQ P R c->Rng ρ c.w S Rr->
  bE P' main Rl Gr (λn g j=>∃i d k,im P i c/\ρ.Le d/\(∀b,S b->n b)/\g=Gl k base/\ai7 P R Rr n d i k j/\PkG ρ c.w e i.w j) S (Gl (Frame.enter P' f l .normal::o) base) e
def ai9 (T:Twin P P') (X:ait P P') (fN:∀S w,Rl S w w) (tr:∀S a b c,Rl S a b->Rl S b c->Rl S a c)
  (rl:∀S w o,Rl S w o->(∀b,S b\/Rr b->o.heap[b]?=w.heap[b]?)/\w.heap.size<=o.heap.size/\o.ou=w.ou)
  (gr:∀S w l es,(∀b,b<w.heap.size->¬S b->l.heap[b]?=w.heap[b]?)->w.heap.size<=l.heap.size->l.ou=w.ou->(∀e∈es,mK (λb=>S b\/(w.heap.size<=b/\b<l.heap.size)) Rr l.heap.size e)->
   Gr S (λb=>S b\/(w.heap.size<=b/\b<l.heap.size)) w l es)
  (an:∀f,gH f=true->∀a,(Frame.enter P' f a .normal).todo.all (lV J)=false)
  (a0:xd P P' R Rr main Rl Gr base) {c:Cfg} (aT:Acc (im P) c) :
  ∀{ρ:Ren} {l' lR:List Frame} {l:World} {S:aq},ai7 P R Rr S ρ c l' l->Rt P' J l' lR->bE P' main Rl Gr (arD P P' R Rr base c ρ l S) S (Gl lR base) l:=by
 induction aT with
 |intro c _ ih=>
  intro ρ l' lR l S h hR;have on:∀{s:Cfg} {I:Ren} {l1 lR1:List Frame} {o:World} {S1:aq},im P s c->ρ.Le I->(∀b,S b->S1 b)->ai7 P R Rr S1 I s l1 o->PkG ρ c.w l s.w o->Rt P' J l1 lR1->bE P' main Rl Gr (arD P P' R Rr base c ρ l S) S1 (Gl lR1 base) o:=λ{s I l1 lR1 o S1} Y d hS h1 Z A=>
   bE.weak (λ_ _ _ x=>x) (λ_ _ _ _ _ x=>x) (λS2 g w2 ⟨c2,ρ2,l2,a1,a2,a3,a4,a5,a6,a7,a8,a9,a10⟩=>⟨c2,ρ2,l2,.inr (a1.elim (λe=>e▸Y) λx=>sX x Y),d.trans a2,λb n=>a3 b (hS b n),a4,a5,a6,a7,a8,Z.trans d a9,a10⟩) (ih s Y h1 A)
  have b4:∀{x:Frame} {xs:List Frame},(Gl (x::xs) base).status=.running:=rfl;by_cases hf:oX c.l
  .-- at its end: one frame,and it is clean
   refine .stop λo hr=> ?_;obtain⟨r1,r2,r3⟩:=rl _ _ _ hr;have aL:lR=l':=by
    rcases hR with e|⟨fr,cE,j,K,_,aJ,_⟩
    .exact e
    .exfalso;obtain⟨f0,Y,_⟩:=hf;exact aJ (h.st.lone Y K)
   subst aL;exact⟨c,ρ,_,.inl rfl,Ren.Le.refl _,λ_ n=>n,rfl,h.wr.rely h.rng r1 r2 r3,h.gl,h.will,h.rng,.rely λb E n=>r1 E ((h.rng b E n).imp id (·.1)),.inl ⟨hf,h.st⟩⟩
  .obtain⟨_,_,x0,b6,_,b1⟩:=h.st.ne';have b0:(Gl lR base).status=.running:=by
    rcases hR with e|⟨fr,cE,j,_,B,_⟩
    .rw[e,b1];rfl
    .rw[B];rfl
   refine .step b0 λo hr=> ?_;obtain⟨r1,r2,r3⟩:=rl _ _ _ hr;have bI:=h.wr.rely h.rng r1 r2 r3;obtain⟨s,σ,p,D,es,v,hs,G,d,k,t,N,hE,z⟩:=sim T X h.gl main h.st bI hf h.will;have L:im P s c:=.single hs;have py:=h.rng.step t N;have b2:PkG ρ c.w l c.w o:=.rely λb E n=>r1 E ((h.rng b E n).imp id (·.1));have Z:PkG ρ c.w l s.w D:=b2.trans (.refl _) (.anE N λ_ _ _=>rfl);have hG:=gr S o D v (ai8 h.rng N) N.size' N.os.2 (arC h.rng t N hE);have after:∀{lR1:List Frame},(Rt P' J p lR1/\(iz P σ s.l p\/lR1=p))->bE P' main Rl Gr (arD P P' R Rr base c ρ l S) (λb=>S b\/(o.heap.size<=b/\b<D.heap.size)) (Gl lR1 base) D:=λ{lR1} ⟨A,hor⟩=>by
    rcases z with i|⟨f,a,H,m,m',u,V,i,K,B⟩
    .exact on L d (λb n=>.inl n) ⟨i,t,h.gl.mono d,G,py⟩ Z A
    .have jm:lR1=p:=by
      rcases hor with b5|e
      .rcases A with e|⟨fr,cE,j,O,_,_,M,_⟩
       .exact e
       .exfalso;rw[B] at O;injection O with e4 e5
        have:=M.items;rw[<-e4,an f u H] at this;cases this
      .exact e
     subst jm;by_cases Q:f=cB
     .subst Q;refine .stop λw2 ax=> ?_;obtain⟨q1,q2,q3⟩:=rl _ _ _ ax;exact⟨s,σ,_,.inr L,d,λb n=>.inl n,rfl,t.rely py q1 q2 q3,h.gl.mono d,G,py,Z.trans d (.rely λb E n=>q1 E ((py b E n).imp id (·.1))),.inr ⟨a,H,m,m',V,i,K,B⟩⟩
     .rw[B];refine bE.bind fN tr (a0 f s σ a H m m' D _ u Q V i K t (h.gl.mono d) G py) λS2 g w2 ⟨c2,ρ2,l2,a1,a2,a3,a4,a5,a6⟩=> ?_;rw[a4];exact on (sX a1 L) (d.trans a2) (λb n=>a3 b (.inl n)) a5 (Z.trans d a6) (.inl rfl)
   rcases hR with e|⟨fr,cE,j,K,B,aa,M,fn,af,C⟩
   .subst e;exact⟨_,D,v,_,k base,hG,after ⟨.inl rfl,.inr rfl⟩⟩
   .rw[K] at k;have aX:=h.st.hd K;obtain⟨y,F,hy⟩:∃y F,p=y::F:=by
     rcases z with i|⟨f,a,H,m,m',_,_,_,_,e⟩
     .obtain⟨_,_,y,F,_,e⟩:=i.ne';exact⟨y,F,e⟩
     .exact⟨_,_,e⟩
    have ad:(y.mode=.run\/y.mode=.returning)/\y.kind=.normal:=by
     rcases z with i|⟨f,a,H,m,m',_,_,_,_,e⟩
     .exact i.hd hy
     .rw[hy] at e;injection e with O e4
      subst O;exact⟨.inl rfl,rfl⟩
    rcases aX.1 with hm|hm
    .have q:=k base;rw[hy] at q;obtain⟨b3,ao,U,al,aP⟩:=aru M hm q ad.1 ad.2;have ay:F=j:=List.append_cancel_right b3;subst ay;refine⟨_,D,v,_,by rw[B];exact aP (F++base),hG, ?_⟩;have:=after (lR1:=U::F) ⟨.inr ⟨y,U,F,hy,rfl,aa,al,fn,by rw[ao];exact af,C⟩, ?_⟩
     .exact this
     .rcases z with i|⟨f,a,H,m,m',u,_,_,_,e⟩
      .exact .inl i
      .exfalso;rw[hy] at e;injection e with O e4
       have:=al.items;rw[O,an f u H] at this;cases this
    .obtain⟨r0,rs,W⟩:∃r rs,j=r::rs:=by
      cases j with
      |nil=>exact absurd rfl aa
      |cons r rs=>exact⟨r,rs,rfl⟩
     have aK:=arv (P:=P') M hm ⟨fn,af,C _ _ M.size M.agree⟩ (c:=r0) (cs:=rs++base) (main:=main) (w:=o);refine⟨_,D,v,_, ?_,hG,after (lR1:=p) ⟨.inl rfl,.inr rfl⟩⟩;rw[B,W];have q:=k base;rw[W] at q;exact aK.trans q
end
section
variable {P P':Program} {ρ:Ren} {w w':World}
def auL(T:Twin P P'){fr : Frame}(hS:iz P ρ [fr] [x])(Y:WR ρ w w'){t0:Tape}{Post:Value->World->Prop}(J:∀t,(∀i q,i<w.drawn->t i q=t0 i q)->∃v,fr.leaving P (w.dK t) (.returned v)/\Post v (w.dK t)) :
  ∃j v M l o es u t,ρ.Le j/\Post v (w.dK t)/\(∀i q,i<w.drawn->t i q=t0 i q)/\l.dK t=w.dK t/\VR j v M/\WR j l o/\Kept ρ j w w' l o/\EvW w j es u/\∀m c z,stepG P' m (Gl [x] (c::z)) w'=.go ⟨c.finish M,z,.running,none,none⟩ o u:=by
 have mj:=hS.head;obtain⟨f,tm,L,d,md,kd,r⟩:=fr;obtain⟨f',a0,fE,d',A,a1,r'⟩:=x;obtain⟨O,G,h3,I,n,R,h7⟩:=mj;dsimp only at O G h3 I n R h7;subst O;obtain⟨v0,⟨Q,hd,N,fn,E,hr⟩,hp⟩:=J t0 λ_ _ _=>rfl;dsimp only at Q hd N E hr;subst Q hd N;obtain rfl:A=.returning:=by
  rcases n with n|n
  .cases n.1
  .exact n.2
 obtain⟨-,rfl⟩:=R;obtain rfl:d'=[]:=by cases I;rfl
 obtain⟨df,C,hR⟩:=T.func f fn E;have good:∀t:Tape,(∀i q,i<w.drawn->t i q=t0 i q)->∃v,(results fn tm).run P (w.dK t)=.ok v (w.dK t)/\Post v (w.dK t):=λt y=>by
  obtain⟨v,⟨_,_,_,W,k,g⟩,B⟩:=J t y;dsimp only at k g;rw[E] at k;cases k;exact⟨v,g,B⟩
 obtain⟨b,D,H⟩:=(agc T hR.results G).run w w' #[] #[] Y;have s:Agr w D b λi q=>if i<w.drawn then t0 i q else b i q:=λi q K _=>be (by omega)
 have y:∀i q,i<w.drawn->(λi q=>if i<w.drawn then t0 i q else b i q) i q=t0 i q:=λi q K=>dl K;obtain⟨v,p,F⟩:=good _ y;rcases H with H|⟨j,a,l,V,o,us,U,g1,g2,g3,Z,g5,g6,X,g8⟩
 .exfalso;obtain⟨h,l,mX,g, -⟩:=H _ s;rw[<-rh _ _ _ #[],g] at p;cases p
 .have e:=g1 _ s;rw[<-rh _ _ _ #[],e] at p;simp only[sB] at p;obtain⟨rfl,S⟩:=p;refine⟨j,a,V,l,o,_,_,_,g3,F,y,S,g5,g6,X,aaP T f g8,λm c z=> ?_⟩;simp only[Gl,stepG,unwind,C,Z,rr];simp[doReturn,GStep.after]
end
end
section
def anF(a:FuncId->Bool)(b:List Nat)(c:TypeId)(o:Oper):(aal a b c o).op=o.op:=by unfold aal;split<;>rfl
def ao8(a:FuncId->Bool)(b:List Nat)(c:TypeId)(o:Oper):aal a b c (aal a b c o)=aal a b c o:=by
 by_cases h:aak a b o.op=true
 .unfold aal;simp[h]
 .unfold aal;simp[h]
def acL(P:Program)(c:FuncId->Bool)(d:List Nat)(e:TypeId)(id:Nat)(a:Array Oper)(b:Bool):bK P c d e (.region id a b)=if(a.toList.all λo=>mb P c d o.op)=true then .region id a b
  else if(a.toList.all λo=>mb P c d o.op||aak c d o.op)=true then .region id (a.map (aal c d e)) b else .refuse "" :=rfl
def anG(P:Program)(d:FuncId->Bool)(e:List Nat)(f:TypeId)(c:Operand)(a b:Code):bK P d e f (.cond c a b)=if bH d e c=true then .cond c (bK P d e f a) (bK P d e f b) else .refuse "" :=rfl
def aja(P:Program)(d:FuncId->Bool)(c:List Nat)(e:TypeId)(f:Operand)(g:Array Tmp)(a b:Code):bK P d c e (.rangeFunc f g a b)=if bH d c f=true then .rangeFunc f g (bK P d c e a) (bK P d c e b) else .refuse "" :=rfl
def arE(P:Program)(c:FuncId->Bool)(d:List Nat)(e:TypeId)(a b:Code):bK P c d e (.seq a b)=.seq (bK P c d e a) (bK P c d e b):=rfl
def alr(P:Program)(e:FuncId->Bool)(d:List Nat)(l:TypeId):∀c:Code,bK P e d l (bK P e d l c)=bK P e d l c:=by
 intro c
 induction c with
 |region id i draw=>
  rw[acL];by_cases h:(i.toList.all λo=>mb P e d o.op)=true
  .rw[dl h,acL,dl h]
  .rw[be h];by_cases n:(i.toList.all λo=>mb P e d o.op||aak e d o.op)=true
   .rw[dl n,acL];have p:((i.map (aal e d l)).toList.all λo=>mb P e d o.op)=i.toList.all λo=>mb P e d o.op:=by
     rw[qD,List.all_map];congr 1;funext o;simp only[Function.comp,anF]
    have q:((i.map (aal e d l)).toList.all λo=>mb P e d o.op||aak e d o.op)=i.toList.all λo=>mb P e d o.op||aak e d o.op:=by
     rw[qD,List.all_map];congr 1;funext o;simp only[Function.comp,anF]
    rw[p,q,be h,dl n,Array.map_map];exact fk (λg=>Code.region id (Array.map g i) draw) (funext λo=>ao8 e d l o)
   .rw[be n];rfl
 |seq a b k j=>rw[arE,arE,k,j]
 |cond c a b k j=>
  rw[anG];by_cases h:bH e d c=true
  .rw[dl h,anG,dl h,k,j]
  .rw[be h];rfl
 |rangeFunc f r a b k j=>
  rw[aja];by_cases h:bH e d f=true
  .rw[dl h,aja,dl h,k,j]
  .rw[be h];rfl
 |block id a m=>exact fk (Code.block id) m
 |loop a m=>exact fk Code.loop m
 |scope a m=>exact fk Code.scope m
 |_=>rfl
def auM(c:Code):gP (gP c)=gP c:=by unfold gP;exact alr _ _ _ _ c
def aCp:fO prog (alw prog) gL ni=true:=by unfold gL;kernel_rfl
def aCq:fO prog (alw prog) gL jN=true:=by unfold gL;kernel_rfl
def arF{c:Code}(h:fO prog (alw prog) gL c=true):gP c=c:=by
 have e:gA=alw prog:=by unfold gA;rfl
 unfold gP;rw[e];exact ail _ _ _ _ c h
section
variable (β:Bool)
def arG{fn:Func}{c:Code}(h:(ah β).funcs[f]?=some fn)(a:fn.body=some c):gP c=c:=by
 by_cases d:f=nCC
 .subst d;rw[acy] at h;obtain rfl:=ef h;obtain rfl:ni=c:=ef a;exact arF aCp
 by_cases b:f=cB
 .subst b;rw[acz] at h;obtain rfl:=ef h;cases β with
  |true=>obtain rfl:jN=c:=ef a;exact arF aCq
  |false=>obtain rfl:Code.refuse "" =c:=ef a;exact arF rfl
 rw[akT β d b] at h;obtain⟨g,k,rfl⟩:=gE.1 h;have e:g.body.map gP=some c:=a;obtain⟨j,i,rfl⟩:=gE.1 e;exact auM j
def auN(f:FuncId)(fn:Func)(h:(ah β).funcs[f]?=some fn):∃a,(ah β).funcs[f]?=some a/\FnR (gH f) fn a:=by
 obtain⟨g,e,d⟩:=ahr β f fn h;exact⟨fn,h,rfl,d.azr,rfl,rfl,rfl,λ_=>rfl,λc b=>⟨c,b,λ_=>(arG β h b).symm⟩⟩
def ahG:Twin (ah β) (ah β) where
 info _:=rfl
 under _:=rfl
 rt:=rfl
 depth:=rfl
 globals:=⟨(lQ β).globals.1,(lQ β).globals.1⟩
 zero:=(lQ β).zero
 stood _:=rfl
 awk:=rfl
 cellAt _ _ _ _ _:=rfl
 lies _ _ _ _ _ _:=rfl
 akD _ _:=rfl
 follows _:=rfl
 pc:=(lQ β).pc
 atP:=(lQ β).atP
 func:=auN β
 aio:=rfl
 ng:=(lQ β).ng
def ayd:ait (ah β) (ah β):=λf fn c i k p a j h=>by
 obtain⟨o,b,n⟩:=ahr β f fn c;obtain rfl:=n.none i;have g:=(dk.1 b).1;have d:=jn.1 aex f (ql.2 g);have d:=agh b d;have m:alw prog f=true:=by
  have:gA f=alw prog f:=by unfold gA;rfl
  rw[<-this];exact k
 rw[m,i] at d;simp only[vh,ta,vg,uz,qT,mp] at d;rcases d with rfl|rfl
 .have e:=b.symm.trans func178;obtain rfl:=ef e;exact abG c c ang ang (cH func178) (cH func178) ani ani anj anj (λl a j h=>abF (ahG β) _ _ h) h
 .have e:=b.symm.trans func183;obtain rfl:=ef e;exact abG c c anh anh (cH func183) (cH func183) ac9 ac9 ank ank (λl a j h=>ac8 h) h
def aeS{a : Array Value}(g:cZ ρ a U):FrR (ah β) ρ (Frame.enter (ah β) f a .normal) (Frame.enter (ah β) f U .normal):=by
 have i:∀n,cZ ρ (a++Array.replicate (n-a.size) undef) (U++Array.replicate (n-U.size) undef):=λn=>by
  rw[g.size];exact cZ.app g (bP.kg λv d=>by simp at d;rw[d.2];exact VR.undef)
 cases b:(ah β).funcs[f]? with
 |none=>
  unfold Frame.enter;rw[b];exact⟨rfl,i _,abA (ahG β) _,.nil,.inl ⟨rfl,rfl⟩,⟨rfl,rfl⟩,.none⟩
 |some fn=>
  unfold Frame.enter;rw[b];refine⟨rfl,i _, ?_,.nil,.inl ⟨rfl,rfl⟩,⟨rfl,rfl⟩,.none⟩;show jy (ah β) ρ [.code (fn.body.getD _)] [.code (fn.body.getD _)];cases j:fn.body with
  |none=>exact abA (ahG β) _
  |some c=>
   have e:gP c=c:=arG β b j;have:ItR (ah β) ρ (.code (gP c)) (.code c):=.code c;rw[e] at this;exact .cons this .nil
def aye(h:GoR (ah β) (ah β) ρ l l'):iz (ah β) ρ l l':=by
 rcases h with h|⟨f,a,d,m,e, -,c,b,rfl,rfl⟩
 .exact h
 .exact .cons (aeS β c) b
def aCr{R:List Frame->World->Prop}(m:GlR ρ){c:Cfg}(m':Bool)(q:iz (ah β) ρ c.l l')(i:WR ρ c.w w')(n:¬oX c.l)(o:jQ (ah β) R c) :
  ∃e d a f g b,aew (ah β) c e/\jQ (ah β) R e/\ρ.Le d/\(∀base,stepG (ah β) m' (Gl l' base) w'=.go (Gl a base) f b)/\WR d e.w f/\Kept ρ d c.w w' e.w f/\EvW c.w d g b/\iz (ah β) d e.l a:=by
 obtain⟨e,d,a,f,g,b,s,k,l,r,u,p,t,j⟩:=sim (ahG β) (ayd β) m m' q i n o;exact⟨e,d,a,f,g,b,s,k,l,r,u,p,t,aye β j⟩
end
end
section
open Go.Conc Go.ConcN Go.RowKit Go.Lib
def dQ{β : Type}{s:Sem V}{f:V->Sem β}{v:β}(h:(Bind.bind s f).run P w=.ok v w2):∃a b,s.run P w=.ok a b/\(f a).run P b=.ok v w2:=by
 have h:(s.bind f).run P w=.ok v w2:=h;rw[qJ] at h;cases c:s.run P w with
 |ok a b=>rw[c] at h;exact⟨a,b,rfl,h⟩
 |halt q b=>rw[c] at h;cases h
def NoV(P:Program)(w:World)(A:Addr):Prop:=(∀s a,(viewAt A.block).run P w ≠ .ok (some s) a)/\(w.cell? A=none->(∀b,∃e,w.farLoad P A b=.error e)/\∀v b,∃e,w.farStore P A v b=.error e)
def arH{m:String}{v:V}:(runtimePanic (.error m):Sem V).run P w ≠ .ok v w2:=by
 intro h;unfold runtimePanic at h;simp[goPanic] at h
structure CcT (P:Program):Prop where
 u:P.underlying 172=some (.pointer 174)
 up:P.underlying 187=some .unsafePointer
 i6:∃i,P.info? 172=some i/\i.size=1
 i8:∃i,P.info? 174=some i/\i.size=2/\i.bytes<1000
 f:∃fs g,P.underlying 174=some (.struct fs)/\fs[0]?=some g/\g.offset=0/\g.type=172
section
variable {P:Program} (T:CcT P) {w w2:World} {x v:Value}
include T
theorem arI{y:Value}(C:y=.int .i64 1)(j:∀A,x=.pointer (some A)->NoV P w A)(h:(Builtin.unsafeSlice_ #[172,3] 0 #[x,y]).run P w=.ok v w2) :
  w2=w/\∃A e n,x=.pointer (some A)/\w.shape? A.block=some (e,n)/\liesAt P P.depth e (n / P.cellsOf e) A.off 174 1=true:=by
 obtain⟨i,r,p,F⟩:=T.i8;have m:¬IntKind.i64.max<1:=by decide
 have g:¬18446744073709551616<=i.bytes:=by omega
 have c:∃l,l=[x,y]:=⟨_,rfl⟩;obtain⟨l,c⟩:=c;replace h:(Builtin.unsafeSlice_ #[172,3] 0 ⟨l⟩).run P w=.ok v w2:=by rw[c];exact h
 unfold Builtin.unsafeSlice_ at h;cases l with
 |nil=>cases c
 |cons a l=>
  cases l with
  |nil=>cases c
  |cons b l=>
   cases l with
   |cons=>cases c
   |nil=>
    injection c with D k
    injection k with k G
    cases a with
    |pointer a=>
     subst D k;subst C;obtain⟨n,t,B,E⟩:=dQ (s:=asInt (.int .i64 1)) h;obtain⟨rfl,rfl⟩:(1:Int)=n/\w=t:=by simpa[asInt,asIntOf] using B
     obtain⟨e,f,u,h⟩:=dQ (s:=elemOf 172) E;obtain⟨rfl,rfl⟩:174=e/\w=f:=by simpa[elemOf,lw T.u] using u
     cases a with
     |none=>
      simp[m] at h;exact absurd h arH
     |some A=>
      have j:=(j A rfl).1;cases o:w.shape? A.block with
      |none=>
       simp[m,g,typeInfo,sizeOf,r,p,variablesAt,o] at h;cases d:(viewAt A.block).run P w with
       |halt q f=>rw[d] at h;cases h
       |ok z f=>
        cases z with
        |some z=>exact absurd d (j _ _)
        |none=>rw[d] at h;cases h
      |some z=>
       obtain⟨e,n⟩:=z;simp[m,g,typeInfo,sizeOf,r,p,variablesAt,o] at h;by_cases c:liesAt P P.depth e (n / P.cellsOf e) A.off 174 1=true
       .simp only[c,ph,sB] at h;exact⟨h.2.symm,A,e,n,rfl,o,c⟩
       .simp only[c,qB,kw] at h;cases d:(viewAt A.block).run P w with
        |halt q f=>rw[d] at h;cases h
        |ok z f=>
         cases z with
         |some z=>exact absurd d (j _ _)
         |none=>rw[d] at h;cases h
    |_=>cases(show Result.halt _ _=Result.ok v w2 from h)
theorem arJ(A:Addr):(Instr.fieldAt 174 (.pointer (some A)) 0).run P w=.ok (.pointer (some A)) w:=by
 obtain⟨j,g,c,a,d,b⟩:=T.f;obtain⟨i,e,f⟩:=T.i6;simp[Instr.fieldAt,Instr.sureAddr,lw c,a,fieldPlace,sizeOf,typeInfo,b,e,f,d,Addr.add]
theorem auO(b:NoV P w A)(h:(Instr.loadAt 172 (.pointer (some A))).run P w=.ok v w2):w2=w/\w.cell? A=some v:=by
 have h:(Sem.load .plain A Sem.pure).run P w=.ok v w2:=by simpa[Instr.loadAt,Instr.sureAddr,loadVar,isAgg,lw T.u,load] using h
 unfold Sem.run at h;cases a:w.cell? A with
 |some u=>
  simp only[a,Sem.run,sB] at h;exact⟨h.2.symm,by rw[h.1]⟩
 |none=>
  obtain⟨e,c⟩:=(b.2 a).1 (Mode.plain ==.atomic);simp only[a,c] at h;cases h
theorem arK{u:Option Addr}{r:Unit}(c:NoV P w A)(h:(Instr.storeAt 172 (.pointer (some A)) (.pointer u)).run P w=.ok r w2):w2=w.setCell A (.pointer u)/\w.frozen? A=false/\∃v,w.cell? A=some v:=by
 obtain⟨i,f,g⟩:=T.i6;have h:(Sem.store .plain A (.pointer u) (Sem.pure ())).run P w=.ok r w2:=by
  simpa[Instr.storeAt,Instr.sureAddr,storeVar,sizeOf,typeInfo,f,g,Value.cells,storeCells,store,Addr.add] using h
 unfold Sem.run at h;cases a:w.cell? A with
 |some v=>
  simp only[a] at h;cases b:w.frozen? A with
  |true=>rw[b] at h;cases h
  |false=>
   rw[b] at h;simp only[kw,qB,Sem.run,sB] at h;exact⟨h.2.symm,rfl,v,rfl⟩
 |none=>
  obtain⟨e,d⟩:=(c.2 a).2 (.pointer u) (Mode.plain ==.atomic);simp only[a,d] at h;cases h
theorem ayf{b:Value}(h:(binOp .eql 172 v (.pointer none)).run P w=.ok b w2):w2=w/\((v=.pointer none/\b=.bool true)\/∃B,v=.pointer (some B)/\b=.bool false):=by
 have i:∀(d:Nat) (a:Option Addr),(Op.equalIn (d+1) 172 (.pointer a) (.pointer none)).run P w=.ok a.isNone w:=λd a=>by
  cases a<;>simp[Op.equalIn,lw T.u]
 have j:∀(d:Nat) (r:Bool) (c:World),(∀a,v ≠ .pointer a)->(Op.equalIn (d+1) 172 v (.pointer none)).run P w ≠ .ok r c:=λd r c l=>by
  cases v with
  |pointer a=>exact absurd rfl (l a)
  |_=>simp[Op.equalIn,lw T.u,stuck]
 simp only[binOp] at h;by_cases g:∃a,v=.pointer a
 .obtain⟨a,rfl⟩:=g;simp[Op.equal,Op.maxDepth,i 9999] at h;refine⟨h.2.symm, ?_⟩;cases a with
  |none=>exact .inl ⟨rfl,h.1.symm⟩
  |some B=>exact .inr ⟨B,rfl,h.1.symm⟩
 .exfalso;have f:∀a,v ≠ .pointer a:=λa e=>g ⟨a,e⟩;obtain⟨r,c,k, -⟩:=dQ h;exact j 9999 r c f k
end
end
section
open Go.Conc Go.ConcN
def az6:(prog.info? 172).map (·.size ==1)=some true:=by kernel_rfl
def az7:(prog.info? 174).map (λi=>i.size ==2&&decide (i.bytes<1000))=some true:=by kernel_rfl
def az8:prog.underlying 172=some (.pointer 174):=by kernel_rfl
def az9:prog.underlying 187=some .unsafePointer:=by kernel_rfl
def aAa:(match prog.underlying 174 with
 |some (.struct fs)=>(match fs[0]? with
  |some g=>g.offset ==0&&g.type ==172
  |none=>false)
 |_=>false)=true:=by kernel_rfl
def ccT:CcT prog where
 u:=az8
 up:=az9
 i6:=by
  obtain⟨i,c,a⟩:=gE.1 az6;exact⟨i,c,by simpa using a⟩
 i8:=by
  obtain⟨i,c,a⟩:=gE.1 az7;simp only[fd,mp,qH] at a;exact⟨i,c,a⟩
 f:=by
  have h:=aAa;generalize prog.underlying 174=q at h;cases q with
  |none=>cases h
  |some d=>
   cases d with
   |struct e=>
    dsimp only at h;cases b:e[0]? with
    |none=>rw[b] at h;cases h
    |some g=>
     rw[b] at h;simp only[fd,mp] at h;exact⟨e,g,rfl,b,h⟩
   |_=>cases h
def ccQ(β:Bool):CcT (ah β) where
 u:=(cJ prog _ 172).trans ccT.u
 up:=(cJ prog _ 187).trans ccT.up
 i6:=let⟨i,h,k⟩:=ccT.i6;⟨i,(jO prog _ 172).trans h,k⟩
 i8:=let⟨i,h,k⟩:=ccT.i8;⟨i,(jO prog _ 174).trans h,k⟩
 f:=let⟨a,g,h,k⟩:=ccT.f;⟨a,g,(cJ prog _ 174).trans h,k⟩
def WR.noV(h:WR ρ w w'){a : Addr}(f:AR ρ a A):NoV P w' A:=by
 obtain⟨d,o,s⟩:=f;obtain⟨x,j,i,b,c⟩:=h.obj d;refine⟨λs g=> ?_,λk=> ?_⟩
 .intro e;unfold viewAt at e;cases c<;>simp[World.shape?,b,shape,getObj,Sem.run] at e
 .unfold World.farLoad World.farStore;simp only[b];cases c<;>exact⟨λ_=>⟨_,rfl⟩,λ_ _=>⟨_,rfl⟩⟩
section
variable {β m:Bool} {fr:Frame} {xs base:List Frame} {ops:Array Oper} {i:Nat} {rest:List Nat} {k:List Item} {o:Oper} {w w2:World} {l2:List Frame} {es:Array Event}
def xt (H:fr.mode=.run) (E:fr.kind=.normal) (n:fr.roundOf=none) (D:fr.todo=.inRegion ops (i::rest)::k) (P:ops[i]?=some o) (L:o.guard=none)
  (a:stepG (ah β) m (Gl (fr::xs) base) w=.go (Gl l2 base) w2 es) (e:∀y j,l2=y::j->(y.mode=.run\/y.mode=.returning)/\y.kind=.normal) (C:l2≠[])
  (G:∀p l,(execOp fr.eval o).run (ah β) w=.ok p l->(∃v,p=.value v)\/p=.skip) :
  (∃v,(execOp fr.eval o).run (ah β) w=.ok (.value v) w2/\l2=fr.finish v::xs)\/((execOp fr.eval o).run (ah β) w=.ok .skip w2/\l2=fr.finish undef::xs):=by
 obtain⟨fn,b,I,t,V,U,T⟩:=fr;dsimp only at H E n D;subst H E n D;have O:∀y,Region.wanted o y=true:=λy=>by unfold Region.wanted;rw[L]
 have Q:stepG (ah β) m (Gl (⟨fn,b,.inRegion ops (i::rest)::k,t,.run,.normal,none⟩::xs) base) w =
   stepG.apply (ah β) true ⟨fn,b,.inRegion ops (i::rest)::k,t,.run,.normal,none⟩ (xs++base) none (execOp (Frame.eval ⟨fn,b,.inRegion ops (i::rest)::k,t,.run,.normal,none⟩) o) w:=by
  simp[Gl,stepG,stepG.exec,stepG.oper,Frame.oper?,P,O]
 rw[Q] at a;generalize execOp (Frame.eval ⟨fn,b,.inRegion ops (i::rest)::k,t,.run,.normal,none⟩) o=s at a G ⊢;have f:(CallKind.normal ==CallKind.early)=false:=rfl;cases x:s.runT (ah β) w #[] with
 |mk r N=>
  have d:s.run (ah β) w=r:=by rw[<-rh _ _ _ #[],x]
  cases r with
  |ok p l=>
   rcases G p l d with⟨v,rfl⟩|rfl
   .unfold stepG.apply at a;simp only[x,ph] at a;simp[GStep.after,f] at a;obtain⟨B,A, -⟩:=a;refine .inl ⟨v,by rw[d,A], ?_⟩;exact(np (base:=base) (by simp) C (by rw[<-B];rfl)).symm
   .unfold stepG.apply at a;simp only[x,ph] at a;simp[GStep.after,f] at a;obtain⟨B,A, -⟩:=a;refine .inr ⟨by rw[d,A], ?_⟩;exact(np (base:=base) (by simp) C (by rw[<-B];rfl)).symm
  |halt q l=>
   exfalso;obtain⟨y,j,rfl⟩:∃y j,l2=y::j:=by cases l2 with|nil=>exact absurd rfl C|cons y j=>exact⟨y,j,rfl⟩
   obtain⟨e,K⟩:=e y j rfl;unfold stepG.apply at a;simp only[x,ph] at a;cases q with
   |unsupported u=>
    cases u with
    |initOrder g=>
     have R:=(lQ β).ng.1;have S:=(lQ β).ng.2;simp[f,early,R,S,GStep.after] at a
    |_=>simp[GStep.after] at a
   |panic v=>simp[GStep.after,Gl] at a;obtain⟨⟨rfl, -⟩, -⟩:=a;rcases e with h|h<;>simp[Frame.raise] at h
   |goexit=>simp[GStep.after,Gl] at a;obtain⟨⟨rfl, -⟩, -⟩:=a;rcases e with h|h<;>simp[Frame.raise] at h
   |blocked=>simp[GStep.after,Gl] at a
   |waiting=>simp[GStep.after,Gl] at a
   |exit c=>simp[GStep.after] at a
   |stuck c=>simp[GStep.after] at a
   |throw J=>simp[GStep.after,endThrow,dieOf,Gl] at a
   |fatal J=>
    dsimp only at a;unfold endFatal at a;dsimp only at a;generalize Sem.run (ah β) _ l=z at a;cases z with
    |ok F M=>simp[GStep.after,dieOf,Gl] at a
    |halt F M=>cases F<;>simp[GStep.after] at a
end
structure gO (β:Bool) (R:List Frame->World->Prop) (c0:Cfg) (iq:Ren) (w0:World) (c:Cfg) (ρ:Ren) (l:List Frame) (w:World):Prop where
 later:c=c0\/im (ah β) c c0
 le:iq.Le ρ
 st:iz (ah β) ρ c.l l
 wr:WR ρ c.w w
 gl:GlR ρ
 will:jQ (ah β) R c
 kept:Kept iq ρ c0.w w0 c.w w
section
variable {β:Bool} {R:List Frame->World->Prop} {c0 c:Cfg} {iq ρ:Ren} {w0 w w2:World} {l l2:List Frame}
def iz.two(h:iz P ρ l l')(e:l'=x::y::Y):¬oX l:=λ⟨b,a,_⟩=>by
 have:=h.lone a e;cases this
def gO.ac9(h:gO β R c0 iq w0 c ρ l w)(m:Bool)(q:¬oX c.l) :
  ∃a d f b n,gO β R c0 iq w0 a d f b/\im (ah β) a c0/\ρ.Le d/\(∀base,stepG (ah β) m (Gl l base) w=.go (Gl f base) b n)/\aew (ah β) c a:=by
 obtain⟨a,d,f,b,n,j,i,p,g,s,t,r,u,o⟩:=aCr β h.gl m h.st h.wr q h.will;have k:im (ah β) a c0:=h.later.elim (λe=>e ▸ .single i) λx=>sX (.single i) x;exact⟨a,d,f,b,j,⟨.inr k,h.le.trans g,o,t,h.gl.mono g,p,h.kept.trans r⟩,k,g,s,i⟩
def gO.next(h:gO β R c0 iq w0 c ρ l w)(m:Bool)(e:l=x::y::Y) :
  ∃f b d a g,gO β R c0 iq w0 f b d a/\im (ah β) f c0/\ρ.Le b/\∀base,stepG (ah β) m (Gl l base) w=.go (Gl d base) a g:=
 let⟨f,b,d,a,g,n,i,j,k,_⟩:=h.ac9 m (h.st.two e);⟨f,b,d,a,g,n,i,j,k⟩
def gO.go(h:gO β R c0 iq w0 c ρ l w)(e:l=x::y::Y)(m:Bool){x2:Frame}{xs2:List Frame}(i:∀base,stepG (ah β) m (Gl l base) w=.go (Gl (x2::xs2) base) w2 es) :
  ∃b a,gO β R c0 iq w0 b a (x2::xs2) w2/\im (ah β) b c0/\ρ.Le a:=by
 obtain⟨b,a,n,r,t,d,f,g,o⟩:=h.next m e
 have:=o [];rw[i []] at this;injection this with j q u
 obtain⟨_,_,s,k,_,p⟩:=d.st.ne';have:x2::xs2=n:=np (base:=[]) (by simp) (by rw[p];simp) j;subst this q;exact⟨b,a,d,f,g⟩
def gO.no(h:gO β R c0 iq w0 c ρ l w)(e:l=x::y::Y)(m:Bool){o:Outcome}(b:stepG (ah β) m (Gl l []) w=.ended o w2):False:=by
 obtain⟨p,n,g,d,f,j,i,k,a⟩:=h.next m e
 have:=a [];rw[b] at this;cases this
abbrev FQ(f:FuncId)(T:Array Value)(k:List Item):Frame:=⟨f,T,k,[],.run,.normal,none⟩
abbrev FC(T:Array Value)(k:List Item):Frame:=FQ nCC T k
def iz.hdL   :iz P ρ l l'->∀{y a},l=y::a->(y.mode=.run\/y.mode=.returning)/\y.kind=.normal
 |.one hx _,_,_,e=>by cases e;exact⟨hx.mode.elim (λy=>.inl y.1) (λy=>.inr y.1),hx.kind.1⟩
 |.cons hx _,_,_,e=>by cases e;exact⟨hx.mode.elim (λy=>.inl y.1) (λy=>.inr y.1),hx.kind.1⟩
def gO.ao9 {T:Array Value}       (h:gO β R c0 iq w0 c ρ (FQ f T (.inRegion Z (i::rest)::k)::y::Y) w)
  (A:Z[i]?=some o) (X:o.guard=none) (r:aak gA gL o.op=false) (t:Tmp) (d:∀(e:Operand->Value) (w:World),e (.tmp t)=.tuple #[]->∀q S,(execOp e o).run (ah β) w ≠ .ok q S) :
  ∃x,VR ρ x (T.getD t undef)/\x ≠ .tuple #[]:=by
 obtain⟨c1,σ,l1,w1,es,F, -, -, -,hR⟩:=h.ac9 true (h.st.two rfl);obtain⟨E,a0,_,_,C,e2⟩:=h.st.ne';have I:=h.st;rw[C] at I;have G:=I.head;have N:VR ρ (E.eval (.tmp t)) (T.getD t undef):=G.env h.gl (.tmp t) rfl;refine⟨_,N,λp=> ?_⟩;obtain⟨x1,U,_,_,e3,_⟩:=F.st.ne';obtain⟨a1,a⟩:=hR.step;have a:=a [] c1.t λ_ _ _=>rfl;rw[C] at a;obtain⟨fn,P,D,ds,K,kd,V⟩:=E;obtain⟨L,O,J,Q,B,H,u⟩:=G;dsimp only at L O J Q B H u;obtain rfl:K=.run:=B.elim (·.1) λx=>by cases x.2
 obtain rfl:V=none:=by cases u;rfl
 cases J with
 |cons x hl=>
  cases x with
  |@inRegion g _ z l=>
   have M:i<g.size:=by rw[z.1];exact(dk.1 A).1
   have b:g[i]?=some o:=by
    obtain⟨s,b⟩:∃s,g[i]?=some s:=⟨_,fm M⟩;rcases z.2 i s o b A with⟨rfl,_⟩|⟨j,_⟩
    .exact b
    .rw[r] at j;cases j
   have hq:=xt (β:=β) (m:=true) (fr:=⟨fn,P,_,ds,.run,kd,none⟩) rfl H.1 rfl rfl b X a (λy Y e=>F.st.hdL e) (by rw[e3];simp) (λq W n=>absurd n (d _ _ p q W));rcases hq with⟨v,n,_⟩|⟨n,_⟩
   .exact d _ _ p _ _ n
   .exact d _ _ p _ _ n
def gO.op {T:Array Value}       (h:gO β R c0 iq w0 c ρ (FQ f T (.inRegion Z (i::rest)::k)::y::Y) w)
  (p:Z[i]?=some o) (s:o.guard=none) (u:∀m r,(execOp (FQ f T (.inRegion Z (i::rest)::k)).eval o).run (ah β) w=.ok m r->(∃v,m=.value v)\/m=.skip) :
  ∃v a j g,((execOp (FQ f T (.inRegion Z (i::rest)::k)).eval o).run (ah β) w=.ok (.value v) a\/((execOp (FQ f T (.inRegion Z (i::rest)::k)).eval o).run (ah β) w=.ok .skip a/\v=undef))/\
   gO β R c0 iq w0 j g (FQ f (match o.dst with|some d=>T.setIfInBounds d v|none=>T) (.inRegion Z rest::k)::y::Y) a/\ρ.Le g:=by
 obtain⟨j,g,D,a,C,b,A,q,t⟩:=h.next true rfl
 obtain⟨_,_,B,x,_,z⟩:=b.st.ne';have n:∀v,Frame.finish (FQ f T (.inRegion Z (i::rest)::k)) v=FQ f (match o.dst with|some d=>T.setIfInBounds d v|none=>T) (.inRegion Z rest::k):=λv=>by
  simp only[Frame.finish,p,qC];cases o.dst<;>rfl
 rcases xt (base:=[]) rfl rfl rfl rfl p s (t []) (λy Y e=>b.st.hd e) (by rw[z];simp) u with⟨v,l,rfl⟩|⟨l,rfl⟩
 .rw[n] at b;exact⟨v,a,j,g,.inl l,b,q⟩
 .rw[n] at b;exact⟨undef,a,j,g,.inr ⟨l,rfl⟩,b,q⟩
section
variable {T:Array Value} {k:List Item} {y:Frame} {ys:List Frame}
def gO.seq(h:gO β R c0 iq w0 c ρ (FC T (.code (.seq a b)::k)::y::ys) w):∃e d,gO β R c0 iq w0 e d (FC T (.code a :: .code b::k)::y::ys) w/\ρ.Le d:=by
 obtain⟨e,d,g, -,f⟩:=h.go rfl true (es:=#[]) (x2:=FC T (.code a :: .code b::k)) (xs2:=y::ys) (w2:=w) λbase=>by simp[Gl,stepG,stepG.exec]
 exact⟨e,d,g,f⟩
def gO.region{id:Nat}(h:gO β R c0 iq w0 c ρ (FC T (.code (.region id Z false)::k)::y::ys) w):∃b a,gO β R c0 iq w0 b a (FC T (.inRegion Z (List.range Z.size)::k)::y::ys) w/\ρ.Le a:=by
 obtain⟨b,a,e, -,d⟩:=h.go rfl true (es:=#[]) (x2:=FC T (.inRegion Z (List.range Z.size)::k)) (xs2:=y::ys) (w2:=w) λbase=>by simp[Gl,stepG,stepG.exec]
 exact⟨b,a,e,d⟩
def gO.iV(h:gO β R c0 iq w0 c ρ (FC T (.inRegion Z []::k)::y::ys) w):∃b a,gO β R c0 iq w0 b a (FC T k::y::ys) w/\ρ.Le a:=by
 obtain⟨b,a,d, -,e⟩:=h.go rfl true (es:=#[]) (x2:=FC T k) (xs2:=y::ys) (w2:=w) λbase=>by simp[Gl,stepG,stepG.exec]
 exact⟨b,a,d,e⟩
def gO.skip(h:gO β R c0 iq w0 c ρ (FC T (.code .skip::k)::y::ys) w):∃b a,gO β R c0 iq w0 b a (FC T k::y::ys) w/\ρ.Le a:=by
 obtain⟨b,a,d, -,e⟩:=h.go rfl true (es:=#[]) (x2:=FC T k) (xs2:=y::ys) (w2:=w) λbase=>by simp[Gl,stepG,stepG.exec]
 exact⟨b,a,d,e⟩
def gO.cond(f:T.getD t undef=.bool q)(h:gO β R c0 iq w0 c ρ (FC T (.code (.cond (.tmp t) a b)::k)::y::ys) w):∃e d,gO β R c0 iq w0 e d (FC T (.code (if q then a else b)::k)::y::ys) w/\ρ.Le d:=by
 have g:Frame.eval (FC T (.code (.cond (.tmp t) a b)::k)) (.tmp t)=.bool q:=f;obtain⟨e,d,j, -,i⟩:=h.go rfl true (es:=#[]) (x2:=FC T (.code (if q then a else b)::k)) (xs2:=y::ys) (w2:=w) λbase=>by simp[Gl,stepG,stepG.exec,g]
 exact⟨e,d,j,i⟩
def gO.ret(h:gO β R c0 iq w0 c ρ (FC T (.code .ret::k)::y::ys) w):∃d b,gO β R c0 iq w0 d b (y.finish (.tuple #[])::ys) w/\ρ.Le b/\im (ah β) d c0:=by
 obtain⟨d,b,l, -,g⟩:=h.go rfl true (es:=#[]) (x2:=⟨nCC,T,.code .ret::k,[],.returning,.normal,none⟩) (xs2:=y::ys) (w2:=w) λbase=>by simp[Gl,stepG,stepG.exec]
 have f:(ah β).funcs[nCC]?=some qCC:=acy β;have a:qCC.results=#[]:=rfl;obtain⟨e,n,o,i,m⟩:=l.go rfl true (es:=#[]) (x2:=y.finish (.tuple #[])) (xs2:=ys) (w2:=w) λbase=>by
  have j:(results qCC T).runT (ah β) w #[]=(.ok (.tuple #[]) w,#[]):=by
   simp[results,a,Sem.runT]
  simp only[Gl,stepG,unwind,f,j];simp[doReturn,GStep.after,seen]
 exact⟨e,n,o,g.trans m,i⟩
end
end
section
variable {β:Bool} {R:List Frame->World->Prop} {c0 c:Cfg} {iq ρ:Ren} {w0 w w2:World} {T:Array Value} {k:List Item} {y:Frame} {ys:List Frame}
def gO.noV(h:gO β R c0 iq w0 c ρ (FC T k::y::ys) w)(e:T.getD t undef=.pointer (some A))(b:∃x,VR ρ x (T.getD t undef)/\x ≠ .tuple #[]):(∃d,AR ρ d A)/\NoV (ah β) w A:=by
 obtain⟨x,b,f⟩:=b;rw[e] at b;cases b with
 |pointer a=>cases a with
  |some a=>exact⟨⟨_,a⟩,h.wr.noV a⟩
 |fH=>exact absurd rfl f
def aF{T:Array Value}{d t:Nat}(a:d<T.size):(T.setIfInBounds d v).getD t undef=if t=d then v else T.getD t undef:=by
 rw[gc,gc,pm];by_cases e:d=t
 .subst e;simp[a]
 .rw[be e,be (λx=>e x.symm)]
def eqG{x y:Operand} :eqGuard .eql 172 x y v (.pointer none)=Sem.pure ():=by
 unfold eqGuard;cases v<;>rfl
def gO.slice(h:gO β R c0 iq w0 c ρ (FC T (.inRegion oY (0::rest)::k)::y::ys) w) :
  ∃A e n q i,T.getD 0 undef=.pointer (some A)/\(∃x,AR ρ x A)/\w.shape? A.block=some (e,n)/\liesAt (ah β) (ah β).depth e (n / (ah β).cellsOf e) A.off 174 1=true/\gO β R c0 iq w0 q i (FC T (.inRegion oY rest::k)::y::ys) w/\ρ.Le i:=by
 have a:∀d g,(execOp (FC T (.inRegion oY (0::rest)::k)).eval (ij none (.call ⟨.builtin .unsafeSlice,#[.tmp 0,.const (.int .i64 1)],#[172,3]⟩) 0)).run (ah β) w=.ok d g->
   ∃v,(Builtin.unsafeSlice_ #[172,3] 0 #[T.getD 0 undef,.int .i64 1]).run (ah β) w=.ok v g/\d=.value v:=λd g b=>by
  have j:execOp (FC T (.inRegion oY (0::rest)::k)).eval (ij none (.call ⟨.builtin .unsafeSlice,#[.tmp 0,.const (.int .i64 1)],#[172,3]⟩) 0) =
    (Builtin.unsafeSlice_ #[172,3] 0 #[T.getD 0 undef,.int .i64 1]).bind λv=>Sem.pure (.value v):=by
   have p:Array.map (FC T (.inRegion oY (0::rest)::k)).eval #[.tmp 0,.const (.int .i64 1)]=#[T.getD 0 undef,.int .i64 1]:=by simp[Frame.eval]
   simp only[execOp,ij,resolve];rw[p];rfl
  rw[j] at b;obtain⟨v,z,f,l⟩:=dQ (s:=Builtin.unsafeSlice_ #[172,3] 0 #[T.getD 0 undef,.int .i64 1]) b;cases(show Result.ok (Next.value v) z=Result.ok d g from l);exact⟨v,f,rfl⟩
 obtain⟨v,B,q,i,m,f,l⟩:=h.op (o:=ij none (.call ⟨.builtin .unsafeSlice,#[.tmp 0,.const (.int .i64 1)],#[172,3]⟩) 0) rfl rfl λd g b=>.inl (let⟨v,_,e⟩:=a d g b;⟨v,e⟩);have G:∃u,(Builtin.unsafeSlice_ #[172,3] 0 #[T.getD 0 undef,.int .i64 1]).run (ah β) w=.ok u B:=by
  rcases m with b|⟨b, -⟩
  .obtain⟨u,f, -⟩:=a _ _ b;exact⟨u,f⟩
  .obtain⟨u,f, -⟩:=a _ _ b;exact⟨u,f⟩
 obtain⟨u,E⟩:=G;have r:=h.ao9 (o:=ij none (.call ⟨.builtin .unsafeSlice,#[.tmp 0,.const (.int .i64 1)],#[172,3]⟩) 0) rfl rfl rfl 0 λe w H d C b=>by
  have j:execOp e (ij none (.call ⟨.builtin .unsafeSlice,#[.tmp 0,.const (.int .i64 1)],#[172,3]⟩) 0)=(Builtin.unsafeSlice_ #[172,3] 0 #[.tuple #[],e (.const (.int .i64 1))]).bind λv=>Sem.pure (.value v):=by
   have p:Array.map e #[.tmp 0,.const (.int .i64 1)]=#[.tuple #[],e (.const (.int .i64 1))]:=by simp[H]
   simp only[execOp,ij,resolve];rw[p];rfl
  rw[j] at b;cases(show Result.halt _ _=Result.ok d C from b)
 obtain⟨rfl,A,e,n,t,D,F⟩:=arI (ccQ β) rfl (λA e=>(h.noV e r).2) E;exact⟨A,e,n,q,i,t,(h.noV t r).1,D,F,f,l⟩
def gO.field(h:gO β R c0 iq w0 c ρ (FC T (.inRegion Z (i::rest)::k)::y::ys) w)(l:Z[i]?=some (ij (some d) (.fieldAddr 174 (.tmp t) 0) 0))(e:T.getD t undef=.pointer (some A)) :
  ∃j g,gO β R c0 iq w0 j g (FC (T.setIfInBounds d (.pointer (some A))) (.inRegion Z rest::k)::y::ys) w/\ρ.Le g:=by
 have a:(execOp (FC T (.inRegion Z (i::rest)::k)).eval (ij (some d) (.fieldAddr 174 (.tmp t) 0) 0)).run (ah β) w=.ok (.value (.pointer (some A))) w:=by
  have:(execOp (FC T (.inRegion Z (i::rest)::k)).eval (ij (some d) (.fieldAddr 174 (.tmp t) 0) 0))=(Instr.fieldAt 174 (T.getD t undef) 0).bind λv=>Sem.pure (.value v):=rfl;rw[this,e,qJ,arJ (ccQ β)];rfl
 obtain⟨v,o,j,g,f,n,m⟩:=h.op l rfl λq p b=>by rw[a] at b;cases b;exact .inl ⟨_,rfl⟩
 rw[a] at f;rcases f with b|⟨b, -⟩
 .cases b;exact⟨j,g,n,m⟩
 .cases b
def gO.load(h:gO β R c0 iq w0 c ρ (FC T (.inRegion Z (i::rest)::k)::y::ys) w)(x:Z[i]?=some (ij (some d) (.load 172 (.tmp t)) 172))(e:T.getD t undef=.pointer (some A)) :
  ∃v r m,w.cell? A=some v/\gO β R c0 iq w0 r m (FC (T.setIfInBounds d v) (.inRegion Z rest::k)::y::ys) w/\ρ.Le m:=by
 have a:∀g j,(execOp (FC T (.inRegion Z (i::rest)::k)).eval (ij (some d) (.load 172 (.tmp t)) 172)).run (ah β) w=.ok g j->∃v,j=w/\w.cell? A=some v/\g=.value v:=λg j b=>by
  obtain⟨v,n,f,l⟩:=dQ (s:=Instr.loadAt 172 (T.getD t undef)) b;rw[e] at f;have z:=h.ao9 x rfl rfl t λe w B g D b=>by
   obtain⟨v,n,f,l⟩:=dQ (s:=Instr.loadAt 172 (e (.tmp t))) b;rw[B] at f;cases(show Result.halt _ _=Result.ok v n from f)
  obtain⟨rfl,p⟩:=auO (ccQ β) (h.noV e z).2 f;cases(show Result.ok (Next.value v) n=Result.ok g j from l);exact⟨v,rfl,p,rfl⟩
 obtain⟨v,C,r,m,o,f,l⟩:=h.op x rfl λg j b=>.inl (let⟨v,_,_,e⟩:=a g j b;⟨v,e⟩);rcases o with b|⟨b, -⟩
 .obtain⟨u,rfl,p,q⟩:=a _ _ b;cases q;exact⟨v,r,m,p,f,l⟩
 .obtain⟨u, -, -,q⟩:=a _ _ b;cases q
def gO.eql(h:gO β R c0 iq w0 c ρ (FC T (.inRegion Z (i::rest)::k)::y::ys) w)(A:Z[i]?=some (ij (some d) (.binOp .eql 172 (.tmp t) (.const (.pointer none)) 172) 4)) :
  ∃b x l,((T.getD t undef=.pointer none/\b=true)\/∃B,T.getD t undef=.pointer (some B)/\b=false)/\gO β R c0 iq w0 x l (FC (T.setIfInBounds d (.bool b)) (.inRegion Z rest::k)::y::ys) w/\ρ.Le l:=by
 have a:∀j g,(execOp (FC T (.inRegion Z (i::rest)::k)).eval (ij (some d) (.binOp .eql 172 (.tmp t) (.const (.pointer none)) 172) 4)).run (ah β) w=.ok j g->
   ∃b,g=w/\((T.getD t undef=.pointer none/\b=true)\/∃B,T.getD t undef=.pointer (some B)/\b=false)/\j=.value (.bool b):=λj g f=>by
  have:(execOp (FC T (.inRegion Z (i::rest)::k)).eval (ij (some d) (.binOp .eql 172 (.tmp t) (.const (.pointer none)) 172) 4))=((eqGuard .eql 172 (.tmp t) (.const (.pointer none)) (T.getD t undef) (.pointer none)).bind λ_=>binOp .eql 172 (T.getD t undef) (.pointer none)).bind λv=>Sem.pure (.value v):=rfl;rw[this,eqG] at f;obtain⟨v,z,r,m⟩:=dQ (s:=binOp .eql 172 (T.getD t undef) (.pointer none)) f;obtain⟨rfl,o⟩:=ayf (ccQ β) r;cases(show Result.ok (Next.value v) z=Result.ok j g from m);rcases o with⟨p,rfl⟩|⟨B,p,rfl⟩
  .exact⟨true,rfl,.inl ⟨p,rfl⟩,rfl⟩
  .exact⟨false,rfl,.inr ⟨B,p,rfl⟩,rfl⟩
 obtain⟨v,C,x,l,n,r,m⟩:=h.op A rfl λj g f=>.inl (let⟨b,_,_,e⟩:=a j g f;⟨_,e⟩);rcases n with f|⟨f, -⟩
 .obtain⟨u,rfl,o,q⟩:=a _ _ f;cases q;exact⟨u,x,l,o,r,m⟩
 .obtain⟨u, -, -,q⟩:=a _ _ f;cases q
def gO.store    {x:Operand} (h:gO β R c0 iq w0 c ρ (FC T (.inRegion Z (i::rest)::k)::y::ys) w) (r:Z[i]?=some (ij none (.store 172 (.tmp t) x) 0)) {u:Option Addr}
  (e:T.getD t undef=.pointer (some A)) (z:(FC T (.inRegion Z (i::rest)::k)).eval x=.pointer u) :
  ∃n l,w.frozen? A=false/\(∃v,w.cell? A=some v)/\gO β R c0 iq w0 n l (FC T (.inRegion Z rest::k)::y::ys) (w.setCell A (.pointer u))/\ρ.Le l:=by
 have a:∀d f,(execOp (FC T (.inRegion Z (i::rest)::k)).eval (ij none (.store 172 (.tmp t) x) 0)).run (ah β) w=.ok d f->f=w.setCell A (.pointer u)/\w.frozen? A=false/\(∃v,w.cell? A=some v)/\d=.skip:=λd f b=>by
  have:(execOp (FC T (.inRegion Z (i::rest)::k)).eval (ij none (.store 172 (.tmp t) x) 0))=(Instr.storeAt 172 (T.getD t undef) ((FC T (.inRegion Z (i::rest)::k)).eval x)).bind λ_=>Sem.pure .skip:=rfl;rw[this,e,z] at b;obtain⟨v,q,g,j⟩:=dQ (s:=Instr.storeAt 172 (.pointer (some A)) (.pointer u)) b;have B:=h.ao9 r rfl rfl t λe w D d F b=>by
   obtain⟨v,q,g,j⟩:=dQ (s:=Instr.storeAt 172 (e (.tmp t)) (e x)) b;rw[D] at g;cases(show Result.halt _ _=Result.ok v q from g)
  obtain⟨rfl,p,m⟩:=arK (ccQ β) (h.noV e B).2 g;cases(show Result.ok Next.skip _=Result.ok d f from j);exact⟨rfl,p,m,rfl⟩
 obtain⟨v,E,n,l,o,g,j⟩:=h.op r rfl λd f b=>.inr (a d f b).2.2.2;rcases o with b|⟨b, -⟩
 .obtain⟨-, -, -,C⟩:=a _ _ b;cases C
 .obtain⟨rfl,p,m, -⟩:=a _ _ b;exact⟨n,l,p,m,g,j⟩
end
abbrev T0C(a:Array Value):Array Value:=a++Array.replicate (20-a.size) undef
section
variable {β:Bool} {R:List Frame->World->Prop} {c0 c:Cfg} {iq ρ:Ren} {w0 w w2:World} {T:Array Value} {k:List Item} {y:Frame} {ys m:List Frame} {a a':Array Value}
def auP:Frame.enter (ah β) nCC a' .normal=FC (T0C a') [.code ni]:=by
 have a:(ah β).funcs[nCC]?=some qCC:=acy β;unfold Frame.enter;rw[a];rfl
def fX(e:W.heap[A.block]?=w.heap[A.block]?):W.cell? A=w.cell? A:=by
 unfold World.cell?;rw[e]
def wU{xs:Array Obj}{f:Obj->Obj}(h:∀o,xs[i]?=some o->f o=o):xs.modify i f=xs:=by
 apply sx;intro j;rw[pb];by_cases e:i=j
 .subst e;rw[dl rfl];cases a:xs[i]? with
  |none=>rfl
  |some o=>simp[h o a]
 .rw[be e]
def ahH{xs:Array Obj}{f g:Obj->Obj}(h:∀o,g (f o)=g o):(xs.modify i f).modify i g=xs.modify i g:=by
 apply sx;intro j;rw[pb,pb,pb];by_cases e:i=j
 .simp only[e,ph,Option.map_map]
  congr 1
  funext o
  exact h o
 .simp only[e,qB]
def ahI(h:w.cell? A=some v):w.setCell A v=w:=by
 unfold World.setCell;rw[wU];intro o b;unfold World.cell? at h;rw[b] at h;cases o with
 |cells c t z=>
  cases a:A.spot with
  |some s=>simp[a] at h
  |none=>
   simp[a] at h;simp only[ta,kw,qB]
   congr 1
   apply sx;intro j;rw[pm];by_cases e:A.off=j
   .subst e;rw[dl rfl,h];rw[dl (dk.1 h).1]
   .rw[be e]
 |_=>rfl
def afO   :(w.setCell A u).setCell A v=w.setCell A v:=by
 unfold World.setCell;dsimp only;rw[ahH];intro o;cases o with
 |cells c t z=>
  dsimp only;split
  .rfl
  .simp
 |_=>rfl
def auQ(S:cZ iq a a')(O:iz (ah β) iq m (y::ys))(hc:c0.l=Frame.enter (ah β) nCC a .normal::m)(hw:WR iq c0.w w0)(Y:GlR iq)(Z:jQ (ah β) R c0) :
  ∃A v e n g σ,(T0C a').getD 0 undef=.pointer (some A)/\w0.shape? A.block=some (e,n)/\liesAt (ah β) (ah β).depth e (n / (ah β).cellsOf e) A.off 174 1=true/\w0.cell? A=some v/\w0.frozen? A=false/\(v=.pointer none\/v=.pointer (some A))/\
   (∃z,AR iq z A)/\(∀E,iq.r E A.block->bD c0.w E->NoB c0.w E->False)/\gO β R c0 iq w0 g σ (y.finish (.tuple #[])::ys) (w0.setCell A (.pointer (some A)))/\im (ah β) g c0:=by
 have hz:20<=(T0C a').size:=by simp only[T0C,rX,sQ];omega
 have h:gO β R c0 iq w0 c0 iq (FC (T0C a') [.code ni]::y::ys) w0:=⟨.inl rfl,.refl _,by rw[hc,<-auP (β:=β)];exact .cons (aeS β S) O,hw,Y,Z,Kept.refl _ _ _⟩;generalize T0C a'=T at hz h ⊢;unfold ni at h;obtain⟨g,c,h, -⟩:=h.seq;obtain⟨g,c,h, -⟩:=h.region;have l:List.range oY.size=[0,1,2,3]:=rfl;rw[l] at h;obtain⟨A,e,n,U,p,D,⟨z,P⟩,x,G,h', -⟩:=h.slice;have C:∃z,AR iq z A:=by
  refine⟨z, ?_⟩;obtain⟨l,o,s⟩:=P;rename_i bl br;rcases h.kept.new l with r|⟨_,r⟩
  .exact .mk r o s
  .exfalso;dsimp only at x;simp only[World.shape?] at x;cases j:w0.heap[br]? with
   |none=>rw[j] at x;cases x
   |some q=>have:=(dk.1 j).1;omega
 replace h:=h';obtain⟨g,c,h, -⟩:=h.field rfl D;obtain⟨v,g,c,f,h, -⟩:=h.load (A:=A) rfl (by rw[aF (by omega)];rfl);obtain⟨b,g,c,j,h, -⟩:=h.eql rfl;obtain⟨g,c,h, -⟩:=h.iV;obtain⟨g,c,h, -⟩:=h.seq;have X:((T.setIfInBounds 4 (.pointer (some A))).setIfInBounds 5 v).getD 5 undef=v:=by rw[aF (by simp;omega)];rfl
 rw[X] at j;obtain⟨g,c,h, -⟩:=h.cond (q:=b) (by rw[aF (by simp;omega)];rfl);have k:∀{J:Array Value} {U:Cfg} {p:Ren} {w2:World},gO β R c0 iq w0 U p (FC J [.code (.seq (.region 1 aho false) .ret)]::y::ys) w2->J.getD 4 undef=.pointer (some A)->J.getD 0 undef=.pointer (some A)->
   ∃w i,w2.frozen? A=false/\gO β R c0 iq w0 w i (y.finish (.tuple #[])::ys) (w2.setCell A (.pointer (some A)))/\im (ah β) w c0:=λ{J U p w2} h g4 g0=>by
  obtain⟨g,c,h, -⟩:=h.seq;obtain⟨g,c,h, -⟩:=h.region;have l:List.range aho.size=[0]:=rfl;rw[l] at h;obtain⟨g,c,H, -,h, -⟩:=h.store (A:=A) (u:=some A) rfl g4 g0;obtain⟨g,c,h, -⟩:=h.iV;obtain⟨g,c,h, -,F⟩:=h.ret;exact⟨g,c,H,h,F⟩
 rcases j with⟨rfl,rfl⟩|⟨B,rfl,rfl⟩
 .simp only[ph] at h;obtain⟨g,c,h, -⟩:=h.skip;obtain⟨w,i,H,h,F⟩:=k h (by rw[aF (by simp;omega),be (by decide),aF (by simp;omega),be (by decide),aF (by omega),dl rfl]) (by rw[aF (by simp;omega),be (by decide),aF (by simp;omega),be (by decide),aF (by omega),be (by decide)];exact D);refine⟨A,_,e,n,w,i,D,x,G,f,H,.inl rfl,C,λE r L V=> ?_,h,F⟩;have:=(h.kept.still r L V).2;have W:(w0.setCell A (.pointer (some A))).cell? A=some (.pointer (some A)):=World.cell?_setCell_same _ _ _ f;rw[fX this,f] at W;cases W
 .simp only[qB,kw] at h;obtain⟨g,c,h, -⟩:=h.seq;obtain⟨g,c,h, -⟩:=h.region;have l:List.range akS.size=[0,1,2,3]:=rfl;rw[l] at h;obtain⟨g,c,h, -⟩:=h.field (A:=B) (t:=5) (d:=7) rfl (by rw[aF (by simp;omega),be (by decide)];exact X);obtain⟨g,c,N,⟨vB,a0⟩,h, -⟩:=h.store (A:=B) (u:=none) (t:=7) rfl (by rw[aF (by simp;omega)];rfl) rfl;have hk:=h.kept;obtain⟨u,g,c,I,h, -⟩:=h.load (A:=A) (t:=4) (d:=8) rfl (by rw[aF (by simp;omega),be (by decide),aF (by simp;omega),be (by decide),aF (by simp;omega),be (by decide),aF (by omega),dl rfl]);obtain⟨b,g,c,j,h, -⟩:=h.eql (t:=8) (d:=9) rfl;rw[aF (by simp;omega),dl rfl] at j;obtain⟨g,c,h, -⟩:=h.iV;obtain⟨g,c,h, -⟩:=h.cond (q:=b) (by rw[aF (by simp;omega)];rfl);rcases j with⟨rfl,rfl⟩|⟨B',rfl,rfl⟩
  .have Q:A=B:=by
    refine qA λK=> ?_;rw[tM _ _ _ _ (λe=>K e.symm),f] at I;cases I
   subst Q;simp only[ph] at h;obtain⟨g,c,h, -⟩:=h.skip;obtain⟨w,i,H,h,F⟩:=k h
    (by rw[aF (by simp;omega),be (by decide),aF (by simp;omega),be (by decide),aF (by simp;omega),be (by decide),aF (by simp;omega),be (by decide),aF (by simp;omega),be (by decide),aF (by omega),dl rfl])
    (by rw[aF (by simp;omega),be (by decide),aF (by simp;omega),be (by decide),aF (by simp;omega),be (by decide),aF (by simp;omega),be (by decide),aF (by simp;omega),be (by decide),aF (by omega),be (by decide)];exact D)
   have M:(w0.setCell A (.pointer none)).setCell A (.pointer (some A))=w0.setCell A (.pointer (some A)):=afO;rw[M] at h;refine⟨A,_,e,n,w,i,D,x,G,f,N,.inr rfl,C,λE r L V=> ?_,h,F⟩;have:=(hk.still r L V).2;rw[fX this,f] at I;cases I
  .exfalso;simp only[qB,kw] at h;exact h.no rfl true (o:=_) (w2:=w0.setCell B (.pointer none)) (by simp only[Gl,stepG,stepG.exec];rfl)
end
end
section
open Go.Conc Go.ConcN Go.RowKit Go.Lib
section
variable {P:Program} (T:CcT P) {w:World} {e:Operand->Value} {x y:Operand} {A:Addr} {v:Value} {dst:Option Tmp} {ty:TypeId} {pos:String} {af:Array Edge} {gd:Option (Nat×Bool)}
def auR:(execOp e ⟨dst,.move x,ty,pos,af,gd⟩).runT P w #[]=(.ok (.value (e x)) w,#[]):=rfl
def als(h:e x=.pointer (some A)):(execOp e ⟨dst,.nilCheck x,ty,pos,af,gd⟩).runT P w #[]=(.ok (.value (.pointer (some A))) w,#[]):=by
 simp only[execOp,h];rfl
include T
theorem aeT(h:e x=.pointer (some A)):(execOp e ⟨dst,.fieldAddr 174 x 0,ty,pos,af,gd⟩).runT P w #[]=(.ok (.value (.pointer (some A))) w,#[]):=by
 obtain⟨k,g,c,a,d,b⟩:=T.f;obtain⟨i,f,j⟩:=T.i6;simp[execOp,h,Instr.fieldAt,Instr.sureAddr,lw c,a,fieldPlace,sizeOf,typeInfo,b,f,j,d,Addr.add]
theorem anH(h:e x=.pointer (some A))(a:w.cell? A=some v):(execOp e ⟨dst,.load 172 x,ty,pos,af,gd⟩).runT P w #[]=(.ok (.value v) w,#[⟨.cell A,false,false⟩]):=by
 simp[execOp,h,Instr.loadAt,Instr.sureAddr,loadVar,isAgg,lw T.u,a]
theorem ayg{a:Option Addr}(h:e x=.pointer a)(f:e y=.pointer none):(execOp e ⟨dst,.binOp .eql 172 x y 172,ty,pos,af,gd⟩).runT P w #[]=(.ok (.value (.bool a.isNone)) w,#[]):=by
 have b:∀(d:Nat),(Op.equalIn (d+1) 172 (.pointer a) (.pointer none)).run P w=.ok a.isNone w:=λd=>by
  cases a<;>simp[Op.equalIn,lw T.u]
 have c:∀(d:Nat),(Op.equalIn (d+1) 172 (.pointer a) (.pointer none)).events P w #[]=#[]:=λd=>by
  cases a<;>simp[Op.equalIn,lw T.u]
 simp only[execOp,h,f,eqG,binOp];simp[Op.equal,Op.maxDepth,b 9999,c 9999]
theorem ayh(h:e x=.pointer (some A))(g:e y=.pointer (some A)):(execOp e ⟨dst,.binOp .neq 172 x y 172,ty,pos,af,gd⟩).runT P w #[]=(.ok (.value (.bool false)) w,#[]):=by
 obtain⟨i,a,j, -⟩:=T.i8;have b:∀(d:Nat),(Op.equalIn (d+1) 172 (.pointer (some A)) (.pointer (some A))).run P w=.ok true w:=λd=>by
  simp[Op.equalIn,lw T.u,sizeOf,typeInfo,a,run_sameAddr_same]
 have f:∀(d:Nat),(Op.equalIn (d+1) 172 (.pointer (some A)) (.pointer (some A))).events P w #[]=#[]:=λd=>by
  simp[Op.equalIn,lw T.u,sizeOf,typeInfo,a,j,sameAddr]
 have c:eqGuard .neq 172 x y (.pointer (some A)) (.pointer (some A))=Sem.pure ():=rfl;simp only[execOp,h,g,c,binOp];simp[Op.equal,Op.maxDepth,b 9999,f 9999]
theorem ayi(h:e x=.pointer (some A))(a:w.shape? A.block=some (X,n))(f:A.off<n):(execOp e ⟨dst,.convert 172 187 x,ty,pos,af,gd⟩).runT P w #[]=(.ok (.value (.pointer (some A))) w,#[]):=by
 obtain⟨i,b,d, -⟩:=T.i8;have c:¬n<=A.off:=by omega
 simp[execOp,h,convert,lw T.u,lw T.up,Conv.unsafePointer,Conv.seenAt,viewAt,cellsIn,a,sizeOf,typeInfo,b,d,c]
theorem arL(h:e x=.pointer (some A))(a:w.shape? A.block=some (X,n))(b:liesAt P P.depth X (n / P.cellsOf X) A.off 174 1=true):(execOp e ⟨dst,.convert 187 172 x,ty,pos,af,gd⟩).runT P w #[]=(.ok (.value (.pointer (some A))) w,#[]):=by
 obtain⟨i,c,d, -⟩:=T.i8;simp[execOp,h,convert,lw T.u,lw T.up,Conv.unsafePointer,Conv.seenAt,viewAt,a,variablesAt,b,sizeOf,typeInfo,c,d]
theorem arM{u:Option Addr}(h:e x=.pointer (some A))(d:e y=.pointer u)(g:w.cell? A=some v)(c:w.frozen? A=false):(execOp e ⟨dst,.store 172 x y,ty,pos,af,gd⟩).runT P w #[]=(.ok .skip (w.setCell A (.pointer u)),#[⟨.cell A,true,false⟩]):=by
 obtain⟨i,j,k⟩:=T.i6;have a:(Sem.store .plain A (.pointer u) (Sem.pure ())).runT P w #[]=(.ok () (w.setCell A (.pointer u)),#[⟨.cell A,true,false⟩]):=by
  unfold Sem.runT;simp only[g,c,kw,qB];rfl
 have f:(store A (.pointer u)).run P w=.ok () (w.setCell A (.pointer u)):=by
  rw[<-rh _ _ _ #[]];exact fk Prod.fst a
 have b:(store A (.pointer u)).events P w #[]=#[⟨.cell A,true,false⟩]:=fk Prod.snd a;simp[execOp,h,d,Instr.storeAt,Instr.sureAddr,storeVar,sizeOf,typeInfo,j,k,Value.cells,storeCells,Addr.add,f,b]
end
end
section
open Go.Conc Go.ConcN
abbrev nNE:FuncId:=177
def auS:f177.body.isNone=true:=by kernel_rfl
def ne_next:Extern.findNext f177=none:=by kernel_rfl
def auT:Extern.find f177=some Extern.AbiNoEscape.same:=by kernel_rfl
def afP{fn:Func}{s:Array Value->Sem Value}{args:Array Value}(c:P.funcs[f]?=some fn)(e:(fn.name == "runtime.NumGoroutine")=false)(g:fn.body.isNone=true)(j:Extern.findNext fn=none)(d:Extern.find fn=some s)(i:s args=Sem.pure v) :
  (callFunc f args).runT P w #[]=(.ok (.value v) w,#[⟨.mark (.extern f),false,true⟩]):=by
 unfold callFunc;have a:¬fn.name= "runtime.NumGoroutine" :=by simpa using e
 have b:fn.body=none:=by simpa using g
 simp[c,a,b,j,d,i]
section
variable {w:World} {e:Operand->Value} {x:Operand} {v:Value} {dst:Option Tmp} {ty:TypeId} {pos:String} {af:Array Edge} {gd:Option (Nat×Bool)} {ts:Array TypeId}
def arN(d:e (.func nNE)=.func (.func nNE) #[] #[]):(execOp e ⟨dst,.call ⟨.value (.func nNE),#[x],ts⟩,ty,pos,af,gd⟩).runT prog w #[]=(.ok (.value (e x)) w,#[⟨.mark (.extern nNE),false,true⟩]):=by
 have a:Array.map e #[x]=#[e x]:=by simp
 have b:execOp e ⟨dst,.call ⟨.value (.func nNE),#[x],ts⟩,ty,pos,af,gd⟩=callFunc nNE #[e x]:=by
  simp only[execOp,resolve,a,d];simp[Deferred.ofValue,invoke];try rfl
 rw[b];exact afP func177 (cH func177) auS ne_next auT rfl
def apa(a:e (.func nNE)=.func (.func nNE) #[] #[])(h:e x=v):(execOp e ⟨dst,.call ⟨.value (.func nNE),#[x],ts⟩,ty,pos,af,gd⟩).runT prog w #[]=(.ok (.value v) w,#[⟨.mark (.extern nNE),false,true⟩]):=by
 rw[arN a,h]
end
section
variable {P:Program} {m:Bool} {fr:Frame} {xs base:List Frame} {ops:Array Oper} {i:Nat} {rest:List Nat} {k:List Item} {o:Oper} {w w2:World} {es:Array Event} {v:Value}
def anI (f:fr.mode=.run) (g:fr.kind=.normal) (b:fr.roundOf=none) (e:fr.todo=.inRegion ops (i::rest)::k) (n:ops[i]?=some o) (q:o.guard=none)
  (p:(execOp fr.eval o).runT P w #[]=(.ok (.value v) w2,es)):stepG P m (Gl (fr::xs) base) w=.go (Gl (fr.finish v::xs) base) w2 (seen P fr.fn es):=by
 obtain⟨fn,a,j,d,u,t,s⟩:=fr;dsimp only at f g b e;subst f g b e;have l:∀y,Region.wanted o y=true:=λy=>by unfold Region.wanted;rw[q]
 have r:stepG P m (Gl (⟨fn,a,.inRegion ops (i::rest)::k,d,.run,.normal,none⟩::xs) base) w =
   stepG.apply P true ⟨fn,a,.inRegion ops (i::rest)::k,d,.run,.normal,none⟩ (xs++base) none (execOp (Frame.eval ⟨fn,a,.inRegion ops (i::rest)::k,d,.run,.normal,none⟩) o) w:=by
  simp[Gl,stepG,stepG.exec,stepG.oper,Frame.oper?,n,l]
 rw[r];unfold stepG.apply;simp only[p,ph];have c:(CallKind.normal ==CallKind.early)=false:=rfl;simp[GStep.after,c,Gl]
def aeU (f:fr.mode=.run) (g:fr.kind=.normal) (b:fr.roundOf=none) (e:fr.todo=.inRegion ops (i::rest)::k) (n:ops[i]?=some o) (q:o.guard=none)
  (p:(execOp fr.eval o).runT P w #[]=(.ok .skip w2,es)):stepG P m (Gl (fr::xs) base) w=.go (Gl (fr.finish undef::xs) base) w2 (seen P fr.fn es):=by
 obtain⟨fn,a,j,d,u,t,s⟩:=fr;dsimp only at f g b e;subst f g b e;have l:∀y,Region.wanted o y=true:=λy=>by unfold Region.wanted;rw[q]
 have r:stepG P m (Gl (⟨fn,a,.inRegion ops (i::rest)::k,d,.run,.normal,none⟩::xs) base) w =
   stepG.apply P true ⟨fn,a,.inRegion ops (i::rest)::k,d,.run,.normal,none⟩ (xs++base) none (execOp (Frame.eval ⟨fn,a,.inRegion ops (i::rest)::k,d,.run,.normal,none⟩) o) w:=by
  simp[Gl,stepG,stepG.exec,stepG.oper,Frame.oper?,n,l]
 rw[r];unfold stepG.apply;simp only[p,ph];have c:(CallKind.normal ==CallKind.early)=false:=rfl;simp[GStep.after,c,Gl]
end
section
variable {P:Program} {main:Bool} {Rl:aq->World->World->Prop} {Gr:aq->aq->World->World->Array Event->Prop} {St:aq->Goroutine->World->Prop} {S Rr:aq} {w0:World}
structure Cmp (Rl:aq->World->World->Prop) (Gr:aq->aq->World->World->Array Event->Prop) (Rr:aq):Prop where
 fN:∀S w,Rl S w w
 tr:∀S a b c,Rl S a b->Rl S b c->Rl S a c
 rl:∀S w w1,Rl S w w1->(∀b,S b\/Rr b->w1.heap[b]?=w.heap[b]?)/\w.heap.size<=w1.heap.size/\w1.ou=w.ou
 gr:∀S w w' es,(∀b,b<w.heap.size->¬S b->w'.heap[b]?=w.heap[b]?)->w.heap.size<=w'.heap.size->w'.ou=w.ou->(∀e∈es,mK (λb=>S b\/(w.heap.size<=b/\b<w'.heap.size)) Rr w'.heap.size e)->
   Gr S (λb=>S b\/(w.heap.size<=b/\b<w'.heap.size)) w w' es
def Cmp.same(C:Cmp Rl Gr Rr)(c:∀b,b<w.heap.size->¬S b->w'.heap[b]?=w.heap[b]?)(a:w'.heap.size=w.heap.size)(d:w'.ou=w.ou)(f:∀e∈es,mK S Rr w.heap.size e):Gr S S w w' es:=by
 have e:(λb=>S b\/(w.heap.size<=b/\b<w'.heap.size))=S:=by
  funext b
  rw[a];exact propext ⟨λh=>h.elim id λh=>absurd h.1 (by omega),.inl⟩
 have:=C.gr S w w' es c (mt a.symm) d (by rw[e,a];exact f);rw[e] at this;exact this
def bE.still (C:Cmp Rl Gr Rr) {fr:Frame} {base l2 : List Frame} {es:World->Array Event} (f:∀w,Rl S w0 w->stepG P main (Gl (fr::xs) base) w=.go (Gl l2 base) w (es w)) (d:∀w,Rl S w0 w->∀e∈es w,mK S Rr w.heap.size e)
  (g:∀w,Rl S w0 w->bE P main Rl Gr St S (Gl l2 base) w):∀w,Rl S w0 w->bE P main Rl Gr St S (Gl (fr::xs) base) w:=λw a=>
 .step rfl λb c=>⟨_,_,_,S,f b (C.tr _ _ _ _ a c),C.same (λ_ _ _=>rfl) rfl rfl (d b (C.tr _ _ _ _ a c)),g b (C.tr _ _ _ _ a c)⟩
variable {f:FuncId} {T:Array Value} {k:List Item} {xs base:List Frame}
def eB(C:Cmp Rl Gr Rr)(c:∀w,Rl S w0 w->bE P main Rl Gr St S (Gl (FQ f T (.code a :: .code b::k)::xs) base) w):∀w,Rl S w0 w->bE P main Rl Gr St S (Gl (FQ f T (.code (.seq a b)::k)::xs) base) w:=
 bE.still C (es:=λ_=>#[]) (λw _=>by simp[Gl,stepG,stepG.exec]) (λ_ _ e h=>by cases(by simpa using h:False)) c
def fQ(C:Cmp Rl Gr Rr){id:Nat}{l:List Nat}(a:List.range Z.size=l)(b:∀w,Rl S w0 w->bE P main Rl Gr St S (Gl (FQ f T (.inRegion Z l::k)::xs) base) w):∀w,Rl S w0 w->bE P main Rl Gr St S (Gl (FQ f T (.code (.region id Z false)::k)::xs) base) w:=
 bE.still C (es:=λ_=>#[]) (λw _=>by subst a;simp[Gl,stepG,stepG.exec]) (λ_ _ e h=>by cases(by simpa using h:False)) b
def gV(C:Cmp Rl Gr Rr)(a:∀w,Rl S w0 w->bE P main Rl Gr St S (Gl (FQ f T k::xs) base) w):∀w,Rl S w0 w->bE P main Rl Gr St S (Gl (FQ f T (.inRegion Z []::k)::xs) base) w:=
 bE.still C (es:=λ_=>#[]) (λw _=>by simp[Gl,stepG,stepG.exec]) (λ_ _ e h=>by cases(by simpa using h:False)) a
def anJ(C:Cmp Rl Gr Rr)(a:∀w,Rl S w0 w->bE P main Rl Gr St S (Gl (FQ f T k::xs) base) w):∀w,Rl S w0 w->bE P main Rl Gr St S (Gl (FQ f T (.code .skip::k)::xs) base) w:=
 bE.still C (es:=λ_=>#[]) (λw _=>by simp[Gl,stepG,stepG.exec]) (λ_ _ e h=>by cases(by simpa using h:False)) a
def abR(C:Cmp Rl Gr Rr)(c:T.getD t undef=.bool q)(g:∀w,Rl S w0 w->bE P main Rl Gr St S (Gl (FQ f T (.code (if q then a else b)::k)::xs) base) w):∀w,Rl S w0 w->bE P main Rl Gr St S (Gl (FQ f T (.code (.cond (.tmp t) a b)::k)::xs) base) w:=
 have d:Frame.eval (FQ f T (.code (.cond (.tmp t) a b)::k)) (.tmp t)=.bool q:=c
 bE.still C (es:=λ_=>#[]) (λw _=>by simp[Gl,stepG,stepG.exec,d]) (λ_ _ e h=>by cases(by simpa using h:False)) g
def aAc (C:Cmp Rl Gr Rr)       (a:Z[i]?=some o) (l:o.guard=none) (b:o.dst=some d)
  (j:∀w,Rl S w0 w->(execOp (FQ f T (.inRegion Z (i::rest)::k)).eval o).runT P w #[]=(.ok (.value v) w,es)) (g:∀w,Rl S w0 w->∀e∈seen P f es,mK S Rr w.heap.size e)
  (m:∀w,Rl S w0 w->bE P main Rl Gr St S (Gl (FQ f (T.setIfInBounds d v) (.inRegion Z rest::k)::xs) base) w):∀w,Rl S w0 w->bE P main Rl Gr St S (Gl (FQ f T (.inRegion Z (i::rest)::k)::xs) base) w:=
 bE.still C (l2:=FQ f (T.setIfInBounds d v) (.inRegion Z rest::k)::xs) (es:=λ_=>seen P f es) (λw c=>by
  rw[anI rfl rfl rfl rfl a l (j w c)];have:Frame.finish (FQ f T (.inRegion Z (i::rest)::k)) v=FQ f (T.setIfInBounds d v) (.inRegion Z rest::k):=by
   simp only[Frame.finish,a,qC,b]
  rw[this]) g m
def ajb(C:Cmp Rl Gr Rr){fn:Func}(b:P.funcs[f]?=some fn)(a:fn.results=#[])(d:∀w,Rl S w0 w->bE P main Rl Gr St S (Gl (y.finish (.tuple #[])::Y) base) w):∀w,Rl S w0 w->bE P main Rl Gr St S (Gl (FQ f T []::y::Y) base) w:=
 bE.still C (l2:=⟨f,T,[],[],.returning,.normal,none⟩::y::Y) (es:=λ_=>#[]) (λw _=>by simp[Gl,stepG,stepG.exec]) (λ_ _ e h=>by cases(by simpa using h:False))
  (bE.still C (es:=λ_=>#[]) (λw _=>by
   have c:(results fn T).runT P w #[]=(.ok (.tuple #[]) w,#[]):=by simp[results,a]
   simp only[Gl,stepG,unwind,b,c];simp[doReturn,GStep.after,seen]) (λ_ _ e h=>by cases(by simpa using h:False)) d)
def aeV(C:Cmp Rl Gr Rr){id:Nat}(b:∀w,Rl S w0 w->bE P main Rl Gr St S (Gl (FQ f T (.code a :: .inBlock id::k)::xs) base) w):∀w,Rl S w0 w->bE P main Rl Gr St S (Gl (FQ f T (.code (.block id a)::k)::xs) base) w:=
 bE.still C (es:=λ_=>#[]) (λw _=>by simp[Gl,stepG,stepG.exec]) (λ_ _ e h=>by cases(by simpa using h:False)) b
def anK(C:Cmp Rl Gr Rr)(b:∀w,Rl S w0 w->bE P main Rl Gr St S (Gl (FQ f T (.code a :: .inLoop a::k)::xs) base) w):∀w,Rl S w0 w->bE P main Rl Gr St S (Gl (FQ f T (.code (.loop a)::k)::xs) base) w:=
 bE.still C (es:=λ_=>#[]) (λw _=>by simp[Gl,stepG,stepG.exec]) (λ_ _ e h=>by cases(by simpa using h:False)) b
def arO(C:Cmp Rl Gr Rr)(b:∀w,Rl S w0 w->bE P main Rl Gr St S (Gl (FQ f T (.code a :: .inLoop a::k)::xs) base) w):∀w,Rl S w0 w->bE P main Rl Gr St S (Gl (FQ f T (.inLoop a::k)::xs) base) w:=
 bE.still C (es:=λ_=>#[]) (λw _=>by simp[Gl,stepG,stepG.exec]) (λ_ _ e h=>by cases(by simpa using h:False)) b
def ajc(C:Cmp Rl Gr Rr){id:Nat}(a:∀w,Rl S w0 w->bE P main Rl Gr St S (Gl (FQ f T k::xs) base) w):∀w,Rl S w0 w->bE P main Rl Gr St S (Gl (FQ f T (.inBlock id::k)::xs) base) w:=
 bE.still C (es:=λ_=>#[]) (λw _=>by simp[Gl,stepG,stepG.exec]) (λ_ _ e h=>by cases(by simpa using h:False)) a
def anL(C:Cmp Rl Gr Rr){id:Nat}(a:exitTo id k=some k2)(b:∀w,Rl S w0 w->bE P main Rl Gr St S (Gl (FQ f T k2::xs) base) w):∀w,Rl S w0 w->bE P main Rl Gr St S (Gl (FQ f T (.code (.exit id)::k)::xs) base) w:=
 bE.still C (es:=λ_=>#[]) (λw _=>by simp[Gl,stepG,stepG.exec,a]) (λ_ _ e h=>by cases(by simpa using h:False)) b
end
section
variable {P:Program} {w:World} {e:Operand->Value} {x:Operand} {v:Value} {dst:Option Tmp} {ty:TypeId} {pos:String} {af:Array Edge} {gd:Option (Nat×Bool)}
def fg(h:e x=v):(execOp e ⟨dst,.move x,ty,pos,af,gd⟩).runT P w #[]=(.ok (.value v) w,#[]):=by rw[auR,h]
end
section
variable {P:Program} {main:Bool} {Rl:aq->World->World->Prop} {Gr:aq->aq->World->World->Array Event->Prop} {St:aq->Goroutine->World->Prop} {S Rr:aq} {w0:World}
def bg(B:Nat):∀e∈seen P f #[],mK S Rr B e:=λe a=>by cases(by simpa using sT a:False)
def abS{wr:Bool}(d:S A.block)(g:A.block<B):∀e∈seen P f #[⟨.cell A,wr,false⟩],mK S Rr B e:=λe c=>by
 have h:=sT c;simp only[sd,mc,rA,tQ] at h;subst h;refine⟨λx a=>.inl ?_,λm b=>(by cases b),g⟩;simp[MemAct.ofEvent,MemAct.touch?] at a;rw[<-a];exact d
def ayj{g : FuncId} :∀e∈seen P f #[⟨.mark (.extern g),false,true⟩],mK S Rr B e:=λe b=>by
 have h:=sT b;simp only[sd,mc,rA,tQ] at h;subst h;refine⟨λx c=> ?_,λm a=>.inl ⟨g,by cases a;rfl⟩,trivial⟩;simp[MemAct.ofEvent,MemAct.touch?] at c
def aeW(C:Cmp Rl Gr Rr)(a:S A.block)(h:Rl S w0 w):w.cell? A=w0.cell? A/\w.frozen? A=w0.frozen? A/\w.shape? A.block=w0.shape? A.block/\w0.heap.size<=w.heap.size:=by
 obtain⟨b,c, -⟩:=C.rl _ _ _ h;have e:=b A.block (.inl a);refine⟨fX e, ?_, ?_,c⟩
 .unfold World.frozen?;rw[e]
 .unfold World.shape?;rw[e]
def aY(w:World)(A:Addr)(v:Value){b:Nat}(h:A.block≠b):(w.setCell A v).heap[b]?=w.heap[b]?:=by
 unfold World.setCell;simp only[pb,be h]
def aeX (C:Cmp Rl Gr Rr) {T:Array Value} {base : List Frame}       (g:Z[i]?=some o) (n:o.guard=none) (j:o.dst=none)
  (m:∀w,Rl S w0 w->(execOp (FQ f T (.inRegion Z (i::rest)::k)).eval o).runT P w #[]=(.ok .skip (w.setCell A u),es)) (s:S A.block) (r:∀w,Rl S w0 w->∀e∈seen P f es,mK S Rr w.heap.size e)
  (q:∀w,Rl S w0 w->∀a,Rl S (w.setCell A u) a->bE P main Rl Gr St S (Gl (FQ f T (.inRegion Z rest::k)::xs) base) a):∀w,Rl S w0 w->bE P main Rl Gr St S (Gl (FQ f T (.inRegion Z (i::rest)::k)::xs) base) w:=λw l=>by
 refine .step rfl λa d=> ?_;have c:=C.tr _ _ _ _ l d;refine⟨_,_,_,S,aeU rfl rfl rfl rfl g n (m a c),C.same (λb _ p=>aY _ _ _ (λe=>p (e▸s))) (dj _ _ _) rfl (r a c), ?_⟩;have:Frame.finish (FQ f T (.inRegion Z (i::rest)::k)) undef=FQ f T (.inRegion Z rest::k):=by
  simp only[Frame.finish,g,qC,j]
 rw[this];exact q a c _ (C.fN _ _)
def bJ (C:Cmp Rl Gr Rr) {T:Array Value} {base : List Frame}       (b:d<T.size) (c:Z[i]?=some o) (l:o.guard=none) (a:o.dst=some d)
  (g:∀w,Rl S w0 w->(execOp (FQ f T (.inRegion Z (i::rest)::k)).eval o).runT P w #[]=(.ok (.value v) w,es)) (n:∀w,Rl S w0 w->∀e∈seen P f es,mK S Rr w.heap.size e)
  (m:∀T':Array Value,T'.size=T.size->T'.getD d undef=v->(∀t,t≠d->T'.getD t undef=T.getD t undef)->∀w,Rl S w0 w->bE P main Rl Gr St S (Gl (FQ f T' (.inRegion Z rest::k)::xs) base) w):∀w,Rl S w0 w->bE P main Rl Gr St S (Gl (FQ f T (.inRegion Z (i::rest)::k)::xs) base) w:=
 aAc C c l a g n (m _ (by simp) (by rw[aF b,dl rfl]) λt j=>by rw[aF b,be j])
def arP:Code->Code
 |.seq _ (.cond _ a _)=>a
 |c=>c
def arQ:Code->Code
 |.seq _ (.cond _ _ b)=>b
 |c=>c
def aAd(C:Cmp Rl Gr Rr){T:Array Value}{base : List Frame}(c:20<=T.size)(e:T.getD 0 undef=.pointer (some A))(p:S A.block)(D:A.block<w0.heap.size)(s:w0.shape? A.block=some (X,n))(x:A.off<n)(z:liesAt prog prog.depth X (n / prog.cellsOf X) A.off 174 1=true)(E:w0.cell? A=some (.pointer none))(t:w0.frozen? A=false)(B:∀w,Rl S w0 w->∀r,Rl S (w.setCell A (.pointer (some A))) r->bE prog main Rl Gr St S (Gl (y.finish (.tuple #[])::Y) base) r) :
  ∀w,Rl S w0 w->bE prog main Rl Gr St S (Gl (FC T [.code (arP (f158.body.getD .skip))]::y::Y) base) w:=by
 have F:=λw (h:Rl S w0 w)=>aeW (A:=A) C p h;simp only[f158,qn,arP];refine fQ C (l:=[0,1,2,3,4,5,6,7]) rfl ?_;refine bJ C (d:=7) (v:=.pointer (some A)) (es:=#[]) (aE (by decide) c) rfl rfl rfl (λw b=>fg e) (λw b=>bg _) ?_;intro T a g o;replace c:=bd c (mt a.symm);replace e:=(o 0 (by decide)).trans e;refine bJ C (d:=8) (v:=.pointer (some A)) (es:=#[]) (aE (by decide) c) rfl rfl rfl (λw b=>fg e) (λw b=>bg _) ?_;intro T a j o;replace c:=bd c (mt a.symm);replace e:=(o 0 (by decide)).trans e;replace g:=(o 7 (by decide)).trans g;refine bJ C (d:=9) (v:=.pointer (some A)) (es:=#[]) (aE (by decide) c) rfl rfl rfl (λw b=>ayi ccT j ((F w b).2.2.1.trans s) x) (λw b=>bg _) ?_;intro T a k o;replace c:=bd c (mt a.symm);replace e:=(o 0 (by decide)).trans e;replace g:=(o 7 (by decide)).trans g;replace j:=(o 8 (by decide)).trans j;refine bJ C (d:=10) (v:=.pointer (some A)) (aE (by decide) c) rfl rfl rfl (λw b=>apa rfl k) (λw b=>ayj) ?_;intro T a f o;replace c:=bd c (mt a.symm);replace e:=(o 0 (by decide)).trans e;replace g:=(o 7 (by decide)).trans g;replace j:=(o 8 (by decide)).trans j;replace k:=(o 9 (by decide)).trans k;refine bJ C (d:=11) (v:=.pointer (some A)) (es:=#[]) (aE (by decide) c) rfl rfl rfl (λw b=>arL ccT f ((F w b).2.2.1.trans s) z) (λw b=>bg _) ?_;intro T a i o;replace c:=bd c (mt a.symm);replace e:=(o 0 (by decide)).trans e;replace g:=(o 7 (by decide)).trans g;replace j:=(o 8 (by decide)).trans j;replace k:=(o 9 (by decide)).trans k;replace f:=(o 10 (by decide)).trans f;refine bJ C (d:=12) (v:=.pointer (some A)) (es:=#[]) (aE (by decide) c) rfl rfl rfl (λw b=>als g) (λw b=>bg _) ?_;intro T a m o;replace c:=bd c (mt a.symm);replace e:=(o 0 (by decide)).trans e;replace g:=(o 7 (by decide)).trans g;replace j:=(o 8 (by decide)).trans j;replace k:=(o 9 (by decide)).trans k;replace f:=(o 10 (by decide)).trans f;replace i:=(o 11 (by decide)).trans i;refine bJ C (d:=13) (v:=.pointer (some A)) (es:=#[]) (aE (by decide) c) rfl rfl rfl (λw b=>aeT ccT m) (λw b=>bg _) ?_;intro T a q o;replace c:=bd c (mt a.symm);replace e:=(o 0 (by decide)).trans e;replace g:=(o 7 (by decide)).trans g;replace j:=(o 8 (by decide)).trans j;replace k:=(o 9 (by decide)).trans k;replace f:=(o 10 (by decide)).trans f;replace i:=(o 11 (by decide)).trans i;replace m:=(o 12 (by decide)).trans m;refine aeX C (A:=A) (u:=.pointer (some A)) rfl rfl rfl (λw b=>arM ccT (A:=A) (u:=some A) q i ((F w b).1.trans E) ((F w b).2.1.trans t)) p (λw b=>abS p (aE D (F w b).2.2.2)) ?_;intro w b;exact gV C (ajb C func158 rfl (B w b))
def aAe(C:Cmp Rl Gr Rr){T:Array Value}{base : List Frame}(e:20<=T.size)(i:T.getD 0 undef=.pointer (some A))(m:S A.block)(t:A.block<w0.heap.size)(r:w0.cell? A=some (.pointer (some A)))(s:∀w,Rl S w0 w->∀p,Rl S (w.setCell A (.pointer (some A))) p->bE prog main Rl Gr St S (Gl (y.finish (.tuple #[])::Y) base) p) :
  ∀w,Rl S w0 w->bE prog main Rl Gr St S (Gl (FC T [.code (arQ (f158.body.getD .skip))]::y::Y) base) w:=by
 have F:=λw (h:Rl S w0 w)=>aeW (A:=A) C m h;simp only[f158,qn,arQ];refine eB C ?_;refine fQ C (l:=[0,1,2,3,4,5]) rfl ?_;refine bJ C (d:=14) (v:=.pointer (some A)) (es:=#[]) (aE (by decide) e) rfl rfl rfl (λw f=>fg i) (λw f=>bg _) ?_;intro T a b o;replace e:=bd e (mt a.symm);replace i:=(o 0 (by decide)).trans i;refine bJ C (d:=15) (v:=.pointer (some A)) (es:=#[]) (aE (by decide) e) rfl rfl rfl (λw f=>als b) (λw f=>bg _) ?_;intro T a c o;replace e:=bd e (mt a.symm);replace i:=(o 0 (by decide)).trans i;replace b:=(o 14 (by decide)).trans b;refine bJ C (d:=16) (v:=.pointer (some A)) (es:=#[]) (aE (by decide) e) rfl rfl rfl (λw f=>aeT ccT c) (λw f=>bg _) ?_;intro T a g o;replace e:=bd e (mt a.symm);replace i:=(o 0 (by decide)).trans i;replace b:=(o 14 (by decide)).trans b;replace c:=(o 15 (by decide)).trans c;refine bJ C (d:=17) (v:=.pointer (some A)) (aE (by decide) e) rfl rfl rfl (λw f=>anH ccT g ((F w f).1.trans r)) (λw f=>abS m (aE t (F w f).2.2.2)) ?_;intro T a j o;replace e:=bd e (mt a.symm);replace i:=(o 0 (by decide)).trans i;replace b:=(o 14 (by decide)).trans b;replace c:=(o 15 (by decide)).trans c;replace g:=(o 16 (by decide)).trans g;refine bJ C (d:=18) (v:=.pointer (some A)) (es:=#[]) (aE (by decide) e) rfl rfl rfl (λw f=>fg i) (λw f=>bg _) ?_;intro T a k o;replace e:=bd e (mt a.symm);replace i:=(o 0 (by decide)).trans i;replace b:=(o 14 (by decide)).trans b;replace c:=(o 15 (by decide)).trans c;replace g:=(o 16 (by decide)).trans g;replace j:=(o 17 (by decide)).trans j;refine bJ C (d:=19) (v:=.bool false) (es:=#[]) (aE (by decide) e) rfl rfl rfl (λw f=>ayh ccT (A:=A) j k) (λw f=>bg _) ?_;intro T a n o;replace e:=bd e (mt a.symm);replace i:=(o 0 (by decide)).trans i;replace b:=(o 14 (by decide)).trans b;replace c:=(o 15 (by decide)).trans c;replace g:=(o 16 (by decide)).trans g;replace j:=(o 17 (by decide)).trans j;replace k:=(o 18 (by decide)).trans k;refine gV C ?_;refine abR C (q:=false) n ?_;simp only[qB,kw];refine anJ C ?_;refine ajb C func158 rfl ?_;intro w f;refine s w f w ?_;rw[ahI ((F w f).1.trans r)];exact C.fN _ _
def arR(C:Cmp Rl Gr Rr){T:Array Value}{base : List Frame}(c:20<=T.size)(g:T.getD 0 undef=.pointer (some A))(j:S A.block)(t:A.block<w0.heap.size)(K:w0.shape? A.block=some (X,n))(H:A.off<n)(I:liesAt prog prog.depth X (n / prog.cellsOf X) A.off 174 1=true)(u:w0.cell? A=some v)(G:w0.frozen? A=false)(E:v=.pointer none\/v=.pointer (some A))(B:∀w,Rl S w0 w->∀z,Rl S (w.setCell A (.pointer (some A))) z->bE prog main Rl Gr St S (Gl (y.finish (.tuple #[])::Y) base) z) :
  ∀w,Rl S w0 w->bE prog main Rl Gr St S (Gl (FC T [.code (f158.body.getD .skip)]::y::Y) base) w:=by
 have F:=λw (h:Rl S w0 w)=>aeW (A:=A) C j h;obtain⟨a,rfl⟩:∃a,v=.pointer a:=E.elim (λe=>⟨_,e⟩) λe=>⟨_,e⟩;have x:=λ(p:Array Value) (b:20<=p.size) (f:p.getD 0 undef=.pointer (some A)) (k:w0.cell? A=some (.pointer none))=>aAd (T:=p) C b f j t K H I k G B
 have D:=λ(p:Array Value) (b:20<=p.size) (f:p.getD 0 undef=.pointer (some A)) (k:w0.cell? A=some (.pointer (some A)))=>aAe (T:=p) C b f j t k B
 simp only[f158,qn,arP,arQ] at x D ⊢;refine eB C ?_;refine fQ C (l:=[0,1,2,3,4]) rfl ?_;refine bJ C (d:=2) (v:=.pointer (some A)) (es:=#[]) (aE (by decide) c) rfl rfl rfl (λw i=>fg g) (λw i=>bg _) ?_;intro T b f o;replace c:=bd c (mt b.symm);replace g:=(o 0 (by decide)).trans g;refine bJ C (d:=3) (v:=.pointer (some A)) (es:=#[]) (aE (by decide) c) rfl rfl rfl (λw i=>als f) (λw i=>bg _) ?_;intro T b m o;replace c:=bd c (mt b.symm);replace g:=(o 0 (by decide)).trans g;replace f:=(o 2 (by decide)).trans f;refine bJ C (d:=4) (v:=.pointer (some A)) (es:=#[]) (aE (by decide) c) rfl rfl rfl (λw i=>aeT ccT m) (λw i=>bg _) ?_;intro T b r o;replace c:=bd c (mt b.symm);replace g:=(o 0 (by decide)).trans g;replace f:=(o 2 (by decide)).trans f;replace m:=(o 3 (by decide)).trans m;refine bJ C (d:=5) (v:=.pointer a) (aE (by decide) c) rfl rfl rfl (λw i=>anH ccT r ((F w i).1.trans u)) (λw i=>abS j (aE t (F w i).2.2.2)) ?_;intro T b s o;replace c:=bd c (mt b.symm);replace g:=(o 0 (by decide)).trans g;replace f:=(o 2 (by decide)).trans f;replace m:=(o 3 (by decide)).trans m;replace r:=(o 4 (by decide)).trans r;refine bJ C (d:=6) (v:=.bool a.isNone) (aE (by decide) c) rfl rfl rfl (λw i=>ayg ccT (a:=a) s rfl) (λw i=>bg _) ?_;intro T b J o;replace c:=bd c (mt b.symm);replace g:=(o 0 (by decide)).trans g;replace f:=(o 2 (by decide)).trans f;replace m:=(o 3 (by decide)).trans m;replace r:=(o 4 (by decide)).trans r;replace s:=(o 5 (by decide)).trans s;refine gV C ?_;refine abR C (q:=a.isNone) J ?_;rcases E with e|e
 .cases e;simp only[Option.isNone_none,ph];exact x _ c g u
 .cases e;simp only[Option.isNone_some,qB,kw];exact D _ c g u
end
noncomputable def arS(f:FuncId):Bool:=match prog.funcs[f]? with
 |some fn=>!(fn.name == "loop.example/depositary/impl.fetchAll" || fn.name == "(*strings.Builder).copyCheck")||f ==cB||f ==nCC
 |none=>true
def alu:(List.range prog.funcs.size).all arS=true:=by kernel_rfl
def xo(h:gH f=true):f=cB\/f=nCC:=by
 unfold gH at h;cases b:prog.funcs[f]? with
 |none=>rw[b] at h;cases h
 |some fn=>
  rw[b] at h;have a:=jn.1 alu f (ql.2 (dk.1 b).1);unfold arS at a;rw[b] at a;dsimp only at h a;rw[h] at a;simpa using a
def arT :Frame.enter prog nCC U .normal=FC (T0C U) [.code (f158.body.getD .skip)]:=by
 unfold Frame.enter;rw[func158];rfl
def arU{e:TypeId}(d:w.shape? A.block=some (e,n))(a:w.cell? A=some v):A.off<n:=by
 unfold World.shape? at d;unfold World.cell? at a;cases f:w.heap[A.block]? with
 |none=>rw[f] at a;simp at a
 |some o=>
  rw[f] at d a;cases o with
  |cells c t z=>
   cases b:A.spot with
   |some s=>simp[b] at a
   |none=>
    simp[b] at a d;have:=(dk.1 a).1;omega
  |_=>simp at a
def aaC{b:Nat}(h:W.heap[b]?=w.heap[b]?):(W.setCell A u).heap[b]?=(w.setCell A u).heap[b]?:=by
 unfold World.setCell;simp only[pb,h]
section
variable {β main:Bool} {Rl:aq->World->World->Prop} {Gr:aq->aq->World->World->Array Event->Prop} {Rr:aq} {R:List Frame->World->Prop}
def agu(C:Cmp Rl Gr Rr){base:List Frame}:xd (ah β) prog R Rr main Rl Gr base:=by
 intro f c ρ a T m m' l S hf q ha M hc H hg hW E;obtain rfl:f=nCC:=(xo hf).resolve_left q;obtain⟨_,_,y,ys,rfl,rfl⟩:=M.ne';obtain⟨A,v,e,n,c1,X,h0,J,V,d,mj,Z,⟨N,r⟩,B,i,z⟩:=auQ ha M hc H hg hW;have j:ρ.r N.block A.block:=by cases r with|mk h o s=>exact h
 have x:S A.block:=by
  rcases E _ _ j with h|⟨_,Q,W⟩
  .exact h
  .exact(B _ j Q W).elim
 have hB:A.block<l.heap.size:=(H.lt j).2;have U:20<=(T0C T).size:=by simp only[T0C,rX,sQ];omega
 rw[arT];have F:liesAt prog prog.depth e (n / prog.cellsOf e) A.off 174 1=true:=by
  rw[<-V];exact(aq3 prog _ _ _ _ _ _ _).symm
 refine arR C U h0 x hB J (arU J d) F d mj Z (λw P w1 u=> ?_) l (C.fN _ _);refine .stop λw2 t=> ?_;have L:=i.kept;have p:(l.setCell A (.pointer (some A))).heap.size=l.heap.size:=dj _ _ _;have g:=E.step i.wr L;have hS:(λb=>S b\/(l.heap.size<=b/\b<(l.setCell A (.pointer (some A))).heap.size))=S:=by
  funext b
  rw[p];exact propext ⟨λh=>h.elim id λh=>absurd h.1 (by omega),.inl⟩
 rw[hS] at g;obtain⟨K,r2,O⟩:=C.rl _ _ _ P;obtain⟨I,s2,Y⟩:=C.rl _ _ _ (C.tr _ _ _ _ u t);refine⟨c1,X,_,z,i.le,λ_ k=>k,rfl,⟨i.st, ?_,i.gl,i.will,g⟩,.anE L λb D k=> ?_⟩
 case refine_2=>
  have G:=(E b D k).imp (λh=>h) (λh=>h.1);exact(I D G).trans (aaC (K D G))
 refine i.wr.rely g (λb k=>(I b k).trans (aaC (K b k))) ?_ ?_
 .rw[p];have:(w.setCell A (.pointer (some A))).heap.size=w.heap.size:=dj _ _ _;omega
 .exact Y.trans O
end
structure FaT (P:Program):Prop where
 u3:P.underlying 3=some (.int .i64)
 u9:P.underlying 9=some .string
 u23:P.underlying 23=some (.slice 36)
 u31:P.underlying 30=some (.slice 3)
 u38:P.underlying 34=some (.slice 48)
 ahJ:P.underlying 149=some (.slice 160)
 auU:∃ms,P.underlying 107=some (.interface ms)
 u40:∃fs g0 g1,P.underlying 36=some (.struct fs)/\fs[0]?=some g0/\fs[1]?=some g1/\g0.offset=0/\g0.type=3/\g1.offset=1/\g1.type=34
 auV:∃fs g0 g1,P.underlying 48=some (.struct fs)/\fs[0]?=some g0/\fs[1]?=some g1/\g0.offset=0/\g0.type=3/\g1.offset=1/\g1.type=9
 auW:∃fs,P.underlying 160=some (.struct fs)
 i3:∃i,P.info? 3=some i/\i.size=1
 i40:∃i,P.info? 36=some i/\i.size=2
 i110:∃i,P.info? 48=some i/\i.size=2
 adF:∃i,P.info? 160=some i/\i.size=2/\i.bytes=24/\i.zero=some (.agg #[.string ⟨#[]⟩,.bool false])
 alv:∃i,P.info? 149=some i/\i.size=1/\i.zero=some (.slice none 0 0)
def auX:((prog.info? 3).map (·.size ==1)=some true/\(prog.info? 36).map (·.size ==2)=some true)/\((prog.info? 48).map (·.size ==2)=some true/\(prog.info? 160).map (λi=>i.size ==2&&i.bytes ==24)=some true):=by
 refine⟨⟨?_, ?_⟩, ?_, ?_⟩<;>kernel_rfl
def aAf:(prog.info? 160).map (·.zero)=some (some (.agg #[.string ⟨#[]⟩,.bool false])):=by kernel_rfl
def aAg:(prog.info? 149).map (λi=>(i.size,i.zero))=some (1,some (.slice none 0 0)):=by kernel_rfl
def faT:FaT prog where
 u3:=underlying3
 u9:=underlying9
 u23:=underlying23
 u31:=underlying30
 u38:=underlying34
 ahJ:=underlying149
 auU:=⟨_,underlying107⟩
 u40:=⟨_,_,_,underlying36,rfl,rfl,rfl,rfl,rfl,rfl⟩
 auV:=⟨_,_,_,underlying48,rfl,rfl,rfl,rfl,rfl,rfl⟩
 auW:=⟨_,underlying160⟩
 i3:=let⟨i,h,k⟩:=gE.1 auX.1.1;⟨i,h,by simpa using k⟩
 i40:=let⟨i,h,k⟩:=gE.1 auX.1.2;⟨i,h,by simpa using k⟩
 i110:=let⟨i,h,k⟩:=gE.1 auX.2.1;⟨i,h,by simpa using k⟩
 adF:=by
  obtain⟨i,h,k⟩:=gE.1 auX.2.2;have z:=aAf;rw[h] at z;simp only[fd,mp] at k;exact⟨i,h,k.1,k.2,by simpa using z⟩
 alv:=by
  obtain⟨i,h,k⟩:=gE.1 aAg;simp only[uY] at k;exact⟨i,h,k.1,k.2⟩
def faQ(β:Bool):FaT (ah β) where
 u3:=(cJ prog _ _).trans faT.u3
 u9:=(cJ prog _ _).trans faT.u9
 u23:=(cJ prog _ _).trans faT.u23
 u31:=(cJ prog _ _).trans faT.u31
 u38:=(cJ prog _ _).trans faT.u38
 ahJ:=(cJ prog _ _).trans faT.ahJ
 auU:=let⟨d,h⟩:=faT.auU;⟨d,(cJ prog _ _).trans h⟩
 u40:=let⟨a,b,c,h,k⟩:=faT.u40;⟨a,b,c,(cJ prog _ _).trans h,k⟩
 auV:=let⟨a,b,c,h,k⟩:=faT.auV;⟨a,b,c,(cJ prog _ _).trans h,k⟩
 auW:=let⟨d,h⟩:=faT.auW;⟨d,(cJ prog _ _).trans h⟩
 i3:=let⟨i,h,k⟩:=faT.i3;⟨i,(jO prog _ _).trans h,k⟩
 i40:=let⟨i,h,k⟩:=faT.i40;⟨i,(jO prog _ _).trans h,k⟩
 i110:=let⟨i,h,k⟩:=faT.i110;⟨i,(jO prog _ _).trans h,k⟩
 adF:=let⟨i,h,k⟩:=faT.adF;⟨i,(jO prog _ _).trans h,k⟩
 alv:=let⟨i,h,k⟩:=faT.alv;⟨i,(jO prog _ _).trans h,k⟩
def kQ{s:Sem Value}{a:Next}(h:(s.bind λv=>Sem.pure (Next.value v)).run P w=.ok a W):∃v,a=.value v/\s.run P w=.ok v W:=by
 obtain⟨v,b,d,c⟩:=dQ (s:=s) h;cases(show Result.ok (Next.value v) b=Result.ok a W from c);exact⟨v,rfl,d⟩
section
variable {P:Program} {w w3:World} {e:Operand->Value} {x y:Operand} {nx:Next} {a b:Int} {dst:Option Tmp} {ty:TypeId} {pos:String} {af:Array Edge} {gd:Option (Nat×Bool)}
def ja(h:(execOp e ⟨dst,.assign x,ty,pos,af,gd⟩).run P w=.ok nx w3):∃v,nx=.value v/\(v=e x/\w3=w):=by
 cases(show Result.ok (Next.value (e x)) w=Result.ok nx w3 from h);exact⟨_,rfl,rfl,rfl⟩
def ahK(h:(execOp e ⟨dst,.move x,ty,pos,af,gd⟩).run P w=.ok nx w3):∃v,nx=.value v/\(v=e x/\w3=w):=by
 cases(show Result.ok (Next.value (e x)) w=Result.ok nx w3 from h);exact⟨_,rfl,rfl,rfl⟩
def arW(d:e y=.int .i64 b)(h:(execOp e ⟨dst,.binOp .lss 3 x y 3,ty,pos,af,gd⟩).run P w=.ok nx w3):∃v,nx=.value v/\(∃a,e x=.int .i64 a/\v=.bool (decide (a<b))/\w3=w):=by
 obtain⟨v,rfl,f⟩:=kQ (s:=binOp .lss 3 (e x) (e y)) h;have h:=f;refine⟨v,rfl, ?_⟩;rw[d] at h;generalize e x=u at h ⊢;cases u with
 |int k n=>
  by_cases c:k=.i64
  .subst c;cases(show Result.ok (.bool (decide (n<b))) w=Result.ok v w3 from h);exact⟨_,rfl,rfl,rfl⟩
  .simp only[binOp,c,ne_eq,not_false_eq_true,ph] at h;cases(show Result.halt _ _=Result.ok v w3 from h)
 |pointer p=>cases p<;>cases(show Result.halt _ _=Result.ok v w3 from h)
 |_=>cases(show Result.halt _ _=Result.ok v w3 from h)
def fY(i:e x=.int .i64 a)(d:e y=.int .i64 b)(h:(execOp e ⟨dst,.binOp .lss 3 x y 3,ty,pos,af,gd⟩).run P w=.ok nx w3):∃v,nx=.value v/\(v=.bool (decide (a<b))/\w3=w):=by
 obtain⟨v,rfl,j,c,f,g⟩:=arW d h;rw[i] at c;cases c;exact⟨_,rfl,f,g⟩
def alx(h:(execOp e ⟨dst,.binOp .mul 3 x (.const (.int .i64 1)) 3,ty,pos,af,gd⟩).run P w=.ok nx w3)(c:e (.const (.int .i64 1))=.int .i64 1):∃v,nx=.value v/\(∃a,e x=.int .i64 a/\v=.int .i64 (IntKind.i64.wrap (a*1))/\w3=w):=by
 obtain⟨v,rfl,d⟩:=kQ (s:=binOp .mul 3 (e x) (e (.const (.int .i64 1)))) h;have h:=d;refine⟨v,rfl, ?_⟩;rw[c] at h;generalize e x=u at h ⊢;cases u with
 |int k n=>
  by_cases b:k=.i64
  .subst b;cases(show Result.ok (.int .i64 (IntKind.i64.wrap (n*1))) w=Result.ok v w3 from h);exact⟨_,rfl,rfl,rfl⟩
  .simp only[binOp,b,ne_eq,not_false_eq_true,ph] at h;cases(show Result.halt _ _=Result.ok v w3 from h)
 |pointer p=>cases p<;>cases(show Result.halt _ _=Result.ok v w3 from h)
 |_=>cases(show Result.halt _ _=Result.ok v w3 from h)
def aly(d:e x=.int .i64 a)(c:e (.const (.int .i64 1))=.int .i64 1)(h:(execOp e ⟨dst,.binOp .add 3 x (.const (.int .i64 1)) 3,ty,pos,af,gd⟩).run P w=.ok nx w3):∃v,nx=.value v/\(v=.int .i64 (IntKind.i64.wrap (a+1))/\w3=w):=by
 obtain⟨v,rfl,b⟩:=kQ (s:=binOp .add 3 (e x) (e (.const (.int .i64 1)))) h;have h:=b;rw[d,c] at h;cases(show Result.ok (.int .i64 (IntKind.i64.wrap (a+1))) w=Result.ok v w3 from h);exact⟨_,rfl,rfl,rfl⟩
def alz(f:e x=.int .i64 a)(d:e y=.int .i64 b)(h:(execOp e ⟨dst,.binOp .eql 3 x y 3,ty,pos,af,gd⟩).run P w=.ok nx w3):∃v,nx=.value v/\(v=.bool (a ==b)/\w3=w):=by
 have g:eqGuard .eql 3 x y (e x) (e y)=Sem.pure ():=by rw[f,d];rfl
 have c:(((eqGuard .eql 3 x y (e x) (e y)).bind λ_=>binOp .eql 3 (e x) (e y)).bind λv=>Sem.pure (Next.value v)).run P w=.ok nx w3:=h;clear h;rw[g] at c;obtain⟨v,rfl,h⟩:=kQ (s:=binOp .eql 3 (e x) (e y)) c;clear c;rw[f,d] at h;cases(show Result.ok (.bool (a ==b)) w=Result.ok v w3 from h);exact⟨_,rfl,rfl,rfl⟩
def pz{a:Builtin}{s:Value->Sem Value}(d:∀c v,builtin a #[t0] ty c #[v]=(s v).bind λu=>Sem.pure (.value u)):execOp e ⟨dst,.call ⟨.builtin a,#[.tmp t],#[t0]⟩,ty,pos,af,gd⟩=(s (e (.tmp t))).bind λu=>Sem.pure (.value u):=by
 have b:Array.map e #[.tmp t]=#[e (.tmp t)]:=by simp
 simp only[execOp,resolve];rw[b];exact d _ _
def ahL(k:P.underlying t0=some (.slice X))(h:(execOp e ⟨dst,.call ⟨.builtin .len,#[.tmp t],#[t0]⟩,ty,pos,af,gd⟩).run P w=.ok nx w3) :
  ∃v,nx=.value v/\(∃A n c,e (.tmp t)=.slice A n c/\v=.int .i64 n/\w3=w):=by
 rw[pz (s:=λv=>Builtin.len_ #[t0] ty #[v]) λ_ v=>rfl] at h;obtain⟨v,rfl,g⟩:=kQ h;have h:=g;refine⟨v,rfl, ?_⟩;generalize e (.tmp t)=u at h ⊢;obtain⟨d,l,g,j⟩:=dQ (s:=underlying t0) (f:=λd=>match d,u with
  |.string,.string s=>pure (goInt s.size)
  |.array n _,_=>pure (goInt n)
  |.pointer arr,_=>(underlying arr).bind λd=>match d with
   |.array n _=>pure (goInt n)
   |_=>stuck "len: pointer to array expected"
  |.slice _,.slice _ n _=>pure (goInt n)
  |.map _ _,.map none|.chan _ _,.chan none=>pure (goInt 0)
  |.map _ _,.map (some r)=>(getObj r).bind λo=>match o with
   |.map a _=>pure (goInt a.size)
   |_=>stuck "len: map expected"
  |.chan _ _,.chan (some r)=>(getObj r).bind λo=>match o with
   |.chan _ i _ _ _ b=>pure (goInt (if b then 0 else i.size))
   |_=>stuck "len: channel expected"
  |_,_=>stuck "len: string, array, pointer to array, slice, map or channel expected") h
 rw[lw k] at g;cases g;cases u with
 |slice A n c=>
  cases(show Result.ok (.int .i64 n) w=Result.ok v w3 from j);exact⟨A,n,c,rfl,rfl,rfl⟩
 |_=>cases(show Result.halt _ _=Result.ok v w3 from j)
end
def aje:TypeDesc->Bool
 |.struct _|.array .. =>false
 |_=>true
def auY{s:Sem V}(h:kF P s){v:V}:s.run P w ≠ .ok v w':=λe=>by
 obtain⟨q,b,c,a, -⟩:=Leaves.awj h w #[];rw[<-rh _ _ _ #[],a] at e;cases e
def ajf(k:IntKind)(x y:Int)(c:BoundsCode):kF P (boundsPanic k x y c:Sem V):=by
 rw[acv];refine iB ?_ λa=>eA _;split
 .exact λ_=>trivial
 .exact trivial
section
variable {P:Program} (F:FaT P) {w w3:World} {e:Operand->Value} {x y:Operand} {nx:Next} {dst:Option Tmp} {ty:TypeId} {pos:String} {af:Array Edge} {gd:Option (Nat×Bool)}
def alA{A:Option Addr}(b:P.underlying t0=some (.slice X))(d:e (.tmp t)=.slice A n c)(h:(execOp e ⟨dst,.call ⟨.builtin .cap,#[.tmp t],#[t0]⟩,ty,pos,af,gd⟩).run P w=.ok nx w3) :
  ∃v,nx=.value v/\(v=.int .i64 c/\w3=w):=by
 rw[pz (s:=λv=>Builtin.cap_ #[t0] ty #[v]) λ_ v=>rfl,d] at h;obtain⟨v,rfl,a⟩:=kQ h;refine⟨v,rfl, ?_⟩;have:(Builtin.cap_ #[t0] ty #[.slice A n c]).run P w=.ok (.int .i64 c) w:=by
  simp[Builtin.cap_,lw b,goInt]
 rw[this] at a;cases a;exact⟨rfl,rfl⟩
include F in
theorem auZ(h:(execOp e ⟨dst,.call ⟨.builtin .len,#[.tmp t],#[9]⟩,ty,pos,af,gd⟩).run P w=.ok nx w3) :
  ∃v,nx=.value v/\(∃s:ByteArray,e (.tmp t)=.string s/\v=.int .i64 s.size/\w3=w):=by
 rw[pz (s:=λv=>Builtin.len_ #[9] ty #[v]) λ_ v=>rfl] at h;obtain⟨v,rfl,a⟩:=kQ h;refine⟨v,rfl, ?_⟩;generalize e (.tmp t)=u at a ⊢;cases u with
 |string s=>
  have:(Builtin.len_ #[9] ty #[.string s]).run P w=.ok (.int .i64 s.size) w:=by
   simp[Builtin.len_,lw F.u9,goInt]
  rw[this] at a;cases a;exact⟨s,rfl,rfl,rfl⟩
 |_=>simp[Builtin.len_,lw F.u9,stuck] at a
theorem aaD{t:TypeId}{a:TypeDesc}(b:P.underlying t=some a):Leaves P (λd=>d=a) (underlying t):=by
 unfold underlying;show Leaves P (λd=>d=a) (match P.underlying t with
  |some d=>pure d
  |none=>stuck "no such type")
 rw[b];exact rfl
theorem au0{t:TypeId}(a:P.underlying t=some (.struct S)):(isAgg t).run P w=.ok true w:=by simp[isAgg,lw a]
theorem ajg{t:TypeId}{d:TypeDesc}(a:P.underlying t=some d)(b:aje d=true):(isAgg t).run P w=.ok false w:=by
 cases d<;>first|(cases b;done)|simp[isAgg,lw a]
theorem aeY(b:NoV P w A)(h:(load A).run P w=.ok v w3):w3=w/\w.cell? A=some v:=by
 have h:(Sem.load .plain A Sem.pure).run P w=.ok v w3:=h;unfold Sem.run at h;cases a:w.cell? A with
 |some u=>
  simp only[a,Sem.run,sB] at h;exact⟨h.2.symm,by rw[h.1]⟩
 |none=>
  obtain⟨e,c⟩:=(b.2 a).1 (Mode.plain ==.atomic);simp only[a,c] at h;cases h
theorem ahM{t:TypeId}{d:TypeDesc}(j:P.underlying t=some d)(i:aje d=true)(l:e x=.pointer (some A))(m:NoV P w A)(h:(execOp e ⟨dst,.load t x,ty,pos,af,gd⟩).run P w=.ok nx w3) :
  ∃v,nx=.value v/\(w.cell? A=some v/\w3=w):=by
 obtain⟨v,rfl,g⟩:=kQ (s:=Instr.loadAt t (e x)) h;refine⟨v,rfl, ?_⟩;rw[l] at g;obtain⟨q,r,a,k⟩:=dQ (s:=isAgg t) (f:=λb=>if b then(sizeOf t).bind λn=>(loadCells A n).bind λc=>Sem.pure (Value.agg c) else load A) g;rw[ajg j i] at a;cases a;obtain⟨o,p⟩:=aeY m k;exact⟨p,o⟩
theorem ajh{t:TypeId}{i:TypeInfo}(D:P.underlying t=some (.struct S))(hi:P.info? t=some i)(B:i.size=2)(F:e x=.pointer (some A))(I:NoV P w A)(k:NoV P w (A.add 1))(h:(execOp e ⟨dst,.load t x,ty,pos,af,gd⟩).run P w=.ok nx w3) :
  ∃v,nx=.value v/\(∃d a,v=.agg #[d,a]/\w.cell? A=some d/\w.cell? (A.add 1)=some a/\w3=w):=by
 obtain⟨v,rfl,u⟩:=kQ (s:=Instr.loadAt t (e x)) h;refine⟨v,rfl, ?_⟩;rw[F] at u;obtain⟨q,g,p,E⟩:=dQ (s:=isAgg t) (f:=λb=>if b then(sizeOf t).bind λn=>(loadCells A n).bind λc=>Sem.pure (Value.agg c) else load A) u;rw[au0 D] at p;cases p;obtain⟨n,g,r,z⟩:=dQ (s:=sizeOf t) (f:=λn=>(loadCells A n).bind λc=>Sem.pure (Value.agg c)) E;have:(sizeOf t).run P w=.ok 2 w:=by simp[sizeOf,typeInfo,hi,B]
 rw[this] at r;cases r;obtain⟨c,g,G,y⟩:=dQ (s:=loadCells A 2) (f:=λc=>Sem.pure (Value.agg c)) z;cases(show Result.ok (.agg c) g=Result.ok v w3 from y);obtain⟨d,K,C,H⟩:=dQ (s:=load (A.add 0)) (f:=λd=>(load (A.add 1)).bind λa=>Sem.pure #[d,a]) G;obtain⟨rfl,l⟩:=aeY I C;obtain⟨a,J,o,m⟩:=dQ (s:=load (A.add 1)) (f:=λa=>Sem.pure #[d,a]) H;obtain⟨rfl,j⟩:=aeY k o;cases(show Result.ok #[d,a] _=Result.ok c _ from m);exact⟨d,a,rfl,l,j,rfl⟩
theorem abT{t:TypeId}{g:Field}{f:Nat}{d:TypeDesc}{cs:Array Value}(i:P.underlying t=some (.struct S))(c:S[f]?=some g)(j:P.underlying g.type=some d)(b:aje d=true)(l:e x=.agg cs)(k:cs[g.offset]?=some u)(h:(execOp e ⟨dst,.field t x f,ty,pos,af,gd⟩).run P w=.ok nx w3) :
  ∃v,nx=.value v/\(v=u/\w3=w):=by
 obtain⟨v,rfl,a⟩:=kQ (s:=Instr.field t (e x) f) h;refine⟨v,rfl, ?_⟩;rw[l] at a;have:(Instr.field t (.agg cs) f).run P w=.ok u w:=by
  simp[Instr.field,lw i,c,asAgg,part,ajg j b,k]
 rw[this] at a;cases a;exact⟨rfl,rfl⟩
theorem abU{t : TypeId}{i:TypeInfo}{A:Option Addr}{k : Nat}(f:P.underlying t=some (.slice X))(hi:P.info? X=some i)(l:e x=.slice A n c)(j:e y=.int .i64 k)(m:k<n)(h:(execOp e ⟨dst,.indexAddr t x y,ty,pos,af,gd⟩).run P w=.ok nx w3) :
  ∃v,nx=.value v/\(∃a,A=some a/\v=.pointer (some (a.add (k*i.size)))/\w3=w):=by
 obtain⟨v,rfl,b⟩:=kQ (s:=Instr.indexAt t (e x) (e y)) h;refine⟨v,rfl, ?_⟩;rw[l,j] at b;have o:(0:Int)<=k/\(k:Int)<n:=by omega
 cases A with
 |none=>
  exfalso;have hd:kF P (Instr.indexAt t (.slice none n c) (.int .i64 k)):=by
   unfold Instr.indexAt;refine Leaves.bind (A:=λq=>q=(IntKind.i64,(k:Int))) rfl λq g=> ?_;subst g;refine Leaves.bind (aaD f) λd hd=> ?_;subst hd;refine Leaves.bind (s:=Sem.pure (none,n,X)) (A:=λq=>q=(none,n,X)) rfl λq g=> ?_;subst g;exact Leaves.bind (aaD f) λd hd=>ajf _ _ _ _
  exact auY hd b
 |some a=>
  have:(Instr.indexAt t (.slice (some a) n c) (.int .i64 k)).run P w=.ok (.pointer (some (a.add (k*i.size)))) w:=by
   simp[Instr.indexAt,asIntOf,lw f,m,sizeOf,typeInfo,hi]
  rw[this] at b;cases b;exact⟨a,rfl,rfl,rfl⟩
end
def alB:Value->Bool
 |.agg _|.tuple _=>false
 |_=>true
section
variable {P:Program} (F:FaT P) {w w3:World} {e:Operand->Value} {x y:Operand} {nx:Next} {dst:Option Tmp} {ty:TypeId} {pos:String} {af:Array Edge} {gd:Option (Nat×Bool)}
def acM{c : Value}(b:alB u=true)(f:w.cell? A=some c)(d:w.frozen? A=false)(k:Sem V):(Sem.store .plain A u k).run P w=k.run P (w.setCell A u):=by
 have a:(∀x,u ≠ .agg x)/\∀x,u ≠ .tuple x:=⟨λx e=>(by subst e;cases b),λx e=>(by subst e;cases b)⟩;rw[<-rh _ _ _ #[],rY _ _ _ _ _ _ _ a.1 a.2];simp only[f,d,kw,qB];rw[rh]
def arX :A.add 1≠A:=by
 unfold Addr.add;intro e;have:=fk Addr.off e;simp at this
include F in
theorem apb{u0 u1 c0 c1:Value}(k:alB u0=true)(r:alB u1=true)(o:e x=.pointer (some A))(j:e y=.agg #[u0,u1])(a:w.cell? A=some c0)(d:w.frozen? A=false)(f:w.cell? (A.add 1)=some c1)(b:w.frozen? (A.add 1)=false) :
  (execOp e ⟨dst,.store 160 x y,ty,pos,af,gd⟩).run P w=.ok .skip ((w.setCell A u0).setCell (A.add 1) u1):=by
 obtain⟨i,m,t, -⟩:=F.adF;have p:(storeCells A [u0,u1] 0).run P w=.ok () ((w.setCell A u0).setCell (A.add 1) u1):=by
  show(Sem.store .plain (A.add 0) u0 (Sem.store .plain (A.add 1) u1 (Sem.pure ()))).run P w=_;have g:A.add 0=A:=by unfold Addr.add;simp
  rw[g,acM k a d,acM r (c:=c1) (by rw[tM _ _ _ _ (λe=>arX e.symm)];exact f) (by rw[uH];exact b)];rfl
 have s:(storeVar 160 A (.agg #[u0,u1])).run P w=.ok () ((w.setCell A u0).setCell (A.add 1) u1):=by
  have l:(sizeOf 160).run P w=.ok 2 w:=by simp[sizeOf,typeInfo,m,t]
  unfold storeVar;show((sizeOf 160).bind λn=>if(Value.agg #[u0,u1]).cells.size≠n then stuck _ else storeCells A (Value.agg #[u0,u1]).cells.toList 0).run P w=_;rw[qJ,l];exact p
 have:execOp e ⟨dst,.store 160 x y,ty,pos,af,gd⟩=(Instr.storeAt 160 (e x) (e y)).bind λ_=>Sem.pure .skip:=rfl;rw[this,o,j,qJ];have q:(Instr.storeAt 160 (.pointer (some A)) (.agg #[u0,u1])).run P w=.ok () ((w.setCell A u0).setCell (A.add 1) u1):=s;rw[q];rfl
include F in
theorem apc{c0 : Value}(j:∃a n c,u=.slice a n c)(o:e x=.pointer (some A))(g:e y=u)(b:w.cell? A=some c0)(d:w.frozen? A=false) :
  (execOp e ⟨dst,.store 149 x y,ty,pos,af,gd⟩).run P w=.ok .skip (w.setCell A u):=by
 obtain⟨i,l,s, -⟩:=F.alv;obtain⟨a,n,c,rfl⟩:=j;have p:(storeCells A [.slice a n c] 0).run P w=.ok () (w.setCell A (.slice a n c)):=by
  show(Sem.store .plain (A.add 0) (.slice a n c) (Sem.pure ())).run P w=_;have f:A.add 0=A:=by unfold Addr.add;simp
  rw[f,acM rfl b d];rfl
 have r:(storeVar 149 A (.slice a n c)).run P w=.ok () (w.setCell A (.slice a n c)):=by
  have k:(sizeOf 149).run P w=.ok 1 w:=by simp[sizeOf,typeInfo,l,s]
  unfold storeVar;show((sizeOf 149).bind λm=>if(Value.slice a n c).cells.size≠m then stuck _ else storeCells A (Value.slice a n c).cells.toList 0).run P w=_;rw[qJ,k];exact p
 have:execOp e ⟨dst,.store 149 x y,ty,pos,af,gd⟩=(Instr.storeAt 149 (e x) (e y)).bind λ_=>Sem.pure .skip:=rfl;rw[this,o,g,qJ];have q:(Instr.storeAt 149 (.pointer (some A)) (.slice a n c)).run P w=.ok () (w.setCell A (.slice a n c)):=r;rw[q];rfl
include F in
theorem arY:(execOp e ⟨dst,.alloc 149,ty,pos,af,gd⟩).run P w=.ok (.value (.pointer (some ⟨w.heap.size,0,none⟩))) (w.alloc (.cells #[.slice none 0 0] 149)):=by
 obtain⟨i,b,c,a⟩:=F.alv;have:execOp e ⟨dst,.alloc 149,ty,pos,af,gd⟩=(Instr.alloc 149 true (.tuple #[])).bind λv=>Sem.pure (.value v):=rfl;rw[this,qJ];have:(Instr.alloc 149 true (.tuple #[])).run P w=.ok (.pointer (some ⟨w.heap.size,0,none⟩)) (w.alloc (.cells #[.slice none 0 0] 149)):=by
  simp[Instr.alloc,zeroValue,typeInfo,b,a,newVar,newRow,Value.cells]
 rw[this];rfl
include F in
theorem anM(t:(n:Int)<=2147483647)(o:e x=.int .i64 n):∃c:Array Value,c.size=2*n/\(execOp e ⟨dst,.makeSlice 149 x x,ty,pos,af,gd⟩).run P w=.ok (.value (.slice (some ⟨w.heap.size,0,none⟩) n n)) (w.alloc (.cells c 160)):=by
 obtain⟨i,a,r,g,p⟩:=F.adF;have k:IntKind.i64.wrap (n:Int)=n:=by
  unfold IntKind.wrap;simp[IntKind.signed,IntKind.bits];omega
 have q:¬(n:Int)<0:=by omega
 have s:¬(2:Int) ^ 48<24*n:=by omega
 have:execOp e ⟨dst,.makeSlice 149 x x,ty,pos,af,gd⟩=(Instr.makeSlice 149 (e x) (e x)).bind λv=>Sem.pure (.value v):=rfl;rw[this,o];have l:¬(281474976710656:Int)<24*n:=by omega
 have j:∀w,(sizeOf 160).run P w=.ok 2 w:=λw=>by simp[sizeOf,typeInfo,a,r]
 have d:∀m:Nat,(askRoom m).run P w=.ok () w:=λm=>by
  unfold askRoom;split<;>rfl
 by_cases f:n=0
 .subst f;refine⟨(Array.range 0).map λ_=>default,by simp, ?_⟩;rw[qJ];have:(Instr.makeSlice 149 (.int .i64 (0:Nat)) (.int .i64 (0:Nat))).run P w=.ok (.slice (some ⟨w.heap.size,0,none⟩) 0 0) (w.alloc (.cells ((Array.range 0).map λ_=>default) 160)):=by
   simp[Instr.makeSlice,lw F.ahJ,asInt,asIntOf,typeInfo,a,g,d,j,newRow,(show IntKind.i64.wrap 0=0 by decide)]
  rw[this];rfl
 .refine⟨(Array.range (n*2)).map λi=>(#[.string ⟨#[]⟩,.bool false]:Array Value)[i % 2]!,by simp;omega, ?_⟩;rw[qJ];have:(Instr.makeSlice 149 (.int .i64 n) (.int .i64 n)).run P w=.ok (.slice (some ⟨w.heap.size,0,none⟩) n n) (w.alloc (.cells ((Array.range (n*2)).map λi=>(#[.string ⟨#[]⟩,.bool false]:Array Value)[i % 2]!) 160)):=by
   have b:∀w,(zeroValue 160).run P w=.ok (.agg #[.string ⟨#[]⟩,.bool false]) w:=λw=>by simp[zeroValue,typeInfo,a,p]
   simp[Instr.makeSlice,lw F.ahJ,asInt,asIntOf,typeInfo,a,g,k,q,l,d,j,b,newRow,f,Value.cells];intro h;omega
  rw[this];rfl
end
def fZ(h:w.cell? A=some v):A.block<w.heap.size:=by
 unfold World.cell? at h;cases a:w.heap[A.block]? with
 |none=>rw[a] at h;simp at h
 |some o=>exact(dk.1 a).1
structure Cx where
 R:List Frame->World->Prop
 c0:Cfg
 iq:Ren
 w0:World
 y:Frame
 ys:List Frame
def At(X:Cx)(T:Array Value)(k:List Item)(w:World):Prop:=45<=T.size/\∃c a,gO true X.R X.c0 X.iq X.w0 c a (FQ cB T k::X.y::X.ys) w
structure Tm (M:List Nat) (T T':Array Value):Prop where
 size:T'.size=T.size
 same:∀t,M.contains t=false->T'.getD t undef=T.getD t undef
def Tm.refl(M:List Nat)(T:Array Value):Tm M T T:=⟨rfl,λ_ _=>rfl⟩
def Tm.trans{T : Array Value}(h:Tm R T T')(k:Tm R T' U):Tm R T U:=⟨k.size.trans h.size,λt a=>(k.same t a).trans (h.same t a)⟩
def Tm.mono{T : Array Value}(h:Tm R T T')(b:∀t,R.contains t=true->rest.contains t=true):Tm rest T T':=⟨h.size,λt a=>h.same t (by
 cases e:R.contains t with
 |false=>rfl
 |true=>rw[b t e] at a;cases a)⟩
def Tm.sw{T : Array Value}{d:Nat}(h:Tm [d] T T')(b:cP.contains d=true):Tm cP T T':=h.mono λt a=>by
 simp at a;subst a;exact b
def Tm.one{T : Array Value}{d:Nat}(b:T'.size=T.size)(h:∀t,t≠d->T'.getD t undef=T.getD t undef):Tm [d] T T':=⟨b,λt a=>h t λe=>by subst e;simp at a⟩
def aeZ{e:Operand->Value}{n:Tmp}{t ty:TypeId}{dst:Option Tmp}{af:Array Edge}{gd:Option (Nat×Bool)}(f:e (.tmp n)=.tuple #[]):∀c a,(execOp e ⟨dst,.load t (.tmp n),ty,pos,af,gd⟩).run P w ≠ .ok c a:=λc a g=>by
 obtain⟨v,d,b,i⟩:=dQ (s:=Instr.loadAt t (e (.tmp n))) g;rw[f] at b;cases(show Result.halt _ _=Result.ok v d from b)
section
variable {X:Cx} {T:Array Value} {k:List Item} {w w2:World}
def At.go(h:At X T k w)(b:∀base,stepG (ah true) true (Gl (FQ cB T k::X.y::X.ys) base) w=.go (Gl (FQ cB T k2::X.y::X.ys) base) w2 es):At X T k2 w2:=
 let⟨e,_,_,h⟩:=h;let⟨d,c,a,_,_⟩:=h.go rfl true b;⟨e,d,c,a⟩
def At.seq(h:At X T (.code (.seq a b)::k) w):At X T (.code a :: .code b::k) w:=h.go (es:=#[]) λbase=>by simp[Gl,stepG,stepG.exec]
def At.region{id:Nat}{l:List Nat}(a:List.range Z.size=l)(h:At X T (.code (.region id Z false)::k) w):At X T (.inRegion Z l::k) w:=h.go (es:=#[]) λbase=>by subst a;simp[Gl,stepG,stepG.exec]
def At.iV(h:At X T (.inRegion Z []::k) w):At X T k w:=h.go (es:=#[]) λbase=>by simp[Gl,stepG,stepG.exec]
def AtL(X:Cx)(T:Array Value)(k:List Item)(w:World):Prop:=45<=T.size/\∃c a,gO true X.R X.c0 X.iq X.w0 c a (FQ cB T k::X.y::X.ys) w/\im (ah true) c X.c0
def At.aAh(h:At X T (.inRegion Z []::k) w):AtL X T k w:=
 let⟨e,_,_,h⟩:=h;let⟨d,c,b,a,_⟩:=h.go (w2:=w) (x2:=FQ cB T k) (xs2:=X.y::X.ys) (es:=#[]) rfl true λbase=>by simp[Gl,stepG,stepG.exec]
 ⟨e,d,c,b,a⟩
def At.skip(h:At X T (.code .skip::k) w):At X T k w:=h.go (es:=#[]) λbase=>by simp[Gl,stepG,stepG.exec]
def At.cond(d:T.getD t undef=.bool q)(h:At X T (.code (.cond (.tmp t) a b)::k) w):At X T (.code (if q then a else b)::k) w:=h.go (es:=#[]) λbase=>by
 have c:Frame.eval (FQ cB T (.code (.cond (.tmp t) a b)::k)) (.tmp t)=.bool q:=d;simp[Gl,stepG,stepG.exec,c]
def At.block{id:Nat}(h:At X T (.code (.block id a)::k) w):At X T (.code a :: .inBlock id::k) w:=h.go (es:=#[]) λbase=>by simp[Gl,stepG,stepG.exec]
def At.loop(h:At X T (.code (.loop a)::k) w):At X T (.code a :: .inLoop a::k) w:=h.go (es:=#[]) λbase=>by simp[Gl,stepG,stepG.exec]
def At.again(h:At X T (.inLoop a::k) w):At X T (.code a :: .inLoop a::k) w:=h.go (es:=#[]) λbase=>by simp[Gl,stepG,stepG.exec]
def At.exit{id:Nat}(a:exitTo id k=some k2)(h:At X T (.code (.exit id)::k) w):At X T k2 w:=h.go (es:=#[]) λbase=>by simp[Gl,stepG,stepG.exec,a]
def At.no(h:At X T (.code (.refuse "")::k) w):False:=by
 obtain⟨a,c,b,h⟩:=h;exact h.no rfl true (o:=_) (w2:=w) (by simp only[Gl,stepG,stepG.exec];rfl)
def At.jb     {Φ:Value->World->Prop} (h:At X T (.inRegion Z (i::rest)::k) w) (A:Z[i]?=some o) (y:o.guard=none) (s:o.dst=some d) (l:d<45)
  (a:∀m j,(execOp (FQ cB T (.inRegion Z (i::rest)::k)).eval o).run (ah true) w=.ok m j->∃v,m=.value v/\Φ v j) :
  ∃v b n,Φ v b/\Tm [d] T n/\n.getD d undef=v/\At X n (.inRegion Z rest::k) b:=by
 obtain⟨f,c,D,h⟩:=h;obtain⟨v,b,z,C,q,r, -⟩:=h.op A y λm j g=>.inl (let⟨v,e,_⟩:=a m j g;⟨v,e⟩);have p:Φ v b:=by
  rcases q with g|⟨g, -⟩
  .obtain⟨u,e,B⟩:=a _ _ g;cases e;exact B
  .obtain⟨u,e, -⟩:=a _ _ g;cases e
 rw[s] at r;replace l:d<T.size:=aE l f;exact⟨v,b,_,p,.one (by simp) (λt x=>by rw[aF l,be x]),by rw[aF l,dl rfl],by simpa using f,z,C,r⟩
def At.opk    (h:At X T (.inRegion Z (i::rest)::k) w) (j:Z[i]?=some o) (l:o.guard=none) (g:o.dst=none)
  (b:(execOp (FQ cB T (.inRegion Z (i::rest)::k)).eval o).run (ah true) w=.ok .skip w2):At X T (.inRegion Z rest::k) w2:=by
 obtain⟨d,c,q,h⟩:=h;obtain⟨v,p,n,m,e,f, -⟩:=h.op j l λs r a=>.inr (by rw[b] at a;cases a;rfl);rw[g] at f;rcases e with a|⟨a, -⟩
 .rw[b] at a;cases a
 .rw[b] at a;cases a;exact⟨d,n,m,f⟩
def At.noV      (h:At X T (.inRegion Z (i::rest)::k) w) (g:Z[i]?=some o) (m:o.guard=none) (b:aak gA gL o.op=false) (e:T.getD t undef=.pointer (some A))
  (d:∀(e:Operand->Value) (w:World),e (.tmp t)=.tuple #[]->∀p j,(execOp e o).run (ah true) w ≠ .ok p j):NoV (ah true) w A/\NoV (ah true) w (A.add 1):=by
 obtain⟨l,c,q,h⟩:=h;obtain⟨x,f,n⟩:=h.ao9 g m b t d;rw[e] at f;cases f with
 |pointer a=>cases a with
  |some a=>exact⟨h.wr.noV a,h.wr.noV (a.add 1)⟩
 |fH=>exact absurd rfl n
def At.aAi(b:g∈gL)(h:At X T k w):NoV (ah true) w ⟨g,0,none⟩:=by
 obtain⟨a,c,d,h⟩:=h;exact h.wr.noV (.mk (h.gl g b) 0 none)
def At.chk(a:T.getD t undef=.bool q)(h:At X T (.code (.cond (.tmp t) (.refuse "") .skip)::k) w):q=false/\At X T k w:=by
 have h:=h.cond a;cases q with
 |true=>exact(h.no).elim
 |false=>exact⟨rfl,h.skip⟩
def At.ayk(a:T.getD t undef=.bool q)(h:At X T (.code (.cond (.tmp t) .skip (.refuse ""))::k) w):q=true/\At X T k w:=by
 have h:=h.cond a;cases q with
 |false=>exact(h.no).elim
 |true=>exact⟨rfl,h.skip⟩
end
def In_(x:Int):Prop:= -9223372036854775808<=x/\x<=9223372036854775807
def aa8{x:Int}(h:(IntKind.i64.wrap (x*1) ==x)=true):In_ x:=by
 rw[mp] at h;unfold IntKind.wrap at h;simp[IntKind.signed,IntKind.bits] at h;unfold In_;omega
def ae0(h:(n:Int)<9223372036854775807):IntKind.i64.wrap ((n:Int)+1)=((n+1:Nat):Int):=by
 unfold IntKind.wrap;simp[IntKind.signed,IntKind.bits];omega
def eL{a b:Int}(h:decide (a<b)=false):b<=a:=by simpa using h
structure ahN (w:World) (B:Option Addr) (i:Nat) (x:Int×ByteArray):Prop where
 c:∃a,B=some a/\w.cell? (a.add (i*2))=some (.int .i64 x.1)/\w.cell? ((a.add (i*2)).add 1)=some (.string x.2)
 i:In_ x.1
 s:(x.2.size:Int)<=9223372036854775807
def RdI(w:World)(B:Option Addr)(j:Nat)(l:List (Int×ByteArray)):Prop:=∀i x,l[i]?=some x->ahN w B (j+i) x
abbrev inC(k:List Item):List Item:=.inLoop aaT :: .inBlock 52::k
abbrev mI:List Nat:=[4,5,9,10,11,13,15,26,25,22]
def Tm.mi{T : Array Value}{d:Nat}(h:Tm [d] T T')(b:mI.contains d=true):Tm mI T T':=h.mono λt a=>by
 simp at a;subst a;exact b
section
variable {X:Cx} {T:Array Value} {k:List Item} {w:World}
def At.aAj{B:Option Addr}{m j : Nat}(h:At X T (.code aaT::inC k) w)(M:T.getD 27 undef=.slice B m c)(iT:T.getD 28 undef=.int .i64 m)(n:T.getD 5 undef=.int .i64 j)(hj:j<=m)(hm:(m:Int)<=9223372036854775807) :
  (j=m/\∃T',Tm mI T T'/\At X T' k w)\/(j<m/\∃x T',ahN w B j x/\Tm mI T T'/\T'.getD 5 undef=.int .i64 (j+1:Nat)/\At X T' (.code aaT::inC k) w):=by
 have o:=Tm.refl mI T;unfold Go.Proofs.YtpbbcfocomejmaaGreatDoor.aaT at h;have h:=h.seq;replace h:=h.region (l:=[0]) rfl;obtain⟨v,A,T1,⟨g,f⟩,m,s4,b⟩:=h.jb (d:=4) (Φ:=λv i=>v=.bool (decide ((j:Int)<m))/\i=w) rfl rfl rfl (by decide) λy i q=>fY (by exact n) (by exact iT) q;rw[g] at s4;rw[f] at b;clear g f;replace n:=(m.same 5 rfl).trans n;replace M:=(m.same 27 rfl).trans M;replace o:=o.trans (m.mi rfl);clear m;replace h:=b;clear b;replace h:=h.iV.seq.cond s4;by_cases F:(j:Int)<m
 .right;rw[db F] at h;simp only[ph] at h;replace h:=h.skip.seq.seq;replace h:=h.region (l:=[0,1,2,3,4]) rfl;obtain⟨ii,hi,hz⟩:=(faQ true).i110;obtain⟨fs,g0,g1,P,V,Y,Z,W,R,N⟩:=(faQ true).auV;obtain⟨v,A,T2,⟨a,hB,g,f⟩,m,S,b⟩:=h.jb (d:=9) (Φ:=λv i=>∃a,B=some a/\v=.pointer (some (a.add (j*ii.size)))/\i=w) rfl rfl rfl (by decide) λy i q=>abU (faQ true).u38 hi (by exact M) (by exact n) (by omega) q;rw[g,hz] at S;rw[f] at b;clear g f;replace n:=(m.same 5 rfl).trans n;replace o:=o.trans (m.mi rfl);clear m;replace h:=b;clear b;have hv:=h.noV (t:=9) rfl rfl rfl S (λe w he=>aeZ he);obtain⟨v,A,T3,⟨E,C,g,L,a1,f⟩,m,r,b⟩:=h.jb (d:=10) (Φ:=λv i=>∃E C,v=.agg #[E,C]/\w.cell? (a.add (j*2))=some E/\w.cell? ((a.add (j*2)).add 1)=some C/\i=w) rfl rfl rfl (by decide) λy i q=>ajh P hi hz (by exact S) hv.1 hv.2 q;rw[g] at r;rw[f] at b;clear g f;replace n:=(m.same 5 rfl).trans n;replace o:=o.trans (m.mi rfl);clear m;replace h:=b;clear b;obtain⟨v,A,T4,⟨g,f⟩,m,u,b⟩:=h.jb (d:=11) (Φ:=λv i=>v=E/\i=w) rfl rfl rfl (by decide) λy i q=>abT P V (by rw[W];exact(faQ true).u3) rfl (by exact r) (by rw[Z];rfl) q;rw[g] at u;rw[f] at b;clear g f;replace n:=(m.same 5 rfl).trans n;replace r:=(m.same 10 rfl).trans r;replace o:=o.trans (m.mi rfl);clear m;replace h:=b;clear b;obtain⟨v,A,T5,⟨z,Q,g,f⟩,m,I,b⟩:=h.jb (d:=13) (Φ:=λv i=>∃z,E=.int .i64 z/\v=.int .i64 (IntKind.i64.wrap (z*1))/\i=w) rfl rfl rfl (by decide) λy i q=>let⟨v,J,z,D,H,O⟩:=alx q rfl;⟨v,J,z,u.symm.trans D,H,O⟩
  rw[g] at I;rw[f] at b;clear g f;replace n:=(m.same 5 rfl).trans n;replace r:=(m.same 10 rfl).trans r;replace u:=(m.same 11 rfl).trans u;replace o:=o.trans (m.mi rfl);clear m;replace h:=b;clear b;subst Q;obtain⟨v,A,T6,⟨g,f⟩,m,p,b⟩:=h.jb (d:=15) (Φ:=λv i=>v=.bool (IntKind.i64.wrap (z*1) ==z)/\i=w) rfl rfl rfl (by decide) λy i q=>alz (by exact I) (by exact u) q;rw[g] at p;rw[f] at b;clear g f;replace n:=(m.same 5 rfl).trans n;replace r:=(m.same 10 rfl).trans r;replace o:=o.trans (m.mi rfl);clear m;replace h:=b;clear b;obtain⟨hq,b⟩:=h.iV.ayk p;replace h:=b.seq.seq;clear b;replace h:=h.region (l:=[0,1,2]) rfl;obtain⟨v,A,T7,⟨g,f⟩,m,G,b⟩:=h.jb (d:=26) (Φ:=λv i=>v=C/\i=w) rfl rfl rfl (by decide) λy i q=>abT P Y (by rw[N];exact(faQ true).u9) rfl (by exact r) (by rw[R];rfl) q;rw[g] at G;rw[f] at b;clear g f;replace n:=(m.same 5 rfl).trans n;replace p:=(m.same 15 rfl).trans p;replace o:=o.trans (m.mi rfl);clear m;replace h:=b;clear b;obtain⟨v,A,T8,⟨s,U,g,f⟩,m,K,b⟩:=h.jb (d:=25) (Φ:=λv i=>∃s:ByteArray,C=.string s/\v=.int .i64 s.size/\i=w) rfl rfl rfl (by decide) λy i q=>let⟨v,J,z,D,H,O⟩:=auZ (faQ true) q;⟨v,J,z,G.symm.trans D,H,O⟩
  rw[g] at K;rw[f] at b;clear g f;replace n:=(m.same 5 rfl).trans n;replace p:=(m.same 15 rfl).trans p;replace o:=o.trans (m.mi rfl);clear m;replace h:=b;clear b;subst U;clear p;obtain⟨v,A,T9,⟨g,f⟩,m,p,b⟩:=h.jb (d:=15) (Φ:=λv i=>v=.bool (decide ((9223372036854775807:Int)<s.size))/\i=w) rfl rfl rfl (by decide) λy i q=>fY rfl (by exact K) q;rw[g] at p;rw[f] at b;clear g f;replace n:=(m.same 5 rfl).trans n;replace o:=o.trans (m.mi rfl);clear m;replace h:=b;clear b;obtain⟨a0,b⟩:=h.iV.chk p;replace h:=b.region (l:=[0,1]) rfl;clear b;obtain⟨v,A,a3,⟨g,f⟩,m,oK,b⟩:=h.jb (d:=22) (Φ:=λv i=>v=.int .i64 (IntKind.i64.wrap ((j:Int)+1))/\i=w) rfl rfl rfl (by decide) λy i q=>aly (by exact n) rfl q;rw[g] at oK;rw[f] at b;clear g f;replace n:=(m.same 5 rfl).trans n;replace o:=o.trans (m.mi rfl);clear m;replace h:=b;clear b;clear n;obtain⟨v,A,a2,⟨g,f⟩,m,n,b⟩:=h.jb (d:=5) (Φ:=λv i=>v=.int .i64 (IntKind.i64.wrap ((j:Int)+1))/\i=w) rfl rfl rfl (by decide) λy i q=>let⟨v,J,D,H⟩:=ahK q;⟨v,J,D.trans oK,H⟩
  rw[g] at n;rw[f] at b;clear g f;replace o:=o.trans (m.mi rfl);clear m;replace h:=b;clear b;rw[ae0 (by omega)] at n;exact⟨by omega,(z,s),_,⟨⟨a,hB,L,a1⟩,aa8 hq,eL a0⟩,o,n,h.iV.again⟩
 .left;rw[bv F] at h;simp only[kw,qB] at h;exact⟨by omega,_,o,h.exit rfl⟩
def At.awS{B:Option Addr}{m c:Nat}(g:(m:Int)<=9223372036854775807):∀(n j:Nat) {T:Array Value},m=j+n->At X T (.code Go.Proofs.YtpbbcfocomejmaaGreatDoor.aaT::inC k) w->T.getD 27 undef=.slice B m c->T.getD 28 undef=.int .i64 m->T.getD 5 undef=.int .i64 j->
  ∃l T',l.length=n/\RdI w B j l/\Tm mI T T'/\At X T' k w
 |0,j,T,e,h,iJ,iT,s5=>by
  rcases h.aAj iJ iT s5 (by omega) g with⟨_,T',u,t⟩|⟨d,_⟩
  .exact⟨[],T',rfl,λi x b=>by simp at b,u,t⟩
  .omega
 |n+1,j,T,e,h,iJ,iT,s5=>by
  rcases h.aAj iJ iT s5 (by omega) g with⟨A,_⟩|⟨d,x,z,s,a,o,v⟩
  .omega
  .obtain⟨l,T',p,r,f,q⟩:=At.awS g n (j+1) (by omega) v ((a.same 27 rfl).trans iJ) ((a.same 28 rfl).trans iT) o;refine⟨x::l,T',by simp[p],λi y b=> ?_,a.trans f,q⟩;cases i with
   |zero=>simp at b;subst b;exact s
   |succ i=>
    have:=r i y (by simpa using b);have e:j+1+i=j+(i+1):=by omega
    rwa [e] at this
end
end
end Go.Proofs.YtpbbcfocomejmaaGreatDoor