/- A part. -/
import Derived.Test.YtepfjblhjlefiaaGreatDoorG8
import Derived.Orders
import Derived.Conc.AppendWalk
import Derived.DuoClaim
import Derived.Conc.LeavingOf
import Derived.SizedLaws
import Derived.Shelf.Slices.Cells
import Derived.Shelf.SortM.Plain
import Derived.Shelf.SortM.SortNone
import Derived.Sort.OwnSortedInts
import Derived.Lib.RowBridge
set_option maxRecDepth 100000
set_option maxHeartbeats 8000000
set_option linter.all false
open Go Go.Conc Go.ConcN Go.RowKit Go.Proofs.Tryz Go.Proofs.YtepfjblhjlefiaaGreatDoor
variable {R aU:ak} {Y b c i j n:Nat} {key:Int} {a:Addr} {o:Oper} {V W w:World} {fr:Frame} {t:Trace} {v:Value} {f:FuncId} {ty:TypeId} {P:Program} {d:TypeDesc} {l:List Int} {rest:List Nat} {g:Goroutine} {k:List Item} {U:Array Oper} {af:Array Edge} {listed:Array Bool} {xs:List Frame} {X:Array Value} {S A:Option Addr} {es:Array Event} {e:Operand→Value} {gd:Option (Nat × Bool)} {T St:Goroutine→World→Prop} {Stop:ak→Goroutine→World→Prop} {Z:Int→List gY→Int→ByteArray × Bool}
namespace Go.Proofs.YtepfjblhjlefiaaGreatDoor
def vh:=@Go.Proofs.Tryz.zeroValue43
def vC:=@List.toArray_replicate
def vM:=@Bool.and_eq_false_iff
def vN:=@Bool.and_assoc
def vU:=@Bool.or_eq_false_iff
section
open Go.Conc Go.ConcN Go.RowKit Go.Conc.Lib Go.ConcR.Gen Go.ConcN.Gen
open Go.ConcR (KK wgBlock WgAt stA smA rd wr mk Payload Aside2 DC0)
section
variable (P:Program) (R:World->World->Prop) (Wg:Nat)
def ati(g:Goroutine)(w:World):Prop:=∃a,stepG P false g w=.go a w #[mk .disable]
def azg(m:Nat)(g:Goroutine)(w:World):Prop:=∃a,stepG P false g w=.go a w #[mk (.releaseMerge (stA Wg))]/\Goes P false R DC0 (ati P) m a w
end
section
variable {P:Program} {L:WgLink} {R:World->World->Prop} {Wg:Nat} {c:Frame} {cs:List Frame}
def ap0(H:WgLib P L)(b:∀w e,WgLive L.tWg Wg w->R w e->WgLive L.tWg Wg e)(w:World)(a:WgLive L.tWg Wg w) :
  Goes P false R DC0 (azg P R Wg 10) 23 (G ((baseD L.done).at ⟨#[.pointer (some ⟨Wg,0,none⟩),undef,undef,undef],[]⟩ [.code (body_done L)]) (c::cs)) w:=by
 lib_facts
 simp only[body_done,body_add,doneFn,addFn,ql]
 u_reg (b _ _) a
 u_op (b _ _) a
 u_in (b _ _) a
 refine goes_call rfl rfl (by k_ne) rfl H.f_add (nm_add L) rfl ⟨by u_nil, ?_⟩
 walk_nrmf addFn
 u_c jp (b _ _) a
 u_cond true (b _ _) a
 u_c jp (b _ _) a
 u_c jp (b _ _) a
 u_reg (b _ _) a
 u_op (b _ _) a
 u_op (b _ _) a
 u_c ef (b _ _) a
 u_cond true (b _ _) a
 u_reg (b _ _) a
 u_op (b _ _) a
 u_conv H.underlying_tWgP H.room_tWg (WgLive.cell0 a).choose_spec (b _ _) a
 refine qv (λe d=> ?_);replace a:=b _ _ a d;clear d;refine⟨_,uv .releaseMerge (by simp) rfl rfl (by k_ne) rfl H.f_relMerge (x_relMerge_n L) (x_relMerge_b L) (x_relMerge_x L) (x_relMerge_f L) (by simp[Act.eval,stA]), ?_⟩
 walk_nrm
 u_c ef (b _ _) a
 u_c jp (b _ _) a
 u_reg (b _ _) a
 refine qv (λe d=> ?_);replace a:=b _ _ a d;clear d;exact⟨_,uL .disable (by simp) rfl rfl (by k_ne) rfl H.f_disable (x_disable_n L) (x_disable_b L) (x_disable_x L) (x_disable_f L)⟩
end
section
variable [Payload] {P:Program} {ty:TypeId} {Wg C n k:Nat} {R:World->World->Prop} {v:Value}
def atj(c:∀w,R w w)(q:∀g w,St g w->∃p,stepG P false g w=.go p w #[mk (.releaseMerge (stA Wg))]) :
  ∀{m f:Nat} {g:Goroutine} {w:World},Goes P false R DC0 (ati P) m g w->¬Goes P false R (DWs Wg FF FF C n k) St f g w:=by
 have i:∀{f:Nat} {g:Goroutine} {w:World},(∀a,R w a->ati P g a)->¬Goes P false R (DWs Wg FF FF C n k) St f g w:=λ{f g w} d b=>by
  obtain⟨p,e⟩:=d w (c w);have l:¬ ∀a,R w a->St g a:=λh=>by
   obtain⟨s,o⟩:=q _ _ (h w (c w));rw[e] at o;cases o
  cases f with
  |zero=>exact l b
  |succ f=>
   rcases b with b|⟨-,b⟩
   .exact l b
   .have:=b w (c w);rw[e,tj] at this;exact(this.1.2 (mk .disable) (by simp)).2.1 rfl
 intro m
 induction m with
 |zero=>intro f g w d b;exact i d b
 |succ m t=>
  intro f g w d b;rcases d with d|⟨-,d⟩
  .exact i d b
  .have d:=d w (c w);obtain⟨p,j,u,e,⟨rfl,rfl⟩,r⟩:=goes_elim d;have l:¬ ∀a,R j a->St g a:=λh=>by
    obtain⟨s,o⟩:=q _ _ (h j (c j));rw[e] at o;cases o
   cases f with
   |zero=>exact l b
   |succ f=>
    rcases b with b|⟨-,b⟩
    .exact l b
    .have:=b j (c j);rw[e,tj] at this;exact t r this.2
def amL(j:∀w,R w w)(r:∀a b c,R a b->R b c->R a c)(y:∀g w,St g w->∃t,stepG P false g w=.go t w #[mk (.releaseMerge (stA Wg))]) :
  ∀{m o i:Nat} {g:Goroutine} {w:World},Goes P false R DC0 (azg P R Wg o) m g w->Goes P false R (DWs Wg FF FF C n k) St i g w->Goes P false R DC0 St m g w:=by
 have p:∀{m o i:Nat} {g:Goroutine} {w:World},(∀d,R w d->azg P R Wg o g d)->Goes P false R (DWs Wg FF FF C n k) St i g w->Goes P false R DC0 St m g w:=λ{m o i g w} l f=>by
  refine qv λd q=> ?_;have f:=te r f q;cases i with
  |zero=>exact f d (j _)
  |succ i=>
   rcases f with f|⟨-,f⟩
   .exact f d (j _)
   .obtain⟨t,e,s⟩:=l d q;have:=f d (j _);rw[e,tj] at this;exact absurd this.2 (atj j y s)
 intro m
 induction m with
 |zero=>intro o i g w l f;exact p l f
 |succ m x=>
  intro o i g w l f;rcases l with l|⟨u,l⟩
  .exact p l f
  .cases i with
   |zero=>exact .inl f
   |succ i=>
    rcases f with f|⟨-,f⟩
    .exact .inl f
    .refine .inr ⟨u,λd q=> ?_⟩;obtain⟨t,z,A,e,hd,v⟩:=goes_elim (l d q);have:=f d q;rw[e,tj] at this ⊢;exact⟨hd,x v this.2⟩
end
section
variable [Payload] {P:Program} {L:WgLink} {Wg C n κ:Nat} {val:Nat->Value} {R S:ak} {c:Frame} {cs:List Frame} {qt:Nat}
def ap1(H:WgLib P L)(q:c.mode=.returning)(D:QuitsD P qt 0 (G c cs))(w:World)(v:WgLive L.tWg Wg w)(B:Has C (2*κ) (val (2*κ)) w)(o:Has C (2*κ+1) (val (2*κ+1)) w) :
  bC P false (jM L.tWg Wg C (2*n) R (dM κ)) (Gua Wg C (2*n) R (dM κ)) (agy P L.tWg Wg C n val κ) S (G ((baseD L.done).at ⟨#[.pointer (some ⟨Wg,0,none⟩),undef,undef,undef],[]⟩ [.code (body_done L)]) (c::cs)) w:=by
 have J:=doneN H (Own:=FF) (Rd:=FF) (Wg:=Wg) (C:=C) (n:=2*n) (Low:=0) (k:=2*κ+1) (val:=val (2*κ)) q D w ⟨v,B⟩;have K:=ap0 (Wg:=Wg) (R:=RW L.tWg Wg C (2*n) 0 (2*κ+1-1)) (c:=c) (cs:=cs) H (λ_ _ h r=>r.live h) w v;have E:=amL (St:=AtR0 P L.tWg Wg C (2*n) 0 (2*κ+1) (val (2*κ))) (λw=>⟨λ_ _ _ _=>rfl,id,id,rfl⟩) (λa b c x y=>⟨λb o u z=>(y.low b o u z).trans (x.low b o u z),y.live∘x.live,y.pay∘x.pay,y.cell.trans x.cell⟩)
  (λg w h=>let⟨_,_,s,e,_⟩:=h;⟨s,e⟩) K J
 have t:∀{m:Nat} {g:Goroutine} {w:World},Has C (2*κ+1) (val (2*κ+1)) w->Goes P false (RW L.tWg Wg C (2*n) 0 (2*κ+1-1)) DC0 (AtR0 P L.tWg Wg C (2*n) 0 (2*κ+1) (val (2*κ))) m g w->
   bC P false (jM L.tWg Wg C (2*n) R (dM κ)) (Gua Wg C (2*n) R (dM κ)) (agy P L.tWg Wg C n val κ) S g w:=by
  have j:∀{w d:World},jM L.tWg Wg C (2*n) R (dM κ) S w d->RW L.tWg Wg C (2*n) 0 (2*κ+1-1) w d:=λf=>jM.rw (i:=2*κ) f (by show 2*κ / 2=κ;omega);have l:∀{w d:World},Has C (2*κ+1) (val (2*κ+1)) w->jM L.tWg Wg C (2*n) R (dM κ) S w d->Has C (2*κ+1) (val (2*κ+1)) d:=λh f=>(f.cell (2*κ+1) (by show(2*κ+1) / 2=κ;omega)).trans h;intro m
  induction m with
  |zero=>intro g w p h;exact .stop λd f=>⟨h d (j f),l p f⟩
  |succ m M=>
   intro g w p h;rcases h with h|⟨F,h⟩
   .exact .stop λd f=>⟨h d (j f),l p f⟩
   .refine .step F λd f=> ?_;obtain⟨s,A,N,e,⟨rfl,rfl⟩,I⟩:=goes_elim (h d (j f));exact⟨s,A,#[],S,e,⟨λ_ _ _ _=>rfl,am _,rfl,id,λ_ _=>rfl,λ_ h=>h,λ_ h=>.inl h,by simp⟩,M (l p f) I⟩
 exact t o E
end
end
section
open Go.Conc Go.ConcN Go.RowKit
open Go.ConcR (KK wgBlock WgAt stA smA rd wr mk Payload DC0)
instance aET:Payload:=⟨100⟩
structure Wx where
 w0:World
 Wg:Nat
 C:Nat
 n2:Nat
 κ:Nat
 R:ak
 Rg:Nat->Prop
 key:Int
 A:Option Addr
 n:Nat
 c:Nat
 l:List gY
 nm:Int
 bk:Nat
 bp:Nat
 bn:Nat
 ba:Nat
 bi:Nat
 tWg:TypeId
structure Wx.Ok (X:Wx):Prop where
 hN:gN<=X.w0.heap.size
 gl:∀g∈gL,X.Rg g
 gr:∀g∈gL,eB X.w0 g
 k1:1<=X.key
 k2:X.key<=99
 hl:X.l.length=X.n
 hc:X.n<=X.c
 hcm:(X.c:Int)<=9223372036854775807
 rd:RdP X.w0 X.A 0 X.l
 rgp:RgP X.Rg X.w0 X.A X.l
 al:∀a,X.A=some a->X.Rg a.block
 nm:In_ X.nm
 kn:X.κ<X.n2
 rows:∀b,X.Rg b->X.R b
 rk:X.R X.bk/\X.w0.cell? ⟨X.bk,0,none⟩=some (.int .i64 X.key)
 rp:X.R X.bp/\X.w0.cell? ⟨X.bp,0,none⟩=some (.slice X.A X.n X.c)
 rn:X.R X.bn/\X.w0.cell? ⟨X.bn,0,none⟩=some (.int .i64 X.nm)
 ra:X.R X.ba/\X.w0.cell? ⟨X.ba,0,none⟩=some (.slice (some ⟨X.C,0,none⟩) X.n2 X.n2)
 ri:X.R X.bi/\X.w0.cell? ⟨X.bi,0,none⟩=some (.int .i64 X.κ)
 rlt:∀b,X.R b->b<X.w0.heap.size
 rC:¬X.R X.C
 rW:¬X.R X.Wg
 cW:X.C≠X.Wg
abbrev Wx.Rl(X:Wx):ak->World->World->Prop:=jM X.tWg X.Wg X.C (2*X.n2) X.R (dM X.κ)
abbrev Wx.Gr(X:Wx):ak->ak->World->World->Array Event->Prop:=Gua X.Wg X.C (2*X.n2) X.R (dM X.κ)
def Wx.mG(X:Wx):pj X.Rl X.R:=⟨λS w=>jM.refl _ _ _ _,λ_ _ _ _=>jM.trans,λ_ _ _ h=>⟨h.keep,h.size,h.os⟩⟩
structure Wx.Inv (X:Wx) (S:ak) (w:World):Prop where
 r:∀b,X.R b->w.heap[b]?=X.w0.heap[b]?
 s:∀b,S b->¬X.R b/\b≠X.C/\b≠X.Wg
 c:X.C<w.heap.size
 wg:X.Wg<w.heap.size
 sz:X.w0.heap.size<=w.heap.size
 live:WgLive X.tWg X.Wg w
 pay:PayAt X.C (2*X.n2) w
 os:w.ou=X.w0.ou
section
variable {X:Wx} {S S':ak} {w w' w1:World} {es:Array Event}
def Wx.Inv.rely(h:X.Inv S w)(a:X.Rl S w w1):X.Inv S w1:=
 ⟨λb c=>(a.keep b (.inr c)).trans (h.r b c),h.s,aE h.c a.size,aE h.wg a.size,da h.sz a.size,a.live h.live,a.pay h.pay,a.os.trans h.os⟩
def Wx.step(s:X.Ok)(h:X.Inv S w)(g:pg X.R S S' w w' es):X.Gr S S' w w' es/\X.Inv S' w':=by
 obtain⟨l,k,q,rfl,B⟩:=g;have m:w'.heap[X.C]?=w.heap[X.C]?:=l _ h.c λd=>(h.s _ d).2.1 rfl;have r:w'.heap[X.Wg]?=w.heap[X.Wg]?:=l _ h.wg λd=>(h.s _ d).2.2 rfl;refine⟨⟨λb c A _=>l b c A,k,q,λ⟨n,a,b⟩=>⟨n,m.trans a,b⟩,λi _=>uh m i,λb c=>.inl c,λb c=>c,λe E=> ?_⟩, ?_⟩
 .obtain⟨C,o,D⟩:=B e E;refine⟨λx v=>(C x v).elim .inl λy=>.inr (.inr y),λj=> ?_,λj=> ?_,λj=> ?_,D⟩
  .rcases o _ j with⟨f,e⟩|e<;>cases e
  .rcases o _ j with⟨f,e⟩|e<;>cases e
  .rcases o _ j with⟨f,e⟩|e<;>cases e
 .have p:∀b,X.R b->b<w.heap.size:=λb c=>aE (s.rlt b c) h.sz;refine⟨λb c=>(l b (p b c) λd=>(h.s b d).1 c).trans (h.r b c),λb c=> ?_,aE h.c k,aE h.wg k,da h.sz k, ?_, ?_,q.trans h.os⟩
  .rcases c with c|⟨c,_⟩
   .exact h.s b c
   .refine⟨λu=> ?_,λe=> ?_,λe=> ?_⟩
    .have:=p b u;omega
    .have:=h.c;omega
    .have:=h.wg;omega
  .obtain⟨z,sm,t⟩:=h.live;exact⟨z,sm,r.trans t⟩
  .obtain⟨n,a,b⟩:=h.pay;exact⟨n,m.trans a,b⟩
def Wx.lift(c:X.Ok)(h:bC prog false X.Rl (pg X.R) Stop S g w)(hi:X.Inv S w):bC prog false X.Rl X.Gr (λS g w=>Stop S g w/\X.Inv S w) S g w:=
 bC.inv (Rl:=X.Rl) (Gr:=pg X.R) (Gr2:=X.Gr) (Stop:=Stop) (Inv:=X.Inv) (λ_ _ _ a b=>a.rely b) (λ_ _ _ _ _ a b=>Wx.step c a b) (λ_ _ _ a b=>⟨a,b⟩) h hi
def Wx.Inv.cell(h:X.Inv S w)(a:X.R b)(c:X.w0.cell? ⟨b,i,none⟩=some v):w.cell? ⟨b,i,none⟩=some v:=(uh (h.r b a) i).trans c
end
abbrev nCl:FuncId:=46
def lq:Code->Code
 |.seq a _=>a
 |c=>c
def ug:Code->Array Oper
 |.region _ o _=>o
 |_=>#[]
noncomputable def an8:Code:=f46.body.getD .skip
noncomputable def nN:Array Oper:=ug (lq an8)
noncomputable def aS:Array Oper:=ug (cj an8)
def atk:an8=.seq (.region 0 nN false) (.region 1 aS true):=rfl
def an9:aS.size=8:=rfl
def aBC:∃p,aS[0]?=some ⟨some 6,.load 87 (.tmp 4),87,p,#[],none⟩:=⟨_,rfl⟩
def aBD:∃p,aS[1]?=some ⟨some 7,.load 3 (.tmp 5),3,p,#[],none⟩:=⟨_,rfl⟩
def aBE:∃p,aS[2]?=some ⟨some 8,.load 3 (.tmp 1),3,p,#[],none⟩:=⟨_,rfl⟩
def aBF:∃p,aS[3]?=some ⟨some 9,.load 23 (.tmp 2),23,p,#[],none⟩:=⟨_,rfl⟩
def aBG:∃p,aS[4]?=some ⟨some 10,.load 3 (.tmp 3),3,p,#[],none⟩:=⟨_,rfl⟩
def aBH:∃p,aS[5]?=some ⟨some 11,.call ⟨.value (.func 48),#[.tmp 8,.tmp 9,.tmp 10],#[3,23,3]⟩,100,p,#[⟨2,.data⟩,⟨3,.data⟩,⟨4,.data⟩],none⟩:=⟨_,rfl⟩
def aBI:∃p,aS[6]?=some ⟨some 12,.indexAddr 87 (.tmp 6) (.tmp 7),0,p,#[⟨0,.data⟩,⟨1,.data⟩,⟨0,.phase⟩,⟨1,.phase⟩,⟨2,.phase⟩,⟨3,.phase⟩,⟨4,.phase⟩,⟨5,.phase⟩],none⟩:=⟨_,rfl⟩
def aBJ:∃p,aS[7]?=some ⟨none,.store 100 (.tmp 12) (.tmp 11),0,p,#[⟨6,.data⟩,⟨5,.data⟩,⟨5,.chain⟩,⟨0,.phase⟩,⟨1,.phase⟩,⟨2,.phase⟩,⟨3,.phase⟩,⟨4,.phase⟩,⟨5,.phase⟩],none⟩:=⟨_,rfl⟩
def jP(L:Nat->Bool):Nat->Bool
 |5=>L 2&&L 3&&L 4
 |6=>L 0&&L 1&&L 2&&L 3&&L 4&&L 5
 |7=>L 6&&L 5&&L 0&&L 1&&L 2&&L 3&&L 4
 |_=>true
def aoa(L:Nat->Bool)(hi:i<8):((aS[i]?).map (λo:Oper=>o.after.all λe=>!Region.binds .any e||L e.on)).getD false=jP L i:=by
 have:i=0\/i=1\/i=2\/i=3\/i=4\/i=5\/i=6\/i=7:=by omega
 rcases this with rfl|rfl|rfl|rfl|rfl|rfl|rfl|rfl
 .obtain⟨p,e⟩:=aBC;rw[e];simp[jP]
 .obtain⟨p,e⟩:=aBD;rw[e];simp[jP]
 .obtain⟨p,e⟩:=aBE;rw[e];simp[jP]
 .obtain⟨p,e⟩:=aBF;rw[e];simp[jP]
 .obtain⟨p,e⟩:=aBG;rw[e];simp[jP]
 .obtain⟨p,e⟩:=aBH;rw[e];simp[Region.binds,jP,vN]
 .obtain⟨p,e⟩:=aBI;rw[e];simp[Region.binds,jP];cases L 0<;>cases L 1<;>simp[vN]
 .obtain⟨p,e⟩:=aBJ;rw[e];simp[Region.binds,jP];cases L 5<;>cases L 6<;>simp[vN]
def aft(d:listed.size=8) :i∈Region.ready .any aS listed↔i<8/\listed.getD i false=false/\jP (λj=>listed.getD j false) i=true:=by
 unfold Region.ready;rw[sB,qj,an9];constructor
 .rintro⟨b,a⟩;rw[aoa (λj=>listed.getD j false) b] at a;simp only[fb,ud] at a;refine⟨b, ?_,a.2⟩;have:=a.1;rw[gn,ge (by omega)] at this ⊢;exact this
 .rintro⟨b,a,c⟩;refine⟨b, ?_⟩;rw[aoa (λj=>listed.getD j false) b,c];rw[gn,ge (by omega)] at a ⊢;simp only[ql] at a ⊢;rw[a];rfl
def unW(listed:Array Bool):Nat:=(List.range 8).countP λi=>!listed.getD i false
def agW{p q:Nat->Bool}:∀{l:List Nat} {x:Nat},(∀y,q y=true->p y=true)->x∈l->p x=true->q x=false->l.countP q<l.countP p
 |[],x,_,b,_,_=>by cases b
 |a::l,x,h,b,hp,hq=>by
  rw[List.countP_cons,List.countP_cons];have e:l.countP q<=l.countP p:=List.countP_mono_left λy _=>h y;rcases mc.1 b with rfl|b
  .rw[hp,hq];simp;omega
  .have:=agW h b hp hq;have f:=h a;cases d:q a<;>cases c:p a<;>simp_all<;>omega
def iA(hi:i<listed.size):(listed.setIfInBounds i true).getD j false=if j=i then true else listed.getD j false:=by
 rw[gn,gn,qc];by_cases e:i=j
 .subst e;simp[hi]
 .rw[bd e,bd (λx=>e x.symm)]
def avU(b:listed.size=8)(hi:i<8)(h:listed.getD i false=false):unW (listed.setIfInBounds i true)<unW listed:=by
 refine agW (x:=i) (λy a=> ?_) (qj.2 hi) (by rw[h];rfl) (by rw[iA (by omega)];simp);rw[iA (by omega)] at a;by_cases e:y=i
 .simp[e] at a
 .simpa[e] using a
def aBK(m:listed.size=8)(h:Region.ready .any aS listed=[]\/unW listed=0):∀i,i<8->listed.getD i false=true:=by
 rcases h with h|h
 .have a:∀i,i<8->jP (λj=>listed.getD j false) i=true->listed.getD i false=true:=λi b hd=>by
   cases e:listed.getD i false with
   |true=>rfl
   |false=>
    have:i∈Region.ready .any aS listed:=(aft m).2 ⟨b,e,hd⟩;rw[h] at this;cases this
  have g:=a 0 (by omega) rfl;have k:=a 1 (by omega) rfl;have c:=a 2 (by omega) rfl;have d:=a 3 (by omega) rfl;have f:=a 4 (by omega) rfl;have l:=a 5 (by omega) (by simp only[jP,c,d,f];rfl);have n:=a 6 (by omega) (by simp only[jP,g,k,c,d,f,l];rfl);have o:=a 7 (by omega) (by simp only[jP,g,k,c,d,f,l,n];rfl);intro i b;have:i=0\/i=1\/i=2\/i=3\/i=4\/i=5\/i=6\/i=7:=by omega
  rcases this with rfl|rfl|rfl|rfl|rfl|rfl|rfl|rfl<;>assumption
 .intro i b;have:=List.countP_eq_zero.1 h i (qj.2 b);simpa using this
def Wx.cap(X:Wx):Nat->Value
 |1=>.pointer (some ⟨X.bk,0,none⟩)
 |2=>.pointer (some ⟨X.bp,0,none⟩)
 |3=>.pointer (some ⟨X.bn,0,none⟩)
 |4=>.pointer (some ⟨X.ba,0,none⟩)
 |_=>.pointer (some ⟨X.bi,0,none⟩)
def Wx.val(X:Wx)(v:ByteArray×Bool):Nat->Value
 |0=>.slice (some ⟨X.C,0,none⟩) X.n2 X.n2
 |1=>.int .i64 X.κ
 |2=>.int .i64 X.key
 |3=>.slice X.A X.n X.c
 |4=>.int .i64 X.nm
 |5=>.agg #[.string v.1,.bool v.2]
 |_=>.pointer (some ⟨X.C,2*X.κ,none⟩)
abbrev FW(dd:Deferred)(T:Array Value)(k:List Item):Frame:=⟨nCl,T,k,[dd],.run,.deferred,none⟩
structure RI (X:Wx) (v:ByteArray×Bool) (listed:Array Bool) (T:Array Value) (S:ak) (w:World):Prop where
 sz:T.size=13
 cap:∀t,1<=t->t<=5->T.getD t undef=X.cap t
 done:∀j,j<7->listed.getD j false=true->T.getD (6+j) undef=X.val v j
 st:listed.getD 7 false=true->Has X.C (2*X.κ) (.string v.1) w/\Has X.C (2*X.κ+1) (.bool v.2) w
 ord:listed.getD 7 false=true->∀j,j<7->listed.getD j false=true
 inv:X.Inv S w
section
variable {P:Program} {m:Bool} {fr:Frame} {xs base:List Frame} {ops:Array Oper} {i:Nat} {rest:List Nat} {k:List Item} {o:Oper} {w w2:World} {es:Array Event} {v:Value}
def atl (f:fr.mode=.run) (g:(fr.kind ==.early)=false) (b:fr.roundOf=none) (e:fr.todo=.inRegion ops (i::rest)::k) (n:ops[i]?=some o) (q:o.guard=none)
  (p:(execOp fr.eval o).runT P w #[]=(.ok (.value v) w2,es)):stepG P m (Gl (fr::xs) base) w=.go (Gl (fr.finish v::xs) base) w2 (seen P fr.fn es):=by
 obtain⟨fn,a,j,d,t,c,s⟩:=fr;dsimp only at f g b e;subst f b e;have l:∀y,Region.wanted o y=true:=λy=>by unfold Region.wanted;rw[q]
 have r:stepG P m (Gl (⟨fn,a,.inRegion ops (i::rest)::k,d,.run,c,none⟩::xs) base) w =
   stepG.apply P true ⟨fn,a,.inRegion ops (i::rest)::k,d,.run,c,none⟩ (xs++base) none (execOp (Frame.eval ⟨fn,a,.inRegion ops (i::rest)::k,d,.run,c,none⟩) o) w:=by
  simp[Gl,stepG,stepG.exec,stepG.oper,Frame.oper?,n,l]
 rw[r];unfold stepG.apply;simp only[p,oS];simp[GStep.after,g,Gl]
def akf (f:fr.mode=.run) (g:(fr.kind ==.early)=false) (b:fr.roundOf=none) (e:fr.todo=.inRegion ops (i::rest)::k) (n:ops[i]?=some o) (q:o.guard=none)
  (p:(execOp fr.eval o).runT P w #[]=(.ok .skip w2,es)):stepG P m (Gl (fr::xs) base) w=.go (Gl (fr.finish undef::xs) base) w2 (seen P fr.fn es):=by
 obtain⟨fn,a,j,d,t,c,s⟩:=fr;dsimp only at f g b e;subst f b e;have l:∀y,Region.wanted o y=true:=λy=>by unfold Region.wanted;rw[q]
 have r:stepG P m (Gl (⟨fn,a,.inRegion ops (i::rest)::k,d,.run,c,none⟩::xs) base) w =
   stepG.apply P true ⟨fn,a,.inRegion ops (i::rest)::k,d,.run,c,none⟩ (xs++base) none (execOp (Frame.eval ⟨fn,a,.inRegion ops (i::rest)::k,d,.run,c,none⟩) o) w:=by
  simp[Gl,stepG,stepG.exec,stepG.oper,Frame.oper?,n,l]
 rw[r];unfold stepG.apply;simp only[p,oS];simp[GStep.after,g,Gl]
end
noncomputable def fe:Frame:={(default:Frame) with fn:=prog.funcs.size,defers:=[],mode:=.panicking [goexitEntry]}
section
variable {X:Wx} {v:ByteArray×Bool} {listed:Array Bool} {T T':Array Value} {S:ak} {w w1:World} {dd:Deferred} {k:List Item} {rest:List Nat}
def ab9(h:Has X.C (2*X.κ) (.string v.1) w/\Has X.C (2*X.κ+1) (.bool v.2) w)(a:X.Rl S w w1):Has X.C (2*X.κ) (.string v.1) w1/\Has X.C (2*X.κ+1) (.bool v.2) w1:=
 ⟨(a.cell (2*X.κ) (by show 2*X.κ / 2=X.κ;omega)).trans h.1,(a.cell (2*X.κ+1) (by show(2*X.κ+1) / 2=X.κ;omega)).trans h.2⟩
def RI.rely(h:RI X v listed T S w)(a:X.Rl S w w1):RI X v listed T S w1:=⟨h.sz,h.cap,h.done,λe=>ab9 (h.st e) a,h.ord,h.inv.rely a⟩
def RI.put(h:RI X v listed T S w)(k:listed.size=8)(hi:i<7)(b:Tm [6+i] T T')(d:T'.getD (6+i) undef=X.val v i):RI X v (listed.setIfInBounds i true) T' S w:=by
 refine⟨b.size.trans h.sz,λt f g=>(b.same t (by simp;omega)).trans (h.cap t f g),λj c e=> ?_,λe=> ?_,λe j c=> ?_,h.inv⟩
 .by_cases a:j=i
  .subst a;exact d
  .rw[iA (by omega),bd a] at e;exact(b.same (6+j) (by simp;omega)).trans (h.done j c e)
 .rw[iA (by omega),bd (by omega)] at e;exact h.st e
 .rw[iA (by omega),bd (by omega)] at e;rw[iA (by omega)];by_cases a:j=i
  .rw[dj a]
  .rw[bd a];exact h.ord e j c
def atm(hi:X.Inv S w)(g:X.Ok)(c:X.R b):X.Gr S S w w (seen prog f #[⟨.cell ⟨b,0,none⟩,false,false⟩]):=by
 refine⟨λ_ _ _ _=>rfl,am _,rfl,id,λ_ _=>rfl,λ_ h=>h,λ_ h=>.inl h,λe i=> ?_⟩;have a:=sR i;simp only[rX,mc,rJ,um] at a;subst a;refine⟨λx d=>.inr (.inr ?_),(λe=>by cases e),(λe=>by cases e),(λe=>by cases e), ?_⟩
 .simp[MemAct.ofEvent,MemAct.touch?] at d;rw[<-d];exact⟨c,rfl⟩
 .exact aE (g.rlt b c) hi.sz
def akg :X.Gr S S w w (seen prog f #[]):=
 ⟨λ_ _ _ _=>rfl,am _,rfl,id,λ_ _=>rfl,λ_ h=>h,λ_ h=>.inl h,λe a=>by cases(by simpa using sR a:False)⟩
def akh{x:Operand}{t:TypeId}{A:Addr}{u:Value}{dst:Option Tmp}{pos:String}(b:P.underlying t=some d)(a:ajK d=true)(c:e x=.pointer (some A))(f:w.cell? A=some u) :
  (execOp e ⟨dst,.load t x,ty,pos,af,gd⟩).runT P w #[]=(.ok (.value u) w,#[⟨.cell A,false,false⟩]):=by
 cases d<;>first|(cases a;done)|simp[execOp,c,Instr.loadAt,Instr.sureAddr,loadVar,isAgg,lE b,f]
def aca (n:X.Ok) (h:RI X v listed T S w) {t ty : Nat}  (hi:i<5) (a:∃p,aS[i]?=some ⟨some (6+i),.load ty (.tmp t),ty,p,#[],none⟩) (q:prog.underlying ty=some d) (l:ajK d=true)
  (c:T.getD t undef=.pointer (some ⟨b,0,none⟩)) (e:X.R b/\X.w0.cell? ⟨b,0,none⟩=some (X.val v i))
  (K:∀T' g,RI X v listed T S g->Tm [6+i] T T'->T'.getD (6+i) undef=X.val v i->bC prog false X.Rl X.Gr Stop S (Gl [FW dd T' (.inRegion aS rest::k)] [fe]) g) :
  bC prog false X.Rl X.Gr Stop S (Gl [FW dd T (.inRegion aS (i::rest)::k)] [fe]) w:=by
 obtain⟨p,a⟩:=a;refine .step rfl λw1 o=> ?_;have f:=h.rely o;refine⟨_,w1,_,S,atl (xs:=[]) (base:=[fe]) rfl rfl rfl rfl a rfl (akh q l (x:=.tmp t) (A:=⟨b,0,none⟩) c (f.inv.cell e.1 e.2)),atm f.inv n e.1, ?_⟩;have m:Frame.finish (FW dd T (.inRegion aS (i::rest)::k)) (X.val v i)=FW dd (T.setIfInBounds (6+i) (X.val v i)) (.inRegion aS rest::k):=by
  simp only[Frame.finish,a,qC]
 rw[m];have j:6+i<T.size:=by rw[h.sz];omega
 exact K _ w1 f (.one (by simp) λt c=>by rw[aF j,bd c]) (by rw[aF j,dj rfl])
def atn(F:FaT P){x y:Operand}{dst:Option Tmp}{pos:String}(f:e x=.slice (some a) n c)(b:e y=.int .i64 j)(g:j<n) :
  (execOp e ⟨dst,.indexAddr 87 x y,ty,pos,af,gd⟩).runT P w #[]=(.ok (.value (.pointer (some (a.add (j*2))))) w,#[]):=by
 obtain⟨i,d,k, -⟩:=F.adF;simp[execOp,f,b,Instr.indexAt,asIntOf,lE F.ahX,g,sizeOf,typeInfo,d,k]
def ato (e:X.Ok) (h:RI X v listed T S w) (g:listed.getD 0 false=true) (l:listed.getD 1 false=true)
  (K:∀T' b,RI X v listed T S b->Tm [6+6] T T'->T'.getD (6+6) undef=X.val v 6->bC prog false X.Rl X.Gr Stop S (Gl [FW dd T' (.inRegion aS rest::k)] [fe]) b) :
  bC prog false X.Rl X.Gr Stop S (Gl [FW dd T (.inRegion aS (6::rest)::k)] [fe]) w:=by
 obtain⟨p,a⟩:=aBI;refine .step rfl λw1 f=> ?_;refine⟨_,w1,_,S,atl (xs:=[]) (base:=[fe]) rfl rfl rfl rfl a rfl (atn faT (x:=.tmp 6) (y:=.tmp 7) (h.done 0 (by omega) g) (h.done 1 (by omega) l) e.kn),akg, ?_⟩;have j:(⟨X.C,0,none⟩:Addr).add (X.κ*2)=⟨X.C,2*X.κ,none⟩:=by rw[iT,ls,tL]
 rw[j];have d:Frame.finish (FW dd T (.inRegion aS (6::rest)::k)) (X.val v 6)=FW dd (T.setIfInBounds 12 (X.val v 6)) (.inRegion aS rest::k):=by
  simp only[Frame.finish,a,qC]
 have c:12<T.size:=by rw[h.sz];omega
 have:=K (T.setIfInBounds 12 (X.val v 6)) w1 (h.rely f) (.one (by simp) λt i=>by rw[aF c,bd i]) (by rw[aF c,dj rfl]);rw[<-d] at this;exact this
end
def aim{args:Array Value} :(callFunc 48 args).runT prog w #[]=(.ok (.enter 48 args) w,#[]):=by
 have a:=cK func48;have c:¬f48.name= "runtime.NumGoroutine" :=by simpa using a
 have b:¬f48.body=none:=λe=>by have:=afr;rw[e] at this;cases this
 unfold callFunc;simp[func48,c,b]
def aki {m:Bool} {base : List Frame}     {w2 : World}  {args:Array Value} (j:fr.mode=.run) (l:(fr.kind ==.early)=false) (b:fr.roundOf=none) (g:fr.todo=.inRegion U (i::rest)::k) (p:U[i]?=some o) (r:o.guard=none)
  (q:(execOp fr.eval o).runT P w #[]=(.ok (.enter f args) w2,es)):stepG P m (Gl (fr::xs) base) w=.go (Gl (Frame.enter P f args .normal::fr::xs) base) w2 (seen P fr.fn es):=by
 obtain⟨fn,a,e,d,u,c,t⟩:=fr;dsimp only at j l b g;subst j b g;have n:∀y,Region.wanted o y=true:=λy=>by unfold Region.wanted;rw[r]
 have s:stepG P m (Gl (⟨fn,a,.inRegion U (i::rest)::k,d,.run,c,none⟩::xs) base) w =
   stepG.apply P true ⟨fn,a,.inRegion U (i::rest)::k,d,.run,c,none⟩ (xs++base) none (execOp (Frame.eval ⟨fn,a,.inRegion U (i::rest)::k,d,.run,c,none⟩) o) w:=by
  simp[Gl,stepG,stepG.exec,stepG.oper,Frame.oper?,p,n]
 rw[s];unfold stepG.apply;simp only[q,oS];simp[GStep.after,l,Gl]
section
variable {X:Wx} {v:ByteArray×Bool} {listed:Array Bool} {T T':Array Value} {S:ak} {w w1:World} {dd:Deferred} {k:List Item} {rest:List Nat}
def avV(a:X.Ok)(q:eI Z)(j:∀d nm,Z d [] nm=(⟨#[]⟩,false))(hi:X.Inv S w){cfr:Frame} :
  bC prog false X.Rl X.Gr (λn g w1=>g=⟨cfr.finish (.agg #[.string (Z X.key X.l X.nm).1,.bool (Z X.key X.l X.nm).2]),[fe],.running,none,none⟩/\X.Inv n w1) S
   (Gl (Frame.enter prog 48 #[.int .i64 X.key,.slice X.A X.n X.c,.int .i64 X.nm] .normal::[]) [cfr,fe]) w:=by
 by_cases k:X.n=0
 .have l:X.l=[]:=by have:=a.hl;rw[k] at this;exact pi.1 this
  rw[l,j,k];exact Wx.lift a (avS X.mG) hi
 .have m:∀(A:Addr) (u:Value),X.w0.cell? A=some u->X.Rg A.block->plV (λb=>X.Rg b/\eB X.w0 b) u->w.cell? A=some u:=λA u o p _=>(gu (hi.r _ (a.rows _ p))).trans o;exact Wx.lift a (as8 (Rg:=X.Rg) q (da a.hN hi.sz) (λg i=>by
   obtain⟨c,t,z,e⟩:=a.gr g i;exact⟨a.gl g i,c,t,z,(hi.r g (a.rows g (a.gl g i))).trans e⟩) a.k1 a.k2 a.hl a.hc a.hcm (a.rd.mask a.rgp a.al m) (a.rgp.move a.al λb f=>hi.r b (a.rows b f)) a.al (by omega) a.nm X.mG (λb f=>a.rows b f.1)) hi
def atp (B:X.Ok) (x:eI Z) (a:∀b nm,Z b [] nm=(⟨#[]⟩,false)) (h:RI X (Z X.key X.l X.nm) listed T S w) (f:listed.getD 5 false=false) (n:listed.getD 2 false=true) (D:listed.getD 3 false=true) (q:listed.getD 4 false=true)
  (K:∀T' l d,RI X (Z X.key X.l X.nm) listed T l d->Tm [6+5] T T'->T'.getD (6+5) undef=X.val (Z X.key X.l X.nm) 5->bC prog false X.Rl X.Gr Stop l (Gl [FW dd T' (.inRegion aS rest::k)] [fe]) d) :
  bC prog false X.Rl X.Gr Stop S (Gl [FW dd T (.inRegion aS (5::rest)::k)] [fe]) w:=by
 obtain⟨p,j⟩:=aBH;refine .step rfl λw1 C=> ?_;have r:=h.rely C;have m:∀w,(execOp (Frame.eval (FW dd T (.inRegion aS (5::rest)::k))) ⟨some 11,.call ⟨.value (.func 48),#[.tmp 8,.tmp 9,.tmp 10],#[3,23,3]⟩,100,p,#[⟨2,.data⟩,⟨3,.data⟩,⟨4,.data⟩],none⟩).runT prog w #[]=(.ok (.enter 48 #[.int .i64 X.key,.slice X.A X.n X.c,.int .i64 X.nm]) w,#[]):=λw=>by
  have E:Array.map (Frame.eval (FW dd T (.inRegion aS (5::rest)::k))) #[.tmp 8,.tmp 9,.tmp 10]=#[.int .i64 X.key,.slice X.A X.n X.c,.int .i64 X.nm]:=by
   have G:T.getD 8 undef=.int .i64 X.key:=h.done 2 (by omega) n;have v:T.getD 9 undef=.slice X.A X.n X.c:=h.done 3 (by omega) D;have y:T.getD 10 undef=.int .i64 X.nm:=h.done 4 (by omega) q;rw[<-G,<-v,<-y];simp[Frame.eval]
  have F:execOp (Frame.eval (FW dd T (.inRegion aS (5::rest)::k))) ⟨some 11,.call ⟨.value (.func 48),#[.tmp 8,.tmp 9,.tmp 10],#[3,23,3]⟩,100,p,#[⟨2,.data⟩,⟨3,.data⟩,⟨4,.data⟩],none⟩=callFunc 48 #[.int .i64 X.key,.slice X.A X.n X.c,.int .i64 X.nm]:=by
   simp only[execOp,resolve];rw[E];simp[Deferred.ofValue,invoke,Frame.eval];try rfl
  exact(gc (λs=>Sem.runT prog s w #[]) F).trans aim
 refine⟨_,w1,_,S,aki (xs:=[]) (base:=[fe]) rfl rfl rfl rfl j rfl (m w1),akg, ?_⟩;refine bC.bind X.mG.fP X.mG.tr (avV B x a r.inv (cfr:=FW dd T (.inRegion aS (5::rest)::k))) λz g H ⟨hg,ly⟩=> ?_;subst hg;have i:11<T.size:=by rw[h.sz];omega
 have A:Frame.finish (FW dd T (.inRegion aS (5::rest)::k)) (X.val (Z X.key X.l X.nm) 5)=FW dd (T.setIfInBounds 11 (X.val (Z X.key X.l X.nm) 5)) (.inRegion aS rest::k):=by
  simp only[Frame.finish,j,qC]
 have u:listed.getD 7 false=false:=by
  cases e:listed.getD 7 false with
  |false=>rfl
  |true=>rw[h.ord e 5 (by omega)] at f;cases f
 have:=K (T.setIfInBounds 11 (X.val (Z X.key X.l X.nm) 5)) z H ⟨h.sz,h.cap,h.done,λe=>(by rw[u] at e;cases e),h.ord,ly⟩ (.one (by simp) λt o=>by rw[aF i,bd o]) (by rw[aF i,dj rfl]);rw[<-A] at this;exact this
end
section
variable {X:Wx} {v:ByteArray×Bool} {listed:Array Bool} {T T':Array Value} {S:ak} {w w1:World} {dd:Deferred} {k:List Item} {rest:List Nat}
def ap2 (B:X.Ok) (h:RI X v listed T S w) (M:listed.getD 5 false=true) (U:listed.getD 6 false=true)
  (K:∀s,X.Inv S s->(Has X.C (2*X.κ) (.string v.1) s/\Has X.C (2*X.κ+1) (.bool v.2) s)->bC prog false X.Rl X.Gr Stop S (Gl [FW dd T (.inRegion aS rest::k)] [fe]) s) :
  bC prog false X.Rl X.Gr Stop S (Gl [FW dd T (.inRegion aS (7::rest)::k)] [fe]) w:=by
 obtain⟨p,F⟩:=aBJ;refine .step rfl λw1 Q=> ?_;have E:=h.rely Q;obtain⟨t,g,H⟩:=E.inv.pay;have g:w1.heap[X.C]?=some (.cells t 100 (0,0)):=g;have L:=B.kn;obtain⟨u0,C⟩:∃u,t[2*X.κ]?=some u:=⟨_,ge (by omega)⟩;obtain⟨u1,z⟩:∃u,t[2*X.κ+1]?=some u:=⟨_,ge (by omega)⟩;have D:(⟨X.C,2*X.κ,none⟩:Addr).add 1=⟨X.C,2*X.κ+1,none⟩:=iT _ _ _;have q:=agU faT (w:=w1) (e:=Frame.eval (FW dd T (.inRegion aS (7::rest)::k))) (x:=.tmp 12) (y:=.tmp 11) (dst:=none) (ty:=0) (pos:=p) (af:=#[⟨6,.data⟩,⟨5,.data⟩,⟨5,.chain⟩,⟨0,.phase⟩,⟨1,.phase⟩,⟨2,.phase⟩,⟨3,.phase⟩,⟨4,.phase⟩,⟨5,.phase⟩]) (gd:=none) (A:=⟨X.C,2*X.κ,none⟩) (u0:=.string v.1) (u1:=.bool v.2) rfl rfl
  (h.done 6 (by omega) U) (h.done 5 (by omega) M) ((eU g).trans C) (ir g) (by rw[D];exact(eU g).trans z) (by rw[D];exact ir g)
 rw[D] at q;have a:((w1.setCell ⟨X.C,2*X.κ,none⟩ (.string v.1)).setCell ⟨X.C,2*X.κ+1,none⟩ (.bool v.2)).heap[X.C]?=some (.cells ((t.setIfInBounds (2*X.κ) (.string v.1)).setIfInBounds (2*X.κ+1) (.bool v.2)) 100 (0,0)):=vg (vg g);have c:((w1.setCell ⟨X.C,2*X.κ,none⟩ (.string v.1)).setCell ⟨X.C,2*X.κ+1,none⟩ (.bool v.2)).heap.size=w1.heap.size:=by rw[eg,eg]
 have d:∀b,b≠X.C->((w1.setCell ⟨X.C,2*X.κ,none⟩ (.string v.1)).setCell ⟨X.C,2*X.κ+1,none⟩ (.bool v.2)).heap[b]?=w1.heap[b]?:=λb j=>by
  rw[aZ _ _ _ (λe=>j e.symm),aZ _ _ _ (λe=>j e.symm)]
 have n:((w1.setCell ⟨X.C,2*X.κ,none⟩ (.string v.1)).setCell ⟨X.C,2*X.κ+1,none⟩ (.bool v.2)).ou=w1.ou:=rfl;have l:=akf (m:=false) (xs:=[]) (base:=[fe]) (k:=k) (fr:=FW dd T (.inRegion aS (7::rest)::k)) rfl rfl rfl rfl F rfl q;generalize ((w1.setCell ⟨X.C,2*X.κ,none⟩ (.string v.1)).setCell ⟨X.C,2*X.κ+1,none⟩ (.bool v.2))=w2 at a c d n l;have O:Frame.finish (FW dd T (.inRegion aS (7::rest)::k)) undef=FW dd T (.inRegion aS rest::k):=by
  simp only[Frame.finish,F,qC]
 rw[O] at l;have f:=E.inv;have o:X.Inv S w2:=by
  refine⟨λb j=>(d b (λe=>B.rC (e▸j))).trans (f.r b j),f.s,by rw[c];exact f.c,by rw[c];exact f.wg,by rw[c];exact f.sz, ?_,⟨_,a,by simpa using H⟩,n.trans f.os⟩;obtain⟨R,sm,P⟩:=f.live;exact⟨R,sm,(d X.Wg (λe=>B.cW e.symm)).trans P⟩
 refine⟨_,w2,_,S,l,⟨λb _ _ j=>d b j,mt c.symm,n,λ_=>⟨_,a,by simpa using H⟩,λi I=> ?_,λ_ h=>h,λ_ h=>.inl h,λe V=> ?_⟩,K w2 o ⟨?_, ?_⟩⟩
 .have N:i≠2*X.κ:=λe=>I (by show i / 2=X.κ;omega);have W:i≠2*X.κ+1:=λe=>I (by show i / 2=X.κ;omega);rw[eU a,eU g,ip (λe=>W e.symm),ip (λe=>N e.symm)]
 .have G:=sR V;simp only[rX,mc,rJ,um] at G;have J:X.C<w2.heap.size:=by rw[c];exact f.c
  rcases G with rfl|rfl
  .refine⟨λx r=>.inr (.inl ⟨⟨X.C,2*X.κ,none⟩, ?_,rfl, ?_⟩),(λe=>by cases e),(λe=>by cases e),(λe=>by cases e),J⟩
   .simp[MemAct.ofEvent,MemAct.touch?] at r;rw[<-r]
   .show 2*X.κ / 2=X.κ;omega
  .refine⟨λx r=>.inr (.inl ⟨⟨X.C,2*X.κ+1,none⟩, ?_,rfl, ?_⟩),(λe=>by cases e),(λe=>by cases e),(λe=>by cases e),J⟩
   .simp[MemAct.ofEvent,MemAct.touch?] at r;rw[<-r]
   .show(2*X.κ+1) / 2=X.κ;omega
 .show w2.cell? ⟨X.C,2*X.κ,none⟩=_;rw[eU a,ip (by omega),pu (by omega)]
 .show w2.cell? ⟨X.C,2*X.κ+1,none⟩=_;rw[eU a,pu (by simp;omega)]
def axl(X:Wx)(v:ByteArray×Bool)(dd:Deferred)(k:List Item):ak->Goroutine->World->Prop:=λS g w=>∃T,g=Gl [FW dd T (.inRegion aS []::k)] [fe]/\T.size=13/\X.Inv S w/\Has X.C (2*X.κ) (.string v.1) w/\Has X.C (2*X.κ+1) (.bool v.2) w
def agX(c:X.Ok){o:Int->List gY->Int->ByteArray×Bool}(B:eI o)(p:∀v nm,o v [] nm=(⟨#[]⟩,false)):∀(fuel t:Nat) (listed:Array Bool) (T:Array Value) (S:ak) (w:World),listed.size=8->unW listed<=fuel->RI X (o X.key X.l X.nm) listed T S w->
  bC prog false X.Rl X.Gr (axl X (o X.key X.l X.nm) dd k) S (Gl [FW dd T (.inRegion aS (Region.linearise.go .any aS fuel t listed [])::k)] [fe]) w
 |0,t,listed,T,S,w,d,hf,h=>by
  have l:=aBK d (.inr (by omega));exact .stop λw1 m=>⟨T,rfl,h.sz,h.inv.rely m,ab9 (h.st (l 7 (by omega))) m⟩
 |fuel+1,t,listed,T,S,w,d,hf,h=>by
  simp only[Region.linearise.go];change bC _ _ _ _ _ S (Gl [FW dd T (.inRegion aS (match(Region.ready .any aS listed)[t % (Region.ready .any aS listed).length]? with
   |some i=>Region.linearise.go .any aS fuel (t / (Region.ready .any aS listed).length) (listed.setIfInBounds i true) [i]
   |none=>[].reverse)::k)] [fe]) w
  cases z:(Region.ready .any aS listed)[t % (Region.ready .any aS listed).length]? with
  |none=>
   have q:Region.ready .any aS listed=[]:=by
    cases m:Region.ready .any aS listed with
    |nil=>rfl
    |cons x D=>
     rw[m] at z;have r:t % (x::D).length<(x::D).length:=uC _ (by simp);simp at z;simp at r;omega
   have l:=aBK d (.inl q);exact .stop λw1 m=>⟨T,rfl,h.sz,h.inv.rely m,ab9 (h.st (l 7 (by omega))) m⟩
  |some i=>
   simp only[];rw[linearise_go_acc,List.reverse_singleton,List.singleton_append];obtain⟨y,C,hd⟩:=(aft d).1 (be z);have F:=avU d y C;have s:(listed.setIfInBounds i true).size=8:=by simpa using d
   have next:∀T' n a,RI X (o X.key X.l X.nm) (listed.setIfInBounds i true) T' n a->bC prog false X.Rl X.Gr (axl X (o X.key X.l X.nm) dd k) n (Gl [FW dd T' (.inRegion aS (Region.linearise.go .any aS fuel (t / (Region.ready .any aS listed).length) (listed.setIfInBounds i true) [])::k)] [fe]) a:=
    λT' n a b=>agX c B p fuel _ _ T' n a s (by omega) b
   generalize Region.linearise.go .any aS fuel (t / (Region.ready .any aS listed).length) (listed.setIfInBounds i true) []=rest at next ⊢
   have:i=0\/i=1\/i=2\/i=3\/i=4\/i=5\/i=6\/i=7:=by omega
   rcases this with rfl|rfl|rfl|rfl|rfl|rfl|rfl|rfl
   .exact aca c h (by omega) aBC faT.ahX rfl (h.cap 4 (by omega) (by omega)) c.ra λT' a b f g=>next T' S a (b.put d (by omega) f g)
   .exact aca c h (by omega) aBD faT.u3 rfl (h.cap 5 (by omega) (by omega)) c.ri λT' a b f g=>next T' S a (b.put d (by omega) f g)
   .exact aca c h (by omega) aBE faT.u3 rfl (h.cap 1 (by omega) (by omega)) c.rk λT' a b f g=>next T' S a (b.put d (by omega) f g)
   .exact aca c h (by omega) aBF faT.u23 rfl (h.cap 2 (by omega) (by omega)) c.rp λT' a b f g=>next T' S a (b.put d (by omega) f g)
   .exact aca c h (by omega) aBG faT.u3 rfl (h.cap 3 (by omega) (by omega)) c.rn λT' a b f g=>next T' S a (b.put d (by omega) f g)
   .simp only[jP,fb] at hd;exact atp c B p h C hd.1.1 hd.1.2 hd.2 λT' n a b f g=>next T' n a (b.put d (by omega) f g)
   .simp only[jP,fb] at hd;exact ato c h hd.1.1.1.1.1 hd.1.1.1.1.2 λT' a b f g=>next T' S a (b.put d (by omega) f g)
   .simp only[jP,fb] at hd;refine ap2 c h hd.1.1.1.1.1.2 hd.1.1.1.1.1.1 λa u A=>next T S a ⟨h.sz,h.cap,λj E e=> ?_,λ_=>A,λ_ j E=> ?_,u⟩
    .rw[iA (by omega),bd (by omega)] at e;exact h.done j E e
    .rw[iA (by omega),bd (by omega)];have:j=0\/j=1\/j=2\/j=3\/j=4\/j=5\/j=6:=by omega
     rcases this with rfl|rfl|rfl|rfl|rfl|rfl|rfl
     .exact hd.1.1.1.1.2
     .exact hd.1.1.1.2
     .exact hd.1.1.2
     .exact hd.1.2
     .exact hd.2
     .exact hd.1.1.1.1.1.2
     .exact hd.1.1.1.1.1.1
end
end
section
open Go.Conc Go.ConcN Go.RowKit Go.Conc.Lib Go.ConcR.Gen Go.ConcN.Gen
open Go.ConcR (KK wgBlock WgAt stA smA rd wr mk Payload DC0)
section
variable {X:Wx} {v:ByteArray×Bool} {T:Array Value} {S:ak} {w w1:World} {dd:Deferred} {k:List Item} {Stop:ak->Goroutine->World->Prop}
def acb {fr2 : Frame} {es:World->Array Event} {g:World->World} (hi:X.Inv S w) (p:∀w,X.Inv S w->stepG prog false (Gl [fr] [fe]) w=.go (Gl [fr2] [fe]) (g w) (es w)) (q:∀w,(g w).heap=w.heap/\(g w).ou=w.ou) (s:∀w,X.Inv S w->∀e∈es w,False)
  (K:∀k,X.Inv S k->bC prog false X.Rl X.Gr Stop S (Gl [fr2] [fe]) k):bC prog false X.Rl X.Gr Stop S (Gl [fr] [fe]) w:=by
 refine .step rfl λw1 n=> ?_;have d:=hi.rely n;obtain⟨c,l⟩:=q w1;have f:∀a,(g w1).cell? a=w1.cell? a:=λa=>by unfold World.cell?;rw[c]
 refine⟨_,g w1,_,S,p w1 d,⟨λb _ _ _=>by rw[c],mt (by rw[c]),l,λ⟨j,a,b⟩=>⟨j,by rw[c];exact a,b⟩,λi _=>f _,λ_ h=>h,λ_ h=>.inl h,λe h=>(s w1 d e h).elim⟩,K _ ⟨λb o=>by rw[c];exact d.r b o,d.s,by rw[c];exact d.c,by rw[c];exact d.wg,by rw[c];exact d.sz, ?_, ?_,l.trans d.os⟩⟩
 .obtain⟨r,sm,m⟩:=d.live;exact⟨r,sm,by unfold WgAt;rw[c];exact m⟩
 .obtain⟨j,a,b⟩:=d.pay;exact⟨j,by rw[c];exact a,b⟩
abbrev ddW(Wg:Nat):Deferred:=⟨.fn (.func eJ.done) #[],#[.pointer (some ⟨Wg,0,none⟩)]⟩
def aDp:∃p,nN[0]?=some ⟨none,.defer ⟨.value (.func eJ.done),#[.tmp 0],#[97]⟩,0,p,#[],none⟩:=⟨_,rfl⟩
def avW(T:Array Value):QuitsD prog 2 0 (G ⟨nCl,T,[],[],.returning,.deferred,none⟩ [fe]):=by
 refine QuitsD.ctl (g':=G fe []) rfl (λw=> ?_) ?_
 .have a:(results f46 T).runT prog w #[]=(.ok (.tuple #[]) w,#[]):=by
   have:f46.results=#[]:=rfl;simp[results,this]
  simp only[G,stepG,unwind,func46,a];simp[doReturn,GStep.after,seen,fe,goexitEntry]
 refine QuitsD.ctl (g':={G fe [] with status:=.finished}) rfl (λw=> ?_) ⟨rfl,rfl⟩;simp[G,stepG,unwind,fe,goexitEntry,Frame.catches];rfl
def acR {fr2 : Frame} {cs cs2:List Frame} (hi:X.Inv S w) (c:Has X.C (2*X.κ) (.string v.1) w/\Has X.C (2*X.κ+1) (.bool v.2) w) {es:World->Array Event} (f:∀w,stepG prog false (G fr cs) w=.go (G fr2 cs2) w (es w)) (d:∀w,∀e∈es w,False)
  (K:∀a,X.Inv S a->Has X.C (2*X.κ) (.string v.1) a/\Has X.C (2*X.κ+1) (.bool v.2) a->bC prog false X.Rl X.Gr Stop S (G fr2 cs2) a):bC prog false X.Rl X.Gr Stop S (G fr cs) w:=by
 refine .step rfl λw1 b=> ?_;exact⟨_,w1,_,S,f w1,⟨λ_ _ _ _=>rfl,am _,rfl,id,λ_ _=>rfl,λ_ h=>h,λ_ h=>.inl h,λe h=>(d w1 e h).elim⟩,K w1 (hi.rely b) (ab9 c b)⟩
def acd  :∀e∈seen P f #[],False:=λe h=>by simpa using sR h
def akj{args:Array Value} :(callFunc eJ.done args).runT prog w #[]=(.ok (.enter eJ.done args) w,#[]):=by
 have h:=aat.f_done;have b:¬(doneFn eJ).name= "runtime.NumGoroutine" :=by decide
 have a:¬(doneFn eJ).body=none:=λe=>by cases e
 unfold callFunc;simp[h,b,a]
def azh(r:X.Ok)(k:X.tWg=eJ.tWg){val:Nat->Value}(q:val (2*X.κ)=.string v.1)(p:val (2*X.κ+1)=.bool v.2)(hi:X.Inv S w)(o:Has X.C (2*X.κ) (.string v.1) w/\Has X.C (2*X.κ+1) (.bool v.2) w) :
  bC prog false X.Rl X.Gr (agy prog X.tWg X.Wg X.C X.n2 val X.κ) S (G (FW (ddW X.Wg) T [.inRegion aS []]) [fe]) w:=by
 refine acR (fr2:=FW (ddW X.Wg) T []) (cs2:=[fe]) hi o (es:=λ_=>#[]) (λw=>by simp[G,stepG,stepG.exec]) (λ_ e h=>by simpa using h) λt m f=> ?_;refine acR (fr2:=⟨nCl,T,[],[ddW X.Wg],.returning,.deferred,none⟩) (cs2:=[fe]) m f (es:=λ_=>#[]) (λw=>by simp[G,stepG,stepG.exec]) (λ_ e h=>by simpa using h) λs g d=> ?_;have j:Frame.enter prog eJ.done #[.pointer (some ⟨X.Wg,0,none⟩)] .deferred=(baseD eJ.done).at ⟨#[.pointer (some ⟨X.Wg,0,none⟩),undef,undef,undef],[]⟩ [.code (body_done eJ)]:=by
  unfold Frame.enter;rw[aat.f_done];rfl
 refine acR (fr2:=(baseD eJ.done).at ⟨#[.pointer (some ⟨X.Wg,0,none⟩),undef,undef,undef],[]⟩ [.code (body_done eJ)]) (cs2:=[⟨nCl,T,[],[],.returning,.deferred,none⟩,fe]) g d (es:=λw=>seen prog nCl #[]) (λw=> ?_) (λ_=>acd) λl i b=> ?_
 .have a:(invoke (ddW X.Wg).target (ddW X.Wg).args).runT prog w #[]=(.ok (.enter eJ.done #[.pointer (some ⟨X.Wg,0,none⟩)]) w,#[]):=akj;simp only[G,stepG,unwind,callDeferred,a,j];simp[GStep.after]
 .have:=ap1 (κ:=X.κ) (n:=X.n2) (R:=X.R) (S:=S) (val:=val) (c:=⟨nCl,T,[],[],.returning,.deferred,none⟩) (cs:=[fe]) aat rfl (avW T) l (k▸i.live) (by rw[q];exact b.1) (by rw[p];exact b.2);rw[<-k] at this;exact this
end
abbrev Wx.nB(X:Wx):Array Value:=#[.pointer (some ⟨X.Wg,0,none⟩),.pointer (some ⟨X.bk,0,none⟩),.pointer (some ⟨X.bp,0,none⟩),.pointer (some ⟨X.bn,0,none⟩),.pointer (some ⟨X.ba,0,none⟩),.pointer (some ⟨X.bi,0,none⟩)]
abbrev FD(T:Array Value)(k:List Item):Frame:=⟨nCl,T,k,[],.run,.deferred,none⟩
def avX{a:Array Value}:Frame.enter prog nCl a .deferred=FD (a++Array.replicate (13-a.size) undef) [.code an8]:=by
 unfold Frame.enter;rw[func46];rfl
def azi:prog.follows .mixedOrders=true:=by kernel_rfl
section
variable {X:Wx} {S:ak} {w:World}
def akk(ok:X.Ok)(hF:eI Z)(x:∀C nm,Z C [] nm=(⟨#[]⟩,false))(M:X.tWg=eJ.tWg){val:Nat->Value}(v0:val (2*X.κ)=.string (Z X.key X.l X.nm).1)(P:val (2*X.κ+1)=.bool (Z X.key X.l X.nm).2)(hi:X.Inv S w) :
  bC prog false X.Rl X.Gr (agy prog X.tWg X.Wg X.C X.n2 val X.κ) S (G (Frame.enter prog nCl X.nB .deferred) [fe]) w:=by
 rw[avX];obtain⟨T,J,Q,g0,F⟩:∃T:Array Value,T=X.nB++Array.replicate (13-X.nB.size) undef/\T.size=13/\T.getD 0 undef=.pointer (some ⟨X.Wg,0,none⟩)/\∀t,1<=t->t<=5->T.getD t undef=X.cap t:=by
  refine⟨_,rfl,by simp, ?_,λt K m=> ?_⟩
  .rw[gn,rI (by simp)];rfl
  .rw[gn,rI (by simp;omega)];have:t=1\/t=2\/t=3\/t=4\/t=5:=by omega
   rcases this with rfl|rfl|rfl|rfl|rfl<;>rfl
 rw[<-J];clear J;rw[atk];refine acb (fr:=FD T [.code (.seq (.region 0 nN false) (.region 1 aS true))]) (fr2:=FD T [.code (.region 0 nN false),.code (.region 1 aS true)]) (g:=id) (es:=λ_=>#[]) hi (λw _=>by simp[Gl,stepG,stepG.exec]) (λ_=>⟨rfl,rfl⟩) (λ_ _ e h=>by simpa using h) λw1 K=> ?_;have B:List.range nN.size=[0]:=rfl;refine acb (fr2:=FD T [.inRegion nN [0],.code (.region 1 aS true)]) (g:=id) (es:=λ_=>#[]) K (λw _=>by simp[Gl,stepG,stepG.exec,B]) (λ_=>⟨rfl,rfl⟩) (λ_ _ e h=>by simpa using h) λw2 L=> ?_;obtain⟨p,H⟩:=aDp;refine acb (fr2:=FW (ddW X.Wg) T [.inRegion nN [],.code (.region 1 aS true)]) (g:=id) (es:=λ_=>seen prog nCl #[]) L (λw _=> ?_) (λ_=>⟨rfl,rfl⟩) (λ_ _=>acd) λw3 V=> ?_
 .have E:(execOp (Frame.eval (FD T [.inRegion nN [0],.code (.region 1 aS true)])) ⟨none,.defer ⟨.value (.func eJ.done),#[.tmp 0],#[97]⟩,0,p,#[],none⟩).runT prog w #[]=(.ok (.defer (ddW X.Wg)) w,#[]):=by
   have hm:Array.map (Frame.eval (FD T [.inRegion nN [0],.code (.region 1 aS true)])) #[.tmp 0]=#[.pointer (some ⟨X.Wg,0,none⟩)]:=by
    rw[<-g0];simp[Frame.eval]
   simp only[execOp,resolve];rw[hm];simp[Deferred.ofValue,Frame.eval]
  have R:∀y,Region.wanted ⟨none,.defer ⟨.value (.func eJ.done),#[.tmp 0],#[97]⟩,0,p,#[],none⟩ y=true:=λy=>rfl;have Y:stepG prog false (Gl [FD T [.inRegion nN [0],.code (.region 1 aS true)]] [fe]) w =
    stepG.apply prog true (FD T [.inRegion nN [0],.code (.region 1 aS true)]) [fe] none (execOp (Frame.eval (FD T [.inRegion nN [0],.code (.region 1 aS true)])) ⟨none,.defer ⟨.value (.func eJ.done),#[.tmp 0],#[97]⟩,0,p,#[],none⟩) w:=by
   simp[Gl,stepG,stepG.exec,stepG.oper,Frame.oper?,H,R]
  rw[Y];unfold stepG.apply;simp only[E,oS];have fS:(CallKind.deferred ==CallKind.early)=false:=rfl;simp[GStep.after,fS,Gl,Frame.finish,H]
 refine acb (fr2:=FW (ddW X.Wg) T [.code (.region 1 aS true)]) (g:=id) (es:=λ_=>#[]) V (λw _=>by simp[Gl,stepG,stepG.exec]) (λ_=>⟨rfl,rfl⟩) (λ_ _ e h=>by simpa using h) λw4 O=> ?_;refine .step rfl λr s=> ?_;have m:=O.rely s;have u:∃(t:Nat) (f:World),f.heap=r.heap/\f.ou=r.ou/\stepG prog false (Gl [FW (ddW X.Wg) T [.code (.region 1 aS true)]] [fe]) r=.go (Gl [FW (ddW X.Wg) T [.inRegion aS (Region.linearise.go .any aS 8 t (Array.replicate 8 false) [])]] [fe]) f #[]:=by
  have z:∀t,Region.schedule (prog.follows .mixedOrders) aS t=Region.linearise.go .any aS 8 t (Array.replicate 8 false) []:=λt=>by
   simp only[Region.schedule,azi,Bool.true_or,oS,Region.linearise,an9]
  simp only[Gl,stepG,stepG.exec,z,uT,jn,qB];cases d:(choose (.order nCl 1)).run prog r with
  |ok t f=>
   refine⟨t,f, ?_⟩;have:f.heap=r.heap/\f.ou=r.ou:=by
    unfold choose at d;rw[Sem.run] at d;split at d
    .cases d;exact⟨rfl,rfl⟩
    .cases d;exact⟨rfl,rfl⟩
   exact⟨this.1,this.2,rfl⟩
  |halt q f=>
   exfalso;unfold choose at d;rw[Sem.run] at d;split at d<;>cases d
 obtain⟨t,f,l,I,D⟩:=u;have o:∀a,f.cell? a=r.cell? a:=λa=>by unfold World.cell?;rw[l]
 have h6:X.Inv S f:=by
  refine⟨λb N=>by rw[l];exact m.r b N,m.s,by rw[l];exact m.c,by rw[l];exact m.wg,by rw[l];exact m.sz, ?_, ?_,I.trans m.os⟩
  .obtain⟨W,sm,U⟩:=m.live;exact⟨W,sm,by unfold WgAt;rw[l];exact U⟩
  .obtain⟨A,a,b⟩:=m.pay;exact⟨A,by rw[l];exact a,b⟩
 have n:∀j,(Array.replicate 8 false).getD j false=false:=λj=>by
  rw[gn,tO];split<;>rfl
 refine⟨_,f,_,S,D,⟨λb _ _ _=>by rw[l],mt (by rw[l]),I,λ⟨A,a,b⟩=>⟨A,by rw[l];exact a,b⟩,λi _=>o _,λ_ h=>h,λ_ h=>.inl h,λe h=>by simp at h⟩, ?_⟩;have v:=agX (dd:=ddW X.Wg) (k:=[]) ok hF x 8 t (Array.replicate 8 false) T S f (by simp) (List.countP_le_length) ⟨Q,F,λj _ e=>(by rw[n] at e;cases e),λe=>(by rw[n] at e;cases e),λe=>(by rw[n] at e;cases e),h6⟩;refine bC.bind X.mG.fP X.mG.tr v λS2 g w7 ⟨T2,hg,_,hi7,hv0,hv1⟩=> ?_;subst hg;exact azh ok M v0 P hi7 ⟨hv0,hv1⟩
def ap3{args:Array Value} :(callFunc nCl args).runT prog w #[]=(.ok (.enter nCl args) w,#[]):=by
 have a:=cK func46;have c:¬f46.name= "runtime.NumGoroutine" :=by simpa using a
 have b:¬f46.body=none:=λe=>by cases e
 unfold callFunc;simp[func46,c,b]
def akl(i:X.Ok)(n:eI Z)(g:∀d nm,Z d [] nm=(⟨#[]⟩,false))(k:X.tWg=eJ.tWg){val:Nat->Value}(m:val (2*X.κ)=.string (Z X.key X.l X.nm).1)(l:val (2*X.κ+1)=.bool (Z X.key X.l X.nm).2)(hi:X.Inv S w) :
  bC prog false X.Rl X.Gr (agy prog X.tWg X.Wg X.C X.n2 val X.κ) S (born prog ⟨.fn (.func nCl) X.nB,#[]⟩) w:=by
 refine .step rfl λa j=> ?_;have b:(invoke (Target.fn (.func nCl) X.nB) #[]).runT prog a #[]=(.ok (.enter nCl X.nB) a,#[]):=ap3;have f:stepG prog false (born prog ⟨.fn (.func nCl) X.nB,#[]⟩) a=.go (G (Frame.enter prog nCl X.nB .deferred) [fe]) a (seen prog prog.funcs.size #[]):=by
  simp only[born,stepG,unwind,callDeferred,b];simp[GStep.after,G,fe]
 exact⟨_,a,_,S,f,⟨λ_ _ _ _=>rfl,am _,rfl,id,λ_ _=>rfl,λ_ h=>h,λ_ h=>.inl h,λe h=>(acd e h).elim⟩,akk i n g k m l (hi.rely j)⟩
end
section
variable {P:Program} {R:World->World->Prop} {Q:World->Prop} {St:Goroutine->World->Prop}
def eW{main:Bool}(c:∀w d,Q w->R w d->Q d) :
  ∀{n:Nat} {g:Goroutine} {w:World},Q w->Goes P main R DC0 St n g w->Goes P main R DC0 (λg w=>St g w/\Q w) n g w
 |0,_,_,hq,h=>λa b=>⟨h a b,c _ _ hq b⟩
 |n+1,g,w,hq,h=>by
  rcases h with h|⟨f,h⟩
  .exact .inl λa b=>⟨h a b,c _ _ hq b⟩
  .refine .inr ⟨f,λa b=> ?_⟩;have:=h a b;cases e:stepG P main g a with
   |go k i j=>
    rw[e,tj] at this;rw[tj];exact⟨this.1,eW c (this.1.1▸c _ _ hq b) this.2⟩
   |_=>rw[e] at this;exact this.elim
def fB{main:Bool}(a:∀g w,St g w->T g w)(h:Goes P main R DC0 St n g w):Goes P main R DC0 T n g w:=nA (λ_ _ _ x=>x) a h
def jQ(c:∀w a,Q w->R w a->Q a){e:Mark}{m:Nat}(b:Q w)(h:nS P R e m St g w):nS P R e m (λg w=>St g w/\Q w) g w:=
 ⟨h.1,let⟨f,d,k⟩:=h.2;⟨f,d,eW c b k⟩⟩
def ace(b:∀g w,St g w->T g w){e:Mark}{m:Nat}(h:nS P R e m St g w):nS P R e m T g w:=
 ⟨h.1,let⟨c,a,k⟩:=h.2;⟨c,a,fB b k⟩⟩
def ap4{Wg:Nat}(a:∀w d,Q w->R w d->Q d)(k:∀w v i,Q w->WgAt ty Wg w v 0->Q (w.setCell (stA Wg) (.int .u64 i)))(l:Q w)(h:akd P R ty Wg St g w):akd P R ty Wg (λg w=>St g w/\Q w) g w:=
 ⟨h.1,λv m c=>by
  obtain⟨p,e,n,f⟩:=h.2 v m c;have b:=k w _ ((v+1)*KK) l c;exact⟨p,e,λj=>fB (λg w x=>ace (λg w x=>jQ a x.2 x.1) (jQ a x.2 x.1)) (eW a b (n j)),λo=>fB (λg w x=>jQ a x.2 x.1) (eW a b (f o))⟩⟩
end
section
variable [Payload] {P:Program} {L:WgLink} {Wg C n:Nat} {R S:ak}
 {b₀:Frame} {a₀:Act} {ops₀:Array Oper} {i₀:Nat} {rest₀:List Nat} {k₀:List Item} {cs:List Frame}
def azl{w' : World}(h:DC0 w w' es):Gua Wg C n R aU S S w w' es:=by
 obtain⟨rfl,rfl⟩:=h;exact⟨λ_ _ _ _=>rfl,am _,rfl,id,λ_ _=>rfl,λ_ h=>h,λ_ h=>.inl h,by simp⟩
omit [Payload] in
def ap5:(#[.pointer (some ⟨Wg,0,none⟩),.int .i64 1]:Array Value)++(List.replicate 115 undef).toArray=#[.pointer (some ⟨Wg,0,none⟩),.int .i64 1,undef,undef,undef,undef,undef,undef,undef,undef,undef,undef,undef,undef,undef,undef,undef,undef,undef,undef,undef,undef,undef,undef,undef,undef,undef,undef,undef,undef,undef,undef,undef,undef,undef,undef,undef,undef,undef,undef,undef,undef,undef,undef,undef,undef,undef,undef,undef,undef,undef,undef,undef,undef,undef,undef,undef,undef,undef,undef,undef,undef,undef,undef,undef,undef,undef,undef,undef,undef,undef,undef,undef,undef,undef,undef,undef,undef,undef,undef,undef,undef,undef,undef,undef,undef,undef,undef,undef,undef,undef,undef,undef,undef,undef,undef,undef,undef,undef,undef,undef,undef,undef,undef,undef,undef,undef,undef,undef,undef,undef,undef,undef,undef,undef,undef,undef]:=by
 simp[List.replicate]
def ap6 (H:WgLib P L) {val:Nat->Value} {d:ak->Goroutine->World->Prop} {Q:World->Prop} (e:∀w i,Q w->RM L.tWg Wg C n R S w i->Q i) (q:∀w v l,Q w->WgAt L.tWg Wg w v 0->Q (w.setCell (stA Wg) (.int .u64 l)))
  (s:∀w,WgLive L.tWg Wg w->Q w->bC P true (jM L.tWg Wg C (2*n) R noC) (Gua Wg C (2*n) R noC) (MGo P L.tWg Wg C n val j d R) S (G (b₀.at (a₀.put ((ops₀[i₀]?).bind (·.dst)) (.tuple #[])) (.inRegion ops₀ rest₀::k₀)) cs) w)
  (w:World) (u:WgLive L.tWg Wg w) (f:Q w) :
  bC P true (jM L.tWg Wg C (2*n) R noC) (Gua Wg C (2*n) R noC) (λS g w=>arY P L.tWg Wg C n val j d R S g w) S
   (G ((base L.add).at ⟨#[.pointer (some ⟨Wg,0,none⟩),.int .i64 1]++(List.replicate 115 undef).toArray,[]⟩ [.code (body_add L)]) (b₀.at a₀ (.inRegion ops₀ (i₀::rest₀)::k₀)::cs)) w:=by
 rw[ap5];have t:=atg (b₀:=b₀) (a₀:=a₀) (ops₀:=ops₀) (i₀:=i₀) (rest₀:=rest₀) (k₀:=k₀) (cs:=cs) (R:=RM L.tWg Wg C n R S) (S:=λg w=>g=G (b₀.at (a₀.put ((ops₀[i₀]?).bind (·.dst)) (.tuple #[])) (.inRegion ops₀ rest₀::k₀)) cs/\WgLive L.tWg Wg w) H (λ_ _ h r=>r.live h) (λ_ h=>⟨rfl,h⟩) w u;have m:=fB (λg w x=>ace (λg w x=>ap4 e q x.2 x.1) (jQ e x.2 x.1)) (eW (Q:=Q) e f t);refine bC.abS (R:=RM L.tWg Wg C n R S) (λ_ _ h=>h) (λ_ _ _ h=>azl h) (λ_ _ h=>azf (λg w p=> ?_) h) m;refine bC.bind (λS w=>jM.refl R noC S w) (λS a b c=>jM.trans) (bC.abS (S:=S) (R:=RM L.tWg Wg C n R S) (Stop:=λk g w=>k=S/\(g=G (b₀.at (a₀.put ((ops₀[i₀]?).bind (·.dst)) (.tuple #[])) (.inRegion ops₀ rest₀::k₀)) cs/\WgLive L.tWg Wg w)/\Q w) (λ_ _ h=>h) (λ_ _ _ h=>azl h) (λ_ _ h=>⟨rfl,h⟩) p) ?_;rintro k g w ⟨rfl,⟨rfl,o⟩,f⟩;exact s w o f
end
end
section
open Go.Conc Go.ConcN Go.RowKit
open Go.ConcR (KK wgBlock WgAt stA smA rd wr mk Payload DC0)
noncomputable def acf:Code:=f26.body.getD .skip
noncomputable def agY:Array Oper:=ug (lq acf)
noncomputable def adl:Array Oper:=ug (lq (cj acf))
noncomputable def nO:Array Oper:=ug (lq (cj (cj acf)))
noncomputable def axm:Code:=lq (cj (cj (cj acf)))
noncomputable def agZ:Array Oper:=ug (lq axm)
def azm:Code->Code
 |.block _ (.loop c)=>c
 |c=>c
def avY:Code->Code
 |.block _ c=>c
 |c=>c
noncomputable def jq:Code:=azm (cj axm)
noncomputable def atq:Array Oper:=ug (lq jq)
noncomputable def amM:Code:=avY (lq (cj (cj jq)))
noncomputable def acg:Array Oper:=ug (lq amM)
noncomputable def aav:Array Oper:=ug (lq (cj amM))
noncomputable def lQ:Array Oper:=ug (cj (cj amM))
noncomputable def akm:Array Oper:=ug (cj (cj (cj jq)))
noncomputable def jR:Array Oper:=ug (lq (cj (cj (cj (cj acf)))))
def atr:acf=.seq (.region 0 agY false) (.seq (.region 1 adl false) (.seq (.region 2 nO false) (.seq (.seq (.region 3 agZ false) (.block 0 (.loop jq))) (.seq (.region 9 jR false) cP)))):=rfl
def ag0:jq=.seq (.region 4 atq false) (.seq (.cond (.tmp 21) .skip (.exit 0)) (.seq (.block 1 (.seq (.region 5 acg false) (.seq (.region 6 aav false) (.region 7 lQ false)))) (.region 8 akm false))):=rfl
def aDr:∃p a,agY[0]?=some ⟨some 3,.box 3 (.tmp 0),0,p,a,none⟩:=⟨_,_,rfl⟩
def aDs:∃p a,agY[1]?=some ⟨some 4,.box 23 (.tmp 1),0,p,a,none⟩:=⟨_,_,rfl⟩
def aDt:∃p a,agY[2]?=some ⟨some 6,.assign (.const (.slice none 0 0)),66,p,a,none⟩:=⟨_,_,rfl⟩
def aDu:∃p a,agY[3]?=some ⟨some 7,.assign (.const (.bool false)),4,p,a,none⟩:=⟨_,_,rfl⟩
def aDv:∃p a,adl[0]?=some ⟨some 15,.move (.tmp 2),43,p,a,none⟩:=⟨_,_,rfl⟩
def aDw:∃p a,adl[1]?=some ⟨some 16,.call ⟨.builtin .len,#[.tmp 15],#[43]⟩,3,p,a,none⟩:=⟨_,_,rfl⟩
def aDx:∃p a,adl[2]?=some ⟨some 17,.makeSlice 87 (.tmp 16) (.tmp 16),87,p,a,none⟩:=⟨_,_,rfl⟩
def aDy:∃p a,adl[3]?=some ⟨some 8,.alloc 87,0,p,a,none⟩:=⟨_,_,rfl⟩
def aDz:∃p a,adl[4]?=some ⟨none,.store 87 (.tmp 8) (.tmp 17),0,p,a,none⟩:=⟨_,_,rfl⟩
def aDA:∃p a,nO[0]?=some ⟨some 9,.alloc eJ.tWg,0,p,a,none⟩:=⟨_,_,rfl⟩
def aDB:∃p a,agZ[0]?=some ⟨some 18,.move (.tmp 2),43,p,a,none⟩:=⟨_,_,rfl⟩
def aDC:∃p a,agZ[1]?=some ⟨some 19,.call ⟨.builtin .len,#[.tmp 18],#[43]⟩,3,p,a,none⟩:=⟨_,_,rfl⟩
def aDD:∃p a,agZ[2]?=some ⟨some 20,.move (.const (.int .i64 0)),3,p,a,none⟩:=⟨_,_,rfl⟩
def aDE:∃p a,atq[0]?=some ⟨some 21,.binOp .lss 3 (.tmp 20) (.tmp 19) 3,0,p,a,none⟩:=⟨_,_,rfl⟩
def aDF:∃p a,acg[0]?=some ⟨some 22,.move (.tmp 20),3,p,a,none⟩:=⟨_,_,rfl⟩
def aDG:∃p a,acg[1]?=some ⟨some 23,.indexAddr 43 (.tmp 18) (.tmp 20),0,p,a,none⟩:=⟨_,_,rfl⟩
def aDH:∃p a,acg[2]?=some ⟨some 24,.load 3 (.tmp 23),3,p,a,none⟩:=⟨_,_,rfl⟩
def aDI:∃p a,acg[3]?=some ⟨some 10,.alloc 3,0,p,a,none⟩:=⟨_,_,rfl⟩
def aDJ:∃p a,acg[4]?=some ⟨some 11,.alloc 3,0,p,a,none⟩:=⟨_,_,rfl⟩
def aDK:∃p a,acg[5]?=some ⟨none,.store 3 (.tmp 10) (.tmp 22),0,p,a,none⟩:=⟨_,_,rfl⟩
def aDL:∃p a,acg[6]?=some ⟨none,.store 3 (.tmp 11) (.tmp 24),0,p,a,none⟩:=⟨_,_,rfl⟩
def aBM:∃p a,aav[0]?=some ⟨some 25,.call ⟨.value (.func eJ.add),#[.tmp 9,.const (.int .i64 1)],#[eJ.tWg,3]⟩,0,p,a,none⟩:=⟨_,_,rfl⟩
def aDM:∃p a,lQ[0]?=some ⟨some 26,.makeFunc (.func nCl) #[] #[.tmp 9,.tmp 3,.tmp 4,.tmp 11,.tmp 8,.tmp 10],1,p,a,none⟩:=⟨_,_,rfl⟩
def aDN:∃p a,lQ[1]?=some ⟨none,.go ⟨.value (.tmp 26),#[],#[]⟩,0,p,a,none⟩:=⟨_,_,rfl⟩
def aDO:∃p a,akm[0]?=some ⟨some 27,.binOp .add 3 (.tmp 20) (.const (.int .i64 1)) 3,3,p,a,none⟩:=⟨_,_,rfl⟩
def aDP:∃p a,akm[1]?=some ⟨some 20,.move (.tmp 27),3,p,a,none⟩:=⟨_,_,rfl⟩
def aBN:∃p a,jR[0]?=some ⟨some 28,.call ⟨.value (.func eJ.wait),#[.tmp 9],#[eJ.tWg]⟩,0,p,a,none⟩:=⟨_,_,rfl⟩
def wl  :seen P f #[]=#[]:=by
 rw[Array.eq_empty_iff_size_eq_zero];rcases h:(seen P f #[]).size with _|n
 .rfl
 .exact(acd _ (Array.getElem_mem (xs:=seen P f #[]) (i:=0) (by omega))).elim
def avZ{T:Array Value}{base : List Frame}(h:T.getD 26 undef=.func (.func nCl) #[] X) :
  stepG prog true (Gl (FQ cD T (.inRegion lQ [1]::k)::xs) base) w=.spawn (Gl (FQ cD T (.inRegion lQ []::k)::xs) base) (born prog ⟨.fn (.func nCl) X,#[]⟩) w #[]:=by
 obtain⟨p,a,d⟩:=aDN;have b:(execOp (Frame.eval (FQ cD T (.inRegion lQ [1]::k))) ⟨none,.go ⟨.value (.tmp 26),#[],#[]⟩,0,p,a,none⟩).runT prog w #[]=(.ok (.spawn ⟨.fn (.func nCl) X,#[]⟩) w,#[]):=by
  have i:Frame.eval (FQ cD T (.inRegion lQ [1]::k)) (.tmp 26)=.func (.func nCl) #[] X:=h;simp only[execOp,resolve,i];simp[Deferred.ofValue]
 have e:∀y,Region.wanted ⟨none,.go ⟨.value (.tmp 26),#[],#[]⟩,0,p,a,none⟩ y=true:=λy=>rfl;have g:stepG prog true (Gl (FQ cD T (.inRegion lQ [1]::k)::xs) base) w =
   stepG.apply prog true (FQ cD T (.inRegion lQ [1]::k)) (xs++base) none (execOp (Frame.eval (FQ cD T (.inRegion lQ [1]::k))) ⟨none,.go ⟨.value (.tmp 26),#[],#[]⟩,0,p,a,none⟩) w:=by
  simp[Gl,stepG,stepG.exec,stepG.oper,Frame.oper?,d,e]
 rw[g];unfold stepG.apply;simp only[b,oS];have f:(CallKind.normal ==CallKind.early)=false:=rfl;simp[GStep.after,f,Gl,Frame.finish,d,born,wl]
section
variable {P:Program} {w:World} {e:Operand->Value} {x y:Operand} {v:Value} {dst:Option Tmp} {t ty:TypeId} {pos:String} {af:Array Edge} {gd:Option (Nat×Bool)}
def att(h:e x=v)(a:v.cells=#[v]):(execOp e ⟨dst,.box t x,ty,pos,af,gd⟩).runT P w #[]=(.ok (.value (.pointer (some ⟨w.heap.size,0,none⟩))) (w.alloc (.cells #[v] t)),#[]):=by
 simp[execOp,Instr.box,newVar,newRow,h,a]
def ag1(h:e x=v):(execOp e ⟨dst,.assign x,ty,pos,af,gd⟩).runT P w #[]=(.ok (.value v) w,#[]):=by
 simp[execOp,h]
def pT{i:TypeInfo}(hi:P.info? t=some i)(a:i.zero=some v):(execOp e ⟨dst,.alloc t,ty,pos,af,gd⟩).runT P w #[]=(.ok (.value (.pointer (some ⟨w.heap.size,0,none⟩))) (w.alloc (.cells v.cells t)),#[]):=by
 simp[execOp,Instr.alloc,zeroValue,typeInfo,hi,a,newVar,newRow]
def ag2{i:TypeInfo}{A:Addr}{u:Value}(hi:P.info? t=some i)(n:i.size=1)(k:al7 v=true)(a:v.cells=#[v])(m:e x=.pointer (some A))(j:e y=v)(l:w.cell? A=some u)(d:w.frozen? A=false) :
  (execOp e ⟨dst,.store t x y,ty,pos,af,gd⟩).runT P w #[]=(.ok .skip (w.setCell A v),#[⟨.cell A,true,false⟩]):=by
 have b:(storeCells A [v] 0).runT P w #[]=(.ok () (w.setCell A v),#[⟨.cell A,true,false⟩]):=by
  show(Sem.store .plain (A.add 0) v (Sem.pure ())).runT P w #[]=_;have f:A.add 0=A:=by unfold Addr.add;simp
  rw[f,aa4 k l d];rfl
 have c:(storeCells A [v] 0).run P w=.ok () (w.setCell A v):=by
  rw[<-rc _ _ _ #[]];exact gc Prod.fst b
 have g:(storeCells A [v] 0).events P w #[]=#[⟨.cell A,true,false⟩]:=gc Prod.snd b;simp[execOp,m,j,Instr.storeAt,Instr.sureAddr,storeVar,sizeOf,typeInfo,hi,n,a,c,g]
def akn(F:FaT P){s:Tmp}(h:e (.tmp s)=.slice A n c):(execOp e ⟨dst,.call ⟨.builtin .len,#[.tmp s],#[43]⟩,ty,pos,af,gd⟩).runT P w #[]=(.ok (.value (.int .i64 n)) w,#[]):=by
 rw[oV (s:=λv=>Builtin.len_ #[43] ty #[v]) λ_ v=>rfl,h];change Sem.runT P (Builtin.len_ #[43] ty #[.slice A n c] >>=λu=>pure (Next.value u)) w #[]=_;simp[Builtin.len_,lE F.u31,goInt]
def ako{fn:Fn}{a:Array Operand}(h:a.map e=X):(execOp e ⟨dst,.makeFunc fn #[] a,ty,pos,af,gd⟩).runT P w #[]=(.ok (.value (.func fn #[] X)) w,#[]):=by
 simp[execOp,Instr.makeFunc,h]
def av0(F:FaT P)(m:(n:Int)<=2147483647)(b:e x=.int .i64 n):∃c:Array Value,c.size=2*n/\(execOp e ⟨dst,.makeSlice 87 x x,ty,pos,af,gd⟩).runT P w #[]=(.ok (.value (.slice (some ⟨w.heap.size,0,none⟩) n n)) (w.alloc (.cells c 100)),#[]):=by
 obtain⟨c,k,g⟩:=anX F (w:=w) (dst:=dst) (ty:=ty) (pos:=pos) (af:=af) (gd:=gd) m b;refine⟨c,k,Prod.ext ((rc _ _ _ _).trans g) ?_⟩;obtain⟨i,l,o,a,f⟩:=F.adF;have d:=events_make w 87 100 i _ F.ahX l f .i64 .i64 n n (by omega) (ue _) (by rw[a];omega) (by omega) (by rw[a];omega) #[];show(execOp e ⟨dst,.makeSlice 87 x x,ty,pos,af,gd⟩).events P w #[]=#[];have j:execOp e ⟨dst,.makeSlice 87 x x,ty,pos,af,gd⟩=(Instr.makeSlice 87 (e x) (e x)).bind λv=>Sem.pure (.value v):=rfl;rw[j,b,Sem.events_bind',d];cases(Instr.makeSlice 87 (.int .i64 n) (.int .i64 n)).run P w<;>rfl
def av1{a:Int}{y:Operand}(d:e x=.int .i64 a)(c:e y=.int .i64 1)(g:0<=a)(f:a<2147483647):(execOp e ⟨dst,.binOp .add 3 x y 3,ty,pos,af,gd⟩).runT P w #[]=(.ok (.value (.int .i64 (a+1))) w,#[]):=by
 have:execOp e ⟨dst,.binOp .add 3 x y 3,ty,pos,af,gd⟩=(binOp .add 3 (e x) (e y)).bind λv=>Sem.pure (.value v):=rfl;rw[this,d,c];have b:IntKind.i64.wrap (a+1)=a+1:=by rw[rY];omega
 show(Result.ok (Next.value (.int .i64 (IntKind.i64.wrap (a+1)))) w,#[])=_;rw[b]
end
end
section
open Go.Conc Go.ConcN Go.RowKit
section
variable {Rl:ak->World->World->Prop} {St:ak->Goroutine->World->Prop} {S Rr:ak} {w0:World} {T:Array Value} {k:List Item} {xs base:List Frame}
structure Kp (S Rr:ak) (w0:World) (S':ak) (w':World):Prop where
 keep:∀b,b<w0.heap.size->S b\/Rr b->w'.heap[b]?=w0.heap[b]?
 size:w0.heap.size<=w'.heap.size
 os:w'.ou=w0.ou
 mono:∀b,S b->S' b
 new:∀b,S' b->S b\/(w0.heap.size<=b/\b<w'.heap.size)
def Kp.rl(H:pj Rl Rr)(h:Rl S w0 V):Kp S Rr w0 S V:=let⟨a,b,c⟩:=H.rl _ _ _ h;⟨λx _ d=>a x d,b,c,λ_ h=>h,λ_ h=>.inl h⟩
def Kp.alloc(S Rr:ak)(w:World)(ob:Obj):Kp S Rr w (SN S w (w.alloc ob)) (w.alloc ob):=
 ⟨λb a _=>rZ w _ b a,by rw[mw];omega,rfl,λ_ h=>.inl h,λ_ h=>h⟩
def Kp.trans{w2 : World}(a:Kp S Rr w0 R V)(b:Kp R Rr V aU w2):Kp S Rr w0 aU w2:=
 ⟨λx c h=>(b.keep x (aE c a.size) (h.imp (a.mono x) id)).trans (a.keep x c h),da a.size b.size,b.os.trans a.os,λx h=>b.mono x (a.mono x h),λx h=>(b.new x h).elim (λh=>(a.new x h).imp id λh=>⟨h.1,aE h.2 b.size⟩) λh=>.inr ⟨da a.size h.1,h.2⟩⟩
def kK(w:World)(ob:Obj):(w.alloc ob).heap[w.heap.size]?=some ob:=by
 show(w.heap.push _)[_]?=_;rw[qM]
def lr(S:ak)(w:World)(ob:Obj):SN S w (w.alloc ob) w.heap.size:=.inr ⟨am _,by rw[mw];omega⟩
def av2 (H:pj Rl Rr) (hZ:45<=Y) (hz:T.size=Y)   (N:T.getD 0 undef=.int .i64 key) (P:T.getD 1 undef=.slice A n c)
  (K:∀(T':Array Value) (i:ak) (e:World) (f g:Nat),T'.size=Y->(∀t,t≠3->t≠4->t≠6->t≠7->T'.getD t undef=T.getD t undef)->T'.getD 3 undef=.pointer (some ⟨f,0,none⟩)->T'.getD 4 undef=.pointer (some ⟨g,0,none⟩)->
   T'.getD 6 undef=.slice none 0 0->T'.getD 7 undef=.bool false->Kp S Rr w0 i e->i f->i g->w0.heap.size<=f->f<g->e.heap[f]?=some (.cells #[.int .i64 key] 3)->e.heap[g]?=some (.cells #[.slice A n c] 23)->bC prog true Rl (pg Rr) St i (Gl (FQ cD T' k::xs) base) e) :
  bC prog true Rl (pg Rr) St S (Gl (FQ cD T (.inRegion agY [0,1,2,3]::k)::xs) base) w0:=by
 obtain⟨p0,a0,y⟩:=aDr;obtain⟨p1,a1,G⟩:=aDs;obtain⟨X,a2,D⟩:=aDt;obtain⟨W,a3,V⟩:=aDu;refine mF H (d:=3) (ob:=.cells #[.int .i64 key] 3) (by show(3:Nat)<_;omega) y rfl rfl (λw=>att (x:=.tmp 0) N rfl) (λa I T1 z1 B s=> ?_) w0 (H.fP _ _);refine mF H (d:=4) (ob:=.cells #[.slice A n c] 23) (by show(4:Nat)<_;omega) G rfl rfl (λw=>att (x:=.tmp 1) ((s 1 (by decide)).trans P) rfl) (λb z T2 z2 F u=> ?_);refine bK H.cmp (d:=6) (v:=.slice none 0 0) (es:=#[]) (by show(6:Nat)<_;omega) D rfl rfl (λw _=>ag1 rfl) (λw _=>bg _) (λT3 z3 M l=> ?_);refine bK H.cmp (d:=7) (v:=.bool false) (es:=#[]) (by show(7:Nat)<_;omega) V rfl rfl (λw _=>ag1 rfl) (λw _=>bg _) (λE Z U j=> ?_);refine im H.cmp λe m=> ?_;have r:=Kp.rl H I;have J:=Kp.alloc S Rr a (.cells #[.int .i64 key] 3);have q:=Kp.rl H z;have p:=Kp.alloc (SN S a (a.alloc (.cells #[.int .i64 key] 3))) Rr b (.cells #[.slice A n c] 23);have o:=Kp.rl H m;have s1:(a.alloc (.cells #[.int .i64 key] 3)).heap.size=a.heap.size+1:=mw _ _;have s2:(b.alloc (.cells #[.slice A n c] 23)).heap.size=b.heap.size+1:=mw _ _;have Q:=r.size;have g2:=q.size;refine K E _ e a.heap.size b.heap.size (by omega) (λt O L C R=> ?_) ?_ ?_ ?_ U ((((r.trans J).trans q).trans p).trans o) (p.mono _ (lr S a _)) (lr _ b _) Q (by omega) ?_ ?_
 .rw[j t R,l t C,u t L,s t O]
 .rw[j 3 (by decide),l 3 (by decide),u 3 (by decide),B]
 .rw[j 4 (by decide),l 4 (by decide),F]
 .rw[j 6 (by decide),M]
 .rw[((q.trans p).trans o).keep a.heap.size (by omega) (.inl (lr S a _)),kK]
 .rw[o.keep b.heap.size (by omega) (.inl (lr _ b _)),kK]
end
section
variable {P:Program} {main:Bool} {Rl:ak->World->World->Prop} {St:ak->Goroutine->World->Prop} {S Rr:ak} {w0:World} {f:FuncId} {T:Array Value} {k:List Item} {xs base:List Frame}
def azn (H:pj Rl Rr)    {d:Tmp} {Q:Value->Obj->World->Prop} (l:d<T.size) (m:U[i]?=some o) (u:o.guard=none) (g:o.dst=some d)
  (q:∀w,∃v ob,Q v ob w/\(execOp (FQ f T (.inRegion U (i::rest)::k)).eval o).runT P w #[]=(.ok (.value v) (w.alloc ob),#[]))
  (x:∀w,Rl S w0 w->∀v ob,Q v ob w->∀T':Array Value,T'.size=T.size->T'.getD d undef=v->(∀t,t≠d->T'.getD t undef=T.getD t undef)->∀a,Rl (SN S w (w.alloc ob)) (w.alloc ob) a->bC P main Rl (pg Rr) St (SN S w (w.alloc ob)) (Gl (FQ f T' (.inRegion U rest::k)::xs) base) a) :
  ∀w,Rl S w0 w->bC P main Rl (pg Rr) St S (Gl (FQ f T (.inRegion U (i::rest)::k)::xs) base) w:=λw n=>by
 refine .step rfl λa j=> ?_;have p:=H.tr _ _ _ _ n j;obtain⟨v,ob,y,c⟩:=q a;refine⟨_,_,_,_,anT rfl rfl rfl rfl m u c,⟨λb s _=>rZ a _ b s,by rw[mw];omega,rfl,rfl,λe z=>by cases(by simpa using sR z:False)⟩, ?_⟩;have:Frame.finish (FQ f T (.inRegion U (i::rest)::k)) v=FQ f (T.setIfInBounds d v) (.inRegion U rest::k):=by
  simp only[Frame.finish,m,qC,g]
 rw[this];exact x a p _ _ y _ (by simp) (by rw[aF l,dj rfl]) (λt r=>by rw[aF l,bd r]) _ (H.fP _ _)
end
section
variable {w:World} {b:Nat} {u v:Value} {t:TypeId}
def tq(h:w.heap[b]?=some (.cells #[u] t)):w.cell? ⟨b,0,none⟩=some u/\w.frozen? ⟨b,0,none⟩=false:=by
 constructor
 .simp[World.cell?,h]
 .simp[World.frozen?,h]
def wj(h:w.heap[b]?=some (.cells #[u] t)):(w.setCell ⟨b,0,none⟩ v).heap[b]?=some (.cells #[v] t):=by
 simp[World.setCell,nF,h]
end
section
variable {Rl:ak->World->World->Prop} {St:ak->Goroutine->World->Prop} {S Rr:ak} {w0:World} {T:Array Value} {k:List Item} {xs base:List Frame}
def av3 (H:pj Rl Rr) (hZ:45<=Y) (hz:T.size=Y)  (hn:(n:Int)<=2147483647) (h2:T.getD 2 undef=.slice A n c)
  (K:∀(T':Array Value) (p:ak) (l:World) (C B:Nat) (g:Array Value),T'.size=Y->(∀t,t≠15->t≠16->t≠17->t≠8->T'.getD t undef=T.getD t undef)->T'.getD 8 undef=.pointer (some ⟨B,0,none⟩)->T'.getD 17 undef=.slice (some ⟨C,0,none⟩) n n->
   Kp S Rr w0 p l->p C->p B->w0.heap.size<=C->C<B->g.size=2*n->l.heap[C]?=some (.cells g 100)->l.heap[B]?=some (.cells #[.slice (some ⟨C,0,none⟩) n n] 87)->bC prog true Rl (pg Rr) St p (Gl (FQ cD T' k::xs) base) l) :
  bC prog true Rl (pg Rr) St S (Gl (FQ cD T (.inRegion adl [0,1,2,3,4]::k)::xs) base) w0:=by
 obtain⟨p0,a0,W⟩:=aDv;obtain⟨p1,a1,e1⟩:=aDw;obtain⟨p2,a2,e2⟩:=aDx;obtain⟨p3,a3,e3⟩:=aDy;obtain⟨p4,a4,e4⟩:=aDz;obtain⟨R,P,F,L⟩:=faT.i247;refine bK H.cmp (d:=15) (v:=.slice A n c) (es:=#[]) (by show(15:Nat)<_;omega) W rfl rfl (λw _=>fu (x:=.tmp 2) h2) (λw _=>bg _) (λT1 z1 v1 r1=> ?_) w0 (H.fP _ _);refine bK H.cmp (d:=16) (v:=.int .i64 n) (es:=#[]) (by show(16:Nat)<_;omega) e1 rfl rfl (λw _=>akn faT (s:=15) v1) (λw _=>bg _) (λT2 z2 v2 r2=> ?_);refine azn H (d:=17) (Q:=λv ob w=>v=.slice (some ⟨w.heap.size,0,none⟩) n n/\∃g:Array Value,g.size=2*n/\ob=.cells g 100) (by show(17:Nat)<_;omega) e2 rfl rfl (λw=> ?_) (λa ha vv ob hq T3 z3 v3 Z=> ?_)
 .obtain⟨g,q,hr⟩:=av0 faT (w:=w) (x:=.tmp 16) (e:=Frame.eval (FQ cD T2 (.inRegion adl [2,3,4]::k))) hn v2;exact⟨_,_,⟨rfl,g,q,rfl⟩,hr⟩
 obtain⟨rfl,g,J,rfl⟩:=hq;refine mF H (d:=8) (ob:=.cells #[.slice none 0 0] 87) (by show(8:Nat)<_;omega) e3 rfl rfl (λw=>pT P L) (λf D O z4 V U=> ?_);have o:O.getD 17 undef=.slice (some ⟨a.heap.size,0,none⟩) n n:=by rw[U 17 (by decide),v3]
 have s1:(a.alloc (.cells g 100)).heap.size=a.heap.size+1:=mw _ _;have s2:(f.alloc (.cells #[.slice none 0 0] 87)).heap.size=f.heap.size+1:=mw _ _;have N:=Kp.rl H ha;have kb:=Kp.alloc S Rr a (.cells g 100);have M:=Kp.rl H D;have r:=Kp.alloc (SN S a (a.alloc (.cells g 100))) Rr f (.cells #[.slice none 0 0] 87);have g1:=N.size;have g2:=M.size;have i:=lr (SN S a (a.alloc (.cells g 100))) f (.cells #[.slice none 0 0] 87);have I:∀{w},Rl (SN (SN S a (a.alloc (.cells g 100))) f (f.alloc (.cells #[.slice none 0 0] 87))) (f.alloc (.cells #[.slice none 0 0] 87)) w->w.heap[f.heap.size]?=some (.cells #[.slice none 0 0] 87):=λ{w} h=>by
  rw[(Kp.rl H h).keep f.heap.size (by omega) (.inl i),kK]
 refine ae9 H.cmp (A:=⟨f.heap.size,0,none⟩) (u:=.slice (some ⟨a.heap.size,0,none⟩) n n) e4 rfl rfl (λw h=>ag2 (x:=.tmp 8) (y:=.tmp 17) P F rfl rfl V o (tq (I h)).1 (tq (I h)).2) i (λw h=>abX i (by have:=(Kp.rl H h).size;show f.heap.size<_;omega)) (λz q w1 X=> ?_);refine im H.cmp (λl E=> ?_) w1 X;have G:=Kp.rl H q;have m:=Kp.rl H E;have g3:=G.size;have a5:(z.setCell ⟨f.heap.size,0,none⟩ (.slice (some ⟨a.heap.size,0,none⟩) n n)).heap.size=z.heap.size:=eg _ _ _;have other:∀b,b≠f.heap.size->(z.setCell ⟨f.heap.size,0,none⟩ (.slice (some ⟨a.heap.size,0,none⟩) n n)).heap[b]?=z.heap[b]?:=λb h=>aZ _ _ _ (λe=>h e.symm);have j:=((N.trans kb).trans M).trans (r.trans G);have g4:=m.size;refine K O _ l a.heap.size f.heap.size g (by omega) (λt q1 q2 q3 q4=> ?_) V o ⟨λb D h=> ?_,by have:=j.size;omega, ?_,j.mono,λb h=>(j.new b h).imp id λh=>⟨h.1,by omega⟩⟩ (r.mono _ (lr S a _)) i g1 (by omega) J ?_ ?_
 .rw[U t q4,Z t q3,r2 t q2,r1 t q1]
 .exact(m.keep b (by have:=j.size;omega) (h.imp (j.mono b) id)).trans ((other b (by omega)).trans (j.keep b D h))
 .exact m.os.trans j.os
 .exact(m.keep a.heap.size (by omega) (.inl (r.mono _ (lr S a _)))).trans ((other _ (by omega)).trans (((M.trans (r.trans G)).keep a.heap.size (by omega) (.inl (lr S a _))).trans (kK a _)))
 .exact(m.keep f.heap.size (by omega) (.inl i)).trans (wj (I q))
end
end
section
open Go.Conc Go.ConcN Go.RowKit
open Go.ConcR (KK wgBlock WgAt stA smA rd wr mk Payload DC0)
def atu:(prog.info? eJ.tWg).map (λi=>i.zero.map (·.cells))=some (some #[.int .u64 0,.int .u32 0]):=by kernel_rfl
def av4:∃i z,prog.info? eJ.tWg=some i/\i.zero=some z/\z.cells=#[.int .u64 0,.int .u32 0]:=by
 have h:=atu;cases b:prog.info? eJ.tWg with
 |none=>rw[b] at h;cases h
 |some i=>
  rw[b] at h;cases a:i.zero with
  |none=>simp[a] at h
  |some z=>
   simp only[qf,a,lw] at h;exact⟨i,z,rfl,a,h⟩
def jr{o:Obj}(h:w.heap[b]?=some o):b<w.heap.size:=(dk.1 h).1
noncomputable def gQ:Code:=.seq (.seq (.region 3 agZ false) (.block 0 (.loop jq))) (.seq (.region 9 jR false) cP)
section
variable {Rl:ak->World->World->Prop} {St:ak->Goroutine->World->Prop} {S Rr:ak} {w0:World} {T:Array Value} {k:List Item} {xs base:List Frame}
def amN (H:pj Rl Rr) (E:45<=Y) (O:T.size=Y) {A2 : Option Addr} (hn:(b:Int)<=2147483647) (h0:T.getD 0 undef=.int .i64 key) (h1:T.getD 1 undef=.slice A n c) (F:T.getD 2 undef=.slice A2 b i)
  (K:∀(T':Array Value) (x:ak) (g:World) (e d C j:Nat) (o:Array Value),T'.size=Y->(∀t,(t<3\/aas t=true)->T'.getD t undef=T.getD t undef)->
   T'.getD 3 undef=.pointer (some ⟨e,0,none⟩)/\T'.getD 4 undef=.pointer (some ⟨d,0,none⟩)/\T'.getD 6 undef=.slice none 0 0/\T'.getD 7 undef=.bool false/\T'.getD 8 undef=.pointer (some ⟨j,0,none⟩)/\T'.getD 17 undef=.slice (some ⟨C,0,none⟩) b b->
   Kp S Rr w0 x g->w0.heap.size<=e/\e<d/\d<C/\C<j->g.heap[e]?=some (.cells #[.int .i64 key] 3)->g.heap[d]?=some (.cells #[.slice A n c] 23)->o.size=2*b->g.heap[C]?=some (.cells o 100)->g.heap[j]?=some (.cells #[.slice (some ⟨C,0,none⟩) b b] 87)->
   bC prog true Rl (pg Rr) St x (Gl (FQ cD T' (.code (.region 2 nO false) :: .code gQ::k)::xs) base) g) :
  bC prog true Rl (pg Rr) St S (Gl (FQ cD T (.code acf::k)::xs) base) w0:=by
 rw[atr];refine eu H.cmp (fX H.cmp (l:=[0,1,2,3]) rfl λwa R=>av2 H E O h0 h1 λT1 S1 w1 e d M B t3 G J I k1 L sp lk N ck y=> ?_) w0 (H.fP _ _);refine eu H.cmp (fX H.cmp (l:=[0,1,2,3,4]) rfl λwb w=>av3 H E M hn ((B 2 (by decide) (by decide) (by decide) (by decide)).trans F) λZ S2 w2 C j o z2 m t8 q P U Q lC la u W D=> ?_) w1 (H.fP _ _);refine eu H.cmp (λwc X=> ?_) w2 (H.fP _ _);have z:=Kp.rl H R;have s:=(Kp.rl H w).trans P;have f:=Kp.rl H X;have a1:=jr y;have a0:=jr D;have g1:=z.size;have g2:=(Kp.rl H w).size;have g3:=f.size;refine K Z S2 wc e d C j o z2 (λt a=> ?_) ⟨?_, ?_, ?_, ?_,t8,q⟩ (((z.trans k1).trans s).trans f) ⟨by omega,N,by omega,la⟩ ?_ ?_ u ?_ ?_
 .have p:t≠15:=by rintro rfl;exact absurd a (by decide)
  have r:t≠16:=by rintro rfl;exact absurd a (by decide)
  have v:t≠17:=by rintro rfl;exact absurd a (by decide)
  have e8:t≠8:=by rintro rfl;exact absurd a (by decide)
  have e3:t≠3:=by rintro rfl;exact absurd a (by decide)
  have V:t≠4:=by rintro rfl;exact absurd a (by decide)
  have e6:t≠6:=by rintro rfl;exact absurd a (by decide)
  have e7:t≠7:=by rintro rfl;exact absurd a (by decide)
  rw[m t p r v e8,B t e3 V e6 e7]
 .rw[m 3 (by decide) (by decide) (by decide) (by decide),t3]
 .rw[m 4 (by decide) (by decide) (by decide) (by decide),G]
 .rw[m 6 (by decide) (by decide) (by decide) (by decide),J]
 .rw[m 7 (by decide) (by decide) (by decide) (by decide),I]
 .rw[(s.trans f).keep e (by omega) (.inl L),ck]
 .rw[(s.trans f).keep d (by omega) (.inl sp),y]
 .rw[f.keep C (by omega) (.inl U),W]
 .rw[f.keep j (by omega) (.inl Q),D]
end
end
section
open Go.Conc Go.ConcN Go.RowKit
section
variable {Rl:ak->World->World->Prop} {St:ak->Goroutine->World->Prop} {S Rr:ak} {w0:World} {T:Array Value} {k:List Item} {xs base:List Frame}
def av5 (H:pj Rl Rr) (G:45<=Y) (E:T.size=Y)  (i:T.getD 2 undef=.slice A n c)
  (K:∀T':Array Value,T'.size=Y->(∀t,t≠18->t≠19->t≠20->T'.getD t undef=T.getD t undef)->T'.getD 18 undef=.slice A n c->T'.getD 19 undef=.int .i64 n->T'.getD 20 undef=.int .i64 0->
   ∀b,Rl S w0 b->bC prog true Rl (pg Rr) St S (Gl (FQ cD T' k::xs) base) b) :
  bC prog true Rl (pg Rr) St S (Gl (FQ cD T (.inRegion agZ [0,1,2]::k)::xs) base) w0:=by
 obtain⟨L,J,g⟩:=aDB;obtain⟨F,M,u⟩:=aDC;obtain⟨z,N,q⟩:=aDD;refine bK H.cmp (d:=18) (v:=.slice A n c) (es:=#[]) (by show(18:Nat)<_;omega) g rfl rfl (λw _=>fu (x:=.tmp 2) i) (λw _=>bg _) (λB D e j=> ?_) w0 (H.fP _ _);refine bK H.cmp (d:=19) (v:=.int .i64 n) (es:=#[]) (by show(19:Nat)<_;omega) u rfl rfl (λw _=>akn faT (s:=18) e) (λw _=>bg _) (λO C r f=> ?_);refine bK H.cmp (d:=20) (v:=.int .i64 0) (es:=#[]) (by show(20:Nat)<_;omega) q rfl rfl (λw _=>fu rfl) (λw _=>bg _) (λm I l a=> ?_);refine im H.cmp (K m (by omega) (λt o y p=>by rw[a t p,f t y,j t o]) (by rw[a 18 (by decide),f 18 (by decide),e]) (by rw[a 19 (by decide),r]) l)
def aob (H:pj Rl Rr) (l:45<=Y) (q:T.size=Y) (a:T.getD 20 undef=.int .i64 i) (b:T.getD 19 undef=.int .i64 n)
  (K:∀T':Array Value,T'.size=Y->(∀t,t≠21->T'.getD t undef=T.getD t undef)->T'.getD 21 undef=.bool (decide (i<n))->
   ∀c,Rl S w0 c->bC prog true Rl (pg Rr) St S (Gl (FQ cD T' k::xs) base) c) :
  bC prog true Rl (pg Rr) St S (Gl (FQ cD T (.inRegion atq [0]::k)::xs) base) w0:=by
 obtain⟨o,m,e⟩:=aDE;refine bK H.cmp (d:=21) (v:=.bool (decide ((i:Int)<n))) (es:=#[]) (by show(21:Nat)<_;omega) e rfl rfl (λw _=>atd (x:=.tmp 20) (y:=.tmp 19) a b) (λw _=>bg _) (λg p j f=> ?_) w0 (H.fP _ _);exact im H.cmp (K g (by omega) f (by rw[j];congr 1;exact uo.2 (by omega)))
end
def ap7:(prog.info? 3).map (λi=>(i.size,i.zero))=some (1,some (.int .i64 0)):=by kernel_rfl
def akp:∃i,prog.info? 3=some i/\i.size=1/\i.zero=some (.int .i64 0):=by
 have h:=ap7;cases a:prog.info? 3 with
 |none=>rw[a] at h;cases h
 |some i=>
  rw[a] at h;simp only[qf,lw,uO] at h;exact⟨i,rfl,h⟩
section
variable {P:Program} {w:World} {e:Operand->Value} {x y:Operand} {dst:Option Tmp} {ty:TypeId} {pos:String} {af:Array Edge} {gd:Option (Nat×Bool)}
def amO{i:TypeInfo}(g:P.underlying 43=some (.slice 3))(hi:P.info? 3=some i)(f:i.size=1)(k:e x=.slice (some a) n c)(d:e y=.int .i64 j)(b:j<n) :
  (execOp e ⟨dst,.indexAddr 43 x y,ty,pos,af,gd⟩).runT P w #[]=(.ok (.value (.pointer (some (a.add j)))) w,#[]):=by
 simp[execOp,k,d,Instr.indexAt,asIntOf,lE g,b,sizeOf,typeInfo,hi,f]
end
section
variable {Rl:ak->World->World->Prop} {St:ak->Goroutine->World->Prop} {S Rr:ak} {w0:World} {T:Array Value} {k:List Item} {xs base:List Frame}
def atv (H:pj Rl Rr)   {p:String} {d s:Tmp} {u v:Int} (D:U[i]?=some ⟨none,.store 3 (.tmp d) (.tmp s),0,p,af,none⟩) (t:T.getD d undef=.pointer (some ⟨b,0,none⟩)) (E:T.getD s undef=.int .i64 v)
  (n:S b) (q:w0.heap[b]?=some (.cells #[.int .i64 u] 3))
  (K:∀a,Kp S Rr (w0.setCell ⟨b,0,none⟩ (.int .i64 v)) S a->(∀x,x≠b->S x\/Rr x->a.heap[x]?=w0.heap[x]?)->w0.heap.size<=a.heap.size->a.ou=w0.ou->a.heap[b]?=some (.cells #[.int .i64 v] 3)->bC prog true Rl (pg Rr) St S (Gl (FQ cD T (.inRegion U rest::k)::xs) base) a) :
  bC prog true Rl (pg Rr) St S (Gl (FQ cD T (.inRegion U (i::rest)::k)::xs) base) w0:=by
 obtain⟨M,F,C, -⟩:=akp;have B:=jr q;have l:∀{w},Rl S w0 w->w.heap[b]?=some (.cells #[.int .i64 u] 3):=λ{w} h=>by rw[(Kp.rl H h).keep b B (.inl n),q]
 refine ae9 H.cmp (A:=⟨b,0,none⟩) (u:=.int .i64 v) D rfl rfl (λw h=>ag2 (x:=.tmp d) (y:=.tmp s) F C rfl rfl t E (tq (l h)).1 (tq (l h)).2) n (λw h=>abX n (jr (l h))) (λj f o z=> ?_) w0 (H.fP _ _);have g:=H.rl _ _ _ f;have c:=H.rl _ _ _ z;have G:(j.setCell ⟨b,0,none⟩ (.int .i64 v)).heap.size=j.heap.size:=eg _ _ _;have other:∀x,x≠b->(j.setCell ⟨b,0,none⟩ (.int .i64 v)).heap[x]?=j.heap[x]?:=λx h=>aZ _ _ _ (λe=>h e.symm);have r:o.heap[b]?=some (.cells #[.int .i64 v] 3):=(c.1 b (.inl n)).trans (wj (l f));have same:∀x,x≠b->S x\/Rr x->o.heap[x]?=w0.heap[x]?:=λx h m=>(c.1 x m).trans ((other x h).trans (g.1 x m));have I:(w0.setCell ⟨b,0,none⟩ (.int .i64 v)).heap.size=w0.heap.size:=eg _ _ _;have L:=g.2.1;have J:=c.2.1;refine K o ⟨λx _ m=> ?_,by omega,(c.2.2.trans g.2.2),λ_ h=>h,λ_ h=>.inl h⟩ same (by omega) (c.2.2.trans g.2.2) r;by_cases e:x=b
 .rw[e,r,wj q]
 .rw[same x e m,aZ _ _ _ (λh=>e h.symm)]
end
section
variable {P:Program} {S Rr:ak}
def av6{A:Addr}{B:Nat}(d:Rr A.block)(g:A.block<B):∀e∈seen P f #[⟨.cell A,false,false⟩],mB S Rr B e:=λe c=>by
 have h:=sR c;simp only[rX,mc,rJ,um] at h;subst h;refine⟨λx a=>.inr ?_,λm b=>(by cases b),g⟩;simp[MemAct.ofEvent,MemAct.touch?] at a;rw[<-a];exact⟨d,rfl⟩
end
section
variable {Rl:ak->World->World->Prop} {St:ak->Goroutine->World->Prop} {S Rr:ak} {w0:World} {T:Array Value} {k:List Item} {xs base:List Frame}
def av7 (H:pj Rl Rr) (hZ:45<=Y) (hz:T.size=Y)  {nm:Int} (V:T.getD 18 undef=.slice A n c) (z:T.getD 20 undef=.int .i64 j) (hj:j<n) (U:ajQ w0 A j nm) (hR:∀a,A=some a->Rr a.block)
  (K:∀(T':Array Value) (F:ak) (G:World) (s E:Nat),T'.size=Y->(∀t,t≠22->t≠23->t≠24->t≠10->t≠11->T'.getD t undef=T.getD t undef)->T'.getD 10 undef=.pointer (some ⟨s,0,none⟩)->T'.getD 11 undef=.pointer (some ⟨E,0,none⟩)->
   Kp S Rr w0 F G->F s->F E->w0.heap.size<=s->s<E->G.heap[s]?=some (.cells #[.int .i64 j] 3)->G.heap[E]?=some (.cells #[.int .i64 nm] 3)->bC prog true Rl (pg Rr) St F (Gl (FQ cD T' k::xs) base) G) :
  bC prog true Rl (pg Rr) St S (Gl (FQ cD T (.inRegion acg [0,1,2,3,4,5,6]::k)::xs) base) w0:=by
 obtain⟨p0,a0,e0⟩:=aDF;obtain⟨p1,a1,e1⟩:=aDG;obtain⟨p2,a2,e2⟩:=aDH;obtain⟨p3,a3,e3⟩:=aDI;obtain⟨p4,a4,e4⟩:=aDJ;obtain⟨p5,a5,e5⟩:=aDK;obtain⟨p6,a6,e6⟩:=aDL;obtain⟨a,rfl,g,ad⟩:=U;obtain⟨i3,o,Q,r⟩:=akp;have C:=hR a rfl;have m:(a.add j).block=a.block:=rj a j;have a7:=eH g;have jS:∀{w},Rl S w0 w->w.cell? (a.add j)=some (.int .i64 nm):=λ{w} h=>(gu (by rw[m];exact(H.rl _ _ _ h).1 a.block (.inr C))).trans g
 refine bK H.cmp (d:=22) (v:=.int .i64 j) (es:=#[]) (by show(22:Nat)<_;omega) e0 rfl rfl (λw _=>fu (x:=.tmp 20) z) (λw _=>bg _) (λT1 z1 v1 r1=> ?_) w0 (H.fP _ _);refine bK H.cmp (d:=23) (v:=.pointer (some (a.add j))) (es:=#[]) (by show(23:Nat)<_;omega) e1 rfl rfl (λw _=>amO faT.u31 o Q (x:=.tmp 18) (y:=.tmp 20) ((r1 18 (by decide)).trans V) ((r1 20 (by decide)).trans z) hj) (λw _=>bg _) (λT2 z2 v2 r2=> ?_);refine bK H.cmp (d:=24) (v:=.int .i64 nm) (es:=#[⟨.cell (a.add j),false,false⟩]) (by show(24:Nat)<_;omega) e2 rfl rfl (λw P=>akh underlying3 rfl (x:=.tmp 23) v2 (jS P)) (λw P=>av6 (by rw[m];exact C) (aE a7 (H.rl _ _ _ P).2.1)) (λT3 z3 v3 r3=> ?_);refine mF H (d:=10) (ob:=.cells #[.int .i64 0] 3) (by show(10:Nat)<_;omega) e3 rfl rfl (λw=>pT o r) (λe ha T4 z4 v4 r4=> ?_);refine mF H (d:=11) (ob:=.cells #[.int .i64 0] 3) (by show(11:Nat)<_;omega) e4 rfl rfl (λw=>pT o r) (λl hb J z5 v5 L w1 bF=> ?_);have s1:(e.alloc (.cells #[.int .i64 0] 3)).heap.size=e.heap.size+1:=mw _ _;have s2:(l.alloc (.cells #[.int .i64 0] 3)).heap.size=l.heap.size+1:=mw _ _;have ka:=(Kp.rl H ha).trans (Kp.alloc S Rr e (.cells #[.int .i64 0] 3));have W:=Kp.rl H hb;have kc:=Kp.alloc (SN S e (e.alloc (.cells #[.int .i64 0] 3))) Rr l (.cells #[.int .i64 0] 3);have I:=Kp.rl H bF;have g0:=(Kp.rl H ha).size;have g1:=W.size;have g2:=I.size;have i:=kc.mono _ (lr S e (.cells #[.int .i64 0] 3));have f:=lr (SN S e (e.alloc (.cells #[.int .i64 0] 3))) l (.cells #[.int .i64 0] 3);have ci:w1.heap[e.heap.size]?=some (.cells #[.int .i64 0] 3):=by
  rw[((W.trans kc).trans I).keep e.heap.size (by omega) (.inl (lr S e _)),kK]
 have cn:w1.heap[l.heap.size]?=some (.cells #[.int .i64 0] 3):=by
  rw[I.keep l.heap.size (by omega) (.inl f),kK]
 have D:J.getD 10 undef=.pointer (some ⟨e.heap.size,0,none⟩):=by rw[L 10 (by decide),v4]
 have M:J.getD 22 undef=.int .i64 j:=by rw[L 22 (by decide),r4 22 (by decide),r3 22 (by decide),r2 22 (by decide),v1]
 have R:J.getD 24 undef=.int .i64 nm:=by rw[L 24 (by decide),r4 24 (by decide),v3]
 refine atv H e5 D M i ci (λw2 _ B z6 o6 Z=> ?_);have a8:w2.heap[l.heap.size]?=some (.cells #[.int .i64 0] 3):=(B _ (by omega) (.inl f)).trans cn;refine atv H e6 v5 R f a8 (λw3 _ u z7 o7 X=> ?_);refine im H.cmp (λw4 N=> ?_) w3 (H.fP _ _);have q:=Kp.rl H N;have p:=((ka.trans W).trans kc).trans I;have aa:=p.size;refine K J _ w4 e.heap.size l.heap.size (by omega) (λt q1 q2 q3 q4 q5=> ?_) D v5 ⟨λb a9 h=> ?_, ?_, ?_,p.mono,λb h=>(p.new b h).imp id λh=>⟨h.1, ?_⟩⟩ i f g0 (by omega) ?_ ?_
 .rw[L t q5,r4 t q4,r3 t q3,r2 t q2,r1 t q1]
 .have O:=h.imp (p.mono b) id;rw[q.keep b (by omega) O,u b (by omega) O,B b (by omega) O,p.keep b a9 h]
 .have:=q.size;omega
 .rw[q.os,o7,o6,p.os]
 .have:=q.size;omega
 .rw[q.keep _ (by omega) (.inl i),u _ (by omega) (.inl i),Z]
 .rw[q.keep _ (by omega) (.inl f),X]
end
end
section
open Go.Conc Go.ConcN Go.RowKit
open Go.ConcR (KK wgBlock WgAt stA smA rd wr mk Payload DC0)
structure Mx where
 wE:World
 Wg:Nat
 C:Nat
 n2:Nat
 Rg:Nat->Prop
 key:Int
 A:Option Addr
 n:Nat
 c:Nat
 l:List gY
 A2:Option Addr
 c2:Nat
 dB:List Int
 bk:Nat
 bp:Nat
 ba:Nat
 sv:Nat->Value
 Z:Nat
 V:ak
structure Mx.Ok (X:Mx):Prop where
 hN:gN<=X.wE.heap.size
 gl:∀g∈gL,X.Rg g
 k1:1<=X.key
 k2:X.key<=99
 hl:X.l.length=X.n
 hc:X.n<=X.c
 hcm:(X.c:Int)<=9223372036854775807
 gr:∀g∈gL,eB X.wE g
 rd:RdP X.wE X.A 0 X.l
 rgp:RgP X.Rg X.wE X.A X.l
 al:∀a,X.A=some a->X.Rg a.block
 al2:∀a,X.A2=some a->X.Rg a.block
 nm:∀i nm,X.dB[i]?=some nm->ajQ X.wE X.A2 i nm
 nn:X.dB.length=X.n2
 n2m:(X.n2:Int)<=2147483647
 cW:X.C≠X.Wg
 vr:∀b,X.Rg b->X.V b
structure Mx.At (X:Mx) (R:ak) (w:World):Prop where
 keep:∀b,X.V b->w.heap[b]?=X.wE.heap[b]?
 sz:X.wE.heap.size<=w.heap.size
 os:w.ou=X.wE.ou
 rows:∀b,X.V b->R b
 rk:R X.bk/\w.heap[X.bk]?=some (.cells #[.int .i64 X.key] 3)
 rp:R X.bp/\w.heap[X.bp]?=some (.cells #[.slice X.A X.n X.c] 23)
 ra:R X.ba/\w.heap[X.ba]?=some (.cells #[.slice (some ⟨X.C,0,none⟩) X.n2 X.n2] 87)
 rlt:∀b,R b->b<w.heap.size
 rC:¬R X.C
 rW:¬R X.Wg
 ltC:X.C<w.heap.size
 ltW:X.Wg<w.heap.size
section
variable {X:Mx} {R S S':ak} {w w':World} {es:Array Event}
def Mx.At.move(h:X.At R w)(a:∀b,R b->w'.heap[b]?=w.heap[b]?)(d:w.heap.size<=w'.heap.size)(e:w'.ou=w.ou):X.At R w':=
 ⟨λb c=>(a b (h.rows b c)).trans (h.keep b c),da h.sz d,e.trans h.os,h.rows,⟨h.rk.1,(a _ h.rk.1).trans h.rk.2⟩,⟨h.rp.1,(a _ h.rp.1).trans h.rp.2⟩,⟨h.ra.1,(a _ h.ra.1).trans h.ra.2⟩,
  λb c=>aE (h.rlt b c) d,h.rC,h.rW,aE h.ltC d,aE h.ltW d⟩
def Mx.At.grow(h:X.At R w)(c:∀b,S b->b<w.heap.size/\b≠X.C/\b≠X.Wg):X.At (λb=>S b\/R b) w:=
 ⟨h.keep,h.sz,h.os,λb a=>.inr (h.rows b a),⟨.inr h.rk.1,h.rk.2⟩,⟨.inr h.rp.1,h.rp.2⟩,⟨.inr h.ra.1,h.ra.2⟩,λb a=>a.elim (λx=>(c b x).1) (h.rlt b),
  λa=>a.elim (λx=>(c _ x).2.1 rfl) h.rC,λa=>a.elim (λx=>(c _ x).2.2 rfl) h.rW,h.ltC,h.ltW⟩
def Mx.At.rgp(a:X.Ok)(h:X.At R w):RgP X.Rg w X.A X.l:=a.rgp.move a.al λb c=>h.keep b (a.vr b c)
def Mx.At.gr(a:X.Ok)(h:X.At R w):∀g∈gL,eB w g:=λg b=>by
 obtain⟨c,t,z,e⟩:=a.gr g b;exact⟨c,t,z,(h.keep g (a.vr g (a.gl g b))).trans e⟩
def Mx.At.rd(a:X.Ok)(h:X.At R w):RdP w X.A 0 X.l:=a.rd.mask a.rgp a.al λ_ _ c b _=>(gu (h.keep _ (a.vr _ b))).trans c
def Mx.At.nm(c:X.Ok)(h:X.At R w){nm:Int}(hi:X.dB[i]?=some nm):ajQ w X.A2 i nm:=by
 obtain⟨a,e,d,b⟩:=c.nm i nm hi;exact⟨a,e,(gu (by rw[rj];exact h.keep _ (c.vr _ (c.al2 a e)))).trans d,b⟩
abbrev Mx.Rl(X:Mx)(R:ak):ak->World->World->Prop:=jM eJ.tWg X.Wg X.C (2*X.n2) R noC
abbrev Mx.Gr(X:Mx)(R:ak):ak->ak->World->World->Array Event->Prop:=Gua X.Wg X.C (2*X.n2) R noC
def Mx.mG(X:Mx)(R:ak):pj (X.Rl R) R:=⟨λS w=>jM.refl _ _ _ _,λ_ _ _ _=>jM.trans,λ_ _ _ h=>⟨h.keep,h.size,h.os⟩⟩
structure Mx.Inv (X:Mx) (R S:ak) (w:World):Prop where
 s:∀b,S b->b<w.heap.size/\b≠X.C/\b≠X.Wg
 at_:X.At R w
 live:WgLive eJ.tWg X.Wg w
 sr:∀b,R b->¬S b
def Mx.Inv.rely(h:X.Inv R S w)(a:X.Rl R S w w'):X.Inv R S w':=
 ⟨λb c=>⟨aE (h.s b c).1 a.size,(h.s b c).2⟩,h.at_.move (λb c=>a.keep b (.inr c)) a.size a.os,a.live h.live,h.sr⟩
def Mx.step(h:X.Inv R S w)(g:pg R S S' w w' es):X.Gr R S S' w w' es/\X.Inv R S' w':=by
 obtain⟨k,l,p,rfl,z⟩:=g;have o:w'.heap[X.C]?=w.heap[X.C]?:=k _ h.at_.ltC λd=>(h.s _ d).2.1 rfl;have q:w'.heap[X.Wg]?=w.heap[X.Wg]?:=k _ h.at_.ltW λd=>(h.s _ d).2.2 rfl;refine⟨⟨λb c v _=>k b c v,l,p,λ⟨r,a,b⟩=>⟨r,o.trans a,b⟩,λi _=>uh o i,λb c=>.inl c,λb c=>c,λe C=> ?_⟩, ?_⟩
 .obtain⟨A,m,B⟩:=z e C;refine⟨λx t=>(A x t).elim .inl λy=>.inr (.inr y),λj=> ?_,λj=> ?_,λj=> ?_,B⟩
  .rcases m _ j with⟨f,e⟩|e<;>cases e
  .rcases m _ j with⟨f,e⟩|e<;>cases e
  .rcases m _ j with⟨f,e⟩|e<;>cases e
 .refine⟨λb c=> ?_,h.at_.move (λb c=>k b (h.at_.rlt b c) (h.sr b c)) l p, ?_,λb c d=> ?_⟩
  .rcases c with c|⟨c,n⟩
   .exact⟨aE (h.s b c).1 l,(h.s b c).2⟩
   .have E:=h.at_.ltC;have D:=h.at_.ltW;exact⟨n,by omega,by omega⟩
  .obtain⟨u,sm,s⟩:=h.live;exact⟨u,sm,q.trans s⟩
  .rcases d with d|⟨d,_⟩
   .exact h.sr b c d
   .have:=h.at_.rlt b c;omega
def Mx.lift(h:bC prog true (X.Rl R) (pg R) Stop S g w)(hi:X.Inv R S w):bC prog true (X.Rl R) (X.Gr R) (λS g w=>Stop S g w/\X.Inv R S w) S g w:=
 bC.inv (Rl:=X.Rl R) (Gr:=pg R) (Gr2:=X.Gr R) (Stop:=Stop) (Inv:=X.Inv R) (λ_ _ _ a b=>a.rely b) (λ_ _ _ _ _ a b=>Mx.step a b) (λ_ _ _ a b=>⟨a,b⟩) h hi
def amP(t:Nat):Bool:=t ==0||t ==1||t ==2||t ==6||t ==7||t ==17||aas t
structure Mx.Sl (X:Mx) (T:Array Value) (j:Nat):Prop where
 z:T.size=X.Z
 zz:45<=X.Z
 s3:T.getD 3 undef=.pointer (some ⟨X.bk,0,none⟩)
 s4:T.getD 4 undef=.pointer (some ⟨X.bp,0,none⟩)
 s8:T.getD 8 undef=.pointer (some ⟨X.ba,0,none⟩)
 s9:T.getD 9 undef=.pointer (some ⟨X.Wg,0,none⟩)
 s18:T.getD 18 undef=.slice X.A2 X.n2 X.c2
 s19:T.getD 19 undef=.int .i64 X.n2
 iq:T.getD 20 undef=.int .i64 j
 sv:∀t,amP t=true->T.getD t undef=X.sv t
def wrM(t:Nat):Bool:=t ==10||t ==11||(21<=t&&t<=28)
def azo{t:Nat}(h:amP t=true):wrM t=false:=by
 simp only[amP,aas,qL,mp,qG] at h;simp only[wrM,vU,dq,vM,decide_eq_false_iff_not];omega
def Mx.Sl.keep{T T':Array Value}(h:X.Sl T j)(c:T'.size=X.Z)(a:∀t,wrM t=false->T'.getD t undef=T.getD t undef):X.Sl T' j:=
 ⟨c,h.zz,(a 3 rfl).trans h.s3,(a 4 rfl).trans h.s4,(a 8 rfl).trans h.s8,(a 9 rfl).trans h.s9,(a 18 rfl).trans h.s18,(a 19 rfl).trans h.s19,(a 20 rfl).trans h.iq,λt b=>(a t (azo b)).trans (h.sv t b)⟩
end
section
variable {P:Program} {main:Bool} {Rl:ak->World->World->Prop} {Gr:ak->ak->World->World->Array Event->Prop} {St:ak->Goroutine->World->Prop} {S Rr:ak} {w0:World} {f h:FuncId} {T:Array Value} {k:List Item} {xs bs:List Frame}
def akq (C:Cmp Rl Gr Rr)    {args:Array Value} (a:U[i]?=some o) (c:o.guard=none)
  (b:∀w,(execOp (FQ f T (.inRegion U (i::rest)::k)).eval o).runT P w #[]=(.ok (.enter h args) w,#[]))
  (d:∀w,Rl S w0 w->bC P main Rl Gr St S (Gl (Frame.enter P h args .normal::FQ f T (.inRegion U (i::rest)::k)::xs) bs) w):∀w,Rl S w0 w->bC P main Rl Gr St S (Gl (FQ f T (.inRegion U (i::rest)::k)::xs) bs) w:=
 bC.still C (l2:=Frame.enter P h args .normal::FQ f T (.inRegion U (i::rest)::k)::xs) (es:=λ_=>seen P f #[]) (λw _=>aki rfl rfl rfl rfl a c (b w)) (λw _=>bg _) d
end
def amQ{args:Array Value} :(callFunc eJ.add args).runT prog w #[]=(.ok (.enter eJ.add args) w,#[]):=by
 have h:=aat.f_add;have b:¬(Go.Conc.Lib.addFn eJ).name= "runtime.NumGoroutine" :=by decide
 have a:¬(Go.Conc.Lib.addFn eJ).body=none:=λe=>by cases e
 unfold callFunc;simp[h,b,a]
def akr{args:Array Value} :(callFunc eJ.wait args).runT prog w #[]=(.ok (.enter eJ.wait args) w,#[]):=by
 have h:=aat.f_wait;have b:¬(Go.Conc.Lib.waitFn eJ).name= "runtime.NumGoroutine" :=by decide
 have a:¬(Go.Conc.Lib.waitFn eJ).body=none:=λe=>by cases e
 unfold callFunc;simp[h,b,a]
noncomputable abbrev kM:List Item:=[.code (.seq (.region 9 jR false) cP)]
noncomputable abbrev kB:List Item:=.inLoop jq :: .inBlock 0::kM
noncomputable abbrev kA:List Item:=.code (.region 7 lQ false) :: .inBlock 1 :: .code (.region 8 akm false)::kB
section
variable {X:Mx} {R:ak} {w:World} {T:Array Value} {j:Nat} {xs bs:List Frame}
def StA(X:Mx)(j:Nat)(xs bs:List Frame)(S:ak)(g:Goroutine)(w:World):Prop:=
 ∃(T':Array Value) (b a:Nat) (nm:Int),X.dB[j]?=some nm/\X.Sl T' j/\T'.getD 10 undef=.pointer (some ⟨b,0,none⟩)/\T'.getD 11 undef=.pointer (some ⟨a,0,none⟩)/\S b/\S a/\w.heap[b]?=some (.cells #[.int .i64 j] 3)/\w.heap[a]?=some (.cells #[.int .i64 nm] 3)/\
  g=Gl (Frame.enter prog eJ.add #[.pointer (some ⟨X.Wg,0,none⟩),.int .i64 1] .normal::FQ cD T' (.inRegion aav [0]::kA)::xs) bs
def StW(X:Mx)(xs bs:List Frame)(S:ak)(g:Goroutine)(_:World):Prop:=
 ∃T':Array Value,X.Sl T' X.n2/\S=(λ_=>False)/\g=Gl (Frame.enter prog eJ.wait #[.pointer (some ⟨X.Wg,0,none⟩)] .normal::FQ cD T' (.inRegion jR [0]::[.code cP])::xs) bs
def ap8(n:X.Ok)(g:X.Sl T j)(v:j<X.n2)(r:X.At R w):bC prog true (X.Rl R) (pg R) (StA X j xs bs) (λ_=>False) (Gl (FQ cD T (.code jq::kB)::xs) bs) w:=by
 have H:=X.mG R;obtain⟨nm,m⟩:∃nm,X.dB[j]?=some nm:=⟨_,lm (by rw[n.nn];exact v)⟩;rw[ag0];refine eu H.cmp (fX H.cmp (l:=[0]) rfl λwa x=>aob H g.zz g.z g.iq g.s19 λL D J i=> ?_) w (H.fP _ _);rw[de v] at i;refine eu H.cmp (abW H.cmp i (anU H.cmp (eu H.cmp (ae7 H.cmp (eu H.cmp (fX H.cmp (l:=[0,1,2,3,4,5,6]) rfl λO q=> ?_))))));have f:X.Sl L j:=g.keep D λt d=>J t (by rintro rfl;cases d);have G:X.At R O:=(r.move (λb e=>x.keep b (.inr e)) x.size x.os).move (λb e=>q.keep b (.inr e)) q.size q.os;refine av7 H g.zz D f.s18 f.iq v (G.nm n m) (λa A=>G.rows _ (n.vr _ (n.al2 a A))) λo S2 Y F B M U z u Z C sn lb I Q P=> ?_;have k:X.Sl o j:=f.keep M λt d=>U t (by rintro rfl;cases d) (by rintro rfl;cases d) (by rintro rfl;cases d) (by rintro rfl;cases d) (by rintro rfl;cases d);obtain⟨K,S,N⟩:=aBM;refine eu H.cmp (fX H.cmp (l:=[0]) rfl (akq H.cmp (h:=eJ.add) (args:=#[.pointer (some ⟨X.Wg,0,none⟩),.int .i64 1]) N rfl (λw=> ?_) λw5 y=>.stop λw6 p=> ?_)) Y (H.fP _ _)
 .have V:Array.map (Frame.eval (FQ cD o (.inRegion aav [0]::kA))) #[.tmp 9,.const (.int .i64 1)]=#[.pointer (some ⟨X.Wg,0,none⟩),.int .i64 1]:=by
   rw[<-k.s9];simp[Frame.eval]
  have W:execOp (Frame.eval (FQ cD o (.inRegion aav [0]::kA))) ⟨some 25,.call ⟨.value (.func eJ.add),#[.tmp 9,.const (.int .i64 1)],#[eJ.tWg,3]⟩,0,K,S,none⟩=callFunc eJ.add #[.pointer (some ⟨X.Wg,0,none⟩),.int .i64 1]:=by
   simp only[execOp,resolve];rw[V];simp[Deferred.ofValue,invoke,Frame.eval];try rfl
  exact(gc (λs=>Sem.runT prog s w #[]) W).trans amQ
 .have E:=H.tr _ _ _ _ y p;exact⟨o,F,B,nm,m,k,z,u,C,sn,(E.keep F (.inl C)).trans Q,(E.keep B (.inl sn)).trans P,rfl⟩
def aqa(b:X.Sl T X.n2):bC prog true (X.Rl R) (pg R) (StW X xs bs) (λ_=>False) (Gl (FQ cD T (.code jq::kB)::xs) bs) w:=by
 have H:=X.mG R;rw[ag0];refine eu H.cmp (fX H.cmp (l:=[0]) rfl λv u=>aob H b.zz b.z b.iq b.s19 λe p f a=> ?_) w (H.fP _ _);rw[bv (Nat.lt_irrefl _)] at a;have d:X.Sl e X.n2:=b.keep p λt j=>f t (by rintro rfl;cases j);obtain⟨n,i,k⟩:=aBN;refine eu H.cmp (abW H.cmp a (anW H.cmp (k2:=kM) rfl (eu H.cmp (fX H.cmp (l:=[0]) rfl (akq H.cmp (h:=eJ.wait) (args:=#[.pointer (some ⟨X.Wg,0,none⟩)]) k rfl (λw=> ?_) λx q=>.stop λr g=>⟨e,d,rfl,rfl⟩)))));have m:Array.map (Frame.eval (FQ cD e (.inRegion jR [0]::[.code cP]))) #[.tmp 9]=#[.pointer (some ⟨X.Wg,0,none⟩)]:=by
  rw[<-d.s9];simp[Frame.eval]
 have o:execOp (Frame.eval (FQ cD e (.inRegion jR [0]::[.code cP]))) ⟨some 28,.call ⟨.value (.func eJ.wait),#[.tmp 9],#[eJ.tWg]⟩,0,n,i,none⟩=callFunc eJ.wait #[.pointer (some ⟨X.Wg,0,none⟩)]:=by
  simp only[execOp,resolve];rw[m];simp[Deferred.ofValue,invoke,Frame.eval];try rfl
 exact(gc (λs=>Sem.runT prog s w #[]) o).trans akr
end
end
section
open Go.Conc Go.ConcN Go.RowKit Go.Conc.Lib Go.ConcR.Gen Go.ConcN.Gen
open Go.ConcR (KK wgBlock WgAt stA smA rd wr mk Payload DC0)
section
variable {P:Program} {R:World->World->Prop} {Q:World->Prop} {St A:Goroutine->World->Prop} {ty:TypeId} {Wg:Nat}
 (hQ:∀w w1,Q w->R w w1->Q w1) (hW:∀(w:World) (a:Addr) v,a.block=Wg->Q w->Q (w.setCell a v))
include hQ
theorem aoc(a:Q w)(h:WKe P R Wg St g w):WKe P R Wg (λg w=>St g w/\Q w) g w:=ace (λ_ _ x=>jQ hQ x.2 x.1) (jQ hQ a h)
theorem av8(b:Q w)(h:WW4 P R ty Wg St g w):WW4 P R ty Wg (λg w=>St g w/\Q w) g w:=
 ⟨h.1,λa=>let⟨c,e,k⟩:=h.2 a;⟨c,e,fB (λ_ _ x=>aoc hQ x.2 x.1) (eW hQ b k)⟩⟩
include hW
theorem av9(b:Q w)(h:WW3 P R ty Wg St g w):WW3 P R ty Wg (λg w=>St g w/\Q w) g w:=
 ⟨h.1,h.2.1,h.2.2.1,λa=>let⟨c,e,k⟩:=h.2.2.2 a;⟨c,e,fB (λ_ _ x=>av8 hQ x.2 x.1) (eW hQ (hW _ _ _ rfl b) k)⟩⟩
theorem awa{v:Nat}(d:Q w)(h:WW2 P R ty Wg A St v g w):WW2 P R ty Wg (λg w=>A g w/\Q w) (λg w=>St g w/\Q w) v g w:=
 ⟨h.1,λf i c=>⟨λe=>let⟨b,a,k⟩:=(h.2 f i c).1 e;⟨b,a,fB (λ_ _ x=>ace (λ_ _ x=>av9 hQ hW x.2 x.1) (jQ hQ x.2 x.1)) (eW hQ (hW _ _ _ rfl d) k)⟩,
  λe=>let⟨b,a,k⟩:=(h.2 f i c).2 e;⟨b,a,eW hQ d k⟩⟩⟩
theorem awb(a:Q w)(h:WW1 P R ty Wg A St g w):WW1 P R ty Wg (λg w=>A g w/\Q w) (λg w=>St g w/\Q w) g w:=
 ⟨h.1,λv d c=>let⟨i,e,f,b⟩:=h.2 v d c;⟨i,e,λe=>fB (λ_ _ x=>aoc hQ x.2 x.1) (eW hQ a (f e)),λe=>fB (λ_ _ x=>awa hQ hW x.2 x.1) (eW hQ a (b e))⟩⟩
end
section
variable (X:Mx) (xs bs:List Frame)
noncomputable abbrev frW(T:Array Value):Frame:=(FQ cD #[] []).at ⟨T,[]⟩ (.inRegion jR [0]::[.code cP])
def adm(R _S:ak)(g:Goroutine)(w:World):Prop:=X.At R w/\∃T,X.Sl T X.n2/\ake eJ X.Wg (frW T) (xs++bs) g w
def aBP(R S:ak)(g:Goroutine)(w:World):Prop:=
 ∃T,X.Sl T X.n2/\Goes prog true (RM eJ.tWg X.Wg X.C X.n2 R S) DC0 (λg w=>(g=Gl (FQ cD T (.inRegion jR []::[.code cP])::xs) bs/\WgLive eJ.tWg X.Wg w)/\X.At R w) 20 g w
end
section
variable {X:Mx} {xs bs:List Frame} {R S:ak} {w w1:World} {T:Array Value}
def Mx.At.rely(h:X.At R w)(a:jM eJ.tWg X.Wg X.C (2*X.n2) R noC S w w1):X.At R w1:=h.move (λb c=>a.keep b (.inr c)) a.size a.os
def Mx.At.wg(h:X.At R w)(a:Addr)(v:Value)(d:a.block=X.Wg):X.At R (w.setCell a v):=
 h.move (λb c=>aZ _ _ _ (λe=>h.rW (by rw[<-d,e];exact c))) (mt (eg _ _ _).symm) rfl
def awc(a:X.Sl T X.n2):∃T',X.Sl T' X.n2/\G ((FQ cD #[] []).at ((⟨T,[]⟩:Act).put ((jR[0]?).bind (·.dst)) (.tuple #[])) (.inRegion jR []::[.code cP])) (xs++bs)=Gl (FQ cD T' (.inRegion jR []::[.code cP])::xs) bs:=by
 obtain⟨d,e,c⟩:=aBN;refine⟨T.setIfInBounds 28 (.tuple #[]),a.keep (by simpa using a.z) λt b=> ?_,by rw[c];rfl⟩;rw[aF (by rw[a.z];exact aE (by decide) a.zz),bd (by rintro rfl;cases b)]
def awd(h:adm X xs bs R S g w):∃m,GP prog eJ.tWg X.Wg X.C X.n2 R S (MW1 prog eJ.tWg X.Wg X.C X.n2 R S (adm X xs bs) (aBP X xs bs)) m g w:=by
 obtain⟨c,T,d,i⟩:=h;have j:=amJ (R:=RM eJ.tWg X.Wg X.C X.n2 R S) (S:=λg w=>g=G ((FQ cD #[] []).at ((⟨T,[]⟩:Act).put ((jR[0]?).bind (·.dst)) (.tuple #[])) (.inRegion jR []::[.code cP])) (xs++bs)/\WgLive eJ.tWg X.Wg w) aat (λ_ _ h r=>r.live h) (λ_ h=>⟨rfl,h⟩) g w i;have f:=fB (λg w x=>awb (Q:=X.At R) (λ_ _ h r=>h.rely r) (λ_ a v e h=>h.wg a v e) x.2 x.1) (eW (Q:=X.At R) (λ_ _ h r=>h.rely r) c j);obtain⟨T',b,k⟩:=awc (xs:=xs) (bs:=bs) d;refine⟨30,aau (λ_ _ x=>aBz (λg w y=>⟨T',b,fB (λg w z=>⟨⟨z.1.1.trans k,z.1.2⟩,z.2⟩) y⟩) (λg w y=>⟨y.2,T,d,y.1⟩) x) f⟩
def amR:Frame.enter prog eJ.wait #[.pointer (some ⟨X.Wg,0,none⟩)] .normal=(base eJ.wait).at ⟨#[.pointer (some ⟨X.Wg,0,none⟩)]++(List.replicate 83 undef).toArray,[]⟩ [.code (body_wait eJ)]:=by
 rw[vC];have h:=enter_at (c:=body_wait eJ) #[.pointer (some ⟨X.Wg,0,none⟩)] aat.f_wait rfl;have e:(Go.Conc.Lib.waitFn eJ).ntmps-(#[.pointer (some ⟨X.Wg,0,none⟩)]:Array Value).size=83:=rfl;rw[e] at h;exact h
def aqb:Frame.enter prog eJ.add #[.pointer (some ⟨X.Wg,0,none⟩),.int .i64 1] .normal=(base eJ.add).at ⟨#[.pointer (some ⟨X.Wg,0,none⟩),.int .i64 1]++(List.replicate 115 undef).toArray,[]⟩ [.code (body_add eJ)]:=by
 rw[vC];have h:=enter_at (c:=body_add eJ) #[.pointer (some ⟨X.Wg,0,none⟩),.int .i64 1] aat.f_add rfl;have e:(Go.Conc.Lib.addFn eJ).ntmps-(#[.pointer (some ⟨X.Wg,0,none⟩),.int .i64 1]:Array Value).size=115:=rfl;rw[e] at h;exact h
def ain(d:X.Sl T X.n2)(hi:X.Inv R S w) :
  bC prog true (X.Rl R) (X.Gr R) (λS g w=>MKd prog eJ.tWg X.Wg X.C X.n2 R S (adm X xs bs) g w) S (Gl (Frame.enter prog eJ.wait #[.pointer (some ⟨X.Wg,0,none⟩)] .normal::FQ cD T (.inRegion jR [0]::[.code cP])::xs) bs) w:=by
 rw[amR];have c:=amI (b₀:=FQ cD #[] []) (a₀:=⟨T,[]⟩) (ops₀:=jR) (i₀:=0) (rest₀:=[]) (k₀:=[.code cP]) (cs:=xs++bs) (R:=RM eJ.tWg X.Wg X.C X.n2 R S) aat (λ_ _ h r=>r.live h) w hi.live;have b:=fB (λg w x=>jQ (Q:=X.At R) (λ_ _ h r=>h.rely r) x.2 x.1) (eW (Q:=X.At R) (λ_ _ h r=>h.rely r) hi.at_ c);have a:∀g w,(ake eJ X.Wg (frW T) (xs++bs) g w/\X.At R w)->adm X xs bs R S g w:=λg w y=>⟨y.2,T,d,y.1⟩;exact bC.abS (R:=RM eJ.tWg X.Wg X.C X.n2 R S) (λ_ _ h=>h) (λ_ _ _ h=>azl h) (λ_ _ h=>aBA a h) b
end
end
section
open Go.Conc Go.ConcN Go.RowKit
open Go.ConcR (KK wgBlock WgAt stA smA rd wr mk Payload DC0)
section
variable {X:Mx} {R S:ak} {w:World} {T:Array Value} {j:Nat} {xs bs:List Frame} {bi bn:Nat} {nm:Int}
noncomputable abbrev kG:List Item:=.inBlock 1 :: .code (.region 8 akm false)::kB
abbrev Mx.nB(X:Mx)(bi bn:Nat):Array Value:=#[.pointer (some ⟨X.Wg,0,none⟩),.pointer (some ⟨X.bk,0,none⟩),.pointer (some ⟨X.bp,0,none⟩),.pointer (some ⟨bn,0,none⟩),.pointer (some ⟨X.ba,0,none⟩),.pointer (some ⟨bi,0,none⟩)]
def aqc(b:X.Sl T j)(k:T.getD 10 undef=.pointer (some ⟨bi,0,none⟩))(m:T.getD 11 undef=.pointer (some ⟨bn,0,none⟩))(z:S bi)(q:S bn)(u:w.heap[bi]?=some (.cells #[.int .i64 j] 3))(o:w.heap[bn]?=some (.cells #[.int .i64 nm] 3)) :
  bC prog true (X.Rl R) (pg R) (λA g f=>A=S/\f.heap[bi]?=some (.cells #[.int .i64 j] 3)/\f.heap[bn]?=some (.cells #[.int .i64 nm] 3)/\∃T',X.Sl T' j/\T'.getD 26 undef=.func (.func nCl) #[] (X.nB bi bn)/\g=Gl (FQ cD T' (.inRegion lQ [1]::kG)::xs) bs) S
   (Gl (FQ cD T (.inRegion aav []::kA)::xs) bs) w:=by
 have H:=X.mG R;obtain⟨p,a,e⟩:=aDM;refine im H.cmp (fX H.cmp (l:=[0,1]) rfl (bK H.cmp (d:=26) (v:=.func (.func nCl) #[] (X.nB bi bn)) (es:=#[]) (by rw[b.z];exact aE (by decide) b.zz) e rfl rfl (λw _=>ako ?_) (λw _=>bg _) λy B C s f r=>.stop λD i=> ?_)) w (H.fP _ _)
 .have:∀T:Array Value,Array.map (Frame.eval (FQ cD T (.inRegion lQ [0,1]::kG))) #[.tmp 9,.tmp 3,.tmp 4,.tmp 11,.tmp 8,.tmp 10]=#[T.getD 9 undef,T.getD 3 undef,T.getD 4 undef,T.getD 11 undef,T.getD 8 undef,T.getD 10 undef]:=λT=>by simp[Frame.eval]
  rw[this,b.s9,b.s3,b.s4,b.s8,k,m]
 .have n:=H.tr _ _ _ _ r i;exact⟨rfl,(n.keep bi (.inl z)).trans u,(n.keep bn (.inl q)).trans o,y,b.keep (B.trans b.z) λt x=>s t (by rintro rfl;cases x),C,rfl⟩
def aqd(k:X.Ok)(b:X.Sl T j)(F:j<X.n2) :
  bC prog true (X.Rl R) (pg R) (λu g _=>u=S/\∃T',X.Sl T' (j+1)/\g=Gl (FQ cD T' (.code jq::kB)::xs) bs) S
   (Gl (FQ cD T (.inRegion lQ []::kG)::xs) bs) w:=by
 have H:=X.mG R;obtain⟨E,D,i⟩:=aDO;obtain⟨C,G,s⟩:=aDP;have p:=k.n2m;refine im H.cmp (ajI H.cmp (fX H.cmp (l:=[0,1]) rfl (bK H.cmp (d:=27) (v:=.int .i64 ((j:Int)+1)) (es:=#[]) (by rw[b.z];exact aE (by decide) b.zz) i rfl rfl (λw _=>av1 (x:=.tmp 20) b.iq rfl (by omega) (by omega)) (λw _=>bg _) λo f y m=>
  bK H.cmp (d:=20) (v:=.int .i64 ((j:Int)+1)) (es:=#[]) (by rw[f,b.z];exact aE (by decide) b.zz) s rfl rfl (λw _=>fu (x:=.tmp 27) y) (λw _=>bg _) λz r n c=>
   im H.cmp (ash H.cmp λA B=>.stop λI q=>⟨rfl,z, ?_,rfl⟩)))) w (H.fP _ _)
 have a:=b.keep (T':=o) (f.trans b.z) λt e=>m t (by rintro rfl;cases e);refine⟨r.trans a.z,a.zz,(c 3 (by decide)).trans a.s3,(c 4 (by decide)).trans a.s4,(c 8 (by decide)).trans a.s8,(c 9 (by decide)).trans a.s9,(c 18 (by decide)).trans a.s18,(c 19 (by decide)).trans a.s19,by rw[n];rfl,λt e=>(c t (by rintro rfl;cases e)).trans (a.sv t e)⟩
def afu{val:Nat->Value}{A:ak->ak->Goroutine->World->Prop}{r:Nat}(h:bC prog true (X.Rl R) (X.Gr R) (λS g w=>(S=λ_=>False)/\tA prog eJ.tWg X.Wg X.C X.n2 val A r R g w) (λ_=>False) g w):tA prog eJ.tWg X.Wg X.C X.n2 val A r R g w:=by
 cases r with
 |zero=>exact bC.bind (X.mG _).fP (X.mG _).tr h λS g w ⟨hS,h⟩=>by subst hS;exact h
 |succ r=>exact bC.bind (X.mG _).fP (X.mG _).tr h λS g w ⟨hS,h⟩=>by subst hS;exact h
def adn(f:X.Ok){x:Int->List gY->Int->ByteArray×Bool}(O:eI x)(u:∀k nm,x k [] nm=(⟨#[]⟩,false)){val:Nat->Value}(i:∀B nm,X.dB[B]?=some nm->val (2*B)=.string (x X.key X.l nm).1/\val (2*B+1)=.bool (x X.key X.l nm).2) :
  ∀(r j:Nat) (R:ak) (T:Array Value) (w:World),j+r=X.n2->X.At R w->WgLive eJ.tWg X.Wg w->X.Sl T j->tA prog eJ.tWg X.Wg X.C X.n2 val (adm X xs bs) r R (Gl (FQ cD T (.code jq::kB)::xs) bs) w
 |0,j,R,T,w,hj,hat,o,hs=>by
  obtain rfl:j=X.n2:=hj;have M:X.Inv R (λ_=>False) w:=⟨λb h=>h.elim,hat,o,λb _ h=>h⟩;exact bC.bind (X.mG R).fP (X.mG R).tr (Mx.lift (aqa hs) M) λS g w ⟨⟨T',c,hS,hg⟩,d⟩=>by
   rw[hg];exact ain c d
 |r+1,j,R,T,w,hj,hat,o,hs=>by
  have l:j<X.n2:=by omega
  have M:X.Inv R (λ_=>False) w:=⟨λb h=>h.elim,hat,o,λb _ h=>h⟩;have F:X.n2-(r+1)=j:=by omega
  show bC prog true (X.Rl R) (X.Gr R) (λS g w=>arY prog eJ.tWg X.Wg X.C X.n2 val (X.n2-(r+1)) (tA prog eJ.tWg X.Wg X.C X.n2 val (adm X xs bs) r) R S g w) (λ_=>False) _ w;rw[F];refine bC.bind (X.mG R).fP (X.mG R).tr (Mx.lift (ap8 f hs l hat) M) λS g w ⟨⟨T',bi,bn,nm,hnm,c,d10,d11,si,sn,ci,cn,hg⟩,d⟩=> ?_;rw[hg,aqb];have hI:=d.at_.nm f hnm;obtain⟨-, -, -,E⟩:=hI;refine ap6 (b₀:=FQ cD #[] []) (a₀:=⟨T',[]⟩) (ops₀:=aav) (i₀:=0) (rest₀:=[]) (k₀:=kA) (cs:=xs++bs) aat (Q:=λw=>X.Inv R S w/\w.heap[bi]?=some (.cells #[.int .i64 j] 3)/\w.heap[bn]?=some (.cells #[.int .i64 nm] 3))
   (λw q h I=>⟨h.1.rely I,(I.keep bi (.inl si)).trans h.2.1,(I.keep bn (.inl sn)).trans h.2.2⟩) (λw v z h Z=> ?_) (λw o h=> ?_) w d.live ⟨d,ci,cn⟩
  .have s:∀b,S b->(w.setCell (stA X.Wg) (.int .u64 z)).heap[b]?=w.heap[b]?:=λb n=>aZ _ _ _ λe=>(h.1.s b n).2.2 e.symm;refine⟨⟨λb n=>⟨by rw[eg];exact(h.1.s b n).1,(h.1.s b n).2⟩,h.1.at_.wg _ _ rfl, ?_,h.1.sr⟩,(s bi si).trans h.2.1,(s bn sn).trans h.2.2⟩;exact⟨z,0,Z.setSt z⟩
  .obtain⟨p6,a6,V⟩:=aBM;have P:G ((FQ cD #[] []).at ((⟨T',[]⟩:Act).put ((aav[0]?).bind (·.dst)) (.tuple #[])) (.inRegion aav []::kA)) (xs++bs)=Gl (FQ cD (T'.setIfInBounds 25 (.tuple #[])) (.inRegion aav []::kA)::xs) bs:=by rw[V];rfl
   rw[P];have m:∀t,t≠25->(T'.setIfInBounds 25 (.tuple #[])).getD t undef=T'.getD t undef:=λt A=>by rw[aF (by rw[c.z];exact aE (by decide) c.zz),bd A]
   have J:X.Sl (T'.setIfInBounds 25 (.tuple #[])) j:=c.keep (by simpa using c.z) λt A=>m t (by rintro rfl;cases A);refine bC.weak (λ_ _ _ h=>h) (λ_ _ _ _ _ h=>h) (λp g q h=> ?_) (Mx.lift (aqc (nm:=nm) J ((m 10 (by decide)).trans d10) ((m 11 (by decide)).trans d11) si sn h.2.1 h.2.2) h.1);obtain⟨⟨rfl,D,K,T2,y,H,rfl⟩,N⟩:=h;have a:X.At (λb=>p b\/R b) q:=N.at_.grow N.s;refine⟨rfl,_,_,λb=>p b\/R b,avZ H,λ_ h=>h,λhp o=> ?_, ?_⟩
   .obtain⟨v0,W⟩:=i j nm hnm
    let Y:Wx:=⟨q,X.Wg,X.C,X.n2,j,λb=>p b\/R b,X.Rg,X.key,X.A,X.n,X.c,X.l,nm,X.bk,X.bp,bn,X.ba,bi,eJ.tWg⟩
    have C:Y.Ok:=⟨da f.hN a.sz,f.gl,a.gr f,f.k1,f.k2,f.hl,f.hc,f.hcm,a.rd f,a.rgp f,f.al,E,l,λb n=>a.rows b (f.vr b n),⟨a.rk.1,(tq a.rk.2).1⟩,⟨a.rp.1,(tq a.rp.2).1⟩,⟨.inl sn,(tq K).1⟩,⟨a.ra.1,(tq a.ra.2).1⟩,⟨.inl si,(tq D).1⟩,a.rlt,a.rC,a.rW,f.cW⟩;have L:Y.Inv (λ_=>False) q:=⟨λ_ _=>rfl,λb h=>h.elim,a.ltC,a.ltW,am _,o,hp,rfl⟩;exact akl (X:=Y) C O u rfl v0 W L
   .-- the rounds that are left
    have U:X.Inv (λb=>p b\/R b) (λ_=>False) q:=⟨λb h=>h.elim,a,N.live,λb _ h=>h⟩;have hx:=Mx.lift (aqd (S:=λ_=>False) (xs:=xs) (bs:=bs) f y l) U;have k:∀(g:Goroutine) (w:World) (S:ak),((S=λ_=>False)/\∃T',X.Sl T' (j+1)/\g=Gl (FQ cD T' (.code jq::kB)::xs) bs)/\X.Inv (λb=>p b\/R b) S w->S=(λ_=>False)/\tA prog eJ.tWg X.Wg X.C X.n2 val (adm X xs bs) r (λb=>p b\/R b) g w:=by
     rintro g w S ⟨⟨rfl,T',c,rfl⟩,d⟩;exact⟨rfl,adn f O u i r (j+1) _ T' w (by omega) d.at_ d.live c⟩
    exact afu (bC.weak (λ_ _ _ h=>h) (λ_ _ _ _ _ h=>h) (λS g w h=>k g w S h) hx)
end
def amS(Rr:ak):pj RlB Rr:=⟨λ_ w=>atRel_refl w,λ_ a b c h k=>atRel_trans a b c h k,λ_ w f ⟨d,e⟩=>by subst e;exact⟨λ_ _=>rfl,am _,rfl⟩⟩
def amT(aU S:ak)(w:World):Prop:=(∀b,S b->¬aU b)/\∀b,aU b->b<w.heap.size
def amT.rely{S : ak}(h:amT aU S w)(c:RlB S w V):amT aU S V:=⟨h.1,λb a=>aE (h.2 b a) ((amS S).rl _ _ _ c).2.1⟩
def atw{Rr S : ak}{w' : World}(s:∀b,Rr b->¬aU b)(i:amT aU S w)(g:pg Rr S R w w' es):GrB aU S R w w' es/\amT aU R w':=by
 obtain⟨t,l,u,rfl,o⟩:=g;have m:∀b,S b\/(w.heap.size<=b/\b<w'.heap.size)->¬aU b:=λb c d=>by
  rcases c with c|c
  .exact i.1 b c d
  .have:=i.2 b d;omega
 refine⟨⟨l,λe r=> ?_⟩,m,λb c=>aE (i.2 b c) l⟩;obtain⟨p,k,q⟩:=o e r;refine⟨λx n ⟨a,hl,d⟩=> ?_,λj=> ?_,λj=> ?_,q⟩
 .rcases p x n with h|⟨h, -⟩
  .rw[hl] at h;exact m _ h d
  .rw[hl] at h;exact s _ h d
 .rcases k _ j with⟨f,e⟩|e<;>cases e
 .rcases k _ j with⟨f,e⟩|e<;>cases e
section
variable {gs:Array Goroutine} {w:World} {sl:Option (Nat×Nat)} {t:Trace} {q:Nat->Nat} {aU V:ak} {T:Array Value} {xs:List Frame}
def aDQ (J:gs[0]?=some (Gl (FQ cD X [.code acf]::xs) [])) (U:45<=X.size) {A2 : Option Addr} (Z:(Y:Int)<=2147483647) (M:X.getD 0 undef=.int .i64 key) (s1:X.getD 1 undef=.slice A n c) (L:X.getD 2 undef=.slice A2 Y i)
  (P:Leavers prog t gs q) (hP:eP aU (gs.size-1) w.heap.size t) (x:∀b,aU b->b<w.heap.size) (I:∀b,V b->b<w.heap.size/\¬aU b) :
  ∃(N:Nat) (l:Array Goroutine) (f:World) (r:Option (Nat×Nat)) (s:Trace) (y:Nat->Nat) (T:Array Value) (m j C o:Nat) (p:Array Value),runNT prog N (crowd gs w sl) t=(.next (crowd l f r),s)/\l.size=gs.size/\
   l[0]?=some (Gl (FQ cD T [.code (.region 2 nO false),.code gQ]::xs) [])/\Leavers prog s l y/\eP aU (gs.size-1) f.heap.size s/\T.size=X.size/\(∀t,(t<3\/aas t=true)->T.getD t undef=X.getD t undef)/\
   (T.getD 3 undef=.pointer (some ⟨m,0,none⟩)/\T.getD 4 undef=.pointer (some ⟨j,0,none⟩)/\T.getD 6 undef=.slice none 0 0/\T.getD 7 undef=.bool false/\T.getD 8 undef=.pointer (some ⟨o,0,none⟩)/\T.getD 17 undef=.slice (some ⟨C,0,none⟩) Y Y)/\
   ((∀b,V b->f.heap[b]?=w.heap[b]?)/\w.heap.size<=f.heap.size/\f.ou=w.ou)/\(w.heap.size<=m/\m<j/\j<C/\C<o)/\f.heap[m]?=some (.cells #[.int .i64 key] 3)/\f.heap[j]?=some (.cells #[.slice A n c] 23)/\p.size=2*Y/\f.heap[C]?=some (.cells p 100)/\f.heap[o]?=some (.cells #[.slice (some ⟨C,0,none⟩) Y Y] 87):=by
 have W:=amN (xs:=xs) (base:=[]) (k:=[]) (S:=λ_=>False) (w0:=w) (Rr:=V)
  (St:=λ_ g f=>∃(T:Array Value) (m j C o:Nat) (p:Array Value),g=Gl (FQ cD T [.code (.region 2 nO false),.code gQ]::xs) []/\T.size=X.size/\(∀t,(t<3\/aas t=true)->T.getD t undef=X.getD t undef)/\
   (T.getD 3 undef=.pointer (some ⟨m,0,none⟩)/\T.getD 4 undef=.pointer (some ⟨j,0,none⟩)/\T.getD 6 undef=.slice none 0 0/\T.getD 7 undef=.bool false/\T.getD 8 undef=.pointer (some ⟨o,0,none⟩)/\T.getD 17 undef=.slice (some ⟨C,0,none⟩) Y Y)/\
   ((∀b,V b->f.heap[b]?=w.heap[b]?)/\w.heap.size<=f.heap.size/\f.ou=w.ou)/\(w.heap.size<=m/\m<j/\j<C/\C<o)/\f.heap[m]?=some (.cells #[.int .i64 key] 3)/\f.heap[j]?=some (.cells #[.slice A n c] 23)/\p.size=2*Y/\f.heap[C]?=some (.cells p 100)/\f.heap[o]?=some (.cells #[.slice (some ⟨C,0,none⟩) Y Y] 87))
  (amS V) U rfl Z M s1 L λT S' f m j C o p B K F v R Q cp E cC O=>.stop λw1 ⟨d,e⟩=>by
   subst e;exact⟨T,m,j,C,o,p,rfl,B,K,F,⟨λb u=>v.keep b (I b u).1 (.inr u),v.size,v.os⟩,R,Q,cp,E,cC,O⟩
 have H:=bC.inv (Gr2:=GrB aU) (Inv:=amT aU) (agT:=λ_ g f=>_) (λ_ _ _ h D=>h.rely D) (λ_ _ _ _ _ h g=>atw (λb u=>(I b u).2) h g) (λ_ _ _ h _=>h) W ⟨λ_ h=>h.elim,x⟩;obtain⟨N,l,a,f,r,s,y,S',D,B,ha,⟨T,m,j,C,o,p,rfl,F⟩,G,z⟩:=pS (sl:=sl) aaY J P hP H;exact⟨N,l,f,r,s,y,T,m,j,C,o,p,D,B,ha,G,z,F⟩
def GrE(_ _:ak)(w w':World)(es:Array Event):Prop:=es=#[]/\w.heap.size<=w'.heap.size
def afS{B0:Nat}:ayA GrE (λK B t=>eP aU K B t/\∀op∈t,op.act.low B0) where
 own:=λ{K t S l w k f} fn c ⟨b,hz⟩ ⟨hP,hl⟩=>by
  subst b;refine⟨hP.own hz λe h=>by simp at h,λop a=> ?_⟩;rcases vm.1 a with h|h
  .exact hl op h
  .obtain⟨e,b, -⟩:=lP h;simp at b
 mute:=λ{K B t g f} fn c i j d ⟨hP,hl⟩=>by
  refine⟨hP.mute i j d,seen_app hl λop a=> ?_⟩;obtain⟨e,b,rfl⟩:=lP a;exact low_mute (d e b) B0
def aDR(C:gs[0]?=some (Gl (FQ cD T [.code (.region 2 nO false),.code gQ]::xs) []))(v:45<=T.size)(F:Leavers prog t gs q)(x:eP aU (gs.size-1) w.heap.size t) :
  ∃(N:Nat) (b:Array Goroutine) (c:World) (d:Option (Nat×Nat)) (e:Trace) (s:Nat->Nat) (T':Array Value),runNT prog N (crowd gs w sl) t=(.next (crowd b c d),e)/\b.size=gs.size/\b[0]?=some (Gl (FQ cD T' [.code gQ]::xs) [])/\Leavers prog e b s/\
   eP aU (gs.size-1) c.heap.size e/\(∀op∈e,op.act.low w.heap.size)/\T'.size=T.size/\T'.getD 9 undef=.pointer (some ⟨w.heap.size,0,none⟩)/\(∀t,t≠9->T'.getD t undef=T.getD t undef)/\c.heap=w.heap.push (wgBlock eJ.tWg 0 0)/\c.ou=w.ou:=by
 obtain⟨R,Q,u⟩:=aDA;obtain⟨i,z,J,l,M⟩:=av4;have o:List.range nO.size=[0]:=rfl;have K:bC prog true RlB GrE (λ_ g c=>g=Gl (FQ cD (T.setIfInBounds 9 (.pointer (some ⟨w.heap.size,0,none⟩))) [.code gQ]::xs) []/\c.heap=w.heap.push (wgBlock eJ.tWg 0 0)/\c.ou=w.ou) (λ_=>False) (Gl (FQ cD T [.code (.region 2 nO false),.code gQ]::xs) []) w:=by
  refine .step rfl λy ⟨d1,e1⟩=>⟨Gl (FQ cD T [.inRegion nO [0],.code gQ]::xs) [],y,#[],λ_=>False,by simp[Gl,stepG,stepG.exec,o],⟨rfl,am _⟩, ?_⟩;refine .step rfl λj ⟨d2,e2⟩=> ?_;have f:=anT (m:=true) (fr:=FQ cD T [.inRegion nO [0],.code gQ]) (xs:=xs) (base:=[]) (w:=j) rfl rfl rfl rfl u rfl (pT (w:=j) J l);rw[wl,M] at f;refine⟨_,_,#[],λ_=>False,f,⟨rfl,by rw[mw];omega⟩, ?_⟩;have k:j.heap.size=w.heap.size:=by rw[e2,e1];rfl
  have H:Frame.finish (FQ cD T [.inRegion nO [0],.code gQ]) (.pointer (some ⟨j.heap.size,0,none⟩))=FQ cD (T.setIfInBounds 9 (.pointer (some ⟨w.heap.size,0,none⟩))) [.inRegion nO [],.code gQ]:=by
   simp only[Frame.finish,u,qC,k]
  rw[H];refine .step rfl λB ⟨d3,e3⟩=>⟨Gl (FQ cD (T.setIfInBounds 9 (.pointer (some ⟨w.heap.size,0,none⟩))) [.code gQ]::xs) [],B,#[],λ_=>False,by simp[Gl,stepG,stepG.exec],⟨rfl,am _⟩,.stop λO ⟨d4,e4⟩=>⟨rfl, ?_, ?_⟩⟩
  .rw[e4,e3,e2,e1];rfl
  .rw[e4,e3,e2,e1];rfl
 obtain⟨N,b,a,c,d,e,s,P,I,G,L,⟨rfl,E,A⟩,r,n,p⟩:=pS (sl:=sl) (afS (aU:=aU) (B0:=w.heap.size)) C F ⟨x,x.seen⟩ K;exact⟨N,b,c,d,e,s,_,I,G,L,r,n,p,by simp,by rw[aF (aE (by decide) v),dj rfl],λt D=>by rw[aF (aE (by decide) v),bd D],E,A⟩
end
def lu{N : Nat}{m m':Machine}{a : Trace}{r:Stepped×Trace}(h:runNT P N m t=(.next m',a))(b:runNT P Y m' a=r):runNT P (N+Y) m t=r:=by
 rw[runNT_add,h];exact b
section
variable {X:Mx} {R:ak} {T:Array Value} {w:World} {xs bs:List Frame}
structure Mx.Pre (X:Mx) (T:Array Value):Prop where
 z:T.size=X.Z
 zz:45<=X.Z
 s2:T.getD 2 undef=.slice X.A2 X.n2 X.c2
 s3:T.getD 3 undef=.pointer (some ⟨X.bk,0,none⟩)
 s4:T.getD 4 undef=.pointer (some ⟨X.bp,0,none⟩)
 s8:T.getD 8 undef=.pointer (some ⟨X.ba,0,none⟩)
 s9:T.getD 9 undef=.pointer (some ⟨X.Wg,0,none⟩)
 sv:∀t,amP t=true->T.getD t undef=X.sv t
def aks(a:X.Pre T):bC prog true (X.Rl R) (pg R) (λS g _=>(S=λ_=>False)/\∃c,X.Sl c 0/\g=Gl (FQ cD c (.code jq::kB)::xs) bs) (λ_=>False) (Gl (FQ cD T [.code gQ]::xs) bs) w:=by
 have H:=X.mG R;unfold gQ;refine eu H.cmp (eu H.cmp (fX H.cmp (l:=[0,1,2]) rfl λq o=>av5 H a.zz a.z a.s2 λc k b e d f=>ae7 H.cmp (anV H.cmp λm n=>.stop λp j=>⟨rfl,c, ?_,rfl⟩))) w (H.fP _ _);refine⟨k,a.zz,(b 3 (by decide) (by decide) (by decide)).trans a.s3,(b 4 (by decide) (by decide) (by decide)).trans a.s4,(b 8 (by decide) (by decide) (by decide)).trans a.s8,(b 9 (by decide) (by decide) (by decide)).trans a.s9,e,d,f,λt i=>(b t ?_ ?_ ?_).trans (a.sv t i)⟩<;>(rintro rfl;cases i)
end
def afT(h:∀op∈t,op.act.low a.block):NoRelease a t:=λi d=>by
 unfold Trace.act? at d;obtain⟨op,e,b⟩:=io.1 d;have c:=h op (qw e);rw[b] at c;exact Nat.lt_irrefl _ c
section
variable {X:Mx} {R:ak} {gs:Array Goroutine} {w:World} {sl:Option (Nat×Nat)} {t:Trace} {q:Nat->Nat} {aU:ak} {T:Array Value} {xs:List Frame}
def aDS (D:X.Ok) (hF:eI Z) (L:∀a4 nm,Z a4 [] nm=(⟨#[]⟩,false)) (h0:gs[0]?=some (Gl (FQ cD T [.code gQ]::xs) [])) (hs:X.Pre T)
  (hL:Leavers prog t gs q) (hP:eP aU (gs.size-1) w.heap.size t) (C:∀op∈t,op.act.low X.Wg) (fg:WgAt eJ.tWg X.Wg w 0 0) (W:PayAt X.C (2*X.n2) w) (j:X.At R w) (u:∀b,aU b->¬R b/\b≠X.C/\b<w.heap.size) :
  ∃(N:Nat) (n:Array Goroutine) (m:World) (al:Option (Nat×Nat)) (H:Trace) (q':Nat->Nat) (T':Array Value) (R':ak),runNT prog N (crowd gs w sl) t=(.next (crowd n m al),H)/\
   n[0]?=some (Gl (FQ cD T' [.code cP]::xs) [])/\Leavers prog H n q'/\eP (λb=>b=X.Wg\/aU b) (n.size-1) m.heap.size H/\X.Sl T' X.n2/\X.At R' m/\PayAt X.C (2*X.n2) m/\
   (∀f nm,X.dB[f]?=some nm->Has X.C (2*f) (.string (Z X.key X.l nm).1) m/\Has X.C (2*f+1) (.bool (Z X.key X.l nm).2) m)/\(∀b,b=X.Wg\/aU b->b<m.heap.size):=by
 have fN:0<gs.size:=(dk.1 h0).1
 let val:Nat->Value:=λi=>if i % 2=0 then .string (Z X.key X.l (X.dB.getD (i / 2) 0)).1 else .bool (Z X.key X.l (X.dB.getD (i / 2) 0)).2
 have o:∀f nm,X.dB[f]?=some nm->val (2*f)=.string (Z X.key X.l nm).1/\val (2*f+1)=.bool (Z X.key X.l nm).2:=λf nm h=>by
  have e1:2*f % 2=0:=by omega
  have O:(2*f+1) % 2≠0:=by omega
  have e3:2*f / 2=f:=by omega
  have e4:(2*f+1) / 2=f:=by omega
  have e5:X.dB.getD f 0=nm:=by rw[sG,h];rfl
  exact⟨by simp only[val,e1,e3,e5,oS],by simp only[val,bd O,e4,e5]⟩
 have hi:X.Inv R (λ_=>False) w:=⟨λb h=>h.elim,j,⟨_,_,fg⟩,λb _ h=>h⟩;have U:tA prog eJ.tWg X.Wg X.C X.n2 val (adm X xs []) X.n2 R (Gl (FQ cD T [.code gQ]::xs) []) w:=
  afu (bC.weak (λ_ _ _ h=>h) (λ_ _ _ _ _ h=>h) (λS g w h=>by
   obtain⟨⟨rfl,s,r,rfl⟩,v⟩:=h;exact⟨rfl,adn D hF L o X.n2 0 R s w (by omega) v.at_ v.live r⟩) (Mx.lift (aks hs) hi))
 have an:Sets X.Wg X.C aU w R (λ_=>False) (λ_ _=>False) (λ_ _=>False):=
  ⟨j.rlt,λb h=>h.elim,λ_ b h=>h.elim,λ_ b h=>h.elim,λb _ h=>h,λ_ b h=>h.elim,λ_ b h=>h.elim,λ_ _ b h=>h.elim,j.ltW,j.ltC,D.cW,j.rW,λh=>h,λ_ h=>h,j.rC,λh=>h,λ_ h=>h,λb h=>(u b h).1,λ_ _ h=>h,λ_ _ _ h=>h,λh=>(u _ h).2.1 rfl,λb h=>(u b h).2.2⟩
 have ax:=D.n2m;obtain⟨N,m',t1,Q,Y,B,a9,a,q1,y,S1,rfl,V,ao,⟨s,r,a6⟩,a0,K,J,F, -,P⟩:=
  ajB (sl:=sl) (K0:=gs.size-1) (Fin:=aBP X xs []) (by omega) (λR S g w ⟨_,T,_,T2,e,_⟩=>by rw[e];rfl) (λR S g w h=>awd h) h0 (by omega) hL hP U fg W
   (λi x hx a V e=>agz (S:=λb=>b=X.Wg) C hx (λb I=>mt I.symm) (by rw[V];exact e)) (afT C) an
 have hG:bC prog true RlB (λS S' w m es=>m=w/\es=#[]/\S'=S) (λ_ g w=>(g=Gl (FQ cD s [.code cP]::xs) []/\X.At y w)) (λ_=>False) a B:=by
  refine bC.bind (λ_ w=>atRel_refl w) (λ_ a b c h k=>atRel_trans a b c h k) (bC.abS (R:=RM eJ.tWg X.Wg X.C X.n2 y S1) (Stop:=λS g w=>S=(λ_=>False)/\(g=Gl (FQ cD s (.inRegion jR []::[.code cP])::xs) []/\WgLive eJ.tWg X.Wg w)/\X.At y w) (λw B ⟨d,e⟩=>e▸jM.at _ _ _ _ _) (λw m es h=>⟨h.1,h.2,rfl⟩) (λg w h=>⟨rfl,h⟩) a6) ?_;rintro S g w ⟨rfl,⟨rfl, -⟩,j⟩;exact .step rfl λE ⟨d2,O⟩=>⟨Gl (FQ cD s [.code cP]::xs) [],E,#[],λ_=>False,by simp[Gl,stepG,stepG.exec],⟨rfl,rfl,rfl⟩,.stop λw3 ⟨d3,e3⟩=>⟨rfl,by rw[e3,O];exact j.move (λ_ _=>rfl) (am _) rfl⟩⟩
 have aa:=bC.inv (Gr2:=GrB λb=>b=X.Wg\/aU b) (Inv:=λ_ w=>w.heap=B.heap) (agT:=λS g w=>(g=Gl (FQ cD s [.code cP]::xs) []/\X.At y w)/\w.heap=B.heap) (λ_ _ _ h ⟨d,e⟩=>by rw[e];exact h) (λ_ _ _ _ _ h g=>by
  obtain⟨rfl,rfl,rfl⟩:=g;exact⟨⟨am _,λe h=>by simp at h⟩,h⟩) (λ_ _ _ h k=>⟨h,k⟩) hG rfl
 have af:Y.size-1=gs.size-1+X.n2:=by omega
 obtain⟨N2,a5,a2,E,a8,t2,q2,S2,G,a1,a7,⟨⟨rfl,M⟩,p⟩,ad,a3⟩:=pS (sl:=a9) (aaY (aU:=λb=>b=X.Wg\/aU b)) V a0 (by rw[af];exact K) aa;refine⟨N+N2,a5,E,a8,t2,q2,s,y, ?_,a7,ad,by rw[a1];exact a3,r,M, ?_,λf nm z=> ?_,λb I=> ?_⟩
 .exact lu Q G
 .obtain⟨cs,h1,h2⟩:=J;exact⟨cs,by rw[p];exact h1,h2⟩
 .obtain⟨v0,v1⟩:=o f nm z;have gT:f<X.n2:=by rw[<-D.nn];exact(li.1 z).1
  obtain⟨g0,g1⟩:=F f gT;rw[v0] at g0;rw[v1] at g1;have l:∀A,E.cell? A=B.cell? A:=λA=>gu (by rw[p]);exact⟨(l _).trans g0,(l _).trans g1⟩
 .rw[p];exact(P b (I.elim .inr .inl)).2.2.2
end
def JW(t:Nat):Bool:=t ==3||t ==4||t ==5||t ==9||t ==10||t ==11||t ==13||t ==15||t ==16||(decide (18<=t)&&decide (t<=28))
def awe:kq JW cP=true:=by kernel_rfl
def aBS:kq JW (f139.body.getD .skip)=false:=by kernel_rfl
def aBT:kq JW (f26.body.getD .skip)=false:=by kernel_rfl
def azp :Frame.enter prog cD X .normal=FQ cD (T0F X) [.code acf]:=by
 have a:prog.funcs[cD]?=some f26:=func26;unfold Frame.enter;rw[a];rfl
def amU{t : Array Value}(_:X.size=t.size)(h:∀i,JW i=false->X[i]?=t[i]?):results f26 X=results f26 t:=by
 have e:∀i,JW i=false->X.getD i undef=t.getD i undef:=λi c=>by rw[gn,gn,h i c]
 have a:=e 6 rfl;have b:=e 7 rfl;simp only[gn] at a b;simp[results,results26,a,b]
section
variable {gs:Array Goroutine} {w:World} {sl:Option (Nat×Nat)} {t:Trace} {q:Nat->Nat} {aU:ak}
def atx (hF:eI Z) (al:∀v nm,Z v [] nm=(⟨#[]⟩,false)) {R:List Frame->World->Prop} {c:Cfg} {ρ:Ren} {a O:Array Value} {m m':List Frame}
  (bu:dg ρ a O) (W:iD (ah true) ρ m m') (hc:c.l=Frame.enter (ah true) cD a .normal::m) (hw:WR ρ c.w w) (hg:GlR ρ) (hW:jY (ah true) R c)
  (h0:gs[0]?=some (Gl (Frame.enter prog cD O .normal::m') [])) (hL:Leavers prog t gs q) (hP:eP aU (gs.size-1) w.heap.size t) (Y:∀b,aU b->b<w.heap.size) (bO:∀b f,ρ.r b f->¬aU f) :
  ∃(N:Nat) (B:Array Goroutine) (D:World) (c5:Option (Nat×Nat)) (t':Trace) (q':Nat->Nat) (Wg:Nat) (I:Cfg) (x:Ren) (l1 lR:List Frame),runNT prog N (crowd gs w sl) t=(.next (crowd B D c5),t')/\
   B[0]?=some (Gl lR [])/\Leavers prog t' B q'/\eP (λb=>b=Wg\/aU b) (B.size-1) D.heap.size t'/\w.heap.size<=Wg/\(∀b,b=Wg\/aU b->b<D.heap.size)/\
   iy (ah true) I c/\ρ.Le x/\iD (ah true) x I.l l1/\WR x I.w D/\jY (ah true) R I/\(∀b f,x.r b f->ρ.r b f\/(w.heap.size<=f/\f≠Wg))/\Rt prog JW l1 lR/\(∀b,b<w.heap.size->¬aU b->D.heap[b]?=w.heap[b]?)/\D.ou=w.ou/\w.heap.size<=D.heap.size/\PkG ρ c.w w I.w D:=by
 obtain⟨v,A,n,cc,l,A2,n2,c2,dB,I,e,ay,bo,a1,a7⟩:=apW hF bu W hc hw hg hW;have S:45<=(T0F O).size:=by simp only[T0F,rR,sM];omega
 rw[azp] at h0
 let V:ak:=λb=>b<w.heap.size/\¬aU b
 obtain⟨N1,c6,o,bf,t1,q1,T,bk,Q,C,P,cs,aJ,bS,a8,b6,a3,U,p,⟨u3,u4,u6,u7,u8,bt⟩,⟨bG,a5,bx⟩,⟨lk,lp,lC,la⟩,ck,cp,b8,cC,ca⟩:=aDQ (sl:=sl) (V:=V) h0 S e.n2m e.s0 e.s1 e.s2 hL hP Y λb d=>d;rw[<-bS] at a3;obtain⟨N2,c7,w2,bY,t2,q2,T',aa,bP,c0,bl,a6,c4,ao,u9,br,K,kD⟩:=aDR (sl:=bf) a8 (by rw[U];exact S) b6 a3;rw[<-bP] at a6;have bT:=jr cC;have aP:=jr ca;have s:∀b,b<o.heap.size->w2.heap[b]?=o.heap[b]?:=λb d=>by rw[K,qy,bd (by omega)]
 have c8:w2.heap.size=o.heap.size+1:=by rw[K,Array.size_push]
 let X:Mx:=⟨w,o.heap.size,C,n2,λb=>∃a,ρ.r a b,v,A,n,cc,l,A2,c2,dB,bk,Q,P,λt=>T'.getD t undef,T'.size,V⟩
 have H:∀b,(∃a,ρ.r a b)->V b:=λb ⟨a,hab⟩=>⟨(hw.lt hab).2,bO a b hab⟩;have ok:X.Ok:=⟨hw.kL.2,λg bn=>⟨g,hg g bn⟩,e.k1,e.k2,e.ln,e.nc,e.cm,e.gl,e.rd,e.rg,e.al,e.al2,e.nm,e.nn,e.n2m,(by show C≠o.heap.size;omega),H⟩
 let R0:ak:=λb=>V b\/b=bk\/b=Q\/b=P
 have bL:X.At R0 w2:=by
  refine⟨λb d=>(s b (aE d.1 a5)).trans (bG b d), ?_,kD.trans bx,λb d=>.inl d,⟨.inr (.inl rfl),(s bk (by omega)).trans ck⟩,⟨.inr (.inr (.inl rfl)),(s Q (by omega)).trans cp⟩,⟨.inr (.inr (.inr rfl)),(s P aP).trans ca⟩,λb d=> ?_,λd=> ?_,λd=> ?_, ?_, ?_⟩
  .show w.heap.size<=w2.heap.size;omega
  .rcases d with d|rfl|rfl|rfl
   .have:=d.1;omega
   all_goals omega
  .rcases d with d|d|d|d
   .have:C<w.heap.size:=d.1;omega
   .have:C=bk:=d;omega
   .have:C=Q:=d;omega
   .have:C=P:=d;omega
  .rcases d with d|d|d|d
   .have:o.heap.size<w.heap.size:=d.1;omega
   .have:o.heap.size=bk:=d;omega
   .have:o.heap.size=Q:=d;omega
   .have:o.heap.size=P:=d;omega
  .show C<_;omega
  .show o.heap.size<_;omega
 have r:∀t,t≠9->T'.getD t undef=T.getD t undef:=br;have c1:X.Pre T':=⟨rfl,by show 45<=T'.size;omega,(r 2 (by decide)).trans ((p 2 (.inl (by decide))).trans e.s2),(r 3 (by decide)).trans u3,(r 4 (by decide)).trans u4,(r 8 (by decide)).trans u8,u9,λt ht=>rfl⟩;obtain⟨N3,b9,w3,ad,t3,q3,G,R3,bb,b1,ax,bp,F,k,⟨M,J,b7⟩,a4,a9⟩:=aDS (X:=X) (sl:=bY) ok hF al c0 c1 bl a6 c4
  (by show w2.heap[o.heap.size]?=_;rw[K,qM]) ⟨cs,(s C bT).trans cC,b8⟩ bL λb d=>by
   have c9:=Y b d;refine⟨λh=> ?_,(by show b≠C;omega),by omega⟩;rcases h with h|h|h|h
   .exact h.2 d
   all_goals omega
 have a0:w.heap.size<=w3.heap.size:=k.sz;have b2:∀E nm,dB[E]?=some nm->M[2*E]?=some (.string (Z v l nm).1)/\M[2*E+1]?=some (.bool (Z v l nm).2):=λE nm h=>
  ⟨aka (A:=⟨C,2*E,none⟩) (z:=(0,0)) (t:=100) J (a4 E nm h).1,aka (A:=⟨C,2*E+1,none⟩) (z:=(0,0)) (t:=100) J (a4 E nm h).2⟩
 obtain⟨b5,T2,bi,c3,b3,bF,aL,L,t6,t7,t8,b4,bw⟩:=a7 w3 C P M (λb f d=>k.keep f (H f ⟨b,d⟩)) k.os a0 (by omega) (by omega) (by omega) J b7 b2 k.ra.2;obtain⟨_,_,y,ys,e1,b0⟩:=W.ne';have af:G.size=(T0F O).size:=F.z.trans (ao.trans U);have aM:∀i,i<(T0F O).size->G.getD i undef=T2.getD i undef->G[i]?=T2[i]?:=λi hi h=>by
  rw[vf (by omega),vf (by omega),h]
 refine⟨N1+(N2+N3),b9,w3,ad,t3,q3,o.heap.size,I,b5,FQ cD T2 [.code cP]::m',FQ cD G [.code cP]::m',lu aJ (lu aa bb),b1,ax,bp,a5,a9,ay,bi,c3,b3,bo,λb f d=> ?_, ?_,λb d hn=>k.keep b ⟨d,hn⟩,k.os,a0,λb f d a2=>⟨(a1 b f d a2).1,λi u hu bz=>⟨(a1 b f d a2).2 i u hu bz,iX (k.keep f (H f ⟨b,d⟩))⟩⟩⟩
 .rcases bF b f d with h|rfl|rfl
  .exact .inl h
  .exact .inr ⟨by omega,by omega⟩
  .exact .inr ⟨by omega,by omega⟩
 .refine .inr ⟨FQ cD T2 [.code cP],FQ cD G [.code cP],m',rfl,rfl,by rw[b0];simp,⟨rfl,rfl,⟨rfl,rfl⟩,rfl,⟨rfl,rfl⟩,⟨rfl,rfl⟩,af.trans aL.symm,λi hi=> ?_, ?_⟩,_,func26,λt t' hz h=>amU hz h⟩
  .refine(oR i (T0F O).size).elim (λaY=> ?_) λnR=> ?_
   case refine_2=> 
    show G[i]?=T2[i]?;rw[pY (by omega),pY (by omega)]
   have an:i=0\/i=1\/i=2\/i=6\/i=7\/i=8\/i=17\/aas i=true:=by
    simp only[JW,vU,dq,vM,decide_eq_false_iff_not] at hi;simp only[aas,qL,mp,qG];omega
   refine aM i aY ?_;have j:∀t,amP t=true->G.getD t undef=T'.getD t undef:=F.sv;rcases an with rfl|rfl|rfl|rfl|rfl|rfl|rfl|hid
   .rw[j 0 rfl,r 0 (by decide),p 0 (.inl (by decide)),L 0 (by decide)]
   .rw[j 1 rfl,r 1 (by decide),p 1 (.inl (by decide)),L 1 (by decide)]
   .rw[j 2 rfl,r 2 (by decide),p 2 (.inl (by decide)),L 2 (by decide)]
   .rw[j 6 rfl,r 6 (by decide),u6,t6]
   .rw[j 7 rfl,r 7 (by decide),u7,t7]
   .rw[F.s8,t8]
   .rw[j 17 rfl,r 17 (by decide),bt,b4]
   .have ba:amP i=true:=by simp only[amP,hid,Bool.or_true]
    rw[j i ba,r i (by rintro rfl;cases hid),p i (.inr hid),bw i hid]
  .simp only[qu,vk,ul,lO];exact awe
end
structure aod (R:List Frame->World->Prop) (W:World) (S0:ak) (aU:ak) (ρ:Ren) (c:Cfg) (w:World):Prop where
 lax:ρ.lax=false
 wr:WR ρ c.w w
 gl:GlR ρ
 will:jY (ah true) R c
 rng:∀b b',ρ.r b b'->S0 b'\/(W.heap.size<=b'/\¬aU b')
 sh:∀b,aU b->W.heap.size<=b/\b<w.heap.size
 s0:∀b,S0 b->b<W.heap.size
 keep:∀b,b<W.heap.size->¬S0 b->w.heap[b]?=W.heap[b]?
 os:w.ou=W.ou
 sz:W.heap.size<=w.heap.size
structure amW (W:World) (S0 aU S:ak) (w:World):Prop where
 s:∀b,S b->S0 b\/(W.heap.size<=b/\¬aU b)
 sh:∀b,aU b->b<w.heap.size
 keep:∀b,b<W.heap.size->¬S0 b->w.heap[b]?=W.heap[b]?
 os:w.ou=W.ou
 sz:W.heap.size<=w.heap.size
section
variable {W:World} {S0 aU S S':ak} {w w':World} {es:Array Event}
def amW.rely(h:amW W S0 aU S w)(a:RlB S w w'):amW W S0 aU S w':=by
 obtain⟨d,rfl⟩:=a;exact⟨h.s,h.sh,h.keep,h.os,h.sz⟩
def amW.step(f:∀b,S0 b->b<W.heap.size)(k:∀b,aU b->W.heap.size<=b)(h:amW W S0 aU S w)(g:pg (λ_=>False) S S' w w' es):GrB aU S S' w w' es/\amW W S0 aU S' w':=by
 have j:amT aU S w:=⟨λb a c=>(h.s b a).elim (λx=>by have:=f b x;have:=k b c;omega) λx=>x.2 c,h.sh⟩;obtain⟨m,e⟩:=atw (λ_ h=>h.elim) j g;obtain⟨i,l,n,rfl,o⟩:=g;refine⟨m,λb a=> ?_,e.2,λb a d=> ?_,n.trans h.os,da h.sz l⟩
 .rcases a with a|a
  .exact h.s b a
  .exact .inr ⟨da h.sz a.1,λc=>by have:=h.sh b c;omega⟩
 .rw[i b (aE a h.sz) λc=> ?_]
  .exact h.keep b a d
  .rcases h.s b c with x|x
   .exact d x
   .omega
end
theorem aty{fv:Int->List gY->Int->ByteArray×Bool}(hF:eI fv)(hF0:∀key nm,fv key [] nm=(⟨#[]⟩,false)){R:List Frame->World->Prop}{W:World}{S0:ak}{c:Cfg}(alY:Acc (iy (ah true)) c) :
  ∀{ρ:Ren} {aU:ak} {l' lR:List Frame} {w:World} {gs:Array Goroutine} {sl:Option (Nat×Nat)} {t:Trace} {q:Nat->Nat},aod R W S0 aU ρ c w->iD (ah true) ρ c.l l'->Rt prog JW l' lR->gs[0]?=some (Gl lR [])->Leavers prog t gs q->eP aU (gs.size-1) w.heap.size t->
   ∃(N:Nat) (gs':Array Goroutine) (w':World) (sl':Option (Nat×Nat)) (t':Trace) (q':Nat->Nat) (aBX:ak) (c1:Cfg) (ρ1:Ren) (l1:List Frame),runNT prog N (crowd gs w sl) t=(.next (crowd gs' w' sl'),t')/\
    gs'[0]?=some (Gl l1 [])/\Leavers prog t' gs' q'/\eP aBX (gs'.size-1) w'.heap.size t'/\aod R W S0 aBX ρ1 c1 w'/\oC c1.l/\iD (ah true) ρ1 c1.l l1/\ρ.Le ρ1/\PkG ρ c.w w c1.w w':=by
 induction alY with
 |intro c _ ih=>
  intro ρ aU l' lR w gs sl t q h hst hR h0 hL hP;have alY:Acc (iy (ah true)) c:=h.will.acc.transGen;have Hb:=amS (λ_=>False);have azd:ajD (ah true) R (λ_=>False) (λb=>S0 b\/(W.heap.size<=b/\¬aU b)) ρ c l' w:=⟨hst,h.wr,h.gl,h.will,λb b' hb=>.inl (h.rng b b' hb)⟩;have as9:=ajF (lG true) (awE true) Hb.fP Hb.tr Hb.rl Hb.cmp.gr (axj aBS aBT) (agA Hb.cmp) (main:=true) (base:=[]) alY azd hR;have hG:=bC.inv (Gr2:=GrB aU) (Inv:=amW W S0 aU) (λ_ _ _ a b=>a.rely b) (λ_ _ _ _ _ a b=>a.step h.s0 (λb hb=>(h.sh b hb).1) b) (λ_ _ _ a b=>And.intro a b) as9 ⟨λb hb=>hb,λb hb=>(h.sh b hb).2,h.keep,h.os,h.sz⟩;obtain⟨N,gs1,a1,w1,sl1,t1,q1,S1,hr1,hz1,ha1,⟨⟨c1,ρ1,l1,hor,hle, -,rfl,bF,hg1,hW1,oU,awf,hend⟩,lY⟩,hL1,hP1⟩:=pS (sl:=sl) aaY h0 hL hP hG;rw[<-hz1] at hP1;have ahz:∀b b',ρ1.r b b'->S0 b'\/(W.heap.size<=b'/\¬aU b'):=λb b' hb=>(oU b b' hb).elim (lY.s b') λx=>x.1.elim;have aBY:ρ1.lax=false:=hle.lax.symm.trans h.lax;rcases hend with⟨hf,aqe⟩|⟨a,a',m,m',hva,aD1,hc1,hl1⟩
  .exact⟨N,gs1,w1,sl1,t1,q1,aU,c1,ρ1,l1,hr1,ha1,hL1,hP1,⟨aBY,bF,hg1,hW1,ahz,λb hb=>⟨(h.sh b hb).1,lY.sh b hb⟩,h.s0,lY.keep,lY.os,lY.sz⟩,hf,aqe,hle,awf⟩
  .rw[hl1] at ha1;have hns:∀b b',ρ1.r b b'->¬aU b':=λb b' hb hs=>(ahz b b' hb).elim (λx=>by have:=h.s0 _ x;have:=(h.sh _ hs).1;omega) λx=>x.2 hs;obtain⟨N2,gs2,w2,sl2,t2,q2,Wg,c2,ρ2,l2,lR2,hr2,ha2,hL2,hP2,hWg,aD2,axq,apx,aeA,hw2,hW2,aBZ,hR2,hk2,kD,hz2,arz⟩:=atx (sl:=sl1) hF hF0 hva aD1 hc1 bF hg1 hW1 ha1 hL1 hP1 lY.sh hns;have asp:iy (ah true) c2 c:=by
    rcases hor with e|e
    .rw[<-e];exact axq
    .exact sU axq e
   have hS2:aod R W S0 (λb=>b=Wg\/aU b) ρ2 c2 w2:=by
    refine⟨apx.lax.symm.trans aBY,hw2,hg1.mono apx,hW2,λb b' hb=> ?_,λb hb=>⟨?_,aD2 b hb⟩,h.s0,λb hb hn=> ?_,kD.trans lY.os,da lY.sz hz2⟩
    .rcases aBZ b b' hb with hb|⟨h1,h2⟩
     .rcases ahz b b' hb with x|⟨x,y⟩
      .exact .inl x
      .refine .inr ⟨x,λe=>e.elim (λe=> ?_) y⟩;have:=(bF.lt hb).2;omega
     .exact .inr ⟨da lY.sz h1,λe=>e.elim h2 λhs=>by have:=lY.sh _ hs;omega⟩
    .rcases hb with rfl|hb
     .exact da lY.sz hWg
     .exact(h.sh b hb).1
    .rw[hk2 b (aE hb lY.sz) λhs=>by have:=(h.sh b hs).1;omega];exact lY.keep b hb hn
   obtain⟨N3,gs3,w3,sl3,t3,q3,aD3,c3,ρ3,l3,hr3,ha3,hL3,hP3,hS3,hf3,alv,aD4,aD5⟩:=ih c2 asp hS2 aeA hR2 ha2 hL2 hP2;exact⟨N+(N2+N3),gs3,w3,sl3,t3,q3,aD3,c3,ρ3,l3,lu hr1 (lu hr2 hr3),ha3,hL3,hP3,hS3,hf3,alv,(hle.trans apx).trans aD4,awf.trans hle (arz.trans apx aD5)⟩
end
section
open Go.Conc Go.ConcN Go.RowKit
open Go.ConcR (DC0)
mutual
inductive mM (V:Nat->Prop):Value->Prop
 |bool (b:Bool):mM V (.bool b)
 |int (k:IntKind) (n:Int):mM V (.int k n)
 |string (s:ByteArray):mM V (.string s)
 |nilPtr:mM V (.pointer none)
 |pointer {a:Addr} (h:V a.block):mM V (.pointer (some a))
 |po (l c:Nat):mM V (.slice none l c)
 |slice {a:Addr} (h:V a.block) (l c:Nat):mM V (.slice (some a) l c)
 |nilFunc:mM V .nilFunc
 |iface (t:TypeId) {v:Value} (h:mM V v):mM V (.iface t v)
 |nilIface:mM V .nilIface
 |agg {c:Array Value} (h:mJ V c.toList):mM V (.agg c)
inductive mJ (V:Nat->Prop):List Value->Prop
 |nil:mJ V []
 |cons {v:Value} {l:List Value} (h:mM V v) (hl:mJ V l):mJ V (v::l)
end
mutual
def mM.mono{V U:Nat->Prop}(h:∀b,V b->U b):∀{v:Value},mM V v->mM U v
 |_,.bool b=>.bool b
 |_,.int k n=>.int k n
 |_,.string s=>.string s
 |_,.nilPtr=>.nilPtr
 |_,.pointer h'=>.pointer (h _ h')
 |_,.po l c=>.po l c
 |_,.slice h' l c=>.slice (h _ h') l c
 |_,.nilFunc=>.nilFunc
 |_,.iface t h'=>.iface t (mM.mono h h')
 |_,.nilIface=>.nilIface
 |_,.agg h'=>.agg (mJ.mono h h')
def mJ.mono{V U:Nat->Prop}(h:∀b,V b->U b):∀{l:List Value},mJ V l->mJ U l
 |_,.nil=>.nil
 |_,.cons h1 h2=>.cons (mM.mono h h1) (mJ.mono h h2)
end
section
variable {V:Nat->Prop} {ρ:Ren} (hV:∀b,V b->ρ.r b b)
include hV
theorem aoe(h:V a.block):AR ρ a a:=by
 obtain⟨b,o,s⟩:=a;exact .mk (hV _ h) o s
theorem axr{b : Addr}(h:V a.block)(k:AR ρ a b):b=a:=by
 cases k with
 |mk c o s=>rw[ρ.fn c (hV _ h)]
mutual
theorem mM.self:∀{v:Value},mM V v->VR ρ v v
 |_,.bool b=>.bool b
 |_,.int k n=>.int k n
 |_,.string s=>.string s
 |_,.nilPtr=>.pointer .none
 |_,.pointer h=>.pointer (.some (aoe hV h))
 |_,.po l c=>.slice .none l c
 |_,.slice h l c=>.slice (.some (aoe hV h)) l c
 |_,.nilFunc=>.nilFunc
 |_,.iface t h=>.iface t (mM.self h)
 |_,.nilIface=>.nilIface
 |_,.agg h=>.agg (mJ.self h)
theorem mJ.self:∀{l:List Value},mJ V l->bU ρ l l
 |_,.nil=>.nil
 |_,.cons h1 h2=>.cons (mM.self h1) (mJ.self h2)
end
mutual
def mM.fn:∀{v d:Value},mM V v->VR ρ v d->d=v
 |_,_,.bool b,k=>by cases k;rfl
 |_,_,.int _ n,k=>by cases k;rfl
 |_,_,.string s,k=>by cases k;rfl
 |_,_,.nilPtr,k=>by
  cases k with
  |pointer h=>cases h;rfl
 |_,_,.pointer h,k=>by
  cases k with
  |pointer a=>cases a with
   |some a=>rw[axr hV h a]
 |_,_,.po l c,k=>by
  cases k with
  |slice h=>cases h;rfl
 |_,_,.slice h l c,k=>by
  cases k with
  |slice a=>cases a with
   |some a=>rw[axr hV h a]
 |_,_,.nilFunc,k=>by cases k;rfl
 |_,_,.iface t h,k=>by
  cases k with
  |iface _ a=>rw[mM.fn h a]
 |_,_,.nilIface,k=>by cases k;rfl
 |_,_,.agg (c:=c) h,k=>by
  cases k with
  |@agg _ f a=>
   have e:=mJ.fn h a;rw[ur.1 e]
def mJ.fn:∀{l a:List Value},mJ V l->bU ρ l a->a=l
 |_,_,.nil,k=>by cases k;rfl
 |_,_,.cons h1 h2,k=>by
  cases k with
  |cons b c=>rw[mM.fn h1 b,mJ.fn h2 c]
end
end
def eP.past{B : Nat}(h:eP aU Y B t):Past (ShL aU) B t:=by
 refine⟨h.clean,λi a j _=> ?_,h.over,h.hears,h.seen⟩;obtain⟨op,c,b⟩:=touch_of j;by_cases d:ShL aU a.loc
 .obtain⟨k,f⟩:=h.quiet i op a c b d;cases e:a.kind with
  |plain=>exact absurd e k
  |atomic=>exact .inr ⟨d,rfl⟩
  |said=>
   have g:=f e;have:=knows_own (t:=t) c;rw[g] at this;exact .inl this
 .exact .inl (h.known i op a c b d)
def aio(W:World)(v:Value)(w':World):Prop:=v=.bool true/\Below W.heap.size W {w' with tape:=W.tape}
structure aip (W:World) (S0:ak) (P:Nat->Nat->Prop) (WL:World):Prop where
 size:WL.heap.size=W.heap.size
 out:∀b,¬S0 b->WL.heap[b]?=W.heap[b]?
 row:∀b,S0 b->∃(c c':Array Value) (t:TypeId) (z:Nat×Nat),W.heap[b]?=some (.cells c t z)/\WL.heap[b]?=some (.cells c' t z)/\c'.size=c.size/\∀i v,P b i->c[i]?=some v->c'[i]?=some v
theorem aD6{W:World}{S0:ak}{P:Nat->Nat->Prop}(hrow:∀b,S0 b->eB W b)(hP:∀b i v,S0 b->P b i->W.cell? ⟨b,i,none⟩=some v->mM S0 v)(hN:gN<=W.heap.size) :
  ∃WL,aip W S0 P WL/\WL.ou=W.ou/\WR (Ren.rows S0 false (eX W)) WL W/\∀b i u v,S0 b->WL.cell? ⟨b,i,none⟩=some u->W.cell? ⟨b,i,none⟩=some v->(u=v/\mM S0 v)\/adY u\/∀(σ:Ren) v',σ.al=aj8 (eX W)->VR σ u v'->v'=v:=by
 classical
 have hid:∀b,S0 b->(Ren.rows S0 false (eX W)).r b b:=λb hb=>⟨rfl,hb⟩;have row:∀b,S0 b->∃(c:Array Value) (t:TypeId) (z:Nat×Nat) (xs:List Value),W.heap[b]?=some (.cells c t z)/\bU (Ren.rows S0 false (eX W)) xs c.toList/\
   ∀(i:Nat) v,c.toList[i]?=some v->∃u,xs[i]?=some u/\((P b i->u=v)/\((u=v/\mM S0 v)\/adY u\/∀(σ:Ren) v',σ.al=aj8 (eX W)->VR σ u v'->v'=v)):=λb hb=>by
  obtain⟨c,t,z,hc⟩:=hrow b hb;obtain⟨xs,h1,h2⟩:=amF (ρ:=Ren.rows S0 false (eX W)) (Q:=λi u v=>(P b i->u=v)/\((u=v/\mM S0 v)\/adY u\/∀(σ:Ren) v',σ.al=aj8 (eX W)->VR σ u v'->v'=v)) c.toList 0 λi v hi=>by
   rw[ls];have hi':c[i]?=some v:=by rw[<-du];exact hi
   by_cases hp:P b i
   .have jS:=hP b i v hb hp (by unfold World.cell?;rw[hc];exact hi');exact⟨v,mM.self hid jS,λ_=>rfl,.inl ⟨rfl,jS⟩⟩
   .obtain⟨u,h1, -,h3⟩:=azb (ρ:=Ren.rows S0 false (eX W)) rfl v λx hx=>aj9 (agS hc hi' hx);exact⟨u,h1,λh=>absurd h hp,.inr h3⟩
  exact⟨c,t,z,xs,hc,h1,λi v hi=>by
   have:=h2 i v hi;simpa only[ls] using this⟩
 let F:∀b,S0 b->Obj:=λb hb=>.cells ⟨(row b hb).choose_spec.choose_spec.choose_spec.choose⟩ (row b hb).choose_spec.choose (row b hb).choose_spec.choose_spec.choose
 have hF:∀b (hb:S0 b),∃(c:Array Value) (t:TypeId) (z:Nat×Nat) (xs:List Value),W.heap[b]?=some (.cells c t z)/\bU (Ren.rows S0 false (eX W)) xs c.toList/\(∀(i:Nat) v,c.toList[i]?=some v->∃u,xs[i]?=some u/\((P b i->u=v)/\((u=v/\mM S0 v)\/adY u\/∀(σ:Ren) v',σ.al=aj8 (eX W)->VR σ u v'->v'=v)))/\F b hb=.cells ⟨xs⟩ t z:=λb hb=>
  let h:=(row b hb).choose_spec.choose_spec.choose_spec.choose_spec
  ⟨_,_,_,_,h.1,h.2.1,h.2.2,rfl⟩
 obtain⟨heap,hs,h1,h2⟩:=axi W F;have aaL:∀b,S0 b->∃(c:Array Value) (t:TypeId) (z:Nat×Nat) (xs:List Value),W.heap[b]?=some (.cells c t z)/\heap[b]?=some (.cells ⟨xs⟩ t z)/\bU (Ren.rows S0 false (eX W)) xs c.toList/\(∀(i:Nat) v,c.toList[i]?=some v->∃u,xs[i]?=some u/\((P b i->u=v)/\((u=v/\mM S0 v)\/adY u\/∀(σ:Ren) v',σ.al=aj8 (eX W)->VR σ u v'->v'=v))):=λb hb=>by
  obtain⟨c,t,z,xs,k1,k2,k3,k4⟩:=hF b hb;exact⟨c,t,z,xs,k1,(h1 b hb (dk.1 k1).1).trans (gc some k4),k2,k3⟩
 refine⟨{W with heap},⟨hs,h2,λb hb=> ?_⟩,rfl,⟨λ{b b'} hb=> ?_,rfl,by show gN<=heap.size;omega,hN⟩,λb i u v hb hu hv=> ?_⟩
 .obtain⟨c,t,z,xs,k1,k2,k3,k4⟩:=aaL b hb;refine⟨c,⟨xs⟩,t,z,k1,k2,by have:=k3.length;simpa using this,λi v hp hv=> ?_⟩;obtain⟨u,q1,q2, -⟩:=k4 i v (by rw[du];exact hv);have q1':(⟨xs⟩:Array Value)[i]?=some u:=by simpa using q1
  rw[q1',q2 hp]
 .obtain⟨rfl,hb⟩:=hb;obtain⟨c,t,z,xs,k1,k2,k3, -⟩:=aaL b hb;exact⟨_,_,k2,k1,.cells k3 t (.inl rfl)⟩
 .obtain⟨c,t,z,xs,k1,k2,k3,k4⟩:=aaL b hb;have hu':(⟨xs⟩:Array Value)[i]?=some u:=by
   have:({W with heap}:World).heap[b]?=some (.cells ⟨xs⟩ t z):=k2;unfold World.cell? at hu;rw[this] at hu;exact hu
  have hv':c[i]?=some v:=by
   unfold World.cell? at hv;rw[k1] at hv;exact hv
  obtain⟨u',q1, -,q2⟩:=k4 i v (by rw[du];exact hv');have:u'=u:=by
   have q1':(⟨xs⟩:Array Value)[i]?=some u':=by simpa using q1
   rw[q1'] at hu';exact dl hu'
  subst this;exact q2
theorem atz {fv:Int->List gY->Int->ByteArray×Bool} (hF:eI fv) (hF0:∀key nm,fv key [] nm=(⟨#[]⟩,false)) {W:World} {S0:ak} {P:Nat->Nat->Prop} {f:FuncId} {fn:Func} {k:Tmp} {args:Array Value}
  (hrow:∀b,S0 b->eB W b) (hP:∀b i v,S0 b->P b i->W.cell? ⟨b,i,none⟩=some v->mM S0 v) (hgl:∀g∈gL,S0 g) (hgN:gN<=W.heap.size) (aai:mJ S0 args.toList)
  (hf:gH f=false) (hfn:prog.funcs[f]?=some fn) (hq:(ah true).funcs[f]?=some fn) (hres:fn.results=#[.tmp k]) (hni:prog.inits.idxOf? f=none)
  (mv:∀WL:World,aip W S0 P WL->∀t:Tape,Calls (ah true) f args (WL.dH t) λe w'=>∃v,e=.returned v/\(v=.bool true/\∀b,b<W.heap.size->w'.heap[b]?=WL.heap[b]?)) :
  ∃N last o w' t',runNT prog (N+1) (solo (G (Frame.enter prog f args .normal) []) W) #[]=(.ended o w',t')/\runN prog N (solo (G (Frame.enter prog f args .normal) []) W)=.next last/\step prog last=.ended o w'/\Go.Conc.Good prog (aio W) last o w' t':=by
 obtain⟨WL,axs,hou,hwr,aD7⟩:=aD6 hrow hP hgN;have hid:∀b,S0 b->(Ren.rows S0 false (eX W)).r b b:=λb hb=>⟨rfl,hb⟩;have hs0:∀b,S0 b->b<W.heap.size:=λb hb=>let⟨_,_,_,h⟩:=hrow b hb;jr h
 have hW:jY (ah true) (λl w'=>∃fr v,l=[fr]/\fr.fn=f/\fr.leaving (ah true) w' (.returned v)/\(v=.bool true/\∀b,b<W.heap.size->w'.heap[b]?=WL.heap[b]?)) ⟨[Frame.enter (ah true) f args .normal],WL,λ_ _=>0⟩:=
  aak (Post:=λv w'=>v=.bool true/\∀b,b<W.heap.size->w'.heap[b]?=WL.heap[b]?) λt _=>mv WL axs t
 have hst:iD (ah true) (Ren.rows S0 false (eX W)) [Frame.enter (ah true) f args .normal] [Frame.enter prog f args .normal]:=.one (ahf (lG true) hf (mJ.self hid aai)) adk;have hS:aod _ W S0 (λ_=>False) (Ren.rows S0 false (eX W)) ⟨[Frame.enter (ah true) f args .normal],WL,λ_ _=>0⟩ W:=⟨rfl,hwr,λg hg=>hid g (hgl g hg),hW,λb b' hb=>.inl (hb.1▸hb.2),λ_ h=>h.elim,hs0,λ_ _ _=>rfl,rfl,am _⟩;obtain⟨N1,gs1,w1,sl1,t1,q1,aU,c1,ρ1,l1,hr1,ha1,hL1,hP1,hS1,hf1,aqe,aeV,awf⟩:=aty hF hF0 hW.acc.transGen (gs:=#[G (Frame.enter prog f args .normal) []]) (sl:=none) (t:=#[]) (q:=λ_=>0) hS hst (.inl rfl) rfl (leavers_one _ _) (eP.nil _);obtain⟨fr,v,hl,lV,hlv,hv,hb⟩:=hS1.will.fin hf1 acw c1.t λ_ _ _=>rfl;obtain⟨x,xs,y,ys, -,hy⟩:=aqe.ne';have e4:=aqe.lone hl hy;subst e4 hy;rw[hl] at aqe;have aB0:=aqe.head;obtain⟨-, -, -,fn1,au6,hrv⟩:=hlv;rw[lV,hq] at au6;cases au6;have hv1:v=fr.tmps.getD k undef:=by
  have e:(results fn fr.tmps).run (ah true) (c1.w.dH c1.t)=.ok (fr.tmps.getD k undef) (c1.w.dH c1.t):=by simp[results,hres]
  rw[e] at hrv;cases hrv;rfl
 have hy1:y.tmps.getD k undef=.bool true:=by
  rw[hv] at hv1;have hk:fr.tmps[k]?=some (.bool true):=by
   rw[gn] at hv1;cases h:fr.tmps[k]? with
   |none=>rw[h] at hv1;cases hv1
   |some u=>rw[h] at hv1;exact gc some hv1.symm
  obtain⟨u,hu,hr⟩:=bU.get aB0.tmps (i:=k) (v:=.bool true) (by rw[du];exact hk);rw[du] at hu;rw[an5 hu];cases hr;rfl
 have aB1:∀w1:World,stepG prog true (Gl [y] []) w1=.ended (.done (.bool true)) w1 (seen prog y.fn #[]):=λw1=>by
  have hr:(results fn y.tmps).runT prog w1 #[]=(.ok (.bool true) w1,#[]):=by
   have e:(results fn y.tmps).runT prog w1 #[]=(.ok (y.tmps.getD k undef) w1,#[]):=by simp[results,hres]
   rw[e,hy1]
  obtain⟨g0,hg0,gm,gd,gk⟩:=hf1;rw[hl] at hg0;cases hg0;obtain⟨f',tm',fH,d',md',kd',r'⟩:=y;obtain⟨f0,tm0,aEg,d0,md0,kd0,r0⟩:=fr;obtain⟨h1,h2,h3,h4,h5,h6,h7⟩:=aB0;dsimp only at h1 h2 h3 h4 h5 h6 h7 gm gd gk lV hr;subst h1 gm gd gk lV;obtain rfl:md'=.returning:=by
   rcases h5 with h5|h5
   .cases h5.1
   .exact h5.2
  obtain⟨-,rfl⟩:=h6;obtain rfl:d'=[]:=by cases h4;rfl
  have e:doReturn prog true ⟨f0,tm',fH,[],.returning,.normal,r'⟩ [] none (.bool true) w1=.ended (.done (.bool true)) w1:=by
   unfold doReturn;dsimp only;rw[hni];rfl
  simp only[Gl,stepG,unwind,hfn,hr,rm,e];simp[GStep.after]
 have hblk:∀b,b<W.heap.size->w1.heap[b]?=W.heap[b]?:=λb hbl=>by
  by_cases h0:S0 b
  .have hr0:=hid b h0;have hr:=aeV.r hr0;obtain⟨c,c',t,z,hW1,hWL,hsz, -⟩:=axs.row b h0;obtain⟨o,o',k1,k2,k3⟩:=hS1.wr.obj hr;have e:c1.w.heap[b]?=WL.heap[b]?:=hb b hbl;rw[e,hWL] at k1;cases k1;cases k3 with
   |@cells _ c'' k4 _ _ z' hz=>
    have hz':z=z':=by
     rcases hz with e|⟨e,_⟩
     .exact e
     .rw[hS1.lax] at e;cases e
    have hlen:c''.size=c'.size:=by have:=k4.length;simpa using this.symm
    have hc:c''=c:=by
     apply so;intro i;rcases oR i c.size with hi|hi
     .have hu:c'[i]?=some c'[i]:=ge (by omega);have hv:c[i]?=some c[i]:=ge hi;have hv2:c''[i]?=some c''[i]:=ge (by omega);have hrel:=dg.at k4 hu hv2;have cell:∀{w:World} {a:Array Value},w.heap[b]?=some (.cells a t z)->w.cell? ⟨b,i,none⟩=a[i]?:=λh=>by unfold World.cell?;rw[h];rfl
      rcases aD7 b i _ _ h0 ((cell hWL).trans hu) ((cell hW1).trans hv) with⟨e1,e2⟩|h1|h1
      .rw[e1] at hrel;rw[hv2,hv,mM.fn (V:=S0) (λb hb=>aeV.r (hid b hb)) e2 hrel]
      .have hp:=(awf b b hr0 ⟨c',t,z,hWL⟩).2 i _ h1 ((cell (e.trans hWL)).trans hu);have h2:=hp.2;rw[cell hW1] at h2;subst hz';rw[cell k2] at h2;exact h2
      .rw[hv2,hv,h1 ρ1 _ aeV.al.symm hrel]
     .rw[pY (by omega),pY (by omega)]
    rw[k2,hW1,hc,hz']
  .exact hS1.keep b hbl h0
 have hend:∀w2,Go.Conc.AtRel w1 w2->AtEnd prog (ShL aU) w1.heap.size (aio W) (Gl [y] []) w2:=λw2 ⟨d,e⟩=>by
  subst e;exact⟨rfl,_,_,aB1 _,λe he=>(acd e he).elim,rfl,azu hS1.os,rfl,axx hS1.os,hS1.sz,hblk⟩
 obtain⟨N2,last,o,w2,t2,hr2,hn2,hs2,hg2⟩:=beside_ends (D:=DC0) (Shun:=ShL aU) (B:=w1.heap.size) (Post:=aio W) (sl:=sl1) (n:=0) (λw w' es h e he=>by rw[h.2] at he;simp at he) ha1 hL1 hP1.past (qv hend);refine⟨N1+N2,last,o,w2,t2, ?_, ?_,hs2,hg2⟩
 .rw[uQ,runNT_add,show runNT prog N1 (solo (G (Frame.enter prog f args .normal) []) W) #[]=_ from hr1];exact hr2
 .have hn1:runN prog N1 (solo (G (Frame.enter prog f args .normal) []) W)=.next (crowd gs1 w1 sl1):=by
   rw[<-runNT_fst _ _ _ #[],show runNT prog N1 (solo (G (Frame.enter prog f args .normal) []) W) #[]=_ from hr1]
  rw[runN_add,hn1];exact hn2
end
section
open Go Go.Conc Go.RowKit Go.ChangeShapes Go.WideShapes Go.ChangeAt
def aqf:decide (prog.globals.size<(begin prog (λ_ _=>0) default).world.heap.size)=true:=by kernel_rfl
def aB2(h:W.ShapedOpen prog):gN<=W.heap.size:=by
 have b:=sH aqf;obtain⟨o,c,a, -⟩:=h.2 _ (am _) b;have:=(dk.1 a).1;unfold gN;omega
def axt(k:FuncId)(W:World)(args:Array Value):Prop:=
 ∃(a:ak) (P:Nat->Nat->Prop),(∀b,a b->eB W b)/\(∀b i v,a b->P b i->W.cell? ⟨b,i,none⟩=some v->mM a v)/\(∀g∈gL,a g)/\mJ a args.toList/\
  ∀c:World,aip W a P c->∀t:Tape,Calls (ah true) k args (c.dH t) λe d=>∃v,e=.returned v/\(v=.bool true/\∀b,b<W.heap.size->d.heap[b]?=c.heap[b]?)
def wu (hF:eI Z) (D:∀S nm,Z S [] nm=(⟨#[]⟩,false)) {os:Os} {k:FuncId} {f:Func} {kt:Tmp} {s:ChangeSpec} {b:Bool} {H:Type} {enc:TypeId×Value->H} {X:World->Array Value->Prop}
  (hX:∀(w w':World) (args:Array Value),w.heap=w'.heap->X w args->X w' args)
  (E:ownKnob prog.godebug=none) (c:os.Started) (U:prog.inits.idxOf? k=none) (n:prog.funcs[k]?=some f) (hq:(ah true).funcs[k]?=some f) (I:gH k=false) (R:f.results=#[.tmp kt])
  (hl:laidOutB prog=true) (hr:(f.params.toList.all λt=>prog.readableRec t&&decide (t<prog.types.size))=true) (u:f.resultTypes=#[ty]) (L:prog.underlying ty=some .bool) (F:varsRowed prog s.vars=true)
  (K:∀l r:List (DataW H),l.length=f.params.toList.length->r.length=s.vars.length->s.fn H (l++r)={results:=[.lit (.bool true)],args:=l,vars:=r})
  (d:∃(w:World) (a:Tape) (i:Input),w.os=os/\(w.forCall a i).Shaped prog/\i.vars=[]/\Input.okWide prog (w.forCall a i) .any w.heap.size k i/\
   ((s.pre enc prog f [] b (w.forCall a i).memory i.args/\X (w.forCall a i).memory i.args)/\sizedMet enc prog f (OpenSpec.ofChange s) b (w.forCall a i).memory i.args)/\Assume.holds {} prog (lone (Frame.enter prog k i.args .normal) [] (w.forCall a i)))
  (z:∀(W:World) (base:Nat) (args:Array Value) (l:List (DataW H)) (p:List MemPlace),
   (∀(j:Nat) t v,f.params[j]?=some t->args[j]?=some v->Value.okWide prog W .any base t v)->
   DataW.TrodAll enc prog W 0 (λ_=>true) true f.params.toList args.toList l p->(∀x∈p,x.block<W.heap.size)->X W args->axt k W args) :
  ReturnsInLeavingWide {} Tryz.checked os k .any (λw args=>(s.pre enc prog f [] b w args/\X w args)/\sizedMet enc prog f (OpenSpec.ofChange s) b w args) (s.post enc prog f b true false false):=by
 refine returnsInLeavingWide_of_good E c d ?_;intro w a i _ pO _ J V _;obtain⟨_,_,_,Y,Q,_,_,_,_,y⟩:=J;have e:Y=f:=dl (Q.symm.trans n);subst e;obtain⟨⟨⟨l,r,g,hw,hc⟩,G⟩,hz⟩:=V;have m:=DataW.Whole.of_heap (w':=w.forCall a i) (by rfl) hw;have A:X (w.forCall a i) i.args:=hX _ _ _ (by rfl) G;have M:∀p∈g,p.block<(w.forCall a i).heap.size:=λp T=>by simpa using m.lt p T
 have B:∀t∈Y.params.toList,prog.readableRec t=true/\t<prog.types.size:=λt ht=>by
  have:=kw.1 hr t ht;simpa using this
 obtain⟨p,q,hA,hV,O,a1,a0⟩:=id m;obtain⟨S0,P,h1,h2,h3,h4,h5⟩:=z (w.forCall a i) w.heap.size i.args l p y hA (λx G=>M x (by rw[O];simp[G])) A;obtain⟨N,last,o,w',t',g1,g2,g3,g4⟩:=atz hF D h1 h2 h3 (aB2 pO) h4 I n hq R U h5;refine⟨N,last,o,w',t',g1,g2,g3,g4.mono λv hv=> ?_⟩;obtain⟨rfl,C⟩:=hv;have T:=apT hl B u L F (K l r (adi hA) (ab8 hV)) m C;have C:=ChangeSpec.post_blind T;exact C
end
section
open Go.RowKit Go.ChangeAt
def aB3:∀g∈gL,g=0\/g=1:=by
 have h:(gL.all λg=>g ==0||g ==1)=true:=by unfold gL;kernel_rfl
 intro g a;have:=kw.1 h g a;simpa using this
def aku{P:Program}{w:World}{n:String}{d:DataW Unit}:∀{l:List (String×DataW Unit)} {f:List MemPlace},DataW.LaidVars P w l f->(n,d)∈l->
  ∃g t b a p,P.globalNamed n=some g/\(P.globals[g]?).map (·.type)=some t/\w.var? P n=some b/\DataW.trod (λ_=>()) P w 0 (λ_=>true) false a t b.toList=some (d,p)
 |[],_,_,h=>by cases h
 |(m,e)::l,f,h,c=>by
  obtain⟨g,t,b,a,p,q,r,i,k,o,s, -⟩:=h;rcases mc.1 c with j|c
  .cases j;exact⟨g,t,b,a,p,r,i,k,o⟩
  .exact aku s c
def atA{t:TypeId}{d:DataW Unit}{p:List MemPlace}(b:∃m,P.underlying t=some (.interface m)):DataW.trod (λ_=>()) P w 0 (λ_=>true) false Y t []≠some (d,p):=by
 obtain⟨m,a⟩:=b;cases Y with
 |zero=>simp[DataW.trod]
 |succ f=>simp[DataW.trod,a]
def awg{n:String}{cs:Array Value}{g:Nat}(a:P.globalNamed n=some g)(h:w.var? P n=some cs):∃t z,w.heap[g]?=some (.cells cs t z):=by
 unfold World.var? at h;rw[a] at h;simp only[qC] at h;split at h
 .rename_i c t z b;cases h;exact⟨t,z,b⟩
 .cases h
def awh:∃m,prog.underlying 147=some (.interface m):=⟨_,underlying147⟩
def awi:prog.globalNamed "loop.example/depositary/impl.errKey" =some 0:=by kernel_rfl
def aqg:prog.globalNamed "loop.example/depositary/impl.errPiece" =some 1:=by kernel_rfl
def atB:(prog.globals[0]?).map (·.type)=some 147:=by kernel_rfl
def amX:(prog.globals[1]?).map (·.type)=some 147:=by kernel_rfl
def akv:(laidL.all λx=>x.2.handleName?.isNone)=true:=by kernel_rfl
def atC(j:laidMetH prog laidL W):(∀g∈gL,eB W g)/\Glo W:=by
 rw[uY _ _ _ akv] at j;obtain⟨A,w, -, -⟩:=j;have one:∀{n:String} {d:DataW Unit} {a:Nat},(n,d)∈laidL->prog.globalNamed n=some a->(prog.globals[a]?).map (·.type)=some 147->eB W a/\∃x,W.cell? ⟨a,0,none⟩=some x:=λ{n d a} v i y=>by
  obtain⟨g,t,b,k,p,q,e,s,o⟩:=aku w v;rw[i] at q;cases q;rw[y] at e;cases e;obtain⟨t,z,f⟩:=awg i s;refine⟨⟨b,t,z,f⟩, ?_⟩;cases r:b.toList with
  |nil=>rw[r] at o;exact absurd o (atA awh)
  |cons x l=>
   refine⟨x, ?_⟩;unfold World.cell?;rw[f];show b[0]?=some x;rw[<-du,r];rfl
 have m:=one (n:= "loop.example/depositary/impl.errKey") (d:=Rows.laid_loop_example_depositary_impl_errKey) (by simp[laidL]) awi atB;have c:=one (n:= "loop.example/depositary/impl.errPiece") (d:=Rows.laid_loop_example_depositary_impl_errPiece) (by simp[laidL]) aqg amX;refine⟨λg u=> ?_,m.2,c.2⟩;rcases aB3 g u with rfl|rfl
 .exact m.1
 .exact c.1
def atD(W:World)(b i:Nat):Prop:=∀v,W.cell? ⟨b,i,none⟩=some v->mM (eB W) v
def aip.cell(h:aip W (eB W) (atD W) V)(a:W.cell? ⟨b,i,none⟩=some v)(k:mM (eB W) v):V.cell? ⟨b,i,none⟩=some v:=by
 have j:atD W b i:=λu e=>by rw[a] at e;cases e;exact k
 unfold World.cell? at a ⊢;dsimp only at a ⊢;cases d:W.heap[b]? with
 |none=>rw[d] at a;simp at a
 |some o=>
  cases o with
  |cells c t z=>
   obtain⟨r,m,n,q,f,g,p,l⟩:=h.row b ⟨c,t,z,d⟩;rw[d] at f a;cases f;rw[g];exact l i v j a
  |_=>rw[d] at a;simp at a
def aip.glo(h:aip W (eB W) (atD W) V)(a:∀g∈gL,eB W g)(b:Glo W)(j:0∈gL)(e:1∈gL):Glo V:=by
 have one:∀{g:Nat},eB W g->(∃x,W.cell? ⟨g,0,none⟩=some x)->∃x,V.cell? ⟨g,0,none⟩=some x:=λ{g} a ⟨x,hx⟩=>by
  obtain⟨c,f,t,z,d,i,k, -⟩:=h.row g a;unfold World.cell? at hx ⊢;dsimp only at hx ⊢;rw[d] at hx;rw[i];have:0<c.size:=(dk.1 (show c[0]?=some x from hx)).1;exact⟨f[0]'(by omega),ge (by omega)⟩
 exact⟨one (a _ j) b.key,one (a _ e) b.piece⟩
def aip.bytes(h:aip W (eB W) (atD W) V)(r:cR jC 1 W 0 W.heap.size l [v])(t:Tape):cR jC 1 (V.dH t) 0 (V.dH t).heap.size l [v]:=by
 obtain⟨A,c,C,n,g,y⟩:=r;refine⟨A,c,C,n,g,λq=> ?_⟩;obtain⟨b,d,p,f,B,k⟩:=y q;refine⟨b,d,p,f,by show b<V.heap.size;rw[h.size];exact B,λi x z=> ?_⟩;obtain⟨s,m,e,o⟩:=k i x z;refine⟨s,m,e,λj u a=> ?_⟩;have D:=o j u a;have w:mM (eB W) u:=by
  obtain⟨rfl, -⟩:=e;have:j=0:=by have:=aH a;simp at this;omega
  subst this;simp at a;subst a;exact .int _ _
 exact h.cell D w
def awj(b:Value.okWide prog W .any Y 22 v):mM (eB W) v:=by
 have d:=underlying22;unfold Value.okWide at b;rw[d] at b;dsimp only at b;unfold Cell.okWide at b;rw[d] at b;have b:Cell.ok prog W .any Y 22 v:=b;unfold Cell.ok at b;rw[d] at b;cases v with
 |slice A n c=>
  cases A with
  |none=>exact .po _ _
  |some a=>
   obtain⟨-, -, -, -,f,cells,e, -⟩:=b;refine .slice ?_ _ _;unfold World.shape? at e;split at e
   .rename_i g t z i;exact⟨g,t,z,i⟩
   .cases e
 |_=>exact b.elim
def xc {k:FuncId} (n:laidMetH prog laidL W)   (q:Value.okWide prog W .any Y 22 v) (h:cR jC 1 W 0 W.heap.size l [v])
  (r:∀w:World,Glo w->cR jC 1 w 0 w.heap.size l [v]->Calls (ah true) k #[v] w λe f=>e=.returned (.bool true)/\Below w.heap.size w f):axt k W #[v]:=by
 obtain⟨g,p⟩:=atC n;refine⟨eB W,atD W,λ_ h=>h,λb i v _ o c=>o v c,g,.cons (awj q) .nil,λj d t=> ?_⟩;refine(r (j.dH t) ?_ (d.bytes h t)).mono ?_
 .have:=d.glo g p (ah3 ast) (ah3 ajO);exact⟨this.key,this.piece⟩
 .rintro e f ⟨rfl,m⟩;exact⟨_,rfl,rfl,λb a=>m.block b (by show b<j.heap.size;rw[d.size];exact a)⟩
end
section
open Go.RowKit
def wY:Tryz.pinned.checked.prog.mainIs=some (true, "cbac059e7f396e72d0f5f9fb310fd776be4b16704b364c47eeac12ad9bed4585".toList):=by kernel_rfl
def xt:false=Tryz.pinned.checked.prog.looks []:=by kernel_rfl
end
section
open Go.Shelf Go.RowKit
variable {β:Bool}
def ag3:(ah β).follows .mixedOrders=true:=by cases β<;>kernel_rfl
def ach:Go.Shelf.Ren:=⟨fun|20=>32|n=>n,fun|22=>43|3=>3|4=>4|0=>0|n=>n,fun|n=>n⟩
def aaw:Go.Proofs.Lays2.n20 (ah β) ach:={
 mixed:=ag3
 f20:=qF32.trans (gc some (by kernel_rfl))
 t0:=qU0
 a0:=λw=>(cf _ w).trans (Tryz.isAgg0 w)
 z0:=λw=>(bq _ w).trans (Tryz.sizeOf0 w)
 v0:=λw=>(aO _ w).trans (vw w)
 t3:=qU3
 a3:=λw=>(cf _ w).trans (vA w)
 z3:=λw=>(bq _ w).trans (vj w)
 v3:=λw=>(aO _ w).trans (uz w)
 t4:=qU4
 a4:=λw=>(cf _ w).trans (Tryz.isAgg4 w)
 z4:=λw=>(bq _ w).trans (Tryz.sizeOf4 w)
 v4:=λw=>(aO _ w).trans (vu w)
 t22:=wx
 a22:=λw=>(cf _ w).trans (Tryz.isAgg43 w)
 z22:=λw=>(bq _ w).trans (Tryz.sizeOf43 w)
 v22:=λw=>(aO _ w).trans (vh w)
 i3:=by first|kernel_rfl|(cases β<;>kernel_rfl)}
open Go.RowKit Go.Lib Go.Sort in
def nC(b a cap:Nat)(c:List Int)(w:World)(i:Holds (Value.int .i64) w b a c.toArray)(f:c.length<=9223372036854775807)(d:c.length<=cap) :
  Calls (ah β) 32 #[.slice (some ⟨b,a,none⟩) c.length cap] w λe g=>e=.returned (.slice (some ⟨b,a,none⟩) (Lib.compact c).length cap)/\∃q,g=putRow (Value.int .i64) (Sort.ahead w q) b a (Lib.compact c++List.replicate (c.length-(Lib.compact c).length) 0).toArray:=Any.slices_Compact_int aaw b a cap c w i f d
open Go.RowKit Go.Lib Go.Sort in
def ki(a:Option Addr)(cap:Nat)(w:World) :
  Calls (ah β) 32 #[.slice a 0 cap] w λe b=>e=.returned (.slice a 0 cap)/\b=w:=Any.slices_Compact_int_empty aaw a cap w
def pq:Go.Shelf.Ren:=⟨fun|5=>31|8=>61|7=>60|19=>118|20=>119|10=>109|11=>110|12=>111|13=>112|14=>113|15=>114|16=>115|17=>116|18=>117|30=>148|31=>149|32=>150|33=>151|34=>152|35=>153|40=>168|n=>n,fun|23=>43|25=>3|3=>3|32=>113|22=>43|0=>0|44=>95|46=>92|4=>4|36=>161|35=>160|41=>166|5=>5|9=>9|53=>196|57=>199|63=>213|64=>116|n=>n,fun|n=>n⟩
def mK:Go.Proofs.SlLaysM.n5 (ah β) pq:={
 mixed:=ag3
 f5:=⟨f31.name,by decide,qF31.trans (gc some (by kernel_rfl))⟩
 f7:=⟨f60.name,by decide,qF60.trans (gc some (by kernel_rfl))⟩
 f8:=qF61.trans (gc some (by kernel_rfl))
 f10:=⟨f109.name,by decide,qF109.trans (gc some (by kernel_rfl))⟩
 f11:=⟨f110.name,by decide,qF110.trans (gc some (by kernel_rfl))⟩
 f12:=⟨f111.name,by decide,qF111.trans (gc some (by kernel_rfl))⟩
 f13:=⟨f112.name,by decide,qF112.trans (gc some (by kernel_rfl))⟩
 f14:=⟨f113.name,by decide,qF113.trans (gc some (by kernel_rfl))⟩
 f15:=⟨f114.name,by decide,qF114.trans (gc some (by kernel_rfl))⟩
 f16:=⟨f115.name,by decide,qF115.trans (gc some (by kernel_rfl))⟩
 f17:=⟨f116.name,by decide,qF116.trans (gc some (by kernel_rfl))⟩
 f18:=⟨f117.name,by decide,qF117.trans (gc some (by kernel_rfl))⟩
 f19:=qF118.trans (gc some (by kernel_rfl))
 f20:=qF119.trans (gc some (by kernel_rfl))
 f30:=⟨f148.name,by decide,qF148.trans (gc some (by kernel_rfl))⟩
 f31:=qF149.trans (gc some (by kernel_rfl))
 f32:=qF150.trans (gc some (by kernel_rfl))
 f33:=⟨f151.name,by decide,qF151.trans (gc some (by kernel_rfl))⟩
 f34:=⟨f152.name,by decide,qF152.trans (gc some (by kernel_rfl))⟩
 f35:=⟨f153.name,by decide,qF153.trans (gc some (by kernel_rfl))⟩
 f40:=⟨f168.name,by decide,qF168.trans (gc some (by kernel_rfl))⟩
 t0:=qU0
 a0:=λw=>(cf _ w).trans (Tryz.isAgg0 w)
 z0:=λw=>(bq _ w).trans (Tryz.sizeOf0 w)
 v0:=λw=>(aO _ w).trans (vw w)
 t3:=qU3
 a3:=λw=>(cf _ w).trans (vA w)
 z3:=λw=>(bq _ w).trans (vj w)
 v3:=λw=>(aO _ w).trans (uz w)
 t4:=qU4
 a4:=λw=>(cf _ w).trans (Tryz.isAgg4 w)
 z4:=λw=>(bq _ w).trans (Tryz.sizeOf4 w)
 v4:=λw=>(aO _ w).trans (vu w)
 t5:=qU5
 a5:=λw=>(cf _ w).trans (Tryz.isAgg5 w)
 z5:=λw=>(bq _ w).trans (Tryz.sizeOf5 w)
 v5:=λw=>(aO _ w).trans (Tryz.zeroValue5 w)
 t9:=qU9
 a9:=λw=>(cf _ w).trans (Tryz.isAgg9 w)
 z9:=λw=>(bq _ w).trans (Tryz.sizeOf9 w)
 v9:=λw=>(aO _ w).trans (Tryz.zeroValue9 w)
 t22:=wx
 a22:=λw=>(cf _ w).trans (Tryz.isAgg43 w)
 z22:=λw=>(bq _ w).trans (Tryz.sizeOf43 w)
 v22:=λw=>(aO _ w).trans (vh w)
 t23:=wx
 a23:=λw=>(cf _ w).trans (Tryz.isAgg43 w)
 z23:=λw=>(bq _ w).trans (Tryz.sizeOf43 w)
 v23:=λw=>(aO _ w).trans (vh w)
 t25:=qU3
 a25:=λw=>(cf _ w).trans (vA w)
 z25:=λw=>(bq _ w).trans (vj w)
 v25:=λw=>(aO _ w).trans (uz w)
 t32:=xF
 a32:=λw=>(cf _ w).trans (Tryz.isAgg113 w)
 z32:=λw=>(bq _ w).trans (Tryz.sizeOf113 w)
 v32:=λw=>(aO _ w).trans (Tryz.zeroValue113 w)
 t35:=xB
 a35:=λw=>(cf _ w).trans (Tryz.isAgg160 w)
 z35:=λw=>(bq _ w).trans (Tryz.sizeOf160 w)
 v35:=λw=>(aO _ w).trans (Tryz.zeroValue160 w)
 t36:=xA
 a36:=λw=>(cf _ w).trans (Tryz.isAgg161 w)
 z36:=λw=>(bq _ w).trans (Tryz.sizeOf161 w)
 v36:=λw=>(aO _ w).trans (Tryz.zeroValue161 w)
 t41:=xz
 a41:=λw=>(cf _ w).trans (Tryz.isAgg166 w)
 z41:=λw=>(bq _ w).trans (Tryz.sizeOf166 w)
 v41:=λw=>(aO _ w).trans (Tryz.zeroValue166 w)
 t44:=yq
 a44:=λw=>(cf _ w).trans (Tryz.isAgg95 w)
 z44:=λw=>(bq _ w).trans (Tryz.sizeOf95 w)
 v44:=λw=>(aO _ w).trans (Tryz.zeroValue95 w)
 t46:=yr
 a46:=λw=>(cf _ w).trans (Tryz.isAgg92 w)
 z46:=λw=>(bq _ w).trans (Tryz.sizeOf92 w)
 v46:=λw=>(aO _ w).trans (Tryz.zeroValue92 w)
 t53:=xw
 a53:=λw=>(cf _ w).trans (Tryz.isAgg196 w)
 z53:=λw=>(bq _ w).trans (Tryz.sizeOf196 w)
 v53:=λw=>(aO _ w).trans (Tryz.zeroValue196 w)
 t57:=xv
 a57:=λw=>(cf _ w).trans (Tryz.isAgg199 w)
 z57:=λw=>(bq _ w).trans (Tryz.sizeOf199 w)
 v57:=λw=>(aO _ w).trans (Tryz.zeroValue199 w)
 t63:=xu
 a63:=λw=>(cf _ w).trans (Tryz.isAgg213 w)
 z63:=λw=>(bq _ w).trans (Tryz.sizeOf213 w)
 v63:=λw=>(aO _ w).trans (Tryz.zeroValue213 w)
 t64:=xE
 a64:=λw=>(cf _ w).trans (Tryz.isAgg116 w)
 z64:=λw=>(bq _ w).trans (Tryz.sizeOf116 w)
 v64:=λw=>(aO _ w).trans (Tryz.zeroValue116 w)}
open Go.Sort Go.RowKit in
def aae(a b cap:Nat)(d:List Int)(w:World)(j:Holds (Value.int .i64) w a b d.toArray)(c:a<w.heap.size)(f:d.length<4611686018427387904) :
  Calls (ah β) 31 #[.slice (some ⟨a,b,none⟩) d.length cap] w λe g=>
   e=.returned (.tuple #[])/\∃n i,g=grow (putRow (Value.int .i64) (Sort.ahead w n) a b (d.mergeSort λx y=>decide (x<=y)).toArray) i:=AnyM.slices_Sort_int mK a b cap d w j c f
open Go.RowKit Go.Sort in
def mf(p:Option Addr)(cap:Nat)(w:World) :
  Calls (ah β) 31 #[.slice p 0 cap] w λe a=>e=.returned (.tuple #[])/\a=w:=AnyM.slices_Sort_int_none mK p cap w
end
section
variable {β:Bool}
open Go.RowKit
def ko(l:List Int):List Int:=l.mergeSort λx y=>decide (x<=y)
def mn(l:List Int):(ko l).length=l.length:=List.length_mergeSort l
def aqy{base:Nat}(p:aD ie 3 w base v l)(q:l.length<4611686018427387904) :
  Calls (ah β) 31 #[v] w λe c=>e=.returned (.tuple #[])/\aD ie 3 c base v (ko l)/\bJ (λb=>v.ownBlock=some b) w c:=by
 obtain⟨A,⟨rfl,x⟩|⟨g,cap,d,rfl,u,j,z,r,t,m⟩⟩:=p
 .obtain rfl:=pi.1 x;refine(mf none 0 w).mono ?_;rintro e c ⟨rfl,rfl⟩;refine⟨rfl, ?_,bJ.refl _ _⟩;rw[show ko []=[] from pi.1 (mn [])];exact aD.nil _ _ _
 .have o:dG ie l=l.map (Value.int .i64):=pC l;rw[o] at m;have f:d.toList.take l.length=l.map (Value.int .i64):=by rw[<-m];show _=List.take (l.length*1) _;rw[tC]
  refine(aae g 0 cap l w (holds_of_blockI j f) (dk.1 j).1 q).mono ?_;rintro e c ⟨rfl,n,os,rfl⟩;have a:=grownBy_sortedI (w:=w) (g:=g) (n:=n) (os:=os) (ko l).toArray;refine⟨rfl, ?_,a.os,a.tape,a.output,a.size,λk y i=>a.block k y λe=>i (by cases e;rfl)⟩;have s:=ownsRow_sortedI (w:=w) (base:=base) (g:=g) (cap:=cap) (n:=n) (os:=os) (ss:=l) (ts:=ko l) (mn l) u j z r t;unfold aD;rw[pC,mn];exact s
def aiA{base:Nat}(E:aD ie 3 w base v l)(F:l.length<=9223372036854775807) :
  Calls (ah β) 32 #[v] w λe d=>∃p,e=.returned p/\aD ie 3 d base p (Lib.compact l)/\bJ (λb=>v.ownBlock=some b) w d:=by
 obtain⟨L,⟨rfl,I⟩|⟨g,cap,j,rfl,t,s,x,A,H,u⟩⟩:=E
 .obtain rfl:=pi.1 I;refine(ki none 0 w).mono ?_;rintro e d ⟨rfl,rfl⟩;refine⟨_,rfl, ?_,bJ.refl _ _⟩;rw[show Lib.compact ([]:List Int)=[] from pi.1 (Nat.le_zero.1 (Lib.compact_length_le []))];exact aD.nil _ _ _
 .have D:dG ie l=l.map (Value.int .i64):=pC l;rw[D] at u;have f:j.toList.take l.length=l.map (Value.int .i64):=by rw[<-u];show _=List.take (l.length*1) _;rw[tC]
  have G:=Lib.compact_length_le l;refine(nC g 0 cap l w (holds_of_blockI s f) F x).mono ?_;rintro e d ⟨rfl,q,rfl⟩;have z:Sort.putRow (Value.int .i64) (Sort.ahead w q) g 0 (Lib.compact l++List.replicate (l.length-(Lib.compact l).length) 0).toArray=Sort.grow (Sort.putRow (Value.int .i64) (Sort.ahead w q) g 0 (Lib.compact l++List.replicate (l.length-(Lib.compact l).length) 0).toArray) #[]:=by rw[Sort.grow_empty]
  rw[z];have a:=grownBy_sortedI (w:=w) (g:=g) (n:=q) (os:=#[]) (Lib.compact l++List.replicate (l.length-(Lib.compact l).length) 0).toArray;refine⟨_,rfl, ?_,a.os,a.tape,a.output,a.size,λk B i=>a.block k B λe=>i (by cases e;rfl)⟩;obtain⟨-,⟨m, -⟩|⟨M,r,c,m, -,o,K,J,C,y⟩⟩:=ownsRow_sortedI (w:=w) (base:=base) (g:=g) (cap:=cap) (n:=q) (os:=#[]) (ss:=l) (ts:=Lib.compact l++List.replicate (l.length-(Lib.compact l).length) 0) (by simp;omega) t s x A H
  .cases m
  .cases m;unfold aD;rw[pC];refine⟨by rw[pe];exact(tC _).symm,.inr ⟨g,cap,c,rfl,t,o,by omega,J,C, ?_⟩⟩;show List.take ((Lib.compact l).length*1) _=_;rw[tC] at y ⊢;have:=gc (List.take (Lib.compact l).length) y;rw[vI,qW G,qJ,List.take_left' (by rw[pe])] at this;exact this
end
section
variable {β:Bool}
open Go.RowKit
def aqh(l:List Int):(ko l).Pairwise λa b=>a<=b:=by
 have h:=List.pairwise_mergeSort (le:=λx y:Int=>decide (x<=y)) (λa b c e d=>by simp at *;omega) (λa b=>by simp;omega) l;exact h.imp λh=>by simpa using h
def amZ(l:List Int):(ko l).Perm l:=List.mergeSort_perm _ _
def ahd :(Lib.compact (ko l)).length=l.length↔l.Nodup:=by
 rw[<-(amZ l).nodup_iff,<-mn l];have c:=aqh l;generalize ko l=z at c;constructor
 .intro h;have g:∀j,j<z.length->Lib.keeps z.toArray j=true:=λj a=>by
   unfold Lib.compact Lib.compactUpTo at h;rw[pe] at h;have d:((List.range z.length).filter (Lib.keeps z.toArray)).length=(List.range z.length).length:=by rw[h,List.length_range]
   exact List.length_filter_eq_length_iff.1 d j (qj.2 a)
  refine qg.2 λi j m a n=> ?_;have f:=g j a;unfold Lib.keeps at f;have b:¬j=0:=by omega
  have k:z[j]≠z[j-1]:=by
   intro e;simp[b,getElem!_pos,a,show j-1<z.length by omega,e] at f
  have d:=qg.1 c (j-1) j (by omega) a (by omega);have o:z[i]<=z[j-1]:=by
   by_cases e:i=j-1
   .subst e;exact ue _
   .exact qg.1 c i (j-1) m (by omega) (by omega)
  omega
 .intro h;rw[Lib.compact_all z λj a=> ?_];unfold Lib.keeps;by_cases b:j=0
  .simp[b]
  .have:=qg.1 h (j-1) j (by omega) a (by omega);simp[b,getElem!_pos,a,show j-1<z.length by omega];omega
end
section
open Go.RowKit
def abj{α:Type}(P:α->Prop)(f:α->Int)(l:List α):Prop:=(∀x∈l,P x)/\l.Pairwise λa b=>f a<f b
section
variable {α:Type} {P:α->Prop} {f:α->Int} {xs:List α} {x y:α} {j k:Nat}
def ahb:abj P f []:=⟨λx h=>(by cases h),List.Pairwise.nil⟩
def afv:abj P f (xs++[x])↔abj P f xs/\P x/\∀y∈xs,f y<f x:=by
 unfold abj;rw[rM];constructor
 .intro⟨d,e,_,g⟩;exact⟨⟨λy c=>d y (by simp[c]),e⟩,d x (by simp),λy c=>g y c x (by simp)⟩
 .intro⟨⟨d,e⟩,g,j⟩;refine⟨λy c=> ?_,e,rF _ _,λa i b k=> ?_⟩
  .rcases jt.1 c with c|c
   .exact d y c
   .rw[gE.1 c];exact g
  .rw[gE.1 k];exact j a i
def aiz(b:xs[0]?=some x)(h:P x):abj P f (xs.take 1):=by
 rw[mu b];exact afv.2 ⟨ahb,h,λy a=>(by cases a)⟩
def am9(c:abj P f (xs.take (j+1)))(d:xs[j]?=some y)(e:xs[j+1]?=some x)(h:P x)(b:f y<f x):abj P f (xs.take (j+1+1)):=by
 rw[mu e];refine afv.2 ⟨c,h,λz a=> ?_⟩;rw[mu d] at a c;rcases jt.1 a with a|a
 .have:=(afv.1 c).2.2 z a;omega
 .rw[gE.1 a];exact b
def ana(b:xs[j]?=some y)(c:xs[j+1]?=some x)(h:¬f y<f x):¬abj P f xs:=λd=>by
 have a:=qg.1 d.2 j (j+1) (aH b) (aH c) (by omega);rw[(li.1 b).2,(li.1 c).2] at a;exact h a
end
def aqx(key:Int)(l:List Pk):Prop:=abj (am8 key) Pk.no l/\l.length<=20/\(bD l).Nodup
def aow(key:Int)(pk:List Pk)(x:Sn):Prop:=(1<=x.no/\x.no<=20)/\(dC key (bI pk) x.all).isSome=true
def aqB(key:Int)(pk:List Pk)(l:List Sn):Prop:=abj (aow key pk) Sn.no l
def aqD(key:Int)(s:dE):Prop:=aqx key s.pk/\aqB key s.pk s.sn
end
end Go.Proofs.YtepfjblhjlefiaaGreatDoor