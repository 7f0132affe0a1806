/- A part of the proof. -/
import Derived.Test.YtbeafkpaghapeaaGreatDoorG9
import Derived.DuoClaim
import Derived.Conc.LeavingOf
import Derived.SizedLaws
set_option maxRecDepth 100000
set_option maxHeartbeats 8000000
set_option linter.all false
open Go Go.Conc Go.ConcN Go.RowKit Go.Proofs.Tryz Go.Proofs.YtbeafkpaghapeaaGreatDoor
variable {aY:au} {X:Nat} {a:Addr} {V W w:World} {t:Trace} {v:Value} {P:Program} {l:List Int} {Y:Array Value} {Z:Int→List iD→Int→ByteArray × Bool}
namespace Go.Proofs.YtbeafkpaghapeaaGreatDoor
section
open Go.Conc Go.ConcN Go.RowKit
open Go.ConcR (KK wgBlock WgAt stA smA rd wr mk Payload DC0)
def ajU(Rr:au):oJ RlB Rr:=⟨λ_ w=>atRel_refl w,λ_ a b c h k=>atRel_trans a b c h k,λ_ w f ⟨d,e⟩=>by subst e;exact⟨λ_ _=>rfl,am _,rfl⟩⟩
def ajV(aY S:au)(w:World):Prop:=(∀b,S b->¬aY b)/\∀b,aY b->b<w.heap.size
def ajV.rely{S : au}(h:ajV aY S w)(c:RlB S w V):ajV aY S V:=⟨h.1,λb a=>bd (h.2 b a) ((ajU S).rl _ _ _ c).2.1⟩
def apo{Rr S j : au}{w' : World}{es:Array Event}(t:∀b,Rr b->¬aY b)(i:ajV aY S w)(g:oK Rr S j w w' es):GrB aY S j w w' es/\ajV aY j w':=by
 obtain⟨u,m,v,rfl,p⟩:=g;have n:∀b,S b\/(w.heap.size<=b/\b<w'.heap.size)->¬aY b:=λb c d=>by
  rcases c with c|c
  .exact i.1 b c d
  .have:=i.2 b d;omega
 refine⟨⟨m,λe s=> ?_⟩,n,λb c=>bd (i.2 b c) m⟩;obtain⟨q,l,r⟩:=p e s;refine⟨λx o ⟨a,hl,d⟩=> ?_,λk=> ?_,λk=> ?_,r⟩
 .rcases q x o with h|⟨h, -⟩
  .rw[hl] at h;exact n _ h d
  .rw[hl] at h;exact t _ h d
 .rcases l _ k with⟨f,e⟩|e<;>cases e
 .rcases l _ k with⟨f,e⟩|e<;>cases e
section
variable {gs:Array Goroutine} {w:World} {sl:Option (Nat×Nat)} {t:Trace} {q:Nat->Nat} {aY V:au} {T:Array Value} {xs:List Frame}
def aBc (I:gs[0]?=some (Gl (FQ cf Y [.code abt]::xs) [])) (U:45<=Y.size) {key:Int} {A A2:Option Addr} {n c Q : Nat} (Z:(X:Int)<=2147483647) (L:Y.getD 0 undef=.int .i64 key) (s1:Y.getD 1 undef=.slice A n c) (K:Y.getD 2 undef=.slice A2 X Q)
  (O:Leavers prog t gs q) (hP:eI aY (gs.size-1) w.heap.size t) (v:∀b,aY b->b<w.heap.size) (H:∀b,V b->b<w.heap.size/\¬aY b) :
  ∃(N:Nat) (j:Array Goroutine) (f:World) (p:Option (Nat×Nat)) (r:Trace) (x:Nat->Nat) (T:Array Value) (l i C m:Nat) (o:Array Value),runNT prog N (crowd gs w sl) t=(.next (crowd j f p),r)/\j.size=gs.size/\
   j[0]?=some (Gl (FQ cf T [.code (.region 2 nP false),.code gD]::xs) [])/\Leavers prog r j x/\eI aY (gs.size-1) f.heap.size r/\T.size=Y.size/\(∀t,(t<3\/aaj t=true)->T.getD t undef=Y.getD t undef)/\
   (T.getD 3 undef=.pointer (some ⟨l,0,none⟩)/\T.getD 4 undef=.pointer (some ⟨i,0,none⟩)/\T.getD 6 undef=.slice none 0 0/\T.getD 7 undef=.bool false/\T.getD 8 undef=.pointer (some ⟨m,0,none⟩)/\T.getD 17 undef=.slice (some ⟨C,0,none⟩) X X)/\
   ((∀b,V b->f.heap[b]?=w.heap[b]?)/\w.heap.size<=f.heap.size/\f.ou=w.ou)/\(w.heap.size<=l/\l<i/\i<C/\C<m)/\f.heap[l]?=some (.cells #[.int .i64 key] 3)/\f.heap[i]?=some (.cells #[.slice A n c] 23)/\o.size=2*X/\f.heap[C]?=some (.cells o 124)/\f.heap[m]?=some (.cells #[.slice (some ⟨C,0,none⟩) X X] 111):=by
 have W:=ajW (xs:=xs) (base:=[]) (k:=[]) (S:=λ_=>False) (w0:=w) (Rr:=V)
  (St:=λ_ g f=>∃(T:Array Value) (l i C m:Nat) (o:Array Value),g=Gl (FQ cf T [.code (.region 2 nP false),.code gD]::xs) []/\T.size=Y.size/\(∀t,(t<3\/aaj t=true)->T.getD t undef=Y.getD t undef)/\
   (T.getD 3 undef=.pointer (some ⟨l,0,none⟩)/\T.getD 4 undef=.pointer (some ⟨i,0,none⟩)/\T.getD 6 undef=.slice none 0 0/\T.getD 7 undef=.bool false/\T.getD 8 undef=.pointer (some ⟨m,0,none⟩)/\T.getD 17 undef=.slice (some ⟨C,0,none⟩) X X)/\
   ((∀b,V b->f.heap[b]?=w.heap[b]?)/\w.heap.size<=f.heap.size/\f.ou=w.ou)/\(w.heap.size<=l/\l<i/\i<C/\C<m)/\f.heap[l]?=some (.cells #[.int .i64 key] 3)/\f.heap[i]?=some (.cells #[.slice A n c] 23)/\o.size=2*X/\f.heap[C]?=some (.cells o 124)/\f.heap[m]?=some (.cells #[.slice (some ⟨C,0,none⟩) X X] 111))
  (ajU V) U rfl Z L s1 K λT S' f l i C m o z J E u R P cp D cC M=>.stop λw1 ⟨d,e⟩=>by
   subst e;exact⟨T,l,i,C,m,o,rfl,z,J,E,⟨λb s=>u.keep b (H b s).1 (.inr s),u.size,u.os⟩,R,P,cp,D,cC,M⟩
 have G:=bI.inv (Gr2:=GrB aY) (Inv:=ajV aY) (afB:=λ_ g f=>_) (λ_ _ _ h B=>h.rely B) (λ_ _ _ _ _ h g=>apo (λb s=>(H b s).2) h g) (λ_ _ _ h _=>h) W ⟨λ_ h=>h.elim,v⟩;obtain⟨N,j,a,f,p,r,x,S',B,z,ha,⟨T,l,i,C,m,o,rfl,E⟩,F,y⟩:=pJ (sl:=sl) aay I O hP G;exact⟨N,j,f,p,r,x,T,l,i,C,m,o,B,z,ha,F,y,E⟩
def GrE(_ _:au)(w w':World)(es:Array Event):Prop:=es=#[]/\w.heap.size<=w'.heap.size
def ae9{B0:Nat}:awo GrE (λK B t=>eI aY K B t/\∀op∈t,op.act.low B0) where
 own:=λ{K t S l w k f} fn c ⟨b,hz⟩ ⟨hP,hl⟩=>by
  subst b;refine⟨hP.own hz λe h=>by simp at h,λop a=> ?_⟩;rcases vF.1 a with h|h
  .exact hl op h
  .obtain⟨e,b, -⟩:=mu h;simp at b
 mute:=λ{K B t g f} fn c i j d ⟨hP,hl⟩=>by
  refine⟨hP.mute i j d,seen_app hl λop a=> ?_⟩;obtain⟨e,b,rfl⟩:=mu a;exact low_mute (d e b) B0
def aBd(C:gs[0]?=some (Gl (FQ cf T [.code (.region 2 nP false),.code gD]::xs) []))(v:45<=T.size)(F:Leavers prog t gs q)(x:eI aY (gs.size-1) w.heap.size t) :
  ∃(N:Nat) (b:Array Goroutine) (c:World) (d:Option (Nat×Nat)) (e:Trace) (s:Nat->Nat) (T':Array Value),runNT prog N (crowd gs w sl) t=(.next (crowd b c d),e)/\b.size=gs.size/\b[0]?=some (Gl (FQ cf T' [.code gD]::xs) [])/\Leavers prog e b s/\
   eI aY (gs.size-1) c.heap.size e/\(∀op∈e,op.act.low w.heap.size)/\T'.size=T.size/\T'.getD 9 undef=.pointer (some ⟨w.heap.size,0,none⟩)/\(∀t,t≠9->T'.getD t undef=T.getD t undef)/\c.heap=w.heap.push (wgBlock eE.tWg 0 0)/\c.ou=w.ou:=by
 obtain⟨R,Q,u⟩:=aBe;obtain⟨i,z,J,l,M⟩:=asE;have o:List.range nP.size=[0]:=rfl;have K:bI prog true RlB GrE (λ_ g c=>g=Gl (FQ cf (T.setIfInBounds 9 (.pointer (some ⟨w.heap.size,0,none⟩))) [.code gD]::xs) []/\c.heap=w.heap.push (wgBlock eE.tWg 0 0)/\c.ou=w.ou) (λ_=>False) (Gl (FQ cf T [.code (.region 2 nP false),.code gD]::xs) []) w:=by
  refine .step rfl λy ⟨d1,e1⟩=>⟨Gl (FQ cf T [.inRegion nP [0],.code gD]::xs) [],y,#[],λ_=>False,by simp[Gl,stepG,stepG.exec,o],⟨rfl,am _⟩, ?_⟩;refine .step rfl λj ⟨d2,e2⟩=> ?_;have f:=amb (m:=true) (fr:=FQ cf T [.inRegion nP [0],.code gD]) (xs:=xs) (base:=[]) (w:=j) rfl rfl rfl rfl u rfl (pK (w:=j) J l);rw[wF,M] at f;refine⟨_,_,#[],λ_=>False,f,⟨rfl,by rw[oR];omega⟩, ?_⟩;have k:j.heap.size=w.heap.size:=by rw[e2,e1];rfl
  have H:Frame.finish (FQ cf T [.inRegion nP [0],.code gD]) (.pointer (some ⟨j.heap.size,0,none⟩))=FQ cf (T.setIfInBounds 9 (.pointer (some ⟨w.heap.size,0,none⟩))) [.inRegion nP [],.code gD]:=by
   simp only[Frame.finish,u,qG,k]
  rw[H];refine .step rfl λB ⟨d3,e3⟩=>⟨Gl (FQ cf (T.setIfInBounds 9 (.pointer (some ⟨w.heap.size,0,none⟩))) [.code gD]::xs) [],B,#[],λ_=>False,by simp[Gl,stepG,stepG.exec],⟨rfl,am _⟩,.stop λO ⟨d4,e4⟩=>⟨rfl, ?_, ?_⟩⟩
  .rw[e4,e3,e2,e1];rfl
  .rw[e4,e3,e2,e1];rfl
 obtain⟨N,b,a,c,d,e,s,P,I,G,L,⟨rfl,E,A⟩,r,n,p⟩:=pJ (sl:=sl) (ae9 (aY:=aY) (B0:=w.heap.size)) C F ⟨x,x.seen⟩ K;exact⟨N,b,c,d,e,s,_,I,G,L,r,n,p,by simp,by rw[aH (bd (by decide) v),dq rfl],λt D=>by rw[aH (bd (by decide) v),bv D],E,A⟩
end
def kR{N : Nat}{m m':Machine}{a : Trace}{r:Stepped×Trace}(h:runNT P N m t=(.next m',a))(b:runNT P X m' a=r):runNT P (N+X) m t=r:=by
 rw[runNT_add,h];exact b
section
variable {X:Mx} {R:au} {T:Array Value} {w:World} {xs bs:List Frame}
structure Mx.Pre (X:Mx) (T:Array Value):Prop where
 z:T.size=X.Z
 zz:45<=X.Z
 s2:T.getD 2 undef=.slice X.A2 X.n2 X.c2
 s3:T.getD 3 undef=.pointer (some ⟨X.bk,0,none⟩)
 s4:T.getD 4 undef=.pointer (some ⟨X.bp,0,none⟩)
 s8:T.getD 8 undef=.pointer (some ⟨X.ba,0,none⟩)
 s9:T.getD 9 undef=.pointer (some ⟨X.Wg,0,none⟩)
 sv:∀t,ajX t=true->T.getD t undef=X.sv t
def ahI(a:X.Pre T):bI prog true (X.Rl R) (oK R) (λS g _=>(S=λ_=>False)/\∃c,X.Sl c 0/\g=Gl (FQ cf c (.code jf::kB)::xs) bs) (λ_=>False) (Gl (FQ cf T [.code gD]::xs) bs) w:=by
 have H:=X.mG R;unfold gD;refine ep H.cmp (ep H.cmp (fN H.cmp (l:=[0,1,2]) rfl λq o=>asF H a.zz a.z a.s2 λc k b e d f=>aec H.cmp (amc H.cmp λm n=>.stop λp j=>⟨rfl,c, ?_,rfl⟩))) w (H.fK _ _);refine⟨k,a.zz,(b 3 (by decide) (by decide) (by decide)).trans a.s3,(b 4 (by decide) (by decide) (by decide)).trans a.s4,(b 8 (by decide) (by decide) (by decide)).trans a.s8,(b 9 (by decide) (by decide) (by decide)).trans a.s9,e,d,f,λt i=>(b t ?_ ?_ ?_).trans (a.sv t i)⟩<;>(rintro rfl;cases i)
end
def afa(h:∀op∈t,op.act.low a.block):NoRelease a t:=λi d=>by
 unfold Trace.act? at d;obtain⟨op,e,b⟩:=lc.1 d;have c:=h op (qC e);rw[b] at c;exact Nat.lt_irrefl _ c
section
variable {X:Mx} {R:au} {gs:Array Goroutine} {w:World} {sl:Option (Nat×Nat)} {t:Trace} {q:Nat->Nat} {aY:au} {T:Array Value} {xs:List Frame}
def aBf (D:X.Ok) (hF:eF Z) (L:∀a5 nm,Z a5 [] nm=(⟨#[]⟩,false)) (h0:gs[0]?=some (Gl (FQ cf T [.code gD]::xs) [])) (hs:X.Pre T)
  (hL:Leavers prog t gs q) (hP:eI aY (gs.size-1) w.heap.size t) (B:∀op∈t,op.act.low X.Wg) (eZ:WgAt eE.tWg X.Wg w 0 0) (K:PayAt X.C (2*X.n2) w) (j:X.At R w) (u:∀b,aY b->¬R b/\b≠X.C/\b<w.heap.size) :
  ∃(N:Nat) (n:Array Goroutine) (m:World) (an:Option (Nat×Nat)) (H:Trace) (q':Nat->Nat) (T':Array Value) (R':au),runNT prog N (crowd gs w sl) t=(.next (crowd n m an),H)/\
   n[0]?=some (Gl (FQ cf T' [.code cJ]::xs) [])/\Leavers prog H n q'/\eI (λb=>b=X.Wg\/aY b) (n.size-1) m.heap.size H/\X.Sl T' X.n2/\X.At R' m/\PayAt X.C (2*X.n2) m/\
   (∀f nm,X.dA[f]?=some nm->Has X.C (2*f) (.string (Z X.key X.l nm).1) m/\Has X.C (2*f+1) (.bool (Z X.key X.l nm).2) m)/\(∀b,b=X.Wg\/aY b->b<m.heap.size):=by
 have gZ:0<gs.size:=(dl.1 h0).1
 let val:Nat->Value:=λi=>if i % 2=0 then .string (Z X.key X.l (X.dA.getD (i / 2) 0)).1 else .bool (Z X.key X.l (X.dA.getD (i / 2) 0)).2
 have o:∀f nm,X.dA[f]?=some nm->val (2*f)=.string (Z X.key X.l nm).1/\val (2*f+1)=.bool (Z X.key X.l nm).2:=λf nm h=>by
  have e1:2*f % 2=0:=by omega
  have O:(2*f+1) % 2≠0:=by omega
  have e3:2*f / 2=f:=by omega
  have e4:(2*f+1) / 2=f:=by omega
  have e5:X.dA.getD f 0=nm:=by rw[sL,h];rfl
  exact⟨by simp only[val,e1,e3,e5,pr],by simp only[val,bv O,e4,e5]⟩
 have hi:X.Inv R (λ_=>False) w:=⟨λb h=>h.elim,j,⟨_,_,eZ⟩,λb _ h=>h⟩;have V:tK prog eE.tWg X.Wg X.C X.n2 val (acX X xs []) X.n2 R (Gl (FQ cf T [.code gD]::xs) []) w:=
  aed (bI.weak (λ_ _ _ h=>h) (λ_ _ _ _ _ h=>h) (λS g w h=>by
   obtain⟨⟨rfl,s,r,rfl⟩,v⟩:=h;exact⟨rfl,acY D hF L o X.n2 0 R s w (by omega) v.at_ v.live r⟩) (Mx.lift (ahI hs) hi))
 have F:Sets X.Wg X.C aY w R (λ_=>False) (λ_ _=>False) (λ_ _=>False):=
  ⟨j.rlt,λb h=>h.elim,λ_ b h=>h.elim,λ_ b h=>h.elim,λb _ h=>h,λ_ b h=>h.elim,λ_ b h=>h.elim,λ_ _ b h=>h.elim,j.ltW,j.ltC,D.cW,j.rW,λh=>h,λ_ h=>h,j.rC,λh=>h,λ_ h=>h,λb h=>(u b h).1,λ_ _ h=>h,λ_ _ _ h=>h,λh=>(u _ h).2.1 rfl,λb h=>(u b h).2.2⟩
 have ax:=D.n2m;obtain⟨N,m',t1,U,Y,C,aa,a,q1,y,S1,rfl,W,ao,⟨s,r,a7⟩,a3,J,a1,P, -,M⟩:=
  ahJ (sl:=sl) (K0:=gs.size-1) (Fin:=ayu X xs []) (by omega) (λR S g w ⟨_,T,_,T2,e,_⟩=>by rw[e];rfl) (λR S g w h=>asH h) h0 (by omega) hL hP V eZ K
   (λi x hx a W e=>afC (S:=λb=>b=X.Wg) B hx (λb I=>oS I.symm) (by rw[W];exact e)) (afa B) F
 have hG:bI prog true RlB (λS S' w m es=>m=w/\es=#[]/\S'=S) (λ_ g w=>(g=Gl (FQ cf s [.code cJ]::xs) []/\X.At y w)) (λ_=>False) a C:=by
  refine bI.bind (λ_ w=>atRel_refl w) (λ_ a b c h k=>atRel_trans a b c h k) (bI.abv (R:=RM eE.tWg X.Wg X.C X.n2 y S1) (Stop:=λS g w=>S=(λ_=>False)/\(g=Gl (FQ cf s (.inRegion jA []::[.code cJ])::xs) []/\WgLive eE.tWg X.Wg w)/\X.At y w) (λw C ⟨d,e⟩=>e▸jB.at _ _ _ _ _) (λw m es h=>⟨h.1,h.2,rfl⟩) (λg w h=>⟨rfl,h⟩) a7) ?_;rintro S g w ⟨rfl,⟨rfl, -⟩,j⟩;exact .step rfl λE ⟨d2,O⟩=>⟨Gl (FQ cf s [.code cJ]::xs) [],E,#[],λ_=>False,by simp[Gl,stepG,stepG.exec],⟨rfl,rfl,rfl⟩,.stop λw3 ⟨d3,e3⟩=>⟨rfl,by rw[e3,O];exact j.move (λ_ _=>rfl) (am _) rfl⟩⟩
 have ad:=bI.inv (Gr2:=GrB λb=>b=X.Wg\/aY b) (Inv:=λ_ w=>w.heap=C.heap) (afB:=λS g w=>(g=Gl (FQ cf s [.code cJ]::xs) []/\X.At y w)/\w.heap=C.heap) (λ_ _ _ h ⟨d,e⟩=>by rw[e];exact h) (λ_ _ _ _ _ h g=>by
  obtain⟨rfl,rfl,rfl⟩:=g;exact⟨⟨am _,λe h=>by simp at h⟩,h⟩) (λ_ _ _ h k=>⟨h,k⟩) hG rfl
 have a0:Y.size-1=gs.size-1+X.n2:=by omega
 obtain⟨N2,a6,a2,E,a9,t2,q2,S2,G,Q,a8,⟨⟨rfl,af⟩,p⟩,al,a4⟩:=pJ (sl:=aa) (aay (aY:=λb=>b=X.Wg\/aY b)) W a3 (by rw[a0];exact J) ad;refine⟨N+N2,a6,E,a9,t2,q2,s,y, ?_,a8,al,by rw[Q];exact a4,r,af, ?_,λf nm z=> ?_,λb I=> ?_⟩
 .exact kR U G
 .obtain⟨cs,h1,h2⟩:=a1;exact⟨cs,by rw[p];exact h1,h2⟩
 .obtain⟨v0,v1⟩:=o f nm z;have gJ:f<X.n2:=by rw[<-D.nn];exact(qm.1 z).1
  obtain⟨g0,g1⟩:=P f gJ;rw[v0] at g0;rw[v1] at g1;have l:∀A,E.cell? A=C.cell? A:=λA=>fY (by rw[p]);exact⟨(l _).trans g0,(l _).trans g1⟩
 .rw[p];exact(M b (I.elim .inr .inl)).2.2.2
end
def JW(t:Nat):Bool:=t ==3||t ==4||t ==5||t ==9||t ==10||t ==11||t ==13||t ==15||t ==16||(decide (18<=t)&&decide (t<=28))
def asJ:jX JW cJ=true:=by kernel_rfl
def ayw:jX JW (f129.body.getD .skip)=false:=by kernel_rfl
def ayx:jX JW (f48.body.getD .skip)=false:=by kernel_rfl
def awp :Frame.enter prog cf Y .normal=FQ cf (T0F Y) [.code abt]:=by
 have a:prog.funcs[cf]?=some f48:=func48;unfold Frame.enter;rw[a];rfl
def ajZ{t : Array Value}(_:Y.size=t.size)(h:∀i,JW i=false->Y[i]?=t[i]?):results f48 Y=results f48 t:=by
 have e:∀i,JW i=false->Y.getD i undef=t.getD i undef:=λi c=>by rw[gE,gE,h i c]
 have a:=e 6 rfl;have b:=e 7 rfl;simp only[gE] at a b;simp[results,results48,a,b]
section
variable {gs:Array Goroutine} {w:World} {sl:Option (Nat×Nat)} {t:Trace} {q:Nat->Nat} {aY:au}
def apq (hF:eF Z) (ad:∀v nm,Z v [] nm=(⟨#[]⟩,false)) {R:List Frame->World->Prop} {c:Cfg} {ρ:Ren} {a : Array Value} {m m':List Frame}
  (bn:dh ρ a Y) (U:iF (ah true) ρ m m') (hc:c.l=Frame.enter (ah true) cf a .normal::m) (hw:WR ρ c.w w) (hg:GlR ρ) (hW:jP (ah true) R c)
  (h0:gs[0]?=some (Gl (Frame.enter prog cf Y .normal::m') [])) (hL:Leavers prog t gs q) (hP:eI aY (gs.size-1) w.heap.size t) (W:∀b,aY b->b<w.heap.size) (bR:∀b f,ρ.r b f->¬aY f) :
  ∃(N:Nat) (B:Array Goroutine) (D:World) (c3:Option (Nat×Nat)) (t':Trace) (q':Nat->Nat) (Wg:Nat) (J:Cfg) (x:Ren) (l1 lR:List Frame),runNT prog N (crowd gs w sl) t=(.next (crowd B D c3),t')/\
   B[0]?=some (Gl lR [])/\Leavers prog t' B q'/\eI (λb=>b=Wg\/aY b) (B.size-1) D.heap.size t'/\w.heap.size<=Wg/\(∀b,b=Wg\/aY b->b<D.heap.size)/\
   ir (ah true) J c/\ρ.Le x/\iF (ah true) x J.l l1/\WR x J.w D/\jP (ah true) R J/\(∀b f,x.r b f->ρ.r b f\/(w.heap.size<=f/\f≠Wg))/\Rt prog JW l1 lR/\(∀b,b<w.heap.size->¬aY b->D.heap[b]?=w.heap[b]?)/\D.ou=w.ou/\w.heap.size<=D.heap.size/\PkG ρ c.w w J.w D:=by
 obtain⟨v,A,n,cc,l,A2,n2,c2,dA,J,e,aG,bf,a0,a7⟩:=ans hF bn U hc hw hg hW;have Q:45<=(T0F Y).size:=by simp only[T0F,rZ,sQ];omega
 rw[awp] at h0
 let V:au:=λb=>b<w.heap.size/\¬aY b
 obtain⟨N1,c4,o,b8,t1,q1,T,bk,P,C,O,cs,ax,b2,a8,b0,a3,S,p,⟨u3,u4,u6,u7,u8,bl⟩,⟨bL,a4,bp⟩,⟨lk,lp,lC,la⟩,ck,cp,b3,cC,ca⟩:=aBc (sl:=sl) (V:=V) h0 Q e.n2m e.s0 e.s1 e.s2 hL hP W λb d=>d;rw[<-b2] at a3;obtain⟨N2,c5,w2,c0,t2,q2,T',a9,br,c1,ba,a5,b1,b6,u9,bi,L,eU⟩:=aBd (sl:=b8) a8 (by rw[S];exact Q) b0 a3;rw[<-br] at a5;have bY:=jg cC;have nY:=jg ca;have r:∀b,b<o.heap.size->w2.heap[b]?=o.heap[b]?:=λb d=>by rw[L,qE,bv (by omega)]
 have c6:w2.heap.size=o.heap.size+1:=by rw[L,Array.size_push]
 let X:Mx:=⟨w,o.heap.size,C,n2,λb=>∃a,ρ.r a b,v,A,n,cc,l,A2,c2,dA,bk,P,O,λt=>T'.getD t undef,T'.size,V⟩
 have I:∀b,(∃a,ρ.r a b)->V b:=λb ⟨a,hab⟩=>⟨(hw.lt hab).2,bR a b hab⟩;have ok:X.Ok:=⟨hw.kN.2,λg bb=>⟨g,hg g bb⟩,e.k1,e.k2,e.ln,e.nc,e.cm,e.gl,e.rd,e.rg,e.al,e.al2,e.nm,e.nn,e.n2m,(by show C≠o.heap.size;omega),I⟩
 let R0:au:=λb=>V b\/b=bk\/b=P\/b=O
 have bO:X.At R0 w2:=by
  refine⟨λb d=>(r b (bd d.1 a4)).trans (bL b d), ?_,eU.trans bp,λb d=>.inl d,⟨.inr (.inl rfl),(r bk (by omega)).trans ck⟩,⟨.inr (.inr (.inl rfl)),(r P (by omega)).trans cp⟩,⟨.inr (.inr (.inr rfl)),(r O nY).trans ca⟩,λb d=> ?_,λd=> ?_,λd=> ?_, ?_, ?_⟩
  .show w.heap.size<=w2.heap.size;omega
  .rcases d with d|rfl|rfl|rfl
   .have:=d.1;omega
   all_goals omega
  .rcases d with d|d|d|d
   .have:C<w.heap.size:=d.1;omega
   .have:C=bk:=d;omega
   .have:C=P:=d;omega
   .have:C=O:=d;omega
  .rcases d with d|d|d|d
   .have:o.heap.size<w.heap.size:=d.1;omega
   .have:o.heap.size=bk:=d;omega
   .have:o.heap.size=P:=d;omega
   .have:o.heap.size=O:=d;omega
  .show C<_;omega
  .show o.heap.size<_;omega
 have s:∀t,t≠9->T'.getD t undef=T.getD t undef:=bi;have bz:X.Pre T':=⟨rfl,by show 45<=T'.size;omega,(s 2 (by decide)).trans ((p 2 (.inl (by decide))).trans e.s2),(s 3 (by decide)).trans u3,(s 4 (by decide)).trans u4,(s 8 (by decide)).trans u8,u9,λt ht=>rfl⟩;obtain⟨N3,b4,w3,aa,t3,q3,G,R3,b7,aT,ao,bh,F,k,⟨M,K,bt⟩,a2,af⟩:=aBf (X:=X) (sl:=c0) ok hF ad c1 bz ba a5 b1
  (by show w2.heap[o.heap.size]?=_;rw[L,qR]) ⟨cs,(r C bY).trans cC,b3⟩ bO λb d=>by
   have lD:=W b d;refine⟨λh=> ?_,(by show b≠C;omega),by omega⟩;rcases h with h|h|h|h
   .exact h.2 d
   all_goals omega
 have a6:w.heap.size<=w3.heap.size:=k.sz;have bw:∀E nm,dA[E]?=some nm->M[2*E]?=some (.string (Z v l nm).1)/\M[2*E+1]?=some (.bool (Z v l nm).2):=λE nm h=>
  ⟨ahL (A:=⟨C,2*E,none⟩) (z:=(0,0)) (t:=124) K (a2 E nm h).1,ahL (A:=⟨C,2*E+1,none⟩) (z:=(0,0)) (t:=124) K (a2 E nm h).2⟩
 obtain⟨aZ,T2,b9,bG,bT,bS,ay,H,t6,t7,t8,aX,bo⟩:=a7 w3 C O M (λb f d=>k.keep f (I f ⟨b,d⟩)) k.os a6 (by omega) (by omega) (by omega) K bt bw k.ra.2;obtain⟨_,_,y,ys,e1,aL⟩:=U.ne';have an:G.size=(T0F Y).size:=F.z.trans (b6.trans S);have bU:∀i,i<(T0F Y).size->G.getD i undef=T2.getD i undef->G[i]?=T2[i]?:=λi hi h=>by
  rw[vA (by omega),vA (by omega),h]
 refine⟨N1+(N2+N3),b4,w3,aa,t3,q3,o.heap.size,J,aZ,FQ cf T2 [.code cJ]::m',FQ cf G [.code cJ]::m',kR ax (kR a9 b7),aT,ao,bh,a4,af,aG,b9,bG,bT,bf,λb f d=> ?_, ?_,λb d hn=>k.keep b ⟨d,hn⟩,k.os,a6,λb f d a1=>⟨(a0 b f d a1).1,λi u hu bx=>⟨(a0 b f d a1).2 i u hu bx,jd (k.keep f (I f ⟨b,d⟩))⟩⟩⟩
 .rcases bS b f d with h|rfl|rfl
  .exact .inl h
  .exact .inr ⟨by omega,by omega⟩
  .exact .inr ⟨by omega,by omega⟩
 .refine .inr ⟨FQ cf T2 [.code cJ],FQ cf G [.code cJ],m',rfl,rfl,by rw[aL];simp,⟨rfl,rfl,⟨rfl,rfl⟩,rfl,⟨rfl,rfl⟩,⟨rfl,rfl⟩,an.trans ay.symm,λi hi=> ?_, ?_⟩,_,func48,λt t' hz h=>ajZ hz h⟩
  .refine(pi i (T0F Y).size).elim (λaI=> ?_) λnZ=> ?_
   case refine_2=> 
    show G[i]?=T2[i]?;rw[qd (by omega),qd (by omega)]
   have al:i=0\/i=1\/i=2\/i=6\/i=7\/i=8\/i=17\/aaj i=true:=by
    simp only[JW,wh,de,sI,sY] at hi;simp only[aaj,qV,nF,qS];omega
   refine bU i aI ?_;have j:∀t,ajX t=true->G.getD t undef=T'.getD t undef:=F.sv;rcases al with rfl|rfl|rfl|rfl|rfl|rfl|rfl|hid
   .rw[j 0 rfl,s 0 (by decide),p 0 (.inl (by decide)),H 0 (by decide)]
   .rw[j 1 rfl,s 1 (by decide),p 1 (.inl (by decide)),H 1 (by decide)]
   .rw[j 2 rfl,s 2 (by decide),p 2 (.inl (by decide)),H 2 (by decide)]
   .rw[j 6 rfl,s 6 (by decide),u6,t6]
   .rw[j 7 rfl,s 7 (by decide),u7,t7]
   .rw[F.s8,t8]
   .rw[j 17 rfl,s 17 (by decide),bl,aX]
   .have b5:ajX i=true:=by simp only[ajX,hid,Bool.or_true]
    rw[j i b5,s i (by rintro rfl;cases hid),p i (.inr hid),bo i hid]
  .simp only[qy,vE,uq,lM];exact asJ
end
structure amd (R:List Frame->World->Prop) (W:World) (S0:au) (aY:au) (ρ:Ren) (c:Cfg) (w:World):Prop where
 lax:ρ.lax=false
 wr:WR ρ c.w w
 gl:GlR ρ
 will:jP (ah true) R c
 rng:∀b b',ρ.r b b'->S0 b'\/(W.heap.size<=b'/\¬aY b')
 sh:∀b,aY b->W.heap.size<=b/\b<w.heap.size
 s0:∀b,S0 b->b<W.heap.size
 keep:∀b,b<W.heap.size->¬S0 b->w.heap[b]?=W.heap[b]?
 os:w.ou=W.ou
 sz:W.heap.size<=w.heap.size
structure aj2 (W:World) (S0 aY S:au) (w:World):Prop where
 s:∀b,S b->S0 b\/(W.heap.size<=b/\¬aY b)
 sh:∀b,aY b->b<w.heap.size
 keep:∀b,b<W.heap.size->¬S0 b->w.heap[b]?=W.heap[b]?
 os:w.ou=W.ou
 sz:W.heap.size<=w.heap.size
section
variable {W:World} {S0 aY S S':au} {w w':World} {es:Array Event}
def aj2.rely(h:aj2 W S0 aY S w)(a:RlB S w w'):aj2 W S0 aY S w':=by
 obtain⟨d,rfl⟩:=a;exact⟨h.s,h.sh,h.keep,h.os,h.sz⟩
def aj2.step(f:∀b,S0 b->b<W.heap.size)(k:∀b,aY b->W.heap.size<=b)(h:aj2 W S0 aY S w)(g:oK (λ_=>False) S S' w w' es):GrB aY S S' w w' es/\aj2 W S0 aY S' w':=by
 have j:ajV aY S w:=⟨λb a c=>(h.s b a).elim (λx=>by have:=f b x;have:=k b c;omega) λx=>x.2 c,h.sh⟩;obtain⟨m,e⟩:=apo (λ_ h=>h.elim) j g;obtain⟨i,l,n,rfl,o⟩:=g;refine⟨m,λb a=> ?_,e.2,λb a d=> ?_,n.trans h.os,ap h.sz l⟩
 .rcases a with a|a
  .exact h.s b a
  .exact .inr ⟨ap h.sz a.1,λc=>by have:=h.sh b c;omega⟩
 .rw[i b (bd a h.sz) λc=> ?_]
  .exact h.keep b a d
  .rcases h.s b c with x|x
   .exact d x
   .omega
end
theorem aps{fv:Int->List iD->Int->ByteArray×Bool}(hF:eF fv)(hF0:∀key nm,fv key [] nm=(⟨#[]⟩,false)){R:List Frame->World->Prop}{W:World}{S0:au}{c:Cfg}(aj3:Acc (ir (ah true)) c) :
  ∀{ρ:Ren} {aY:au} {l' lR:List Frame} {w:World} {gs:Array Goroutine} {sl:Option (Nat×Nat)} {t:Trace} {q:Nat->Nat},amd R W S0 aY ρ c w->iF (ah true) ρ c.l l'->Rt prog JW l' lR->gs[0]?=some (Gl lR [])->Leavers prog t gs q->eI aY (gs.size-1) w.heap.size t->
   ∃(N:Nat) (gs':Array Goroutine) (w':World) (sl':Option (Nat×Nat)) (t':Trace) (q':Nat->Nat) (ayB:au) (c1:Cfg) (ρ1:Ren) (l1:List Frame),runNT prog N (crowd gs w sl) t=(.next (crowd gs' w' sl'),t')/\
    gs'[0]?=some (Gl l1 [])/\Leavers prog t' gs' q'/\eI ayB (gs'.size-1) w'.heap.size t'/\amd R W S0 ayB ρ1 c1 w'/\oL c1.l/\iF (ah true) ρ1 c1.l l1/\ρ.Le ρ1/\PkG ρ c.w w c1.w w':=by
 induction aj3 with
 |intro c _ ih=>
  intro ρ aY l' lR w gs sl t q h hst hR h0 hL hP;have aj3:Acc (ir (ah true)) c:=h.will.acc.transGen;have Hb:=ajU (λ_=>False);have aws:ahN (ah true) R (λ_=>False) (λb=>S0 b\/(W.heap.size<=b/\¬aY b)) ρ c l' w:=⟨hst,h.wr,h.gl,h.will,λb b' hb=>.inl (h.rng b b' hb)⟩;have apt:=ahO (lN true) (avb true) Hb.fK Hb.tr Hb.rl Hb.cmp.gr (avc ayw ayx) (afD Hb.cmp) (main:=true) (base:=[]) aj3 aws hR;have hG:=bI.inv (Gr2:=GrB aY) (Inv:=aj2 W S0 aY) (λ_ _ _ a b=>a.rely b) (λ_ _ _ _ _ a b=>a.step h.s0 (λb hb=>(h.sh b hb).1) b) (λ_ _ _ a b=>And.intro a b) apt ⟨λb hb=>hb,λb hb=>(h.sh b hb).2,h.keep,h.os,h.sz⟩;obtain⟨N,gs1,a1,w1,sl1,t1,q1,S1,hr1,hz1,ha1,⟨⟨c1,ρ1,l1,hor,hle, -,rfl,cE,hg1,hW1,oM,asK,hend⟩,lO⟩,hL1,hP1⟩:=pJ (sl:=sl) aay h0 hL hP hG;rw[<-hz1] at hP1;have agu:∀b b',ρ1.r b b'->S0 b'\/(W.heap.size<=b'/\¬aY b'):=λb b' hb=>(oM b b' hb).elim (lO.s b') λx=>x.1.elim;have ayC:ρ1.lax=false:=hle.lax.symm.trans h.lax;rcases hend with⟨hf,ant⟩|⟨a,a',m,m',hva,aBo,hc1,hl1⟩
  .exact⟨N,gs1,w1,sl1,t1,q1,aY,c1,ρ1,l1,hr1,ha1,hL1,hP1,⟨ayC,cE,hg1,hW1,agu,λb hb=>⟨(h.sh b hb).1,lO.sh b hb⟩,h.s0,lO.keep,lO.os,lO.sz⟩,hf,ant,hle,asK⟩
  .rw[hl1] at ha1;have hns:∀b b',ρ1.r b b'->¬aY b':=λb b' hb hs=>(agu b b' hb).elim (λx=>by have:=h.s0 _ x;have:=(h.sh _ hs).1;omega) λx=>x.2 hs;obtain⟨N2,gs2,w2,sl2,t2,q2,Wg,c2,ρ2,l2,lR2,hr2,ha2,hL2,hP2,hWg,aBp,avd,asL,ahP,hw2,hW2,ayD,hR2,hk2,eU,hz2,apu⟩:=apq (sl:=sl1) hF hF0 hva aBo hc1 cE hg1 hW1 ha1 hL1 hP1 lO.sh hns;have apr:ir (ah true) c2 c:=by
    rcases hor with e|e
    .rw[<-e];exact avd
    .exact sZ avd e
   have hS2:amd R W S0 (λb=>b=Wg\/aY b) ρ2 c2 w2:=by
    refine⟨asL.lax.symm.trans ayC,hw2,hg1.mono asL,hW2,λb b' hb=> ?_,λb hb=>⟨?_,aBp b hb⟩,h.s0,λb hb hn=> ?_,eU.trans lO.os,ap lO.sz hz2⟩
    .rcases ayD b b' hb with hb|⟨h1,h2⟩
     .rcases agu b b' hb with x|⟨x,y⟩
      .exact .inl x
      .refine .inr ⟨x,λe=>e.elim (λe=> ?_) y⟩;have:=(cE.lt hb).2;omega
     .exact .inr ⟨ap lO.sz h1,λe=>e.elim h2 λhs=>by have:=lO.sh _ hs;omega⟩
    .rcases hb with rfl|hb
     .exact ap lO.sz hWg
     .exact(h.sh b hb).1
    .rw[hk2 b (bd hb lO.sz) λhs=>by have:=(h.sh b hs).1;omega];exact lO.keep b hb hn
   obtain⟨N3,gs3,w3,sl3,t3,q3,aBq,c3,ρ3,l3,hr3,ha3,hL3,hP3,hS3,hf3,aj1,aBr,aBs⟩:=ih c2 apr hS2 ahP hR2 ha2 hL2 hP2;exact⟨N+(N2+N3),gs3,w3,sl3,t3,q3,aBq,c3,ρ3,l3,kR hr1 (kR hr2 hr3),ha3,hL3,hP3,hS3,hf3,aj1,(hle.trans asL).trans aBr,asK.trans hle (apu.trans asL aBs)⟩
end
section
open Go.Conc Go.ConcN Go.RowKit
open Go.ConcR (DC0)
mutual
inductive mW (V:Nat->Prop):Value->Prop
 |bool (b:Bool):mW V (.bool b)
 |int (k:IntKind) (n:Int):mW V (.int k n)
 |string (s:ByteArray):mW V (.string s)
 |nilPtr:mW V (.pointer none)
 |pointer {a:Addr} (h:V a.block):mW V (.pointer (some a))
 |oN (l c:Nat):mW V (.slice none l c)
 |slice {a:Addr} (h:V a.block) (l c:Nat):mW V (.slice (some a) l c)
 |nilFunc:mW V .nilFunc
 |iface (t:TypeId) {v:Value} (h:mW V v):mW V (.iface t v)
 |nilIface:mW V .nilIface
 |agg {c:Array Value} (h:mJ V c.toList):mW V (.agg c)
inductive mJ (V:Nat->Prop):List Value->Prop
 |nil:mJ V []
 |cons {v:Value} {l:List Value} (h:mW V v) (hl:mJ V l):mJ V (v::l)
end
mutual
def mW.mono{V U:Nat->Prop}(h:∀b,V b->U b):∀{v:Value},mW V v->mW U v
 |_,.bool b=>.bool b
 |_,.int k n=>.int k n
 |_,.string s=>.string s
 |_,.nilPtr=>.nilPtr
 |_,.pointer h'=>.pointer (h _ h')
 |_,.oN l c=>.oN l c
 |_,.slice h' l c=>.slice (h _ h') l c
 |_,.nilFunc=>.nilFunc
 |_,.iface t h'=>.iface t (mW.mono h h')
 |_,.nilIface=>.nilIface
 |_,.agg h'=>.agg (mJ.mono h h')
def mJ.mono{V U:Nat->Prop}(h:∀b,V b->U b):∀{l:List Value},mJ V l->mJ U l
 |_,.nil=>.nil
 |_,.cons h1 h2=>.cons (mW.mono h h1) (mJ.mono h h2)
end
section
variable {V:Nat->Prop} {ρ:Ren} (hV:∀b,V b->ρ.r b b)
include hV
theorem ame(h:V a.block):AR ρ a a:=by
 obtain⟨b,o,s⟩:=a;exact .mk (hV _ h) o s
theorem ave{b : Addr}(h:V a.block)(k:AR ρ a b):b=a:=by
 cases k with
 |mk c o s=>rw[ρ.fn c (hV _ h)]
mutual
theorem mW.self:∀{v:Value},mW V v->VR ρ v v
 |_,.bool b=>.bool b
 |_,.int k n=>.int k n
 |_,.string s=>.string s
 |_,.nilPtr=>.pointer .none
 |_,.pointer h=>.pointer (.some (ame hV h))
 |_,.oN l c=>.slice .none l c
 |_,.slice h l c=>.slice (.some (ame hV h)) l c
 |_,.nilFunc=>.nilFunc
 |_,.iface t h=>.iface t (mW.self h)
 |_,.nilIface=>.nilIface
 |_,.agg h=>.agg (mJ.self h)
theorem mJ.self:∀{l:List Value},mJ V l->bN ρ l l
 |_,.nil=>.nil
 |_,.cons h1 h2=>.cons (mW.self h1) (mJ.self h2)
end
mutual
def mW.fn:∀{v d:Value},mW V v->VR ρ v d->d=v
 |_,_,.bool b,k=>by cases k;rfl
 |_,_,.int _ n,k=>by cases k;rfl
 |_,_,.string s,k=>by cases k;rfl
 |_,_,.nilPtr,k=>by
  cases k with
  |pointer h=>cases h;rfl
 |_,_,.pointer h,k=>by
  cases k with
  |pointer a=>cases a with
   |some a=>rw[ave hV h a]
 |_,_,.oN l c,k=>by
  cases k with
  |slice h=>cases h;rfl
 |_,_,.slice h l c,k=>by
  cases k with
  |slice a=>cases a with
   |some a=>rw[ave hV h a]
 |_,_,.nilFunc,k=>by cases k;rfl
 |_,_,.iface t h,k=>by
  cases k with
  |iface _ a=>rw[mW.fn h a]
 |_,_,.nilIface,k=>by cases k;rfl
 |_,_,.agg (c:=c) h,k=>by
  cases k with
  |@agg _ f a=>
   have e:=mJ.fn h a;rw[uy.1 e]
def mJ.fn:∀{l a:List Value},mJ V l->bN ρ l a->a=l
 |_,_,.nil,k=>by cases k;rfl
 |_,_,.cons h1 h2,k=>by
  cases k with
  |cons b c=>rw[mW.fn h1 b,mJ.fn h2 c]
end
end
def eI.past{B : Nat}(h:eI aY X B t):Past (ShL aY) B t:=by
 refine⟨h.clean,λi a j _=> ?_,h.over,h.hears,h.seen⟩;obtain⟨op,c,b⟩:=touch_of j;by_cases d:ShL aY a.loc
 .obtain⟨k,f⟩:=h.quiet i op a c b d;cases e:a.kind with
  |plain=>exact absurd e k
  |atomic=>exact .inr ⟨d,rfl⟩
  |said=>
   have g:=f e;have:=knows_own (t:=t) c;rw[g] at this;exact .inl this
 .exact .inl (h.known i op a c b d)
def agv(W:World)(v:Value)(w':World):Prop:=v=.bool true/\Below W.heap.size W {w' with tape:=W.tape}
structure agw (W:World) (S0:au) (P:Nat->Nat->Prop) (WL:World):Prop where
 size:WL.heap.size=W.heap.size
 out:∀b,¬S0 b->WL.heap[b]?=W.heap[b]?
 row:∀b,S0 b->∃(c c':Array Value) (t:TypeId) (z:Nat×Nat),W.heap[b]?=some (.cells c t z)/\WL.heap[b]?=some (.cells c' t z)/\c'.size=c.size/\∀i v,P b i->c[i]?=some v->c'[i]?=some v
theorem aBt{W:World}{S0:au}{P:Nat->Nat->Prop}(hrow:∀b,S0 b->et W b)(hP:∀b i v,S0 b->P b i->W.cell? ⟨b,i,none⟩=some v->mW S0 v)(hN:gN<=W.heap.size) :
  ∃WL,agw W S0 P WL/\WL.ou=W.ou/\WR (Ren.rows S0 false (eQ W)) WL W/\∀b i u v,S0 b->WL.cell? ⟨b,i,none⟩=some u->W.cell? ⟨b,i,none⟩=some v->(u=v/\mW S0 v)\/adQ u\/∀(σ:Ren) v',σ.al=ahQ (eQ W)->VR σ u v'->v'=v:=by
 classical
 have hid:∀b,S0 b->(Ren.rows S0 false (eQ W)).r b b:=λb hb=>⟨rfl,hb⟩;have row:∀b,S0 b->∃(c:Array Value) (t:TypeId) (z:Nat×Nat) (xs:List Value),W.heap[b]?=some (.cells c t z)/\bN (Ren.rows S0 false (eQ W)) xs c.toList/\
   ∀(i:Nat) v,c.toList[i]?=some v->∃u,xs[i]?=some u/\((P b i->u=v)/\((u=v/\mW S0 v)\/adQ u\/∀(σ:Ren) v',σ.al=ahQ (eQ W)->VR σ u v'->v'=v)):=λb hb=>by
  obtain⟨c,t,z,hc⟩:=hrow b hb;obtain⟨xs,h1,h2⟩:=aj4 (ρ:=Ren.rows S0 false (eQ W)) (Q:=λi u v=>(P b i->u=v)/\((u=v/\mW S0 v)\/adQ u\/∀(σ:Ren) v',σ.al=ahQ (eQ W)->VR σ u v'->v'=v)) c.toList 0 λi v hi=>by
   rw[mc];have hi':c[i]?=some v:=by rw[<-du];exact hi
   by_cases hp:P b i
   .have iZ:=hP b i v hb hp (by unfold World.cell?;rw[hc];exact hi');exact⟨v,mW.self hid iZ,λ_=>rfl,.inl ⟨rfl,iZ⟩⟩
   .obtain⟨u,h1, -,h3⟩:=awt (ρ:=Ren.rows S0 false (eQ W)) rfl v λx hx=>ahR (afE hc hi' hx);exact⟨u,h1,λh=>absurd h hp,.inr h3⟩
  exact⟨c,t,z,xs,hc,h1,λi v hi=>by
   have:=h2 i v hi;simpa only[mc] using this⟩
 let F:∀b,S0 b->Obj:=λb hb=>.cells ⟨(row b hb).choose_spec.choose_spec.choose_spec.choose⟩ (row b hb).choose_spec.choose (row b hb).choose_spec.choose_spec.choose
 have hF:∀b (hb:S0 b),∃(c:Array Value) (t:TypeId) (z:Nat×Nat) (xs:List Value),W.heap[b]?=some (.cells c t z)/\bN (Ren.rows S0 false (eQ W)) xs c.toList/\(∀(i:Nat) v,c.toList[i]?=some v->∃u,xs[i]?=some u/\((P b i->u=v)/\((u=v/\mW S0 v)\/adQ u\/∀(σ:Ren) v',σ.al=ahQ (eQ W)->VR σ u v'->v'=v)))/\F b hb=.cells ⟨xs⟩ t z:=λb hb=>
  let h:=(row b hb).choose_spec.choose_spec.choose_spec.choose_spec
  ⟨_,_,_,_,h.1,h.2.1,h.2.2,rfl⟩
 obtain⟨heap,hs,h1,h2⟩:=avf W F;have aaA:∀b,S0 b->∃(c:Array Value) (t:TypeId) (z:Nat×Nat) (xs:List Value),W.heap[b]?=some (.cells c t z)/\heap[b]?=some (.cells ⟨xs⟩ t z)/\bN (Ren.rows S0 false (eQ W)) xs c.toList/\(∀(i:Nat) v,c.toList[i]?=some v->∃u,xs[i]?=some u/\((P b i->u=v)/\((u=v/\mW S0 v)\/adQ u\/∀(σ:Ren) v',σ.al=ahQ (eQ W)->VR σ u v'->v'=v))):=λb hb=>by
  obtain⟨c,t,z,xs,k1,k2,k3,k4⟩:=hF b hb;exact⟨c,t,z,xs,k1,(h1 b hb (dl.1 k1).1).trans (jn some k4),k2,k3⟩
 refine⟨{W with heap},⟨hs,h2,λb hb=> ?_⟩,rfl,⟨λ{b b'} hb=> ?_,rfl,by show gN<=heap.size;omega,hN⟩,λb i u v hb hu hv=> ?_⟩
 .obtain⟨c,t,z,xs,k1,k2,k3,k4⟩:=aaA b hb;refine⟨c,⟨xs⟩,t,z,k1,k2,by have:=k3.length;simpa using this,λi v hp hv=> ?_⟩;obtain⟨u,q1,q2, -⟩:=k4 i v (by rw[du];exact hv);have q1':(⟨xs⟩:Array Value)[i]?=some u:=by simpa using q1
  rw[q1',q2 hp]
 .obtain⟨rfl,hb⟩:=hb;obtain⟨c,t,z,xs,k1,k2,k3, -⟩:=aaA b hb;exact⟨_,_,k2,k1,.cells k3 t (.inl rfl)⟩
 .obtain⟨c,t,z,xs,k1,k2,k3,k4⟩:=aaA b hb;have hu':(⟨xs⟩:Array Value)[i]?=some u:=by
   have:({W with heap}:World).heap[b]?=some (.cells ⟨xs⟩ t z):=k2;unfold World.cell? at hu;rw[this] at hu;exact hu
  have hv':c[i]?=some v:=by
   unfold World.cell? at hv;rw[k1] at hv;exact hv
  obtain⟨u',q1, -,q2⟩:=k4 i v (by rw[du];exact hv');have:u'=u:=by
   have q1':(⟨xs⟩:Array Value)[i]?=some u':=by simpa using q1
   rw[q1'] at hu';exact dk hu'
  subst this;exact q2
theorem apv {fv:Int->List iD->Int->ByteArray×Bool} (hF:eF fv) (hF0:∀key nm,fv key [] nm=(⟨#[]⟩,false)) {W:World} {S0:au} {P:Nat->Nat->Prop} {f:FuncId} {fn:Func} {k:Tmp} {args:Array Value}
  (hrow:∀b,S0 b->et W b) (hP:∀b i v,S0 b->P b i->W.cell? ⟨b,i,none⟩=some v->mW S0 v) (hgl:∀g∈gL,S0 g) (hgN:gN<=W.heap.size) (aak:mJ S0 args.toList)
  (hf:gH f=false) (hfn:prog.funcs[f]?=some fn) (hq:(ah true).funcs[f]?=some fn) (hres:fn.results=#[.tmp k]) (hni:prog.inits.idxOf? f=none)
  (fe:∀WL:World,agw W S0 P WL->∀t:Tape,Calls (ah true) f args (WL.dM t) λe w'=>∃v,e=.returned v/\(v=.bool true/\∀b,b<W.heap.size->w'.heap[b]?=WL.heap[b]?)) :
  ∃N last o w' t',runNT prog (N+1) (solo (G (Frame.enter prog f args .normal) []) W) #[]=(.ended o w',t')/\runN prog N (solo (G (Frame.enter prog f args .normal) []) W)=.next last/\step prog last=.ended o w'/\Go.Conc.Good prog (agv W) last o w' t':=by
 obtain⟨WL,avg,hou,hwr,aBu⟩:=aBt hrow hP hgN;have hid:∀b,S0 b->(Ren.rows S0 false (eQ W)).r b b:=λb hb=>⟨rfl,hb⟩;have hs0:∀b,S0 b->b<W.heap.size:=λb hb=>let⟨_,_,_,h⟩:=hrow b hb;jg h
 have hW:jP (ah true) (λl w'=>∃fr v,l=[fr]/\fr.fn=f/\fr.leaving (ah true) w' (.returned v)/\(v=.bool true/\∀b,b<W.heap.size->w'.heap[b]?=WL.heap[b]?)) ⟨[Frame.enter (ah true) f args .normal],WL,λ_ _=>0⟩:=
  aal (Post:=λv w'=>v=.bool true/\∀b,b<W.heap.size->w'.heap[b]?=WL.heap[b]?) λt _=>fe WL avg t
 have hst:iF (ah true) (Ren.rows S0 false (eQ W)) [Frame.enter (ah true) f args .normal] [Frame.enter prog f args .normal]:=.one (agx (lN true) hf (mJ.self hid aak)) acZ;have hS:amd _ W S0 (λ_=>False) (Ren.rows S0 false (eQ W)) ⟨[Frame.enter (ah true) f args .normal],WL,λ_ _=>0⟩ W:=⟨rfl,hwr,λg hg=>hid g (hgl g hg),hW,λb b' hb=>.inl (hb.1▸hb.2),λ_ h=>h.elim,hs0,λ_ _ _=>rfl,rfl,am _⟩;obtain⟨N1,gs1,w1,sl1,t1,q1,aY,c1,ρ1,l1,hr1,ha1,hL1,hP1,hS1,hf1,ant,aef,asK⟩:=aps hF hF0 hW.acc.transGen (gs:=#[G (Frame.enter prog f args .normal) []]) (sl:=none) (t:=#[]) (q:=λ_=>0) hS hst (.inl rfl) rfl (leavers_one _ _) (eI.nil _);obtain⟨fr,v,hl,mf,hlv,hv,hb⟩:=hS1.will.fin hf1 acp c1.t λ_ _ _=>rfl;obtain⟨x,xs,y,ys, -,hy⟩:=ant.ne';have e4:=ant.lone hl hy;subst e4 hy;rw[hl] at ant;have ayE:=ant.head;obtain⟨-, -, -,fn1,asM,hrv⟩:=hlv;rw[mf,hq] at asM;cases asM;have hv1:v=fr.tmps.getD k undef:=by
  have e:(results fn fr.tmps).run (ah true) (c1.w.dM c1.t)=.ok (fr.tmps.getD k undef) (c1.w.dM c1.t):=by simp[results,hres]
  rw[e] at hrv;cases hrv;rfl
 have hy1:y.tmps.getD k undef=.bool true:=by
  rw[hv] at hv1;have hk:fr.tmps[k]?=some (.bool true):=by
   rw[gE] at hv1;cases h:fr.tmps[k]? with
   |none=>rw[h] at hv1;cases hv1
   |some u=>rw[h] at hv1;exact jn some hv1.symm
  obtain⟨u,hu,hr⟩:=bN.get ayE.tmps (i:=k) (v:=.bool true) (by rw[du];exact hk);rw[du] at hu;rw[amf hu];cases hr;rfl
 have ayF:∀w1:World,stepG prog true (Gl [y] []) w1=.ended (.done (.bool true)) w1 (seen prog y.fn #[]):=λw1=>by
  have hr:(results fn y.tmps).runT prog w1 #[]=(.ok (.bool true) w1,#[]):=by
   have e:(results fn y.tmps).runT prog w1 #[]=(.ok (y.tmps.getD k undef) w1,#[]):=by simp[results,hres]
   rw[e,hy1]
  obtain⟨g0,hg0,gm,gd,gk⟩:=hf1;rw[hl] at hg0;cases hg0;obtain⟨f',tm',fF,d',md',kd',r'⟩:=y;obtain⟨f0,tm0,aDk,d0,md0,kd0,r0⟩:=fr;obtain⟨h1,h2,h3,h4,h5,h6,h7⟩:=ayE;dsimp only at h1 h2 h3 h4 h5 h6 h7 gm gd gk mf hr;subst h1 gm gd gk mf;obtain rfl:md'=.returning:=by
   rcases h5 with h5|h5
   .cases h5.1
   .exact h5.2
  obtain⟨-,rfl⟩:=h6;obtain rfl:d'=[]:=by cases h4;rfl
  have e:doReturn prog true ⟨f0,tm',fF,[],.returning,.normal,r'⟩ [] none (.bool true) w1=.ended (.done (.bool true)) w1:=by
   unfold doReturn;dsimp only;rw[hni];rfl
  simp only[Gl,stepG,unwind,hfn,hr,ru,e];simp[GStep.after]
 have hblk:∀b,b<W.heap.size->w1.heap[b]?=W.heap[b]?:=λb hbl=>by
  by_cases h0:S0 b
  .have hr0:=hid b h0;have hr:=aef.r hr0;obtain⟨c,c',t,z,hW1,hWL,hsz, -⟩:=avg.row b h0;obtain⟨o,o',k1,k2,k3⟩:=hS1.wr.obj hr;have e:c1.w.heap[b]?=WL.heap[b]?:=hb b hbl;rw[e,hWL] at k1;cases k1;cases k3 with
   |@cells _ c'' k4 _ _ z' hz=>
    have hz':z=z':=by
     rcases hz with e|⟨e,_⟩
     .exact e
     .rw[hS1.lax] at e;cases e
    have hlen:c''.size=c'.size:=by have:=k4.length;simpa using this.symm
    have hc:c''=c:=by
     apply sD;intro i;rcases pi i c.size with hi|hi
     .have hu:c'[i]?=some c'[i]:=fi (by omega);have hv:c[i]?=some c[i]:=fi hi;have hv2:c''[i]?=some c''[i]:=fi (by omega);have hrel:=dh.at k4 hu hv2;have cell:∀{w:World} {a:Array Value},w.heap[b]?=some (.cells a t z)->w.cell? ⟨b,i,none⟩=a[i]?:=λh=>by unfold World.cell?;rw[h];rfl
      rcases aBu b i _ _ h0 ((cell hWL).trans hu) ((cell hW1).trans hv) with⟨e1,e2⟩|h1|h1
      .rw[e1] at hrel;rw[hv2,hv,mW.fn (V:=S0) (λb hb=>aef.r (hid b hb)) e2 hrel]
      .have hp:=(asK b b hr0 ⟨c',t,z,hWL⟩).2 i _ h1 ((cell (e.trans hWL)).trans hu);have h2:=hp.2;rw[cell hW1] at h2;subst hz';rw[cell k2] at h2;exact h2
      .rw[hv2,hv,h1 ρ1 _ aef.al.symm hrel]
     .rw[qd (by omega),qd (by omega)]
    rw[k2,hW1,hc,hz']
  .exact hS1.keep b hbl h0
 have hend:∀w2,Go.Conc.AtRel w1 w2->AtEnd prog (ShL aY) w1.heap.size (agv W) (Gl [y] []) w2:=λw2 ⟨d,e⟩=>by
  subst e;exact⟨rfl,_,_,ayF _,λe he=>(abw e he).elim,rfl,ayg hS1.os,rfl,awe hS1.os,hS1.sz,hblk⟩
 obtain⟨N2,last,o,w2,t2,hr2,hn2,hs2,hg2⟩:=beside_ends (D:=DC0) (Shun:=ShL aY) (B:=w1.heap.size) (Post:=agv W) (sl:=sl1) (n:=0) (λw w' es h e he=>by rw[h.2] at he;simp at he) ha1 hL1 hP1.past (qB hend);refine⟨N1+N2,last,o,w2,t2, ?_, ?_,hs2,hg2⟩
 .rw[uV,runNT_add,show runNT prog N1 (solo (G (Frame.enter prog f args .normal) []) W) #[]=_ from hr1];exact hr2
 .have hn1:runN prog N1 (solo (G (Frame.enter prog f args .normal) []) W)=.next (crowd gs1 w1 sl1):=by
   rw[<-runNT_fst _ _ _ #[],show runNT prog N1 (solo (G (Frame.enter prog f args .normal) []) W) #[]=_ from hr1]
  rw[runN_add,hn1];exact hn2
end
section
open Go Go.Conc Go.RowKit Go.ChangeShapes Go.WideShapes Go.ChangeAt
def anu:decide (prog.globals.size<(begin prog (λ_ _=>0) default).world.heap.size)=true:=by kernel_rfl
def ayG(h:W.ShapedOpen prog):gN<=W.heap.size:=by
 have b:=sM anu;obtain⟨o,c,a, -⟩:=h.2 _ (am _) b;have:=(dl.1 a).1;unfold gN;omega
def avh(k:FuncId)(W:World)(args:Array Value):Prop:=
 ∃(a:au) (P:Nat->Nat->Prop),(∀b,a b->et W b)/\(∀b i v,a b->P b i->W.cell? ⟨b,i,none⟩=some v->mW a v)/\(∀g∈gL,a g)/\mJ a args.toList/\
  ∀c:World,agw W a P c->∀t:Tape,Calls (ah true) k args (c.dM t) λe d=>∃v,e=.returned v/\(v=.bool true/\∀b,b<W.heap.size->d.heap[b]?=c.heap[b]?)
def wJ (hF:eF Z) (D:∀T nm,Z T [] nm=(⟨#[]⟩,false)) {os:Os} {k:FuncId} {f:Func} {kt:Tmp} {s:ChangeSpec} {b:Bool} {tb:TypeId} {H:Type} {enc:TypeId×Value->H} {X:World->Array Value->Prop}
  (hX:∀(w w':World) (args:Array Value),w.heap=w'.heap->X w args->X w' args)
  (E:ownKnob prog.godebug=none) (c:os.Started) (M:prog.inits.idxOf? k=none) (u:prog.funcs[k]?=some f) (hq:(ah true).funcs[k]?=some f) (I:gH k=false) (S:f.results=#[.tmp kt])
  (hl:laidOutB prog=true) (hr:(f.params.toList.all λt=>prog.readableRec t&&decide (t<prog.types.size))=true) (r:f.resultTypes=#[tb]) (O:prog.underlying tb=some .bool) (V:varsRowed prog s.vars=true)
  (L:∀l n:List (DataW H),l.length=f.params.toList.length->n.length=s.vars.length->s.fn H (l++n)={results:=[.lit (.bool true)],args:=l,vars:=n})
  (d:∃(w:World) (a:Tape) (i:Input),w.os=os/\(w.forCall a i).Shaped prog/\i.vars=[]/\Input.okWide prog (w.forCall a i) .any w.heap.size k i/\
   ((s.pre enc prog f [] b (w.forCall a i).memory i.args/\X (w.forCall a i).memory i.args)/\sizedMet enc prog f (OpenSpec.ofChange s) b (w.forCall a i).memory i.args)/\Assume.holds {} prog (lone (Frame.enter prog k i.args .normal) [] (w.forCall a i)))
  (z:∀(W:World) (base:Nat) (args:Array Value) (l:List (DataW H)) (p:List MemPlace),
   (∀(j:Nat) t v,f.params[j]?=some t->args[j]?=some v->Value.okWide prog W .any base t v)->
   DataW.TrodAll enc prog W 0 (λ_=>true) true f.params.toList args.toList l p->(∀x∈p,x.block<W.heap.size)->X W args->avh k W args) :
  ReturnsInLeavingWide {} Tryz.checked os k .any (λw args=>(s.pre enc prog f [] b w args/\X w args)/\sizedMet enc prog f (OpenSpec.ofChange s) b w args) (s.post enc prog f b true false false):=by
 refine returnsInLeavingWide_of_good E c d ?_;intro w a i _ pL _ J K _;obtain⟨_,_,_,Y,F,_,_,_,_,y⟩:=J;have e:Y=f:=dk (F.symm.trans u);subst e;obtain⟨⟨⟨l,n,g,hw,hc⟩,G⟩,hz⟩:=K;have m:=DataW.Whole.of_heap (w':=w.forCall a i) (by rfl) hw;have A:X (w.forCall a i) i.args:=hX _ _ _ (by rfl) G;have Q:∀p∈g,p.block<(w.forCall a i).heap.size:=λp U=>by simpa using m.lt p U
 have B:∀t∈Y.params.toList,prog.readableRec t=true/\t<prog.types.size:=λt ht=>by
  have:=lE.1 hr t ht;simpa using this
 obtain⟨p,q,hA,hV,R,a1,a0⟩:=id m;obtain⟨S0,P,h1,h2,h3,h4,h5⟩:=z (w.forCall a i) w.heap.size i.args l p y hA (λx G=>Q x (by rw[R];simp[G])) A;obtain⟨N,last,o,w',t',g1,g2,g3,g4⟩:=apv hF D h1 h2 h3 (ayG pL) h4 I u hq S M h5;refine⟨N,last,o,w',t',g1,g2,g3,g4.mono λv hv=> ?_⟩;obtain⟨rfl,C⟩:=hv;have U:=anv hl B r O V (L l n (ac0 hA) (abx hV)) m C;have C:=ChangeSpec.post_blind U;exact C
end
section
open Go.RowKit Go.ChangeAt
def ayH:∀g∈gL,g=1\/g=2:=by
 have h:(gL.all λg=>g ==1||g ==2)=true:=by unfold gL;kernel_rfl
 intro g a;have:=lE.1 h g a;simpa using this
def ahS{P:Program}{w:World}{n:String}{d:DataW Unit}:∀{l:List (String×DataW Unit)} {f:List MemPlace},DataW.LaidVars P w l f->(n,d)∈l->
  ∃g t b a p,P.globalNamed n=some g/\(P.globals[g]?).map (·.type)=some t/\w.var? P n=some b/\DataW.trod (λ_=>()) P w 0 (λ_=>true) false a t b.toList=some (d,p)
 |[],_,_,h=>by cases h
 |(m,e)::l,f,h,c=>by
  obtain⟨g,t,b,a,p,q,r,i,k,o,s, -⟩:=h;rcases oE.1 c with j|c
  .cases j;exact⟨g,t,b,a,p,r,i,k,o⟩
  .exact ahS s c
def apx{t:TypeId}{d:DataW Unit}{p:List MemPlace}(b:∃m,P.underlying t=some (.interface m)):DataW.trod (λ_=>()) P w 0 (λ_=>true) false X t []≠some (d,p):=by
 obtain⟨m,a⟩:=b;cases X with
 |zero=>simp[DataW.trod]
 |succ f=>simp[DataW.trod,a]
def asN{n:String}{cs:Array Value}{g:Nat}(a:P.globalNamed n=some g)(h:w.var? P n=some cs):∃t z,w.heap[g]?=some (.cells cs t z):=by
 unfold World.var? at h;rw[a] at h;simp only[qG] at h;split at h
 .rename_i c t z b;cases h;exact⟨t,z,b⟩
 .cases h
def asO:∃m,prog.underlying 164=some (.interface m):=⟨_,underlying164⟩
def asP:prog.globalNamed "loop.example/depositary/impl.errKey" =some 1:=by kernel_rfl
def anw:prog.globalNamed "loop.example/depositary/impl.errPiece" =some 2:=by kernel_rfl
def apy:(prog.globals[1]?).map (·.type)=some 164:=by kernel_rfl
def aj5:(prog.globals[2]?).map (·.type)=some 164:=by kernel_rfl
def ahT:(laidL.all λx=>x.2.handleName?.isNone)=true:=by kernel_rfl
def apz(j:laidMetH prog laidL W):(∀g∈gL,et W g)/\Glo W:=by
 rw[vu _ _ _ ahT] at j;obtain⟨A,w, -, -⟩:=j;have one:∀{n:String} {d:DataW Unit} {a:Nat},(n,d)∈laidL->prog.globalNamed n=some a->(prog.globals[a]?).map (·.type)=some 164->et W a/\∃x,W.cell? ⟨a,0,none⟩=some x:=λ{n d a} v i y=>by
  obtain⟨g,t,b,k,p,q,e,s,o⟩:=ahS w v;rw[i] at q;cases q;rw[y] at e;cases e;obtain⟨t,z,f⟩:=asN i s;refine⟨⟨b,t,z,f⟩, ?_⟩;cases r:b.toList with
  |nil=>rw[r] at o;exact absurd o (apx asO)
  |cons x l=>
   refine⟨x, ?_⟩;unfold World.cell?;rw[f];show b[0]?=some x;rw[<-du,r];rfl
 have m:=one (n:= "loop.example/depositary/impl.errKey") (d:=Rows.laid_loop_example_depositary_impl_errKey) (by simp[laidL]) asP apy;have c:=one (n:= "loop.example/depositary/impl.errPiece") (d:=Rows.laid_loop_example_depositary_impl_errPiece) (by simp[laidL]) anw aj5;refine⟨λg u=> ?_,m.2,c.2⟩;rcases ayH g u with rfl|rfl
 .exact m.1
 .exact c.1
def apA(W:World)(b i:Nat):Prop:=∀v,W.cell? ⟨b,i,none⟩=some v->mW (et W) v
def agw.cell(h:agw W (et W) (apA W) V){b i:Nat}(a:W.cell? ⟨b,i,none⟩=some v)(k:mW (et W) v):V.cell? ⟨b,i,none⟩=some v:=by
 have j:apA W b i:=λu e=>by rw[a] at e;cases e;exact k
 unfold World.cell? at a ⊢;dsimp only at a ⊢;cases d:W.heap[b]? with
 |none=>rw[d] at a;simp at a
 |some o=>
  cases o with
  |cells c t z=>
   obtain⟨r,m,n,q,f,g,p,l⟩:=h.row b ⟨c,t,z,d⟩;rw[d] at f a;cases f;rw[g];exact l i v j a
  |_=>rw[d] at a;simp at a
def agw.glo(h:agw W (et W) (apA W) V)(a:∀g∈gL,et W g)(b:Glo W)(j:1∈gL)(e:2∈gL):Glo V:=by
 have one:∀{g:Nat},et W g->(∃x,W.cell? ⟨g,0,none⟩=some x)->∃x,V.cell? ⟨g,0,none⟩=some x:=λ{g} a ⟨x,hx⟩=>by
  obtain⟨c,f,t,z,d,i,k, -⟩:=h.row g a;unfold World.cell? at hx ⊢;dsimp only at hx ⊢;rw[d] at hx;rw[i];have:0<c.size:=(dl.1 (show c[0]?=some x from hx)).1;exact⟨f[0]'(by omega),fi (by omega)⟩
 exact⟨one (a _ j) b.key,one (a _ e) b.piece⟩
def agw.bytes(h:agw W (et W) (apA W) V)(s:bE jC 1 W 0 W.heap.size l [v])(t:Tape):bE jC 1 (V.dM t) 0 (V.dM t).heap.size l [v]:=by
 obtain⟨A,c,C,o,g,y⟩:=s;refine⟨A,c,C,o,g,λr=> ?_⟩;obtain⟨b,d,q,f,B,k⟩:=y r;refine⟨b,d,q,f,by show b<V.heap.size;rw[h.size];exact B,λi x z=> ?_⟩;obtain⟨w,n,e,p⟩:=k i x z;refine⟨w,n,e,λj u a=> ?_⟩;have D:=p j u a;have m:mW (et W) u:=by
  obtain⟨rfl, -⟩:=e;have:j=0:=by have:=aC a;simp at this;omega
  subst this;simp at a;subst a;exact .int _ _
 exact h.cell D m
def asQ(b:Value.okWide prog W .any X 22 v):mW (et W) v:=by
 have d:=underlying22;unfold Value.okWide at b;rw[d] at b;dsimp only at b;unfold Cell.okWide at b;rw[d] at b;have b:Cell.ok prog W .any X 22 v:=b;unfold Cell.ok at b;rw[d] at b;cases v with
 |slice A n c=>
  cases A with
  |none=>exact .oN _ _
  |some a=>
   obtain⟨-, -, -, -,f,cells,e, -⟩:=b;refine .slice ?_ _ _;unfold World.shape? at e;split at e
   .rename_i g t z i;exact⟨g,t,z,i⟩
   .cases e
 |_=>exact b.elim
def xt {k:FuncId} (n:laidMetH prog laidL W)   (q:Value.okWide prog W .any X 22 v) (h:bE jC 1 W 0 W.heap.size l [v])
  (r:∀w:World,Glo w->bE jC 1 w 0 w.heap.size l [v]->Calls (ah true) k #[v] w λe f=>e=.returned (.bool true)/\Below w.heap.size w f):avh k W #[v]:=by
 obtain⟨g,p⟩:=apz n;refine⟨et W,apA W,λ_ h=>h,λb i v _ o c=>o v c,g,.cons (asQ q) .nil,λj d t=> ?_⟩;refine(r (j.dM t) ?_ (d.bytes h t)).mono ?_
 .have:=d.glo g p (agy apB) (agy ahU);exact⟨this.key,this.piece⟩
 .rintro e f ⟨rfl,m⟩;exact⟨_,rfl,rfl,λb a=>m.block b (by show b<j.heap.size;rw[d.size];exact a)⟩
end
section
open Go.RowKit
def xq:Tryz.pinned.checked.prog.mainIs=some (true, "6452ef8197e069b0b5d9b3b0a595721ca6d157239b3426629011ff33b0f7bc68".toList):=by kernel_rfl
def xU:false=Tryz.pinned.checked.prog.looks []:=by kernel_rfl
end
end Go.Proofs.YtbeafkpaghapeaaGreatDoor