/- A part. -/
import Derived.Test.YtokgbpkbaoeeoaaGreatDoorG8
import Derived.Conc.WgGenN3
import Derived.Orders
import Derived.Conc.AppendWalk
set_option maxRecDepth 100000
set_option maxHeartbeats 8000000
set_option linter.all false
open Go Go.Conc Go.ConcN Go.RowKit Go.Proofs.Tryz Go.Proofs.YtokgbpkbaoeeoaaGreatDoor
variable {Rr S:au} {V b c i j m n t:Nat} {d:Tmp} {key:Int} {ρ:Ren} {main:Bool} {o:Oper} {U w w':World} {cfr fr:Frame} {u v:Value} {f:FuncId} {ty:TypeId} {P:Program} {l:List iY} {y:Operand} {Rg:Nat→Prop} {rest:List Nat} {g:Goroutine} {k:List Item} {z:Nat × Nat} {W:Array Oper} {af:Array Edge} {cs xs:List Frame} {listed:Array Bool} {X T a x:Array Value} {A:Option Addr} {es:Array Event} {e:Operand→Value} {gd:Option (Nat × Bool)} {Y St:Goroutine→World→Prop} {R:List Frame→World→Prop} {Stop:au→Goroutine→World→Prop} {Z:Int→List iY→Int→ByteArray × Bool}
namespace Go.Proofs.YtokgbpkbaoeeoaaGreatDoor
def fb:=@_root_.Go.Conc.stepG_region_end
def lw:=@_root_.Go.Conc.stepG_seq
def rQ:=@_root_.Go.Conc.stepG_skip
def sL:=@_root_.Go.Conc.stepG_ret'
def um:=@_root_.Array.getElem?_replicate
def uU:=@_root_.Go.Conc.stepG_markAt
def uV:=@_root_.Go.Proofs.Tryz.zeroValue3
def vA:=@_root_.Go.Conc.stepG_mark0
def vW:=@_root_.Go.Proofs.Tryz.sizeOf3
def wh:=@_root_.Go.Proofs.Tryz.zeroValue4
def wi:=@_root_.Go.Proofs.Tryz.zeroValue0
def wm:=@_root_.Go.Proofs.Tryz.isAgg3
def wI:=@_root_.Bool.and_assoc
def wR:=@_root_.Bool.or_eq_false_iff
def wV:=@_root_.Array.getElem?_ofFn
section
open Go.Conc Go.ConcN Go.RowKit
def att{ρ:Ren}:∀(x y:List Value),x.length=y.length->(∀(i:Nat) u v,x[i]?=some u->y[i]?=some v->VR ρ u v)->bW ρ x y
 |[],[],_,_=>.nil
 |[],_::_,h,_=>by cases h
 |_::_,[],h,_=>by cases h
 |a::x,b::y,hs,h=>.cons (h 0 a b rfl rfl) (att x y (by simpa using hs) λi u v c d=>h (i+1) u v (by simpa using c) (by simpa using d))
def am8{y : Array Value}(b:x.size=y.size)(h:∀(i:Nat) u v,x[i]?=some u->y[i]?=some v->VR ρ u v):dv ρ x y:=
 att _ _ (by simpa using b) λi u v a c=>h i u v (by rw[<-fa];exact a) (by rw[<-fa];exact c)
def dv.at{y : Array Value}(h:dv ρ x y)(d:x[i]?=some u)(b:y[i]?=some v):VR ρ u v:=by
 obtain⟨e,a,c⟩:=bW.get h (i:=i) (v:=u) (by rw[fa];exact d);rw[fa,b] at a;cases a;exact c
abbrev T0F(a:Array Value):Array Value:=a++Array.replicate (45-a.size) undef
def awj :Frame.enter (ah true) cE X .normal=FQ cE (T0F X) [.code kR]:=by
 have a:(ah true).funcs[cE]?=some (qFA true):=ac3 true;unfold Frame.enter;rw[a];rfl
def anv(h:T[i]?=some v):T.getD i undef=v:=by
 rw[iS,h];rfl
def eP(w:World)(b:Nat):Prop:=∃c t z,w.heap[b]?=some (.cells c t z)
def mr{A:Addr}(a:w.cell? A=some v):eP w A.block:=by
 unfold World.cell? at a;cases b:w.heap[A.block]? with
 |none=>rw[b] at a;simp at a
 |some o=>
  rw[b] at a;cases o with
  |cells c t z=>exact⟨c,t,z,b⟩
  |_=>simp at a
def azx:(gL.all λg=>g ==1||g ==2)=true:=by unfold gL;kernel_rfl
structure aCe (ρ:Ren) (a':Array Value) (w:World) (key:Int) (A:Option Addr) (n c:Nat) (l:List iY) (A2:Option Addr) (n2 c2:Nat) (dK:List Int):Prop where
 s0:(T0F a').getD 0 undef=.int .i64 key
 k1:1<=key
 k2:key<=99
 s1:(T0F a').getD 1 undef=.slice A n c
 nc:n<=c
 cm:(c:Int)<=9223372036854775807
 ln:l.length=n
 rd:RdP w A 0 l
 rg:∀i x,l[i]?=some x->∀a b m e,A=some a->w.cell? ((a.add (i*2)).add 1)=some (.slice (some b) m e)->∃y,ρ.r y b.block
 s2:(T0F a').getD 2 undef=.slice A2 n2 c2
 n2m:(n2:Int)<=2147483647
 n2c:n2<=c2
 c2m:(c2:Int)<=9223372036854775807
 nn:dK.length=n2
 nm:∀i nm,dK[i]?=some nm->ajO w A2 i nm
 gl:∀g∈gL,eP w g
 al:∀a,A=some a->∃b,ρ.r b a.block
 al2:∀a,A2=some a->∃b,ρ.r b a.block
def aaV(t:Nat):Bool:=t ==12||t ==14||decide (29<=t)
def am9{l:List Nat}(h:(l.all λx=>decide (x<29))=true)(c:29<=t):l.contains t=false:=by
 cases b:l.contains t with
 |false=>rfl
 |true=>
  have a:t∈l:=by simpa using b
  have:=lE.1 h t a;simp only[qT] at this;omega
def atu(h:aaV t=true):mH.contains t=false/\cQ.contains t=false/\(8::17::cQ).contains t=false/\t≠8/\t≠17:=by
 simp only[aaV,rm,nF,qT] at h;rcases h with(rfl|rfl)|h
 .exact⟨rfl,rfl,rfl,by decide,by decide⟩
 .exact⟨rfl,rfl,rfl,by decide,by decide⟩
 .exact⟨am9 rfl h,am9 rfl h,am9 rfl h,by omega,by omega⟩
def vT(h:i<T.size):T[i]?=some (T.getD i undef):=by
 rw[iS,gn h];rfl
def aoo:∀{l:List Value} {i:Nat} {v:Value},l[i]?=some v->mxV v<=mxL l
 |[],i,v,h=>by simp at h
 |x::l,0,v,h=>by simp at h;subst h;simp only[mxL];omega
 |x::l,i+1,v,h=>by
  have:=aoo (l:=l) (i:=i) (v:=v) (by simpa using h);simp only[mxL];omega
def aop(h:(T0F X)[i]?=some v):mxV v<=mxL X.toList:=by
 unfold T0F at h;rw[sW] at h;split at h
 .exact aoo (i:=i) (by rw[fa];exact h)
 .rw[um] at h;split at h
  .cases h;have:mxV undef=0:=by
    show mxV (.tuple ⟨[]⟩)=0;simp only[mxV,mxL]
   omega
  .cases h
def ah0.cells{B:Option Addr}{x:Int×ByteArray}(h:ah0 w B i x)(k:∀A,w.cell? A=w'.cell? A):ah0 w' B i x:=by
 obtain⟨⟨a,d,b,f⟩,c,e⟩:=h;exact⟨⟨a,d,(k _).symm.trans b,(k _).symm.trans f⟩,c,e⟩
def RdP.cells(h:RdP w A j l)(k:∀A,w.cell? A=w'.cell? A):RdP w' A j l:=λi x g=>by
 obtain⟨⟨a,B,c,o,d,f,n,q,m,p⟩,b⟩:=h i x g;exact⟨⟨a,B,c,o,(k _).symm.trans d,(k _).symm.trans f,n,q,m,λi y e=>(p i y e).cells k⟩,b⟩
def atv(w:World)(n:Nat):World:={w with heap:=w.heap++Array.replicate n (.deferred none)}
def akB(w:World)(n:Nat)(h:b<w.heap.size):(atv w n).heap[b]?=w.heap[b]?:=by
 show(w.heap++_)[b]?=_;rw[sd h]
def aqm(w:World)(n:Nat)(A:Addr):(atv w n).cell? A=w.cell? A:=by
 by_cases h:A.block<w.heap.size
 .exact gQ (akB w n h)
 .unfold World.cell?;rw[qm (by omega:w.heap.size<=A.block)];have:(atv w n).heap[A.block]?=none\/(atv w n).heap[A.block]?=some (.deferred none):=by
   show(w.heap++_)[A.block]?=none\/(w.heap++_)[A.block]?=_;rw[sW,be (by omega),um];split
   .exact .inr rfl
   .exact .inl rfl
  rcases this with e|e<;>rw[e]
def aoO (hF:eT Z) {c:Cfg}  {m m':List Frame} (c8:dv ρ a X) (a8:ja (ah true) ρ m m') (hc:c.l=Frame.enter (ah true) cE a .normal::m)
  (F:WR ρ c.w w') (hg:GlR ρ) (hW:kN (ah true) R c) :
  ∃M A n cc l A2 E c2 dK c1,aCe ρ X w' M A n cc l A2 E c2 dK/\iN (ah true) c1 c/\kN (ah true) R c1/\(∀b K,ρ.r b K->Rw c.w b->Rw c1.w b/\∀i u,aen u->c1.w.cell? ⟨b,i,none⟩=some u->c.w.cell? ⟨b,i,none⟩=some u)/\
   ∀(wr:World) (Q V:Nat) (cs:Array Value),(∀b K,ρ.r b K->wr.heap[K]?=w'.heap[K]?)->wr.ou=w'.ou->w'.heap.size<=wr.heap.size->w'.heap.size<=Q->w'.heap.size<=V->Q≠V->wr.heap[Q]?=some (.cells cs 141 (0,0))->cs.size=2*E->
    (∀i nm,dK[i]?=some nm->cs[2*i]?=some (.string (Z M l nm).1)/\cs[2*i+1]?=some (.bool (Z M l nm).2))->wr.heap[V]?=some (.cells #[.slice (some ⟨Q,0,none⟩) E E] 130 (0,0))->
    ∃p T2,ρ.Le p/\ja (ah true) p c1.l (FQ cE T2 [.code cM]::m')/\WR p c1.w wr/\(∀b K,p.r b K->ρ.r b K\/K=Q\/K=V)/\T2.size=(T0F X).size/\(∀i,i<3->T2.getD i undef=(T0F X).getD i undef)/\
     T2.getD 6 undef=.slice none 0 0/\T2.getD 7 undef=.bool false/\T2.getD 8 undef=.pointer (some ⟨V,0,none⟩)/\T2.getD 17 undef=.slice (some ⟨Q,0,none⟩) E E/\(∀i,aaV i=true->T2.getD i undef=(T0F X).getD i undef):=by
 obtain⟨_,_,y,ys,e1,rfl⟩:=a8.ne';have bo:45<=(T0F X).size:=by simp only[T0F,sE,tj];omega
 obtain⟨D,c7,bb,cn,bL⟩:∃D,w'.heap.size<=D/\mxH w'.heap.toList<=D/\mxL X.toList<=D/\am7 (y::ys)<=D:=⟨w'.heap.size+(mxH w'.heap.toList+(mxL X.toList+am7 (y::ys))),by omega,by omega,by omega,by omega⟩;obtain⟨w,W⟩:∃w,w=atv w' (D-w'.heap.size):=⟨_,rfl⟩;have b9:w.heap.size=D:=by
  rw[W];show(w'.heap++_).size=D;rw[sE,tj];omega
 have b6:∀{b},b<w'.heap.size->w.heap[b]?=w'.heap[b]?:=λ{b} h=>by rw[W];exact akB _ _ h
 have T:∀A,w.cell? A=w'.cell? A:=λA=>by rw[W];exact aqm _ _ _
 have bk:w.ou=w'.ou:=by rw[W];rfl
 have ce:WR ρ c.w w:=⟨λ{b K} f=>by
  obtain⟨o,o',S,O,Y⟩:=F.obj f;exact⟨o,o',S,(b6 (F.lt f).2).trans O,Y⟩,F.os.trans bk.symm,F.lH.1,by rw[b9];exact ap F.lH.2 c7⟩
 have cd:FrR (ah true) ρ (Frame.enter (ah true) cE a .normal) (FQ cE (T0F X) [.code kR]):=by rw[<-awj];exact ae6 true c8
 have h0:At ⟨R,c,ρ,w,y,ys⟩ (T0F X) [.code kR] w:=⟨bo,c,ρ,.inl rfl,.refl _,by rw[hc];exact .cons cd a8,ce,hg,hW,Kept.refl _ _ _⟩;obtain⟨M,A,n,cc,l,T1,s0,k1,k2,⟨cD,bw⟩,⟨cz,ci⟩,s1,b3,aZ,hl,hp,hR,bS,m1,s6,s7,S⟩:=h0.head;obtain⟨A2,E,c2,ax,T2,s2,bc,c6,b5,bT,br,bl,m2,dD,bp,c4,O⟩:=S.names;replace s2:=(m1.same 2 rfl).symm.trans s2;have co:aan w (w.alloc (.cells ax 141)) E (([]:List Int).map (Z M l)):=by
  refine⟨λb f=>sK w _ b f,by rw[oS];omega,ax, ?_,bl,λi x I=>by simp at I⟩;show(w.heap.push _)[w.heap.size]?=_;rw[rh]
 have g0:=λt (h:mH.contains t=false) (h':cQ.contains t=false)=>(m2.same t h').trans (m1.same t h);obtain⟨dK,T3,w3,cp,bn,J,m3,bt,Y⟩:=At.axz hF k1 k2 hl b3 aZ hp bc b5 E 0 (by omega) O.block.loop ((g0 0 rfl rfl).trans s0) ((g0 1 rfl rfl).trans s1) ((g0 2 rfl rfl).trans s2) dD bp c4 rfl (λi nm I=>by simp at I) co;obtain⟨T4,w4,h4,aH,cG,b8,bJ,s8,ca,m4⟩:=Y.last bt;obtain⟨b7,bf,cq,bO⟩:=J.row;have a6:w4.heap[w.heap.size]?=some (.cells b7 141 (0,0)):=(aH _ J.lt).trans bf;have cm:∀b,b<w'.heap.size->w4.heap[b]?=w'.heap[b]?:=λb f=>((aH b (Nat.lt_trans (by omega) J.lt)).trans (J.low b (by omega))).trans (b6 f);have g1:=λt (h:mH.contains t=false) (h':cQ.contains t=false) (bq:(8::17::cQ).contains t=false)=>(m4.same t bq).trans ((m3.same t h').trans (g0 t h h'));have t6:T4.getD 6 undef=.slice none 0 0:=(m4.same 6 rfl).trans ((m3.same 6 rfl).trans ((m2.same 6 rfl).trans s6));have t7:T4.getD 7 undef=.bool false:=(m4.same 7 rfl).trans ((m3.same 7 rfl).trans ((m2.same 7 rfl).trans s7));have ao:T4.size=(T0F X).size:=m4.size.trans (m3.size.trans (m2.size.trans m1.size));obtain⟨cC,c1,C,q,bi⟩:=h4;obtain⟨x,xs,_,_,ay,e2⟩:=q.st.ne';cases e2;have hq:=q.st;rw[ay] at hq;have U:=hq.head;have cg:ja (ah true) C xs (y::ys):=by cases hq with|cons _ h=>exact h
 have H:∀{a b:Nat},C.r a b->b<D->ρ.r a b:=λ{a b} h f=>(q.kept.new h).elim id λh=>by
  have:w.heap.size<=b:=h.2;omega
 have hd:C.dim=ρ.dim/\C.al=ρ.al:=⟨q.le.dim.symm,q.le.al.symm⟩;have aI:C.lax=ρ.lax:=q.le.lax.symm;have aT:∀{i:Nat} {P:Addr} {n m:Nat},i<(T0F X).size->(T0F X).getD i undef=.slice (some P) n m->Rgd ⟨R,c,ρ,w,y,ys⟩ P.block->∃b,ρ.r b P.block:=λ{i P n m} I e h=>h.elim id λh=>by
  have f:=aop (vT I);rw[e] at f;simp only[mxV,mxA] at f;have h':w.heap.size<=P.block:=h;omega
 refine⟨M,A,n,cc,l,A2,E,c2,dK,c1,⟨s0,k1,k2,s1,b3,aZ,hl,hp.cells T,λi x hx P b0 m0 e0 hA jb=> ?_,s2,b5,bT,br,cp,λi nm I=> ?_,λg c0=> ?_,λP ad=> ?_,λP ad=> ?_⟩,bi,q.will,λb K f b4=>⟨(q.kept.poi f b4).1,λi u hu cb=>((q.kept.poi f b4).2 i u hu cb).1⟩,λwr Q V cs bZ bX ba cw cy af fT cv aV bx=> ?_⟩
 .-- an item's row
  subst hA;obtain⟨⟨a1,B,c3,f1,f2,f3,f4,f5,f6,f7⟩, -⟩:=hp i x hx;cases f1;rw[mc] at f3;rw[<-T,f3] at jb;cases jb;obtain⟨z,hz⟩:∃z,x.2[0]?=some z:=⟨_,jp (by omega)⟩;obtain⟨⟨a2,ch,bz, -⟩, -⟩:=f7 0 z hz;cases ch;have a5:=eW bz;rw[rF] at a5;have I:i<n:=by rw[<-hl];exact(pi.1 hx).1
  rcases hR i I P b0 _ _ rfl f3 with h|h
  .exact h
  .have h':w.heap.size<=b0.block:=h;omega
 .obtain⟨P,f1,f2,f3⟩:=bn i nm I;exact⟨P,f1,(T _).symm.trans f2,f3⟩
 .have:=lE.1 azx g c0;simp only[rm,nF] at this;rcases this with rfl|rfl
  .exact mr ((T _).symm.trans bw)
  .exact mr ((T _).symm.trans ci)
 .subst ad;exact aT (by omega) s1 (bS P rfl)
 .subst ad;exact aT (by omega) s2 (c6 P rfl)
 have cr:w'.heap.size<=w.heap.size:=by omega
 have ct:w.heap.size<w3.heap.size:=J.lt
 let p:Ren:={
  r:=λa b=>ρ.r a b\/(b=Q/\C.r a w.heap.size)\/(b=V/\C.r a w3.heap.size)
  lax:=ρ.lax
  dim:=ρ.dim
  al:=ρ.al
  fn:=λ{a b d} h k=>by
   rcases h with h|⟨rfl,h⟩|⟨rfl,h⟩<;>rcases k with k|⟨rfl,k⟩|⟨rfl,k⟩
   .exact ρ.fn h k
   .have:=C.fn (q.le.r h) k;have:=(F.lt h).2;omega
   .have:=C.fn (q.le.r h) k;have:=(F.lt h).2;omega
   .have:=C.fn (q.le.r k) h;have:=(F.lt k).2;omega
   .rfl
   .have:=C.fn h k;omega
   .have:=C.fn (q.le.r k) h;have:=(F.lt k).2;omega
   .have:=C.fn h k;omega
   .rfl
  inj:=λ{a b d} h k=>by
   rcases h with h|⟨rfl,h⟩|⟨rfl,h⟩<;>rcases k with k|⟨e,k⟩|⟨e,k⟩
   .exact ρ.inj h k
   .have:=(F.lt h).2;omega
   .have:=(F.lt h).2;omega
   .have:=(F.lt k).2;omega
   .exact C.inj h k
   .exact absurd e af
   .have:=(F.lt k).2;omega
   .exact absurd e.symm af
   .exact C.inj h k
  lH:=λ{a b} h=>by
   have:=F.lH.2;rcases h with h|⟨rfl,h⟩|⟨rfl,h⟩
   .exact ρ.lH h
   .have:=C.lH h;omega
   .have:=C.lH h;omega}
 have a4:ρ.Le p:=⟨.inl,rfl,rfl,rfl⟩;have down:∀{u v:Value},VR C u v->mxV v<=D->VR p u v:=λh f=>(VR.down hd H h f).mono a4;have aL:∀{u:Value},VR C u (.slice (some ⟨w.heap.size,0,none⟩) E E)->VR p u (.slice (some ⟨Q,0,none⟩) E E):=λ{u} h=>by
  cases h with
  |slice hA=>cases hA with
   |some hA=>cases hA with
    |mk h o s=>exact .slice (.some (.mk (Or.inr (Or.inl ⟨rfl,h⟩)) 0 none)) _ _
  |gp hl _=>exact .gp (hd.1▸hl) rfl
 have c9:∀{u:Value},VR C u (.pointer (some ⟨w3.heap.size,0,none⟩))->VR p u (.pointer (some ⟨V,0,none⟩)):=λ{u} h=>by
  cases h with
  |pointer hA=>cases hA with
   |some hA=>cases hA with
    |mk h o s=>exact .pointer (.some (.mk (Or.inr (Or.inr ⟨rfl,h⟩)) 0 none))
  |gp hl _=>exact .gp (hd.1▸hl) rfl
 have zr:∀{n:Nat} {z z':Nat×Nat},ZR C n z z'->ZR p n z z':=λh=>by
  unfold ZR at h ⊢;rw[aI] at h;exact h
 have c5:b7=cs:=by
  apply sQ;intro i;rcases pm i (2*E) with I|I
  .obtain⟨j,hj⟩:∃j,i=2*j\/i=2*j+1:=⟨i / 2,by omega⟩;obtain⟨nm,a3⟩:∃nm,dK[j]?=some nm:=⟨_,jp (by omega)⟩;have b1:=bO j (Z M l nm) (by rw[qO,a3];rfl);have b2:=aV j nm a3;rcases hj with rfl|rfl
   .rw[b1.1,b2.1]
   .rw[b1.2,b2.2]
  .rw[qm (by omega),qm (by omega)]
 refine⟨p,(T4.setIfInBounds 17 (.slice (some ⟨Q,0,none⟩) E E)).setIfInBounds 8 (.pointer (some ⟨V,0,none⟩)),a4, ?_,⟨λ{b K} f=> ?_, ?_, ?_, ?_⟩, ?_,by simpa using ao,λi I=> ?_, ?_, ?_, ?_, ?_,λi I=> ?_⟩
 .-- frames
  rw[ay];refine .cons ⟨U.fn, ?_, ?_, ?_,U.mode,U.kind, ?_⟩ ((ja.down hd H q.le (e1▸a8) cg bL).mono a4)
  .refine am8 (by simp only[Array.size_setIfInBounds];exact bW.size U.tmps) λi u v hu G=> ?_;by_cases i8:i=8
   .subst i8;rw[qk (by simp;omega)] at G;cases G;exact c9 (dv.at U.tmps hu (by rw[<-s8];exact vT (by show 8<T4.size;omega)))
   rw[lc (λe=>i8 e.symm)] at G;by_cases a7:i=17
   .subst a7;rw[qk (by omega)] at G;cases G;exact aL (dv.at U.tmps hu (by rw[<-bJ];exact vT (by show 17<T4.size;omega)))
   rw[lc (λe=>a7 e.symm)] at G;have N:VR C u v:=dv.at U.tmps hu G;have L:=anv G;cases a0:cQ.contains i with
   |true=>
    rw[ca i a0] at L;subst L;exact down N (by simp only[mxV];omega)
   |false=>
    by_cases i6:i=6
    .subst i6;rw[t6] at L;subst L;exact down N (by simp only[mxV,mxA];omega)
    by_cases i7:i=7
    .subst i7;rw[t7] at L;subst L;exact down N (by simp only[mxV];omega)
    have ck:(T0F X).getD i undef=v:=by
     rw[<-L];exact(g1 i (by simp only[mH,tF,a0];simp[i6,i7]) a0 (by simp only[tF,a0];simp[i8,a7])).symm
    have aa:(T0F X)[i]?=some v:=by
     have a5:i<(T0F X).size:=by rw[<-ao];exact(dl.1 G).1
     rw[<-ck];exact vT a5
    exact down N (ap (aop aa) cn)
  .have ht:=U.todo;generalize x.todo=td at ht ⊢;cases ht with
   |cons S O=>cases S;cases O;exact .cons (.code _) .nil
  .have ht:=U.defers;generalize x.defers=td at ht ⊢;cases ht;exact .nil
  .have ht:=U.round;generalize x.roundOf=td at ht ⊢;cases ht;exact .none
 .-- objects
  rcases f with f|⟨rfl,f⟩|⟨rfl,f⟩
  .obtain⟨o,o',S,O,Y⟩:=q.wr.obj (q.le.r f);obtain⟨u,u',k1,k2,k3⟩:=F.obj f;have e:=cm K (F.lt f).2;rw[O,k2] at e;cases e;exact⟨o,o',S,(bZ _ _ f).trans k2,(OR.down hd H aI q.le k3 Y (ap (aon (i:=K) (by rw[fa];exact k2)) bb)).mono a4⟩
  .obtain⟨o,o',S,O,Y⟩:=q.wr.obj f;rw[a6] at O;cases O;cases Y with
   |@cells cl _ jb _ z _ a9=>
    refine⟨_,_,S,fT, ?_⟩;subst c5;refine .cells (am8 (by simpa using jb.length) λi u v hu G=> ?_) _ (zr a9);have N:=dv.at jb hu G;obtain⟨j,hj⟩:∃j,i=2*j\/i=2*j+1:=⟨i / 2,by omega⟩;have I:=(dl.1 G).1;obtain⟨nm,a3⟩:∃nm,dK[j]?=some nm:=⟨_,jp (by omega)⟩;have b2:=aV j nm a3;rcases hj with rfl|rfl
    .rw[b2.1] at G;cases G;exact down N (by simp only[mxV];omega)
    .rw[b2.2] at G;cases G;exact down N (by simp only[mxV];omega)
  .obtain⟨o,o',S,O,Y⟩:=q.wr.obj f;rw[b8] at O;cases O;cases Y with
   |@cells cl _ jb _ z _ a9=>
    refine⟨_,_,S,bx,.cells (am8 (by simpa using jb.length) λi u v hu G=> ?_) _ (zr a9)⟩;have I:=(dl.1 G).1;have aa:i=0:=by simpa using I
    subst aa;cases G;exact aL (dv.at jb hu rfl)
 .exact q.kept.os.1.trans (F.os.trans bX.symm)
 .exact ap F.lH.1 q.kept.size
 .exact ap F.lH.2 ba
 .rintro b K (h|⟨rfl,_⟩|⟨rfl,_⟩)
  .exact .inl h
  .exact .inr (.inl rfl)
  .exact .inr (.inr rfl)
 .rw[aG (by simp;omega),be (by omega),aG (by omega),be (by omega)];have:i=0\/i=1\/i=2:=by omega
  rcases this with rfl|rfl|rfl
  .exact g1 0 rfl rfl rfl
  .exact g1 1 rfl rfl rfl
  .exact g1 2 rfl rfl rfl
 .rw[aG (by simp;omega),be (by decide),aG (by omega),be (by decide)];exact t6
 .rw[aG (by simp;omega),be (by decide),aG (by omega),be (by decide)];exact t7
 .rw[aG (by simp;omega),du rfl]
 .rw[aG (by simp;omega),be (by decide),aG (by omega),du rfl]
 .obtain⟨i1,i2,i3,i4,i5⟩:=atu I;have e:((T4.setIfInBounds 17 (.slice (some ⟨Q,0,none⟩) E E)).setIfInBounds 8 (.pointer (some ⟨V,0,none⟩))).getD i undef=T4.getD i undef:=by
   rw[aG (by simp;omega),be i4,aG (by omega),be i5]
  exact e.trans (g1 i i1 i2 i3)
def plV(V:Nat->Prop):Value->Prop
 |.int k _=>k ≠ .u8
 |.string _=>True
 |.slice (some a) _ _=>V a.block
 |_=>False
def atx:Value->Bool
 |.func (.method _) _ _=>true
 |_=>false
mutual
def afK:Value->List Value
 |.agg ⟨l⟩=>aao l
 |.tuple ⟨l⟩=>aao l
 |v=>if atx v then[v] else[]
def aao:List Value->List Value
 |[]=>[]
 |v::l=>afK v++aao l
end
def ag7:∀{l:List Value} {i:Nat} {v x:Value},l[i]?=some v->x∈afK v->x∈aao l
 |[],i,v,x,h,_=>by simp at h
 |y::l,0,v,x,h,hx=>by simp at h;subst h;simp only[aao];exact sq _ hx
 |y::l,i+1,v,x,h,hx=>by simp only[aao];exact sg _ (ag7 (i:=i) (by simpa using h) hx)
def aCg:Obj->List Value
 |.cells c _ _=>aao c.toList
 |_=>[]
def fu(w:World):List Value:=w.heap.toList.flatMap aCg
def ago{c:Array Value}{t:TypeId}{x : Value}(a:w.heap[b]?=some (.cells c t z))(hi:c[i]?=some v)(d:x∈afK v):x∈fu w:=
 qo.2 ⟨.cells c t z,db (i:=b) (by rw[fa];exact a),by
  show x∈aao c.toList;exact ag7 (i:=i) (by rw[fa];exact hi) d⟩
section
variable {ρ:Ren} (hl:ρ.dim=true)
include hl
mutual
theorem axX:∀(v:Value),(∀x∈afK v,∃k,ρ.al k=some x)->∃u,VR ρ u v/\(∀k,u ≠ .int .u8 k)/\(aen u\/∀(g:Ren) d,g.al=ρ.al->VR g u d->d=v)
 |.bool b,_=>⟨_,.bool b,(λk e=>by cases e),.inr λg d _ h=>by cases h;rfl⟩
 |.int k n,_=>⟨_,.gp hl rfl,(λk e=>by cases e),.inl (.inl ⟨_,rfl⟩)⟩
 |.float k n,_=>⟨_,.gp hl rfl,(λk e=>by cases e),.inl (.inl ⟨_,rfl⟩)⟩
 |.complex k n m,_=>⟨_,.gp hl rfl,(λk e=>by cases e),.inl (.inl ⟨_,rfl⟩)⟩
 |.string s,_=>⟨_,.string s,(λk e=>by cases e),.inr λg d _ h=>by cases h;rfl⟩
 |.pointer none,_=>⟨_,.pointer .none,(λk e=>by cases e),.inr λg d _ h=>by cases h with|pointer h=>cases h;rfl⟩
 |.pointer (some a),_=>⟨_,.gp hl rfl,(λk e=>by cases e),.inl (.inl ⟨_,rfl⟩)⟩
 |.slice a l c,_=>⟨_,.gp hl rfl,(λk e=>by cases e),.inl (.inl ⟨_,rfl⟩)⟩
 |.map a,_=>⟨_,.gp hl rfl,(λk e=>by cases e),.inl (.inl ⟨_,rfl⟩)⟩
 |.chan a,_=>⟨_,.gp hl rfl,(λk e=>by cases e),.inl (.inl ⟨_,rfl⟩)⟩
 |.func (.func f) a c,_=>⟨_,.gp hl rfl,(λk e=>by cases e),.inl (.inl ⟨_,rfl⟩)⟩
 |.func (.methodOf t f) a c,_=>⟨_,.gp hl rfl,(λk e=>by cases e),.inl (.inl ⟨_,rfl⟩)⟩
 |.func (.via t p f q) a c,_=>⟨_,.gp hl rfl,(λk e=>by cases e),.inl (.inl ⟨_,rfl⟩)⟩
 |.func (.yield f) a c,_=>⟨_,.gp hl rfl,(λk e=>by cases e),.inl (.inl ⟨_,rfl⟩)⟩
 |.func (.method n) a c,hm=>by
  obtain⟨k,z⟩:=hm (.func (.method n) a c) (by simp[afK,atx]);refine⟨_,.abN k z,(λk e=>by cases e),.inr λg d B h=> ?_⟩;generalize j:aou k=u at h;cases h with
  |abN D y=>
   have e:k=D:=by
    unfold aou at j;injection j with _ _ A
    have:=ga Array.size A;simpa using this
   subst e;rw[B,z] at y;exact(dq y).symm
  |func o _ _=>
   unfold aou at j;injection j with C _ _
   subst C;cases o with
   |same f o=>cases o
  |_=>unfold aou at j;cases j
 |.nilFunc,_=>⟨_,.nilFunc,(λk e=>by cases e),.inr λg d _ h=>by cases h;rfl⟩
 |.iface t v,_=>⟨_,.gp hl rfl,(λk e=>by cases e),.inl (.inl ⟨_,rfl⟩)⟩
 |.nilIface,_=>⟨_,.nilIface,(λk e=>by cases e),.inr λg d _ h=>by cases h;rfl⟩
 |.agg ⟨l⟩,hm=>by
  obtain⟨r,i⟩:=azA l λx w=>hm x (by simpa only[afK] using w);exact⟨.agg ⟨r⟩,.agg i,(λk e=>by cases e),.inl (.inr ⟨_,rfl⟩)⟩
 |.tuple ⟨l⟩,hm=>by
  obtain⟨r,i⟩:=azA l λx w=>hm x (by simpa only[afK] using w);exact⟨.tuple ⟨r⟩,.tuple i,(λk e=>by cases e),.inl (.inl ⟨_,rfl⟩)⟩
theorem azA:∀(l:List Value),(∀x∈aao l,∃k,ρ.al k=some x)->∃a,bW ρ a l
 |[],_=>⟨[],.nil⟩
 |v::l,hm=>by
  obtain⟨x,c,_⟩:=axX v λx b=>hm x (by simp only[aao];exact sq _ b);obtain⟨a,d⟩:=azA l λx b=>hm x (by simp only[aao];exact sg _ b);exact⟨x::a,.cons c d⟩
end
end
def aiT(L:List Value)(k:Nat):Option Value:=L[k]?
def aiU{L:List Value}{x:Value}(h:x∈L):∃k,aiT L k=some x:=by
 obtain⟨k,a,e⟩:=uY.1 h;exact⟨k,by unfold aiT;rw[jp a,e]⟩
def alh{ρ:Ren}{Q:Nat->Value->Value->Prop}:∀(l:List Value) (j:Nat),(∀i v,l[i]?=some v->∃u,VR ρ u v/\Q (j+i) u v)->∃d,bW ρ d l/\∀i v,l[i]?=some v->∃u,d[i]?=some u/\Q (j+i) u v
 |[],_,_=>⟨[],.nil,λi v h=>by simp at h⟩
 |v::l,j,h=>by
  obtain⟨u,m,e⟩:=h 0 v rfl;obtain⟨d,f,k⟩:=alh l (j+1) λi x c=>by
   obtain⟨u,a,b⟩:=h (i+1) x (by simpa using c);exact⟨u,a,by rwa [show j+1+i=j+(i+1) by omega]⟩
  refine⟨u::d,.cons m f,λi x c=> ?_⟩;cases i with
  |zero=>simp at c;subst c;exact⟨u,rfl,e⟩
  |succ i=>
   obtain⟨g,a,b⟩:=k i x (by simpa using c);exact⟨g,by simpa using a,by rwa [show j+1+i=j+(i+1) by omega] at b⟩
def Ren.rows(V:Nat->Prop)(lax:Bool)(L:List Value):Ren where
 r a b:=a=b/\V a
 lax:=lax
 dim:=true
 al:=aiT L
 fn:=λh k=>h.1.symm.trans k.1
 inj:=λh k=>h.1.trans k.1.symm
 lH:=λh=>by rw[h.1]
def awG{V:Nat->Prop}(w:World)(F:∀b,V b->Obj):∃a:Array Obj,a.size=w.heap.size/\(∀b (h:V b),b<w.heap.size->a[b]?=some (F b h))/\∀b,¬V b->a[b]?=w.heap[b]?:=by
 classical
 refine⟨Array.ofFn λi:Fin w.heap.size=>if h:V i.1 then F i.1 h else w.heap[i],by simp,λb h c=> ?_,λb h=> ?_⟩
 .rw[wV,tP c];simp only[tP h]
 .rw[wV];by_cases c:b<w.heap.size
  .rw[tP c,gn c];simp only[dif_neg h];rfl
  .rw[dif_neg c,qm (by omega)]
theorem mask{w:World}{V:Nat->Prop}(hV:∀b,V b->eP w b)(hg:∀g∈gL,V g)(hN:gN<=w.heap.size) :
  ∃wL:World,WR (Ren.rows V true (fu w)) wL w/\GlR (Ren.rows V true (fu w))/\wL.heap.size=w.heap.size/\(∀b,V b->bK wL b/\NoB wL b)/\∀A v,w.cell? A=some v->V A.block->plV V v->wL.cell? A=some v:=by
 classical
 have row:∀b,V b->∃(c:Array Value) (t:TypeId) (z:Nat×Nat) (xs:List Value),w.heap[b]?=some (.cells c t z)/\bW (Ren.rows V true (fu w)) xs c.toList/\∀(i:Nat) v,c.toList[i]?=some v->∃u,xs[i]?=some u/\((∀k,u ≠ .int .u8 k)/\(plV V v->u=v)):=λb hb=>by
  obtain⟨c,t,z,hc⟩:=hV b hb;obtain⟨xs,h1,h2⟩:=alh (ρ:=Ren.rows V true (fu w)) (Q:=λ_ u v=>(∀k,u ≠ .int .u8 k)/\(plV V v->u=v)) c.toList 0 λi v hi=>by
   by_cases hp:plV V v
   .cases v with
    |int k n=>exact⟨_,.int k n,(λk' e=>by cases e;exact hp rfl),λ_=>rfl⟩
    |string s=>exact⟨_,.string s,(λk e=>by cases e),λ_=>rfl⟩
    |slice a l c=>cases a with
     |none=>exact hp.elim
     |some a=>
      obtain⟨b,o,s⟩:=a;have hr:(Ren.rows V true (fu w)).r b b:=⟨rfl,hp⟩;exact⟨_,.slice (.some (.mk hr o s)) l c,(λk e=>by cases e),λ_=>rfl⟩
    |_=>exact hp.elim
   .obtain⟨u,h1,h2, -⟩:=axX (ρ:=Ren.rows V true (fu w)) rfl v λx hx=>aiU (ago hc (i:=i) (by rw[<-fa];exact hi) hx);exact⟨u,h1,h2,λh=>absurd h hp⟩
  exact⟨c,t,z,xs,hc,h1,h2⟩
 let F:∀b,V b->Obj:=λb hb=>.cells ⟨(row b hb).choose_spec.choose_spec.choose_spec.choose⟩ (row b hb).choose_spec.choose (0,max ((row b hb).choose.size+1) (row b hb).choose_spec.choose_spec.choose.2)
 have hF:∀b (hb:V b),∃(c:Array Value) (t:TypeId) (z:Nat×Nat) (xs:List Value),w.heap[b]?=some (.cells c t z)/\bW (Ren.rows V true (fu w)) xs c.toList/\(∀(i:Nat) v,c.toList[i]?=some v->∃u,xs[i]?=some u/\((∀k,u ≠ .int .u8 k)/\(plV V v->u=v)))/\F b hb=.cells ⟨xs⟩ t (0,max (c.size+1) z.2):=λb hb=>
  let h:=(row b hb).choose_spec.choose_spec.choose_spec.choose_spec
  ⟨_,_,_,_,h.1,h.2.1,h.2.2,rfl⟩
 obtain⟨heap,hs,h1,h2⟩:=awG w F;have abb:∀b,V b->∃(c:Array Value) (t:TypeId) (z:Nat×Nat) (xs:List Value),w.heap[b]?=some (.cells c t z)/\heap[b]?=some (.cells ⟨xs⟩ t (0,max (c.size+1) z.2))/\bW (Ren.rows V true (fu w)) xs c.toList/\∀(i:Nat) v,c.toList[i]?=some v->∃u,xs[i]?=some u/\((∀k,u ≠ .int .u8 k)/\(plV V v->u=v)):=λb hb=>by
  obtain⟨c,t,z,xs,k1,k2,k3,k4⟩:=hF b hb;exact⟨c,t,z,xs,k1,(h1 b hb (dl.1 k1).1).trans (ga some k4),k2,k3⟩
 refine⟨{w with heap},⟨λ{b b'} hb=> ?_,rfl,by show gN<=heap.size;omega,hN⟩,λg mQ=>⟨rfl,hg g mQ⟩,hs,λb hb=> ?_,λA v hc hA hp=> ?_⟩
 .obtain⟨rfl,hb⟩:=hb;obtain⟨c,t,z,xs,k1,k2,k3, -⟩:=abb b hb;have hlen:=k3.length;refine⟨_,_,k2,k1,.cells k3 t (.inr ⟨rfl,rfl, ?_,.inr ?_⟩)⟩
  .show xs.length<max _ _;simp at hlen;omega
  .show z.2<=max _ _;omega
 .obtain⟨c,t,z,xs,k1,k2,k3,k4⟩:=abb b hb;have hlen:=k3.length;simp at hlen;refine⟨⟨_,_,_,k2,rfl, ?_, ?_⟩,λc' t' z' hc' i k e=> ?_⟩
  .show xs.length<=max _ _;omega
  .show 0<max _ _;omega
  .have:heap[b]?=some (.cells c' t' z'):=hc';rw[k2] at this;cases this;have hi:i<c.toList.length:=by
    have:=(dl.1 e).1;simp at this ⊢;omega
   obtain⟨u,q1,q2, -⟩:=k4 i _ (jp hi);have e':xs[i]?=some (.int .u8 k):=by simpa using e
   rw[q1] at e';exact q2 k (dq e')
 .obtain⟨c,t,z,xs,k1,k2,k3,k4⟩:=abb A.block hA;have k2':({w with heap}:World).heap[A.block]?=some (.cells ⟨xs⟩ t (0,max (c.size+1) z.2)):=k2;unfold World.cell? at hc ⊢;rw[k2'];rw[k1] at hc;cases hsp:A.spot with
  |some s=>simp[hsp] at hc
  |none=>
   simp[hsp] at hc ⊢;obtain⟨u,q1, -,q2⟩:=k4 A.off v (by rw[fa];exact hc);rw[q1,q2 hp]
end
section
open Go Go.Conc Go.ConcN Go.RowKit
def pP(Rr:au)(S S':au)(w w':World)(es:Array Event):Prop:=
 (∀b,b<w.heap.size->¬S b->w'.heap[b]?=w.heap[b]?)/\w.heap.size<=w'.heap.size/\w'.ou=w.ou/\S'=(λb=>S b\/(w.heap.size<=b/\b<w'.heap.size))/\∀e∈es,nP S' Rr w'.heap.size e
structure pQ (Rl:au->World->World->Prop) (Rr:au):Prop where
 gz:∀S w,Rl S w w
 tr:∀S a b c,Rl S a b->Rl S b c->Rl S a c
 rl:∀S w w1,Rl S w w1->(∀b,S b\/Rr b->w1.heap[b]?=w.heap[b]?)/\w.heap.size<=w1.heap.size/\w1.ou=w.ou
def pQ.cmp{Rl:au->World->World->Prop}(h:pQ Rl Rr):Cmp Rl (pP Rr) Rr:=⟨h.gz,h.tr,h.rl,λ_ _ _ _ a b c d=>⟨a,b,c,rfl,d⟩⟩
section
variable {P:Program} {main:Bool} {Rl:au->World->World->Prop} {Gr Gr2:au->au->World->World->Array Event->Prop} {Stop agl:au->Goroutine->World->Prop} {Inv:au->World->Prop}
def GoT.inv(i:∀S w a,Inv S w->Rl S w a->Inv S a)(k:∀S d w c e,Inv S w->Gr S d w c e->Gr2 S d w c e/\Inv d c)(j:∀S g w,Stop S g w->Inv S w->agl S g w):∀{T:jU} {S:au} {g:Goroutine} {w:World},GoT P main Rl Gr Stop T S g w->Inv S w->GoT P main Rl Gr2 agl T S g w
 |.leaf,_,_,_,h,hi=>λa b=>j _ _ _ (h a b) (i _ _ _ hi b)
 |.node f,_,_,_,h,hi=>Or.imp (λh a b=>j _ _ _ (h a b) (i _ _ _ hi b)) (λx=>⟨x.1,λa b=>
   let⟨q,c,e,d,o,l,m⟩:=x.2 a b
   let⟨n,p⟩:=k _ _ _ _ _ (i _ _ _ hi b) l
   ⟨q,c,e,d,o,n,GoT.inv i k j m p⟩⟩) h
def bM.inv(f:∀S w c,Inv S w->Rl S w c->Inv S c)(i:∀S a w b d,Inv S w->Gr S a w b d->Gr2 S a w b d/\Inv a b)(e:∀S g w,Stop S g w->Inv S w->agl S g w)(h:bM P main Rl Gr Stop S g w)(hi:Inv S w):bM P main Rl Gr2 agl S g w:=
 let⟨T,h⟩:=h;⟨T,GoT.inv f i e h hi⟩
end
def ana   :(Frame.enter P f a .normal).mode=.run:=by
 unfold Frame.enter;cases P.funcs[f]?<;>rfl
def aqn{c:Cfg}{m:List Frame}(q:kN (ah false) R c)(i:c.l=Frame.enter (ah false) cE a .normal::m):False:=by
 obtain⟨n,t,s,d,f, -⟩:=q c.t λ_ _ _=>rfl;have b:c.l≠[]:=by rw[i];simp
 cases n with
 |zero=>
  simp only[runN,qQ] at d;obtain⟨e, -⟩:=iA d;obtain rfl:=ov b f.ne e;obtain⟨u,l,p, -⟩:=f;rw[i] at l;cases l;rw[ana] at p;cases p
 |succ n=>
  unfold runN at d;have r:Frame.enter (ah false) cE a .normal=⟨cE,T0F a,[.code (.refuse "")],[],.run,.normal,none⟩:=by
   have f:(ah false).funcs[cE]?=some (qFA false):=ac3 false;unfold Frame.enter;rw[f];rfl
  have g:∃o j k,stepG (ah false) true (Gl c.l [kT (ah false)]) (c.w.dW c.t)=.ended o j k:=by
   rw[i,r];simp only[Gl,stepG,stepG.exec];exact⟨_,_,_,rfl⟩
  obtain⟨o,j,k,g⟩:=g;rw[cF (jH b _) g] at d;cases d
def aCh:kX (λ_=>false) (f153.body.getD .skip)=false:=by kernel_rfl
def aCi:kX (λ_=>false) (f54.body.getD .skip)=false:=by kernel_rfl
def adN{fn:Func}(h:prog.funcs[f]?=some fn)(b:fn.body.isSome=true)(a:Array Value):(Frame.enter prog f a .normal).todo=[.code (fn.body.getD .skip)]:=by
 unfold Frame.enter;rw[h];obtain⟨c,d⟩:=rM.1 b;simp[d]
def awD{J:Nat->Bool}(d:kX J (f153.body.getD .skip)=false)(c:kX J (f54.body.getD .skip)=false):∀f,gH f=true->∀a,(Frame.enter prog f a .normal).todo.all (mL J)=false:=λf b a=>by
 rcases xK b with rfl|rfl
 .rw[adN func54 anD];simp only[qF,vZ,uK,mL];exact c
 .rw[adN func153 anC];simp only[qF,vZ,uK,mL];exact d
def aiv:gH 86=false:=by unfold gH;kernel_rfl
def aiO{A:Addr}{c:Array Value}{t:TypeId}(h:w.heap[A.block]?=some (.cells c t z))(a:w.cell? A=some v):c[A.off]?=some v:=by
 unfold World.cell? at a;rw[h] at a;cases b:A.spot with
 |some s=>simp[b] at a
 |none=>simpa[b] using a
def RgP(Rg:Nat->Prop)(w:World)(A:Option Addr)(l:List iY):Prop:=∀i x,l[i]?=some x->∀a b m e,A=some a->w.cell? ((a.add (i*2)).add 1)=some (.slice (some b) m e)->Rg b.block
def RgP.move(h:RgP Rg w A l)(j:∀a,A=some a->Rg a.block)(d:∀b,Rg b->w'.heap[b]?=w.heap[b]?):RgP Rg w' A l:=λi x f a b m e c g=>
 h i x f a b m e c ((gQ (by rw[rF,rF];exact d _ (j a c))).symm.trans g)
def RdP.mask    (h:RdP w A 0 l) (C:RgP Rg w A l) (q:∀a,A=some a->Rg a.block)
  (f:∀A v,w.cell? A=some v->Rg A.block->plV (λb=>Rg b/\eP w b) v->U.cell? A=some v):RdP U A 0 l:=λi x r=>by
 obtain⟨⟨a,B,c,g,u,n,D,E,H,p⟩,F⟩:=h i x r;have o:∀b,B=some b->Rg b.block:=λb z=>by
  subst z;rw[mc] at n;exact C i x r a b _ _ g n
 have k:∀j y,x.2[j]?=some y->ah0 U B (0+j) y:=λj y I=>by
  obtain⟨⟨b,e,m,s⟩,J,t⟩:=p j y I;exact⟨⟨b,e,f _ _ m (by rw[rF];exact o b e) (by show IntKind.i64 ≠ .u8;decide),f _ _ s (by rw[rF,rF];exact o b e) trivial⟩,J,t⟩
 refine⟨⟨a,B,c,g,f _ _ u (by rw[rF];exact q a g) (by show IntKind.i64 ≠ .u8;decide),f _ _ n (by rw[rF,rF];exact q a g) ?_,D,E,H,k⟩,F⟩;obtain⟨y,G⟩:∃y,x.2[0]?=some y:=⟨_,jp (by omega)⟩;obtain⟨⟨b,e,m,s⟩, -⟩:=p 0 y G;subst e;have d:=mr m;rw[rF] at d;exact⟨o b rfl,d⟩
end
section
open Go Go.Conc Go.ConcN Go.RowKit
def adw   :(Frame.enter P f a .normal).roundOf=none:=by
 unfold Frame.enter;cases P.funcs[f]?<;>rfl
def aqo{s:ByteArray}{b:Bool}{v':Value}(h:VR ρ (.agg #[.string s,.bool b]) v'):v'=.agg #[.string s,.bool b]:=by
 cases h with
 |@agg c e h=>
  obtain⟨l⟩:=e;change bW ρ [.string s,.bool b] l at h;cases h with
  |cons f a=>
   cases f;cases a with
   |cons g d=>cases g;cases d;rfl
def aty (hF:eT Z)  (hN:gN<=w.heap.size) (J:∀g∈gL,Rg g/\eP w g)    {nm:Int}
  (k1:1<=key) (k2:key<=99) (hl:l.length=n) (x:n<=c) (D:(c:Int)<=9223372036854775807) (p:RdP w A 0 l) (M:RgP Rg w A l) (hA:∀a,A=some a->Rg a.block) (hn:0<n) (I:In_ nm)
  {Rl:au->World->World->Prop} (d:pQ Rl Rr) (hR:∀b,(Rg b/\eP w b)->Rr b)   :
  bM prog main Rl (pP Rr) (λ_ g _=>g=⟨cfr.finish (.agg #[.string (Z key l nm).1,.bool (Z key l nm).2]),cs,.running,none,none⟩) S
   (Gl (Frame.enter prog 86 #[.int .i64 key,.slice A n c,.int .i64 nm] .normal::[]) (cfr::cs)) w:=by
 obtain⟨j,h1,W,h3,h4,h5⟩:=mask (V:=λb=>Rg b/\eP w b) (λb h=>h.2) J hN;have C:=p.mask M hA λA v x O hp=>h5 A v x ⟨O,mr x⟩ hp;obtain⟨y,hy⟩:∃y,l[0]?=some y:=⟨_,jp (by omega)⟩;obtain⟨⟨a,_,_,e1,e2,_⟩,_⟩:=p 0 y hy;subst e1;have i:=mr e2;rw[rF] at i;have m:(Ren.rows (λb=>Rg b/\eP w b) true (fu w)).r a.block a.block:=⟨rfl,hA a rfl,i⟩;generalize P:(Ren.rows (λb=>Rg b/\eP w b) true (fu w))=ρ at h1 W m;have G:∀b q,ρ.r b q->Rr q/\bK j b/\NoB j b:=λb q u=>by
  subst P;obtain⟨rfl,Y⟩:=u;exact⟨hR _ Y,h4 _ Y⟩
 have r:dv ρ #[.int .i64 key,.slice (some a) n c,.int .i64 nm] #[.int .i64 key,.slice (some a) n c,.int .i64 nm]:=by
  obtain⟨b,o,s⟩:=a;exact .cons (.int _ _) (.cons (.slice (.some (.mk m o s)) _ _) (.cons (.int _ _) .nil))
 have X:∀t:Tape,Calls (ah false) 86 #[.int .i64 key,.slice (some a) n c,.int .i64 nm] (j.dW t) λe K=>∃v,e=.returned v/\v=.agg #[.string (Z key l nm).1,.bool (Z key l nm).2]:=λt=>by
  refine(hF false (j.dW t) key (some a) n c l nm k1 k2 hl x D (C.below λb u=>rfl) I).mono ?_;rintro e K ⟨v,rfl,hv, -⟩;exact⟨v,rfl,hv⟩
 generalize (#[.int .i64 key,.slice (some a) n c,.int .i64 nm]:Array Value)=args at r X
 let R:List Frame->World->Prop:=λfs K=>∃B v,fs=[B]/\B.fn=86/\B.leaving (ah false) K (.returned v)/\v=.agg #[.string (Z key l nm).1,.bool (Z key l nm).2]
 have hW:kN (ah false) R ⟨[Frame.enter (ah false) 86 args .normal],j,λ_ _=>0⟩:=aaX (Post:=λv _=>v=.agg #[.string (Z key l nm).1,.bool (Z key l nm).2]) λt _=>X t;have F:Acc (iN (ah false)) ⟨[Frame.enter (ah false) 86 args .normal],j,λ_ _=>0⟩:=hW.acc.transGen;have T:aiQ (ah false) R Rr S ρ ⟨[Frame.enter (ah false) 86 args .normal],j,λ_ _=>0⟩ [Frame.enter prog 86 args .normal] w:=
  ⟨.one (ahs (mM false) aiv r) adw,h1,W,hW,λb q u=>.inr (G b q u)⟩
 have L:=aiR (mM false) (awC false) d.gz d.tr d.rl d.cmp.gr (awD aCh aCi) (agn d.cmp) (main:=main) (base:=cfr::cs) F T (.inl rfl);refine bM.bind d.gz d.tr L λS1 g w1 ⟨c1,ρ1,l',hor,hle,hS1,nY,aEo,aFS,hW1,pS,_,hend⟩=> ?_;subst nY;rcases hend with⟨hf,f⟩|⟨_,_,_,_,_,_,Q,_⟩
 .obtain⟨_,_,y1,a0,_,e3⟩:=f.ne';obtain⟨B,k, -⟩:=id hf;have e4:=f.lone k e3;subst e4 e3;rw[k] at f;refine .step rfl λw2 O=> ?_;obtain⟨r1,r2,r3⟩:=d.rl _ _ _ O;have H:=aEo.rely pS r1 r2 r3;obtain⟨σ,v,v',w3,E,es,N,t,q1,q2,q3,q4,q5,q6,z,q8,q9⟩:=avc (mM false) (t0:=c1.t) (Post:=λv _=>v=.agg #[.string (Z key l nm).1,.bool (Z key l nm).2]) f H λt ht=>by
   obtain⟨cG,v,U,_,e6,e7⟩:=hW1.fin hf acZ t ht;rw[k] at U;cases U;exact⟨v,e6,e7⟩
  refine⟨_,E,N,_,q9 main cfr cs,⟨ajG pS z,z.size',z.os.2,rfl,arT pS q6 z q8⟩,.stop λ_ _=> ?_⟩;subst q2;rw[aqo q5]
 .exact(aqn hW1 Q).elim
end
section
open Go Go.Conc Go.ConcN Go.RowKit
abbrev SN(S:au)(w w':World):au:=λb=>S b\/(w.heap.size<=b/\b<w'.heap.size)
section
variable {P:Program} {main:Bool} {Rl:au->World->World->Prop} {St:au->Goroutine->World->Prop} {S Rr:au} {w0:World} {f:FuncId} {T:Array Value} {k:List Item} {xs base:List Frame}
def nU (H:pQ Rl Rr)     {ob:Obj} (j:d<T.size) (l:W[i]?=some o) (r:o.guard=none) (c:o.dst=some d)
  (n:∀w,(execOp (FQ f T (.inRegion W (i::rest)::k)).eval o).runT P w #[]=(.ok (.value (.pointer (some ⟨w.heap.size,0,none⟩))) (w.alloc ob),#[]))
  (s:∀w,Rl S w0 w->∀T':Array Value,T'.size=T.size->T'.getD d undef=.pointer (some ⟨w.heap.size,0,none⟩)->(∀t,t≠d->T'.getD t undef=T.getD t undef)->∀a,Rl (SN S w (w.alloc ob)) (w.alloc ob) a->bM P main Rl (pP Rr) St (SN S w (w.alloc ob)) (Gl (FQ f T' (.inRegion W rest::k)::xs) base) a) :
  ∀w,Rl S w0 w->bM P main Rl (pP Rr) St S (Gl (FQ f T (.inRegion W (i::rest)::k)::xs) base) w:=λw m=>by
 refine .step rfl λa g=> ?_;have u:=H.tr _ _ _ _ m g;refine⟨_,_,_,_,anr rfl rfl rfl rfl l r (n a),⟨λb q _=>sK a _ b q,by rw[oS];omega,rfl,rfl,λe v=>by cases(by simpa using tn v:False)⟩, ?_⟩;have:Frame.finish (FQ f T (.inRegion W (i::rest)::k)) (.pointer (some ⟨a.heap.size,0,none⟩))=FQ f (T.setIfInBounds d (.pointer (some ⟨a.heap.size,0,none⟩))) (.inRegion W rest::k):=by
  simp only[Frame.finish,l,qN,c]
 rw[this];exact s a u _ (by simp) (by rw[aG j,du rfl]) (λt p=>by rw[aG j,be p]) _ (H.gz _ _)
end
section
variable {P:Program} (F:FaT P) {w:World} {e:Operand->Value} {x:Operand} {dst:Option Tmp} {ty:TypeId} {pos:String} {af:Array Edge} {gd:Option (Nat×Bool)}
include F
theorem akC:(execOp e ⟨dst,.alloc 141,ty,pos,af,gd⟩).runT P w #[]=(.ok (.value (.pointer (some ⟨w.heap.size,0,none⟩))) (w.alloc (.cells #[.string ⟨#[]⟩,.bool false] 141)),#[]):=by
 obtain⟨i,b,d,c,a⟩:=F.ad4;simp[execOp,Instr.alloc,zeroValue,typeInfo,b,a,newVar,newRow,Value.cells]
theorem atz{t:Tmp}(h:e (.tmp t)=.slice A n c):(execOp e ⟨dst,.call ⟨.builtin .len,#[.tmp t],#[23]⟩,ty,pos,af,gd⟩).runT P w #[]=(.ok (.value (.int .i64 n)) w,#[]):=by
 rw[qd (s:=λv=>Builtin.len_ #[23] ty #[v]) λ_ v=>rfl,h];change Sem.runT P (Builtin.len_ #[23] ty #[.slice A n c] >>=λu=>pure (Next.value u)) w #[]=_;simp[Builtin.len_,me F.u23,goInt]
omit F in
theorem atA{a b:Int}(d:e x=.int .i64 a)(c:e y=.int .i64 b):(execOp e ⟨dst,.binOp .lss 3 x y 3,ty,pos,af,gd⟩).runT P w #[]=(.ok (.value (.bool (decide (a<b)))) w,#[]):=by
 have:execOp e ⟨dst,.binOp .lss 3 x y 3,ty,pos,af,gd⟩=(binOp .lss 3 (e x) (e y)).bind λv=>Sem.pure (.value v):=rfl;rw[this,d,c];rfl
omit F in
theorem atB:(prog.info? 9).map (·.size ==1)=some true/\(prog.info? 4).map (·.size ==1)=some true:=by
 constructor<;>kernel_rfl
omit F in
theorem akD:(execOp e ⟨dst,.build 141 #[],ty,pos,af,gd⟩).runT prog w #[]=(.ok (.value (.agg #[.string ⟨#[]⟩,.bool false])) w,#[]):=by
 obtain⟨i,d,m,l,b⟩:=faT.ad4;obtain⟨f,a,j⟩:=jt.1 atB.1;obtain⟨k,c,g⟩:=jt.1 atB.2;simp[execOp,Instr.build,zeroValue,typeInfo,d,b,me underlying141,sizeOf,a,c,Instr.fill,Value.cells]
end
end
section
open Go Go.Conc Go.ConcN Go.RowKit
def awl(h:w'.heap.size=w.heap.size):SN S w w'=S:=by
 funext b
 show(S b\/(w.heap.size<=b/\b<w'.heap.size))=S b;rw[h];exact propext ⟨λx=>x.elim id λy=>absurd y.1 (by omega),.inl⟩
def abM{A:Addr}{c : Value}(b:al9 u=true)(g:w.cell? A=some c)(d:w.frozen? A=false){f:Type}(k:Sem f)(es:Array Event):(Sem.store .plain A u k).runT P w es=k.runT P (w.setCell A u) (es.push ⟨.cell A,true,false⟩):=by
 have a:(∀x,u ≠ .agg x)/\∀x,u ≠ .tuple x:=⟨λx e=>(by subst e;cases b),λx e=>(by subst e;cases b)⟩;rw[sF _ _ _ _ _ _ _ a.1 a.2];simp only[g,d,li,qM];rfl
section
variable {P:Program} (F:FaT P) {w:World} {e:Operand->Value} {x y:Operand} {dst:Option Tmp} {ty:TypeId} {pos:String} {af:Array Edge} {gd:Option (Nat×Bool)}
include F
theorem ag8{A:Addr}{u0 u1 c0 c1:Value}(m:al9 u0=true)(q:al9 u1=true)(o:e x=.pointer (some A))(l:e y=.agg #[u0,u1])(a:w.cell? A=some c0)(d:w.frozen? A=false)(f:w.cell? (A.add 1)=some c1)(b:w.frozen? (A.add 1)=false) :
  (execOp e ⟨dst,.store 141 x y,ty,pos,af,gd⟩).runT P w #[]=(.ok .skip ((w.setCell A u0).setCell (A.add 1) u1),#[⟨.cell A,true,false⟩,⟨.cell (A.add 1),true,false⟩]):=by
 obtain⟨i,n,r, -⟩:=F.ad4;have g:(storeCells A [u0,u1] 0).runT P w #[]=(.ok () ((w.setCell A u0).setCell (A.add 1) u1),#[⟨.cell A,true,false⟩,⟨.cell (A.add 1),true,false⟩]):=by
  show(Sem.store .plain (A.add 0) u0 (Sem.store .plain (A.add 1) u1 (Sem.pure ()))).runT P w #[]=_;have j:A.add 0=A:=by unfold Addr.add;simp
  rw[j,abM m a d,abM q (c:=c1) (by rw[uf _ _ _ _ (λe=>ase e.symm)];exact f) (by rw[uS];exact b)];rfl
 have p:(storeCells A [u0,u1] 0).run P w=.ok () ((w.setCell A u0).setCell (A.add 1) u1):=by
  rw[<-rA _ _ _ #[]];exact ga Prod.fst g
 have k:(storeCells A [u0,u1] 0).events P w #[]=#[⟨.cell A,true,false⟩,⟨.cell (A.add 1),true,false⟩]:=ga Prod.snd g;simp[execOp,o,l,Instr.storeAt,Instr.sureAddr,storeVar,sizeOf,typeInfo,n,r,Value.cells,p,k]
theorem atC{A:Addr}{u0 u1:Value}{fn:Func}(c:fn.results=#[.cell 6 141])(m:T.getD 6 undef=.pointer (some A))(b:w.cell? A=some u0)(d:w.cell? (A.add 1)=some u1) :
  (results fn T).runT P w #[]=(.ok (.agg #[u0,u1]) w,#[⟨.cell A,false,false⟩,⟨.cell (A.add 1),false,false⟩]):=by
 obtain⟨i,k,p, -⟩:=F.ad4;obtain⟨q,j⟩:=F.avn;have e:(loadCells A 2).runT P w #[]=(.ok #[u0,u1] w,#[⟨.cell A,false,false⟩,⟨.cell (A.add 1),false,false⟩]):=by
  show(Sem.load .plain (A.add 0) λo=>Sem.load .plain (A.add 1) λn=>Sem.pure #[o,n]).runT P w #[]=_;have f:A.add 0=A:=by unfold Addr.add;simp
  rw[f,Sem.runT];simp only[b];rw[Sem.runT];simp only[d];rfl
 have l:(loadCells A 2).run P w=.ok #[u0,u1] w:=by
  rw[<-rA _ _ _ #[]];exact ga Prod.fst e
 have g:(loadCells A 2).events P w #[]=#[⟨.cell A,false,false⟩,⟨.cell (A.add 1),false,false⟩]:=ga Prod.snd e;have a:T[6]?.getD undef=.pointer (some A):=by rw[<-iS];exact m
 simp[results,c,a,asAddr,loadVar,isAgg,me j,sizeOf,typeInfo,k,p,l,g]
end
def awm{Rl:au->World->World->Prop}(H:pQ Rl Rr){nm : Int}      :
  bM prog main Rl (pP Rr) (λ_ g _=>g=⟨cfr.finish (.agg #[.string ⟨#[]⟩,.bool false]),cs,.running,none,none⟩) S
   (Gl (Frame.enter prog 86 #[.int .i64 key,.slice A 0 c,.int .i64 nm] .normal::[]) (cfr::cs)) w:=by
 have C:=H.cmp;have K:Frame.enter prog 86 #[.int .i64 key,.slice A 0 c,.int .i64 nm] .normal=FQ 86 (#[.int .i64 key,.slice A 0 c,.int .i64 nm]++Array.replicate 26 undef) [.code (f86.body.getD .skip)]:=by
  unfold Frame.enter;rw[func86];rfl
 rw[K];obtain⟨T,hT,j,U⟩:∃T:Array Value,T=#[.int .i64 key,.slice A 0 c,.int .i64 nm]++Array.replicate 26 undef/\29<=T.size/\T.getD 1 undef=.slice A 0 c:=⟨_,rfl,by simp,by rw[iS,sd (by simp)];rfl⟩;rw[<-hT];simp only[f86,qw];have key:∀y,Rl S w y->bM prog main Rl (pP Rr) (λ_ g _=>g=⟨cfr.finish (.agg #[.string ⟨#[]⟩,.bool false]),cs,.running,none,none⟩) S (Gl (FQ 86 T [.code (f86.body.getD .skip)]::[]) (cfr::cs)) y:=by
  simp only[f86,qw];refine eN C (gD C (l:=[0]) rfl (nU H (d:=6) (bd (by decide) j) rfl rfl rfl (λw=>akC faT) λn cZ T1 a k o=> ?_));replace U:=(o 1 (by decide)).trans U;replace j:=ap j (pa a.symm);have hB:(n.alloc (.cells #[.string ⟨#[]⟩,.bool false] 141)).heap[n.heap.size]?=some (.cells #[.string ⟨#[]⟩,.bool false] 141 (0,0)):=by
   show(n.heap.push _)[n.heap.size]?=_;rw[rh]
  have s:SN S n (n.alloc (.cells #[.string ⟨#[]⟩,.bool false] 141)) n.heap.size:=.inr ⟨am _,by rw[oS];omega⟩;have G:n.heap.size<(n.alloc (.cells #[.string ⟨#[]⟩,.bool false] 141)).heap.size:=by rw[oS];omega
  generalize SN S n (n.alloc (.cells #[.string ⟨#[]⟩,.bool false] 141))=S1 at s ⊢;generalize n.alloc (.cells #[.string ⟨#[]⟩,.bool false] 141)=w2 at hB G ⊢;generalize n.heap.size=B at hB s k G;refine iE C (eN C (eN C (gD C (l:=[0,1,2]) rfl ?_)));refine bQ C (d:=11) (v:=.slice A 0 c) (es:=#[]) (bd (by decide) j) rfl rfl rfl (λw r=>fK U) (λw r=>bB _) λT2 a V o=> ?_;replace k:=(o 6 (by decide)).trans k;replace j:=ap j (pa a.symm);refine bQ C (d:=12) (v:=.int .i64 (0:Nat)) (es:=#[]) (bd (by decide) j) rfl rfl rfl (λw r=>atz faT V) (λw r=>bB _) λT3 a E o=> ?_;replace k:=(o 6 (by decide)).trans k;replace j:=ap j (pa a.symm);refine bQ C (d:=13) (v:=.int .i64 0) (es:=#[]) (bd (by decide) j) rfl rfl rfl (λw r=>fK rfl) (λw r=>bB _) λT4 a a0 o=> ?_;replace k:=(o 6 (by decide)).trans k;replace E:=(o 12 (by decide)).trans E;replace j:=ap j (pa a.symm);refine iE C (aeK C (ans C (eN C (gD C (l:=[0]) rfl ?_))));refine bQ C (d:=14) (v:=.bool (decide ((0:Int)<((0:Nat):Int)))) (es:=#[]) (bd (by decide) j) rfl rfl rfl (λw r=>atA a0 E) (λw r=>bB _) λT5 a z o=> ?_;replace k:=(o 6 (by decide)).trans k;replace j:=ap j (pa a.symm);replace z:T5.getD 14 undef=.bool false:=z.trans rfl;refine iE C (eN C (acv C (q:=false) z ?_));simp only[li,qM];refine an5 C rfl (eN C (gD C (l:=[0,1]) rfl ?_));refine bQ C (d:=28) (v:=.agg #[.string ⟨#[]⟩,.bool false]) (es:=#[]) (bd (by decide) j) rfl rfl rfl (λw r=>akD) (λw r=>bB _) λW a jB o=> ?_;replace k:=(o 6 (by decide)).trans k;replace j:=ap j (pa a.symm);have u:(⟨B,0,none⟩:Addr).add 1=⟨B,1,none⟩:=jr _ _ _;have keep:∀y,Rl S1 w2 y->y.heap[B]?=some (.cells #[.string ⟨#[]⟩,.bool false] 141 (0,0))/\B<y.heap.size:=λy hr=>by
   obtain⟨Z,r2, -⟩:=H.rl _ _ _ hr;exact⟨(Z B (.inl s)).trans hB,by omega⟩
  intro w3 Q;refine .step rfl λt Y=> ?_;obtain⟨L,b2⟩:=keep t (H.tr _ _ _ _ Q Y);have c0:=fq (i:=0) L;have c1:=fq (i:=1) L;refine⟨_,_,_,_,ae8 rfl rfl rfl rfl rfl rfl (ag8 faT (A:=⟨B,0,none⟩) (u0:=.string ⟨#[]⟩) (u1:=.bool false) (c0:=.string ⟨#[]⟩) (c1:=.bool false) rfl rfl k jB c0 (iL L) (by rw[u];exact c1) (by rw[u];exact iL L)),⟨λb hb hn=> ?_, ?_,rfl,rfl,λev K=> ?_⟩, ?_⟩
  .have F:B≠b:=λe=>hn (e▸s);rw[u,bu _ _ _ F,bu _ _ _ F]
  .rw[bv,bv];exact am _
  .have N:=tn K;simp only[sJ,mu,rN,uj] at N;have M:B<((t.setCell ⟨B,0,none⟩ (.string ⟨#[]⟩)).setCell ((⟨B,0,none⟩:Addr).add 1) (.bool false)).heap.size:=by rw[bv,bv];exact b2
   rcases N with rfl|rfl
   .exact⟨λx p=>.inl (by simp[MemAct.ofEvent,MemAct.touch?] at p;rw[<-p];exact .inl s),λm D=>(by cases D),M⟩
   .refine⟨λx p=>.inl ?_,λm D=>(by cases D), ?_⟩
    .simp[MemAct.ofEvent,MemAct.touch?] at p;rw[<-p,u];exact .inl s
    .show((⟨B,0,none⟩:Addr).add 1).block<_;rw[rF];exact M
  have P:(λb=>S1 b\/(t.heap.size<=b/\b<((t.setCell ⟨B,0,none⟩ (.string ⟨#[]⟩)).setCell ((⟨B,0,none⟩:Addr).add 1) (.bool false)).heap.size))=S1:=awl (by rw[bv,bv]);rw[P];have I:((t.setCell ⟨B,0,none⟩ (.string ⟨#[]⟩)).setCell ((⟨B,0,none⟩:Addr).add 1) (.bool false)).heap[B]?=some (.cells #[.string ⟨#[]⟩,.bool false] 141 (0,0)):=by
   rw[u];exact setRow (setRow L)
  have R:B<((t.setCell ⟨B,0,none⟩ (.string ⟨#[]⟩)).setCell ((⟨B,0,none⟩:Addr).add 1) (.bool false)).heap.size:=by rw[bv,bv];exact b2
  generalize (t.setCell ⟨B,0,none⟩ (.string ⟨#[]⟩)).setCell ((⟨B,0,none⟩:Addr).add 1) (.bool false)=w5 at I R ⊢;refine iE (f:=86) (T:=W) C (w0:=w5) ?_ w5 (H.gz _ _);refine bM.still C (l2:=⟨86,W,[.code .ret],[],.returning,.normal,none⟩::[]) (es:=λ_=>#[]) (λw _=>by simp[Gl,stepG,stepG.exec]) (λ_ _ e h=>by cases(by simpa using h:False)) ?_;intro w6 O;refine .step rfl λw7 X=> ?_;obtain⟨Z,r2, -⟩:=H.rl _ _ _ (H.tr _ _ _ _ O X);have b7:=(Z B (.inl s)).trans I;have J:=atC faT (T:=W) (A:=⟨B,0,none⟩) (fn:=f86) rfl k (fq (i:=0) b7) (by rw[u];exact fq (i:=1) b7);refine⟨⟨cfr.finish (.agg #[.string ⟨#[]⟩,.bool false]),cs,.running,none,none⟩,w7,seen prog 86 #[⟨.cell ⟨B,0,none⟩,false,false⟩,⟨.cell ((⟨B,0,none⟩:Addr).add 1),false,false⟩],_, ?_,⟨λ_ _ _=>rfl,am _,rfl,rfl,λev K=> ?_⟩,.stop λ_ _=>rfl⟩
  .simp only[Gl,stepG,unwind,func86,J,rH];simp[doReturn,GStep.after]
  .have N:=tn K;simp only[sJ,mu,rN,uj] at N;rcases N with rfl|rfl
   .exact⟨λx p=>.inl (by simp[MemAct.ofEvent,MemAct.touch?] at p;rw[<-p];exact .inl s),λm D=>(by cases D),by show B<_;omega⟩
   .refine⟨λx p=>.inl ?_,λm D=>(by cases D), ?_⟩
    .simp[MemAct.ofEvent,MemAct.touch?] at p;rw[<-p,u];exact .inl s
    .show((⟨B,0,none⟩:Addr).add 1).block<_;rw[rF];show B<_;omega
 exact key w (H.gz _ _)
end
section
open Go Go.Conc Go.ConcR Go.RowKit Go.Conc.Lib Go.ConcR.Gen
abbrev eR:WgLink:={add:=83,done:=85,wait:=87,relMerge:=113,disable:=114,enable:=115,inBubble:=116,associate:=117,fatal:=118,uOr:=119,uAdd:=120,raceRead:=121,uLoad:=122,uStore:=123,disassociate:=124,semrelease:=125,acquire:=127,isAssociated:=128,uCas:=129,raceWrite:=130,semacquire:=131,orU64:=145,addU64:=146,loadU64:=147,storeU64:=148,casU64:=152,tWgP:=165,tUP:=167,tAssoc:=169,tWg:=138,tAU:=136,tU64:=129,tUint:=95,tU32:=127,tPU32:=173,tPAU:=199,tPU64:=201,tNoCopy:=132,tANoCopy:=133,tAlign64:=134}
def aaS:WgLib prog eR:=
 ⟨func83,func85,func87,func113,func114,func115,func116,func117,func118,func119,func120,func121,func122,func123,func124,func125,func127,func128,func129,func130,func131,func145,func146,func147,func148,func152,underlying165,Tryz.runUnderlying165,Tryz.sizeOf165,Tryz.isAgg165,Tryz.zeroValue165,underlying167,Tryz.runUnderlying167,Tryz.sizeOf167,Tryz.isAgg167,Tryz.zeroValue167,underlying169,Tryz.runUnderlying169,Tryz.sizeOf169,Tryz.isAgg169,Tryz.zeroValue169,underlying138,Tryz.runUnderlying138,Tryz.sizeOf138,Tryz.isAgg138,Tryz.zeroValue138,underlying136,Tryz.runUnderlying136,Tryz.sizeOf136,Tryz.isAgg136,Tryz.zeroValue136,underlying129,Tryz.runUnderlying129,Tryz.sizeOf129,Tryz.isAgg129,Tryz.zeroValue129,underlying95,Tryz.runUnderlying95,Tryz.sizeOf95,Tryz.isAgg95,Tryz.zeroValue95,underlying127,Tryz.runUnderlying127,Tryz.sizeOf127,Tryz.isAgg127,Tryz.zeroValue127,underlying173,Tryz.runUnderlying173,Tryz.sizeOf173,Tryz.isAgg173,Tryz.zeroValue173,underlying199,Tryz.runUnderlying199,Tryz.sizeOf199,Tryz.isAgg199,Tryz.zeroValue199,underlying201,Tryz.runUnderlying201,Tryz.sizeOf201,Tryz.isAgg201,Tryz.zeroValue201,underlying0,Tryz.runUnderlying0,Tryz.sizeOf0,Tryz.isAgg0,wi,underlying3,Tryz.runUnderlying3,vW,wm,uV,underlying4,Tryz.runUnderlying4,Tryz.sizeOf4,Tryz.isAgg4,wh,underlying9,Tryz.runUnderlying9,Tryz.sizeOf9,Tryz.isAgg9,Tryz.zeroValue9,underlying20,Tryz.runUnderlying20,Tryz.sizeOf20,Tryz.isAgg20,Tryz.zeroValue20,underlying21,Tryz.runUnderlying21,Tryz.sizeOf21,Tryz.isAgg21,Tryz.zeroValue21,(by kernel_rfl),(by kernel_rfl)⟩
end
section
open Go Go.Conc Go.ConcN Go.RowKit Go.Conc.Lib Go.ConcR.Gen Go.ConcN.Gen
open Go.ConcR (KK wgBlock WgAt stA smA rd wr mk Payload Aside2 DC0)
section
variable (P:Program) (R:World->World->Prop) (ty:TypeId) (Wg:Nat)
def pD(e:Mark)(m:Nat)(S:Goroutine->World->Prop)(g:Goroutine)(w:World):Prop:=
 g.status=.running/\∃a,stepG P true g w=.go a w #[mk e]/\Goes P true R DC0 S m a w
def akE(S:Goroutine->World->Prop)(g:Goroutine)(w:World):Prop:=
 g.status=.running/\∀v:Nat,v<2147483647->WgAt ty Wg w (v*KK) 0->
  ∃a,stepG P true g w=.go a (w.setCell (stA Wg) (.int .u64 ((v+1)*KK))) #[rd (stA Wg),wr (stA Wg)]/\
   (v=0->Goes P true R DC0 (pD P R (.read ⟨Wg,1,none⟩) 120 (pD P R .enable 3 S)) 120 a (w.setCell (stA Wg) (.int .u64 ((v+1)*KK))))/\
   (v≠0->Goes P true R DC0 (pD P R .enable 3 S) 120 a (w.setCell (stA Wg) (.int .u64 ((v+1)*KK))))
end
section
variable {P:Program} {L:WgLink} {R:World->World->Prop} {Wg:Nat} {S:Goroutine->World->Prop}
 {b₀:Frame} {a₀:Act} {ops₀:Array Oper} {i₀:Nat} {rest₀:List Nat} {k₀:List Item} {cs:List Frame}
def atD (H:WgLib P L) (b:∀w d,WgLive L.tWg Wg w->R w d->WgLive L.tWg Wg d)
  (l:∀w,WgLive L.tWg Wg w->S (G (b₀.at (a₀.put ((ops₀[i₀]?).bind (·.dst)) (.tuple #[])) (.inRegion ops₀ rest₀::k₀)) cs) w)
  (w:World) (a:WgLive L.tWg Wg w) :
  Goes P true R DC0 (pD P R .disable 60 (akE P R L.tWg Wg S)) 30
   (G ((base L.add).at ⟨#[.pointer (some ⟨Wg,0,none⟩),.int .i64 1,undef,undef,undef,undef,undef,undef,undef,undef,undef,undef,undef,undef,undef,undef,undef,undef,undef,undef,undef,undef,undef,undef,undef,undef,undef,undef,undef,undef,undef,undef,undef,undef,undef,undef,undef,undef,undef,undef,undef,undef,undef,undef,undef,undef,undef,undef,undef,undef,undef,undef,undef,undef,undef,undef,undef,undef,undef,undef,undef,undef,undef,undef,undef,undef,undef,undef,undef,undef,undef,undef,undef,undef,undef,undef,undef,undef,undef,undef,undef,undef,undef,undef,undef,undef,undef,undef,undef,undef,undef,undef,undef,undef,undef,undef,undef,undef,undef,undef,undef,undef,undef,undef,undef,undef,undef,undef,undef,undef,undef,undef,undef,undef,undef,undef,undef],[]⟩ [.code (body_add L)]) (b₀.at a₀ (.inRegion ops₀ (i₀::rest₀)::k₀)::cs)) w:=by
 lib_facts
 simp only[body_add,addFn,qw]
 u_c lw (b _ _) a
 u_cond true (b _ _) a
 u_c lw (b _ _) a
 u_c lw (b _ _) a
 u_reg (b _ _) a
 u_op (b _ _) a
 u_op (b _ _) a
 u_c fb (b _ _) a
 u_cond false (b _ _) a
 u_c rQ (b _ _) a
 u_c lw (b _ _) a
 u_reg (b _ _) a
 refine qH (λd c=> ?_);replace a:=b _ _ a c;clear c;refine⟨rfl,_,vA .disable (by simp) rfl rfl (by k_ne) rfl H.f_disable (x_disable_n L) (x_disable_b L) (x_disable_x L) (x_disable_f L), ?_⟩
 walk_nrm
 u_c fb (b _ _) a
 u_reg (b _ _) a
 u_defer (b _ _) a
 u_c fb (b _ _) a
 u_c lw (b _ _) a
 u_reg (b _ _) a
 u_op (b _ _) a
 u_c fb (b _ _) a
 u_c lw (b _ _) a
 u_c lw (b _ _) a
 u_reg (b _ _) a
 u_bub (b _ _) a
 u_c fb (b _ _) a
 u_cond false (b _ _) a
 u_c rQ (b _ _) a
 u_c lw (b _ _) a
 u_reg (b _ _) a
 u_op (b _ _) a
 u_op (b _ _) a
 u_op (b _ _) a
 u_op (b _ _) a
 u_op (b _ _) a
 u_op (b _ _) a
 u_call H.f_uAdd (nm_uAdd L) uAddFn (b _ _) a
 u_c lw (b _ _) a
 u_reg (b _ _) a
 u_op (b _ _) a
 u_c fb (b _ _) a
 u_c lw (b _ _) a
 u_reg (b _ _) a
 u_op (b _ _) a
 u_op (b _ _) a
 u_op (b _ _) a
 u_op (b _ _) a
 refine qH (λd c=> ?_);replace a:=b _ _ a c;clear c;refine⟨rfl,λv B g=> ?_⟩;rcases pv v with rfl|o
 .replace g:WgAt L.tWg Wg d 0 0:=by simpa using g
  have z:(((0:Nat):Int)+1)*KK=KK:=by simp
  rw[z];have m:IntKind.u64.wrap (0+4294967296)=KK:=by decide
  refine⟨_,(stepG_add_atomic rfl rfl (by k_ne) rfl H.f_addU64 (x_addU64_n L) (x_addU64_b L) (x_addU64_x L) .u64 (x_addU64_f L) rfl rfl g.cellSt (g.thaw 0)).trans (by rw[m];rfl),λ_=> ?_,λh=>absurd rfl h⟩;replace a:WgLive L.tWg Wg (d.setCell (stA Wg) (.int .u64 KK)):=⟨_,_,g.setSt _⟩;clear g;simp only[KK] at a ⊢
  walk_nrm
  u_op (b _ _) a
  u_c fb (b _ _) a
  u_c sL (b _ _) a
  u_leave1 H.f_uAdd (b _ _) a
  u_op (b _ _) a
  u_c fb (b _ _) a
  u_c lw (b _ _) a
  u_c lw (b _ _) a
  u_reg (b _ _) a
  u_op (b _ _) a
  u_op (b _ _) a
  u_op (b _ _) a
  u_op (b _ _) a
  u_skip (b _ _) a
  u_skip (b _ _) a
  u_op (b _ _) a
  u_c fb (b _ _) a
  u_cond false (b _ _) a
  u_c rQ (b _ _) a
  u_c lw (b _ _) a
  u_reg (b _ _) a
  u_op (b _ _) a
  u_op (b _ _) a
  u_op (b _ _) a
  u_op (b _ _) a
  u_c fb (b _ _) a
  u_c lw (b _ _) a
  u_reg (b _ _) a
  u_op (b _ _) a
  u_op (b _ _) a
  u_op (b _ _) a
  u_op (b _ _) a
  u_c fb (b _ _) a
  u_c lw (b _ _) a
  u_c lw (b _ _) a
  u_reg (b _ _) a
  u_op (b _ _) a
  u_op (b _ _) a
  u_op (b _ _) a
  u_op (b _ _) a
  u_op (b _ _) a
  u_op (b _ _) a
  u_op (b _ _) a
  u_op (b _ _) a
  u_op (b _ _) a
  u_op (b _ _) a
  u_c fb (b _ _) a
  u_cond true (b _ _) a
  u_reg (b _ _) a
  u_op (b _ _) a
  u_op (b _ _) a
  u_op (b _ _) a
  u_conv H.underlying_tPU32 H.room_tU32 (WgLive.cell1 a).choose_spec (b _ _) a
  refine qH (λd c=> ?_);replace a:=b _ _ a c;clear c;refine⟨rfl,_,uU .read (by simp) rfl rfl (by k_ne) rfl H.f_raceRead (x_raceRead_n L) (x_raceRead_b L) (x_raceRead_x L) (x_raceRead_f L) (ad:=⟨Wg,1,none⟩) (by simp[Act.eval]), ?_⟩
  walk_nrm
  u_c fb (b _ _) a
  u_c lw (b _ _) a
  u_c lw (b _ _) a
  u_reg (b _ _) a
  u_op (b _ _) a
  u_op (b _ _) a
  u_c fb (b _ _) a
  u_cond false (b _ _) a
  u_c rQ (b _ _) a
  u_c lw (b _ _) a
  u_c lw (b _ _) a
  u_reg (b _ _) a
  u_op (b _ _) a
  u_op (b _ _) a
  u_op (b _ _) a
  u_skip (b _ _) a
  u_skip (b _ _) a
  u_op (b _ _) a
  u_op (b _ _) a
  u_skip (b _ _) a
  u_skip (b _ _) a
  u_skip (b _ _) a
  u_skip (b _ _) a
  u_op (b _ _) a
  u_c fb (b _ _) a
  u_cond false (b _ _) a
  u_c rQ (b _ _) a
  u_c lw (b _ _) a
  u_c lw (b _ _) a
  u_reg (b _ _) a
  u_op (b _ _) a
  u_op (b _ _) a
  u_op (b _ _) a
  u_skip (b _ _) a
  u_skip (b _ _) a
  u_op (b _ _) a
  u_c fb (b _ _) a
  u_cond true (b _ _) a
  u_c sL (b _ _) a
  refine qH (λd c=> ?_);replace a:=b _ _ a c;clear c;refine⟨rfl,_,stepG_unwind_entry (v:=.tuple #[]) (evs:=#[mk .enable]) rfl H.f_enable (x_enable_n L) (x_enable_b L) (x_enable_x L) (x_enable_f L) (by simp[Extern.Race.none_]) (by simp[mk]) (by simp[mk]), ?_⟩
  u_leave0 H.f_add (b _ _) a
  exact qH λi f=>l _ (b _ _ a f)
 .obtain⟨V,j⟩:∃V:Int,V=(v:Int)+1:=⟨_,rfl⟩;obtain⟨St,e⟩:∃St:Int,St=V*KK:=⟨_,rfl⟩;have k:IntKind.u64.wrap ((v:Int)*KK+4294967296)=St:=by rw[IntKind.wrap_u64,e,j];simp only[KK];omega
  rw[<-j,<-e];have C:St / 4294967296=V:=by rw[e];simp only[KK];omega
  have q:bits .and .u64 St 2147483648=0:=by rw[e,j];have:=st_flag (v+1) 0 (by omega) (by omega);simpa[KK] using this
  have A:bits .and .u64 St 2147483647=0:=by rw[e,j];have:=st_waiters (v+1) 0 (by omega) (by omega);simpa[KK] using this
  have u:IntKind.i32.wrap V=V:=by rw[IntKind.wrap_i32];omega
  have n:1<V:=by omega
  have p:V<2147483648:=by omega
  have s:(V ==1)=false:=by simp;omega
  have D:=da (show ¬(V=1) by omega);have t:=da (show ¬(V<0) by omega);have y:=dk (show 0<V by omega);have x:(V ==0)=false:=by simp;omega
  have r:=da (show ¬(V=0) by omega);refine⟨_,(stepG_add_atomic rfl rfl (by k_ne) rfl H.f_addU64 (x_addU64_n L) (x_addU64_b L) (x_addU64_x L) .u64 (x_addU64_f L) rfl rfl g.cellSt (g.thaw 0)).trans (by rw[k];rfl),λh=>absurd h (by omega),λ_=> ?_⟩;replace a:WgLive L.tWg Wg (d.setCell (stA Wg) (.int .u64 St)):=⟨_,_,g.setSt _⟩;clear g e j k
  walk_nrm
  u_op (b _ _) a
  u_c fb (b _ _) a
  u_c sL (b _ _) a
  u_leave1 H.f_uAdd (b _ _) a
  u_op (b _ _) a
  u_c fb (b _ _) a
  u_c lw (b _ _) a
  u_c lw (b _ _) a
  u_reg (b _ _) a
  u_op (b _ _) a
  u_op (b _ _) a
  u_op (b _ _) a
  u_op (b _ _) a
  u_skip (b _ _) a
  u_skip (b _ _) a
  u_op (b _ _) a
  u_c fb (b _ _) a
  u_cnd false (b _ _) a
  u_c rQ (b _ _) a
  u_c lw (b _ _) a
  u_reg (b _ _) a
  u_op (b _ _) a
  u_op (b _ _) a
  u_op (b _ _) a
  u_op (b _ _) a
  u_c fb (b _ _) a
  u_c lw (b _ _) a
  u_reg (b _ _) a
  u_op (b _ _) a
  u_op (b _ _) a
  u_op (b _ _) a
  u_op (b _ _) a
  u_c fb (b _ _) a
  u_c lw (b _ _) a
  u_c lw (b _ _) a
  u_reg (b _ _) a
  u_op (b _ _) a
  u_op (b _ _) a
  u_op (b _ _) a
  u_op (b _ _) a
  u_op (b _ _) a
  u_op (b _ _) a
  u_op (b _ _) a
  u_op (b _ _) a
  u_op (b _ _) a
  u_op (b _ _) a
  u_c fb (b _ _) a
  u_cnd false (b _ _) a
  u_c rQ (b _ _) a
  u_c lw (b _ _) a
  u_c lw (b _ _) a
  u_reg (b _ _) a
  u_op (b _ _) a
  u_op (b _ _) a
  u_c fb (b _ _) a
  u_cnd false (b _ _) a
  u_c rQ (b _ _) a
  u_c lw (b _ _) a
  u_c lw (b _ _) a
  u_reg (b _ _) a
  u_op (b _ _) a
  u_op (b _ _) a
  u_op (b _ _) a
  u_skip (b _ _) a
  u_skip (b _ _) a
  u_op (b _ _) a
  u_op (b _ _) a
  u_skip (b _ _) a
  u_skip (b _ _) a
  u_skip (b _ _) a
  u_skip (b _ _) a
  u_op (b _ _) a
  u_c fb (b _ _) a
  u_cnd false (b _ _) a
  u_c rQ (b _ _) a
  u_c lw (b _ _) a
  u_c lw (b _ _) a
  u_reg (b _ _) a
  u_op (b _ _) a
  u_op (b _ _) a
  u_op (b _ _) a
  u_skip (b _ _) a
  u_skip (b _ _) a
  u_op (b _ _) a
  u_c fb (b _ _) a
  u_cnd true (b _ _) a
  u_c sL (b _ _) a
  refine qH (λd c=> ?_);replace a:=b _ _ a c;clear c;refine⟨rfl,_,stepG_unwind_entry (v:=.tuple #[]) (evs:=#[mk .enable]) rfl H.f_enable (x_enable_n L) (x_enable_b L) (x_enable_x L) (x_enable_f L) (by simp[Extern.Race.none_]) (by simp[mk]) (by simp[mk]), ?_⟩
  u_leave0 H.f_add (b _ _) a
  exact qH λi f=>l _ (b _ _ a f)
end
end
section
open Go Go.Conc Go.ConcN Go.RowKit Go.Conc.Lib Go.ConcR.Gen Go.ConcN.Gen
open Go.ConcR (KK wgBlock WgAt stA smA rd wr mk Aside2 DC0)
section
variable (P:Program) (R:World->World->Prop) (ty:TypeId) (Wg:Nat) (anb S:Goroutine->World->Prop)
abbrev WKe:Goroutine->World->Prop:=pD P R .enable 12 (pD P R (.acquire (stA Wg)) 20 S)
def WW4(g:Goroutine)(w:World):Prop:=g.status=.running/\(WgAt ty Wg w 0 0->∃a,stepG P true g w=.go a w #[rd (stA Wg)]/\Goes P true R DC0 (WKe P R Wg S) 40 a w)
def WW3(g:Goroutine)(w:World):Prop:=g.status=.running/\g.offers=none/\
  ((∃b,WgAt ty Wg w b 0)->stepG P true g w=.go {g with status:=.blocked} w #[])/\
  (WgAt ty Wg w 0 1->∃a,stepG P true g w=.go a (w.setCell (smA Wg) (.int .u32 0)) (semEvents (smA Wg))/\Goes P true R DC0 (WW4 P R ty Wg S) 40 a (w.setCell (smA Wg) (.int .u32 0)))
def WW2(vs:Nat)(g:Goroutine)(w:World):Prop:=g.status=.running/\∀v:Nat,v<2147483648->WgAt ty Wg w (v*KK) 0->
  (v=vs->∃a,stepG P true g w=.go a (w.setCell (stA Wg) (.int .u64 (v*KK+1))) #[rd (stA Wg),wr (stA Wg)]/\Goes P true R DC0 (pD P R (.write ⟨Wg,1,none⟩) 60 (WW3 P R ty Wg S)) 120 a (w.setCell (stA Wg) (.int .u64 (v*KK+1))))/\
  (v≠vs->∃a,stepG P true g w=.go a w #[rd (stA Wg)]/\Goes P true R DC0 anb 60 a w)
def WW1(g:Goroutine)(w:World):Prop:=g.status=.running/\∀v:Nat,v<2147483648->WgAt ty Wg w (v*KK) 0->∃a,stepG P true g w=.go a w #[rd (stA Wg)]/\
  (v=0->Goes P true R DC0 (WKe P R Wg S) 60 a w)/\(v≠0->Goes P true R DC0 (WW2 P R ty Wg anb S v) 120 a w)
end
def aiG(L:WgLink)(Wg:Nat)(c:Frame)(cs:List Frame)(g:Goroutine)(w:World):Prop:=
 ∃T:Array Value,g=G ((base L.wait).at ⟨T,[]⟩ [.code (L7 L),.inLoop (L7 L),.inBlock 0]) (c::cs)/\T.size=84/\T[0]?=some (.pointer (some ⟨Wg,0,none⟩))/\WgLive L.tWg Wg w
section
variable {P:Program} {L:WgLink} {R:World->World->Prop} {Wg:Nat} {S:Goroutine->World->Prop}
 {b₀:Frame} {a₀:Act} {ops₀:Array Oper} {i₀:Nat} {rest₀:List Nat} {k₀:List Item} {cs:List Frame}
def ak5(H:WgLib P L)(c:∀w a,WgLive L.tWg Wg w->R w a->WgLive L.tWg Wg a)(w:World)(b:WgLive L.tWg Wg w) :
  Goes P true R DC0 (pD P R .disable 3 (aiG L Wg (b₀.at a₀ (.inRegion ops₀ (i₀::rest₀)::k₀)) cs)) 3
   (G ((base L.wait).at ⟨#[.pointer (some ⟨Wg,0,none⟩)]++(List.replicate 83 undef).toArray,[]⟩ [.code (body_wait L)]) (b₀.at a₀ (.inRegion ops₀ (i₀::rest₀)::k₀)::cs)) w:=by
 lib_facts
 simp only[body_wait,waitFn,qw]
 u_c lw (c _ _) b
 u_cond true (c _ _) b
 u_reg (c _ _) b
 refine qH (λa d=> ?_);replace b:=c _ _ b d;refine⟨rfl,_,vA .disable (by simp) rfl rfl (by k_ne) rfl H.f_disable (x_disable_n L) (x_disable_b L) (x_disable_x L) (x_disable_f L), ?_⟩
 walk_nrm
 u_c fb (c _ _) b
 u_c stepG_block (c _ _) b
 u_c stepG_loop (c _ _) b
 exact qH (λf e=>⟨_,rfl,by simp,by simp,c _ _ b e⟩)
def ak3 (H:WgLib P L) (b:∀w c,WgLive L.tWg Wg w->R w c->WgLive L.tWg Wg c)
  (x:∀w,WgLive L.tWg Wg w->S (G (b₀.at (a₀.put ((ops₀[i₀]?).bind (·.dst)) (.tuple #[])) (.inRegion ops₀ rest₀::k₀)) cs) w)
  (g:Goroutine) (w:World) (h:aiG L Wg (b₀.at a₀ (.inRegion ops₀ (i₀::rest₀)::k₀)) cs g w) :
  Goes P true R DC0 (WW1 P R L.tWg Wg (aiG L Wg (b₀.at a₀ (.inRegion ops₀ (i₀::rest₀)::k₀)) cs) S) 30 g w:=by
 lib_facts
 obtain⟨T,rfl,p,t,a⟩:=h;obtain⟨v0,v1,v2,v3,v4,v5,v6,v7,v8,v9,aT,O,bn,z,ba,C,K,ao,bT,a8,a2,A,bL,c2,J,bw,bi,a4,bz,aa,Y,b0,y,bS,a0,N,bZ,bO,bf,X,U,W,bq,a7,aV,Q,D,bp,b9,bc,aL,bl,aI,af,E,b6,bk,b5,a5,bJ,a3,bX,ay,b4,b7,B,I,M,bb,b8,bx,aZ,br,c0,a6,aH,c3,a9,F,b3,bo,an,al,Z,rfl⟩:=array84 T p;simp only[wD,tz,lP] at t;subst t;simp only[L7,body_wait,waitFn,qw]
 u_c stepG_block (b _ _) a
 u_c lw (b _ _) a
 u_reg (b _ _) a
 u_op (b _ _) a
 u_op (b _ _) a
 u_op (b _ _) a
 u_call H.f_uLoad (nm_uLoad L) uLoadFn (b _ _) a
 u_c lw (b _ _) a
 u_reg (b _ _) a
 u_op (b _ _) a
 u_c fb (b _ _) a
 u_c lw (b _ _) a
 u_reg (b _ _) a
 u_op (b _ _) a
 u_op (b _ _) a
 u_op (b _ _) a
 refine qH (λc d=> ?_);replace a:=b _ _ a d;refine⟨rfl,λv hv j=> ?_⟩;rcases pv v with rfl|ax
 .replace j:WgAt L.tWg Wg c 0 0:=by simpa using j
  refine⟨_,stepG_load_atomic (v:=0) rfl rfl (by k_ne) rfl H.f_loadU64 (x_loadU64_n L) (x_loadU64_b L) (x_loadU64_x L) .u64 (x_loadU64_f L) rfl j.cellSt,λ_=> ?_,λh=>absurd rfl h⟩
  walk_nrm
  u_op (b _ _) a
  u_c fb (b _ _) a
  u_c sL (b _ _) a
  u_leave1 H.f_uLoad (b _ _) a
  u_op (b _ _) a
  u_c fb (b _ _) a
  u_c lw (b _ _) a
  u_reg (b _ _) a
  u_op (b _ _) a
  u_op (b _ _) a
  u_op (b _ _) a
  u_op (b _ _) a
  u_c fb (b _ _) a
  u_c lw (b _ _) a
  u_reg (b _ _) a
  u_op (b _ _) a
  u_op (b _ _) a
  u_op (b _ _) a
  u_op (b _ _) a
  u_c fb (b _ _) a
  u_c lw (b _ _) a
  u_c lw (b _ _) a
  u_reg (b _ _) a
  u_op (b _ _) a
  u_op (b _ _) a
  u_c fb (b _ _) a
  u_cond true (b _ _) a
  u_c lw (b _ _) a
  u_cond true (b _ _) a
  u_c lw (b _ _) a
  u_reg (b _ _) a
  refine qH (λc d=> ?_);replace a:=b _ _ a d;refine⟨rfl,_,vA .enable (by simp) rfl rfl (by k_ne) rfl H.f_enable (x_enable_n L) (x_enable_b L) (x_enable_x L) (x_enable_f L), ?_⟩
  walk_nrm
  u_c fb (b _ _) a
  u_reg (b _ _) a
  u_op (b _ _) a
  u_conv H.underlying_tWgP H.room_tWg (WgLive.cell0 a).choose_spec (b _ _) a
  refine qH (λc d=> ?_);replace a:=b _ _ a d;refine⟨rfl,_,uU .acquire (by simp) rfl rfl (by k_ne) rfl H.f_acquire (x_acquire_n L) (x_acquire_b L) (x_acquire_x L) (x_acquire_f L) (by simp[Act.eval,stA]), ?_⟩
  walk_nrm
  u_c fb (b _ _) a
  u_c lw (b _ _) a
  u_c lw (b _ _) a
  u_reg (b _ _) a
  u_op (b _ _) a
  u_op (b _ _) a
  u_op (b _ _) a
  u_op (b _ _) a
  u_op (b _ _) a
  u_op (b _ _) a
  u_op (b _ _) a
  u_op (b _ _) a
  u_skip (b _ _) a
  u_skip (b _ _) a
  u_op (b _ _) a
  u_c fb (b _ _) a
  u_cond false (b _ _) a
  u_c rQ (b _ _) a
  u_c sL (b _ _) a
  u_leave0 H.f_wait (b _ _) a
  exact qH λk f=>x _ (b _ _ a f)
 .obtain⟨V,o⟩:∃V:Int,(v:Int)*KK=V:=⟨_,rfl⟩;have a1:V / 4294967296=(v:Int):=by rw[<-o];simp only[KK];omega
  have b1:bits .and .u64 V 2147483648=0:=by rw[<-o];have:=st_flag v 0 (by omega) (by omega);simpa[KK] using this
  have b2:bits .and .u64 V 2147483647=0:=by rw[<-o];have:=st_waiters v 0 (by omega) (by omega);simpa[KK] using this
  have c1:IntKind.i32.wrap (v:Int)=(v:Int):=by rw[IntKind.wrap_i32];omega
  have w1:IntKind.u64.wrap (V+1)=V+1:=by rw[IntKind.wrap_u64,<-o];simp only[KK];omega
  have q3:=da (show ¬((v:Int)<0) by omega);have q4:=dk (show 0<(v:Int) by omega);have q5:((v:Int) ==0)=false:=by simp;omega
  have q6:=da (show ¬((v:Int)=0) by omega);rw[o] at j;refine⟨_,stepG_load_atomic (v:=V) rfl rfl (by k_ne) rfl H.f_loadU64 (x_loadU64_n L) (x_loadU64_b L) (x_loadU64_x L) .u64 (x_loadU64_f L) rfl j.cellSt,λh0=>absurd h0 (by omega),λ_=> ?_⟩
  walk_nrm
  u_op (b _ _) a
  u_c fb (b _ _) a
  u_c sL (b _ _) a
  u_leave1 H.f_uLoad (b _ _) a
  u_op (b _ _) a
  u_c fb (b _ _) a
  u_c lw (b _ _) a
  u_reg (b _ _) a
  u_op (b _ _) a
  u_op (b _ _) a
  u_op (b _ _) a
  u_op (b _ _) a
  u_c fb (b _ _) a
  u_c lw (b _ _) a
  u_reg (b _ _) a
  u_op (b _ _) a
  u_op (b _ _) a
  u_op (b _ _) a
  u_op (b _ _) a
  u_c fb (b _ _) a
  u_c lw (b _ _) a
  u_c lw (b _ _) a
  u_reg (b _ _) a
  u_op (b _ _) a
  u_op (b _ _) a
  u_c fb (b _ _) a
  u_cnd false (b _ _) a
  u_c rQ (b _ _) a
  u_c lw (b _ _) a
  u_reg (b _ _) a
  u_op (b _ _) a
  u_op (b _ _) a
  u_op (b _ _) a
  u_op (b _ _) a
  u_op (b _ _) a
  u_op (b _ _) a
  u_call H.f_uCas (nm_uCas L) uCasFn (b _ _) a
  u_c lw (b _ _) a
  u_reg (b _ _) a
  u_op (b _ _) a
  u_c fb (b _ _) a
  u_c lw (b _ _) a
  u_reg (b _ _) a
  u_op (b _ _) a
  u_op (b _ _) a
  u_op (b _ _) a
  u_op (b _ _) a
  u_op (b _ _) a
  refine qH (λk f=> ?_);replace a:=b _ _ a f;refine⟨rfl,λv' bt j=>⟨λe=> ?_,λe=> ?_⟩⟩
  .subst e;rw[o] at j ⊢;refine⟨_,stepG_cas_hit (v:=V) (n:=V+1) rfl rfl (by k_ne) rfl H.f_casU64 (x_casU64_n L) (x_casU64_b L) (x_casU64_x L) .u64 (x_casU64_f L) rfl rfl rfl j.cellSt (j.thaw 0), ?_⟩;replace a:WgLive L.tWg Wg (k.setCell (stA Wg) (.int .u64 (V+1))):=⟨_,_,j.setSt _⟩
   walk_nrm
   u_op (b _ _) a
   u_c fb (b _ _) a
   u_c sL (b _ _) a
   u_leave1 H.f_uCas (b _ _) a
   u_c fb (b _ _) a
   u_cond true (b _ _) a
   u_c lw (b _ _) a
   u_c lw (b _ _) a
   u_reg (b _ _) a
   u_op (b _ _) a
   u_op (b _ _) a
   u_op (b _ _) a
   u_op (b _ _) a
   u_c fb (b _ _) a
   u_cond true (b _ _) a
   u_reg (b _ _) a
   u_op (b _ _) a
   u_op (b _ _) a
   u_op (b _ _) a
   u_conv H.underlying_tPU32 H.room_tU32 (WgLive.cell1 a).choose_spec (b _ _) a
   refine qH (λm i=> ?_);replace a:=b _ _ a i;refine⟨rfl,_,uU .write (by simp) rfl rfl (by k_ne) rfl H.f_raceWrite (x_raceWrite_n L) (x_raceWrite_b L) (x_raceWrite_x L) (x_raceWrite_f L) (ad:=⟨Wg,1,none⟩) (by simp[Act.eval]), ?_⟩
   walk_nrm
   u_c fb (b _ _) a
   u_c lw (b _ _) a
   u_reg (b _ _) a
   u_op (b _ _) a
   u_c fb (b _ _) a
   u_c lw (b _ _) a
   u_c lw (b _ _) a
   u_reg (b _ _) a
   u_op (b _ _) a
   u_op (b _ _) a
   u_op (b _ _) a
   u_op (b _ _) a
   u_skip (b _ _) a
   u_op (b _ _) a
   u_c fb (b _ _) a
   u_cond false (b _ _) a
   u_c rQ (b _ _) a
   u_c lw (b _ _) a
   u_reg (b _ _) a
   u_op (b _ _) a
   u_op (b _ _) a
   u_op (b _ _) a
   u_op (b _ _) a
   refine qH (λm i=> ?_);replace a:=b _ _ a i;refine⟨rfl,rfl,λ⟨st,j⟩=>stepG_semacquire_wait rfl rfl rfl H.f_semacquire (x_semacquire_n L) (x_semacquire_b L) (x_semacquire_x L) (x_semacquire_f L) (by simp[Act.eval,smA]) j.cellSm,λs=> ?_⟩;refine⟨_,(stepG_semacquire (n:=1) rfl rfl (by k_ne) rfl H.f_semacquire (x_semacquire_n L) (x_semacquire_b L) (x_semacquire_x L) (x_semacquire_f L) (by simp[Act.eval,smA]) s.cellSm (by decide) (s.thaw 1)).trans rfl, ?_⟩;replace a:WgLive L.tWg Wg (m.setCell (smA Wg) (.int .u32 0)):=⟨_,_,s.setSm 0⟩
   walk_nrm
   u_c fb (b _ _) a
   u_c lw (b _ _) a
   u_reg (b _ _) a
   u_op (b _ _) a
   u_op (b _ _) a
   u_op (b _ _) a
   u_call H.f_uLoad (nm_uLoad L) uLoadFn (b _ _) a
   u_c lw (b _ _) a
   u_reg (b _ _) a
   u_op (b _ _) a
   u_c fb (b _ _) a
   u_c lw (b _ _) a
   u_reg (b _ _) a
   u_op (b _ _) a
   u_op (b _ _) a
   u_op (b _ _) a
   refine qH (λu r=> ?_);replace a:=b _ _ a r;refine⟨rfl,λj=>⟨_,stepG_load_atomic (v:=0) rfl rfl (by k_ne) rfl H.f_loadU64 (x_loadU64_n L) (x_loadU64_b L) (x_loadU64_x L) .u64 (x_loadU64_f L) rfl j.cellSt, ?_⟩⟩
   walk_nrm
   u_op (b _ _) a
   u_c fb (b _ _) a
   u_c sL (b _ _) a
   u_leave1 H.f_uLoad (b _ _) a
   u_op (b _ _) a
   u_op (b _ _) a
   u_c fb (b _ _) a
   u_c lw (b _ _) a
   u_cond true (b _ _) a
   u_c lw (b _ _) a
   u_reg (b _ _) a
   refine qH (λq l=> ?_);replace a:=b _ _ a l;refine⟨rfl,_,vA .enable (by simp) rfl rfl (by k_ne) rfl H.f_enable (x_enable_n L) (x_enable_b L) (x_enable_x L) (x_enable_f L), ?_⟩
   walk_nrm
   u_c fb (b _ _) a
   u_reg (b _ _) a
   u_op (b _ _) a
   u_conv H.underlying_tWgP H.room_tWg (WgLive.cell0 a).choose_spec (b _ _) a
   refine qH (λq l=> ?_);replace a:=b _ _ a l;refine⟨rfl,_,uU .acquire (by simp) rfl rfl (by k_ne) rfl H.f_acquire (x_acquire_n L) (x_acquire_b L) (x_acquire_x L) (x_acquire_f L) (by simp[Act.eval,stA]), ?_⟩
   walk_nrm
   u_c fb (b _ _) a
   u_c lw (b _ _) a
   u_c lw (b _ _) a
   u_reg (b _ _) a
   u_op (b _ _) a
   u_c fb (b _ _) a
   u_cond false (b _ _) a
   u_c rQ (b _ _) a
   u_c sL (b _ _) a
   u_leave0 H.f_wait (b _ _) a
   exact qH λk f=>x _ (b _ _ a f)
  .refine⟨_,stepG_cas_miss (v:=(v':Int)*KK) (old:=V) (n:=V+1) rfl rfl (by k_ne) rfl H.f_casU64 (x_casU64_n L) (x_casU64_b L) (x_casU64_x L) .u64 (x_casU64_f L) rfl rfl rfl j.cellSt (j.thaw 0) (by rw[<-o];simp only[KK];omega), ?_⟩
   walk_nrm
   u_op (b _ _) a
   u_c fb (b _ _) a
   u_c sL (b _ _) a
   u_leave1 H.f_uCas (b _ _) a
   u_c fb (b _ _) a
   u_cond false (b _ _) a
   u_c rQ (b _ _) a
   u_c stepG_inBlock (b _ _) a
   u_c stepG_inLoop (b _ _) a
   exact qH λm i=>⟨_,rfl,by simp,by simp,b _ _ a i⟩
end
end
section
open Go Go.Conc Go.ConcN Go.RowKit Go.Conc.Lib Go.ConcR.Gen Go.ConcN.Gen
open Go.ConcR (KK wgBlock WgAt stA smA rd wr mk Payload DC0)
section
variable {P:Program} {R:World->World->Prop} {Wg:Nat}
def aqp:abv Wg (mk (.read ⟨Wg,1,none⟩)):=⟨_,rfl,.inl rfl⟩
def anc:abv Wg (mk (.write ⟨Wg,1,none⟩)):=⟨_,rfl,.inr rfl⟩
def oU{D i:World->World->Array Event->Prop}{St c:Goroutine->World->Prop}{main:Bool}(k:∀w d e,D w d e->i w d e)(f:∀g w,St g w->c g w) :
  ∀{n:Nat} {g:Goroutine} {w:World},Goes P main R D St n g w->Goes P main R i c n g w
 |0,_,_,h=>λa b=>f _ _ (h a b)
 |n+1,g,w,h=>by
  rcases h with h|⟨l,h⟩
  .exact .inl λa b=>f _ _ (h a b)
  .refine .inr ⟨l,λa b=> ?_⟩;have:=h a b;cases j:stepG P main g a with
   |go m d e=>
    rw[j,tO] at this;rw[tO];exact⟨k _ _ _ this.1,oU k f this.2⟩
   |_=>rw[j] at this;exact this.elim
def awn{D:World->World->Array Event->Prop}(b:n<=V)(h:Goes P main R D St n g w):Goes P main R D St V g w:=by
 induction b with
 |refl=>exact h
 |step _ a=>exact a.more
def dsd(h:DC0 w w' es):DSd Wg w w' es:=⟨h.1,by rw[h.2];simp⟩
def ag9{e:Mark}(q:abv Wg (mk e))(s:∀g w,St g w->Y g w)(i:∀w,R w w)(l:∀a b c,R a b->R b c->R a c) :
  ∀{n:Nat} {g:Goroutine} {w:World},Goes P true R DC0 (pD P R e m St) n g w->Goes P true R (DSd Wg) Y (n+(m+1)) g w:=by
 have stop:∀{g:Goroutine} {w:World},(∀d,R w d->pD P R e m St g d)->Goes P true R (DSd Wg) Y (m+1) g w:=λ{g w} h=>by
  refine .inr ⟨(h w (i w)).1,λd j=> ?_⟩;obtain⟨-,p,f,k⟩:=h d j;rw[f,tO];exact⟨⟨rfl,by simp;exact q⟩,oU (λ_ _ _ x=>dsd x) s k⟩
 intro n
 induction n with
 |zero=>intro g w h;rw[mc];exact stop h
 |succ n r=>
  intro g w h;rcases h with h|⟨o,h⟩
  .exact awn (by omega) (stop h)
  .rw[Nat.succ_add];refine .inr ⟨o,λd j=> ?_⟩;have:=h d j;cases f:stepG P true g d with
   |go p t u=>
    rw[f,tO] at this;rw[tO];exact⟨dsd this.1,r this.2⟩
   |_=>rw[f] at this;exact this.elim
end
section
variable [Payload] {P:Program} {ty:TypeId} {Wg C n:Nat} {R S:au}
def aaT(a:∀g w,St g w->Y g w)(h:Goes P true (RM ty Wg C n R S) DC0 St m g w):GP P ty Wg C n R S Y m g w:=oU (λ_ _ _ x=>dsd x) a h
def azB{F:au->au->Goroutine->World->Prop}(a:∀g w,Goes P true (RM ty Wg C n R S) DC0 St m g w->F R S g w)(h:pD P (RM ty Wg C n R S) (.acquire (stA Wg)) m St g w):ayr P Wg R S F g w:=
 ⟨h.1,let⟨b,e,k⟩:=h.2;⟨b,e,a _ _ k⟩⟩
section
variable {St:Goroutine->World->Prop} {F A:au->au->Goroutine->World->Prop} {anb:Goroutine->World->Prop} (hF:∀g w,Goes P true (RM ty Wg C n R S) DC0 St 20 g w->F R S g w) (hA:∀g w,anb g w->A R S g w)
include hF in
theorem axC(h:WKe P (RM ty Wg C n R S) Wg St g w):MKe P ty Wg C n R S F g w:=
 ⟨h.1,let⟨a,e,k⟩:=h.2;⟨a,e,_,aaT (λ_ _ x=>azB hF x) k⟩⟩
include hF in
theorem aCk(h:WW4 P (RM ty Wg C n R S) ty Wg St g w):MW4 P ty Wg C n R S F g w:=
 ⟨h.1,λa=>let⟨b,e,k⟩:=h.2 a;⟨b,e,_,aaT (λ_ _ x=>axC hF x) k⟩⟩
include hF in
theorem aCl(h:WW3 P (RM ty Wg C n R S) ty Wg St g w):MW3 P ty Wg C n R S F g w:=
 ⟨h.1,h.2.1,h.2.2.1,λa=>let⟨b,e,k⟩:=h.2.2.2 a;⟨b,e,_,aaT (λ_ _ x=>aCk hF x) k⟩⟩
include hF hA in
theorem aCm{v:Nat}(h:WW2 P (RM ty Wg C n R S) ty Wg anb St v g w):MW2 P ty Wg C n R S A F v g w:=
 ⟨h.1,λd f c=>⟨λe=>let⟨b,a,k⟩:=(h.2 d f c).1 e;⟨b,a,_,ag9 anc (λ_ _ x=>aCl hF x) (kg.refl _ _ _) (λ_ _ _=>kg.trans) k⟩,
  λe=>let⟨b,a,k⟩:=(h.2 d f c).2 e;⟨b,a,_,aaT hA k⟩⟩⟩
include hF hA in
theorem az1(h:WW1 P (RM ty Wg C n R S) ty Wg anb St g w):MW1 P ty Wg C n R S A F g w:=
 ⟨h.1,λv c b=>let⟨f,e,d,a⟩:=h.2 v c b;⟨f,e,λe=>⟨_,aaT (λ_ _ x=>axC hF x) (d e)⟩,λe=>⟨_,aaT (λ_ _ x=>aCm hF hA x) (a e)⟩⟩⟩
include hA in
theorem az2(h:pD P (RM ty Wg C n R S) .disable m anb g w):MKd P ty Wg C n R S A g w:=
 ⟨h.1,let⟨a,e,k⟩:=h.2;⟨a,e,_,aaT hA k⟩⟩
end
section
variable {val:Nat->Value} {j:Nat} {Next:au->Goroutine->World->Prop} {St:Goroutine->World->Prop}
def atE(a:∀g w,Goes P true (RM ty Wg C n R S) DC0 St m g w->∃T,GM P ty Wg C n R (MGo P ty Wg C n val j Next R) T S g w)(h:pD P (RM ty Wg C n R S) .enable m St g w):ays P ty Wg C n val j Next R S g w:=
 ⟨h.1,let⟨b,e,k⟩:=h.2;⟨b,e,a _ _ k⟩⟩
def aCn(b:∀g w,Goes P true (RM ty Wg C n R S) DC0 St 3 g w->∃T,GM P ty Wg C n R (MGo P ty Wg C n val j Next R) T S g w)(h:akE P (RM ty Wg C n R S) ty Wg St g w):MA1 P ty Wg C n val j Next R S g w:=
 ⟨h.1,λv f d=>by
  obtain⟨k,e,i,c⟩:=h.2 v f d;refine⟨k,e, ?_⟩;by_cases a:v=0
  .exact⟨_,ag9 aqp (λ_ _ x=>atE b x) (kg.refl _ _ _) (λ_ _ _=>kg.trans) (i a)⟩
  .exact⟨_,aaT (λ_ _ x=>atE b x) (c a)⟩⟩
def azC(a:∀g w,Goes P true (RM ty Wg C n R S) DC0 St 3 g w->∃T,GM P ty Wg C n R (MGo P ty Wg C n val j Next R) T S g w)(h:pD P (RM ty Wg C n R S) .disable m (akE P (RM ty Wg C n R S) ty Wg St) g w):aqO P ty Wg C n val j Next R S g w:=
 ⟨h.1,let⟨b,e,k⟩:=h.2;⟨b,e,_,aaT (λ_ _ x=>aCn a x) k⟩⟩
end
end
end
section
open Go Go.Conc Go.ConcN Go.RowKit Go.Conc.Lib Go.ConcR.Gen Go.ConcN.Gen
open Go.ConcR (KK wgBlock WgAt stA smA rd wr mk Payload Aside2 DC0)
section
variable (P:Program) (R:World->World->Prop) (Wg:Nat)
def atG(g:Goroutine)(w:World):Prop:=∃a,stepG P false g w=.go a w #[mk .disable]
def azD(m:Nat)(g:Goroutine)(w:World):Prop:=∃a,stepG P false g w=.go a w #[mk (.releaseMerge (stA Wg))]/\Goes P false R DC0 (atG P) m a w
end
section
variable {P:Program} {L:WgLink} {R:World->World->Prop} {Wg:Nat} {c:Frame} {cs:List Frame}
def aqq(H:WgLib P L)(b:∀w d,WgLive L.tWg Wg w->R w d->WgLive L.tWg Wg d)(w:World)(a:WgLive L.tWg Wg w) :
  Goes P false R DC0 (azD P R Wg 10) 23 (G ((baseD L.done).at ⟨#[.pointer (some ⟨Wg,0,none⟩),undef,undef,undef],[]⟩ [.code (body_done L)]) (c::cs)) w:=by
 lib_facts
 simp only[body_done,body_add,doneFn,addFn,qw]
 u_reg (b _ _) a
 u_op (b _ _) a
 u_in (b _ _) a
 refine goes_call rfl rfl (by k_ne) rfl H.f_add (nm_add L) rfl ⟨by u_nil, ?_⟩
 walk_nrmf addFn
 u_c lw (b _ _) a
 u_cond true (b _ _) a
 u_c lw (b _ _) a
 u_c lw (b _ _) a
 u_reg (b _ _) a
 u_op (b _ _) a
 u_op (b _ _) a
 u_c fb (b _ _) a
 u_cond true (b _ _) a
 u_reg (b _ _) a
 u_op (b _ _) a
 u_conv H.underlying_tWgP H.room_tWg (WgLive.cell0 a).choose_spec (b _ _) a
 refine qH (λd e=> ?_);replace a:=b _ _ a e;refine⟨_,uU .releaseMerge (by simp) rfl rfl (by k_ne) rfl H.f_relMerge (x_relMerge_n L) (x_relMerge_b L) (x_relMerge_x L) (x_relMerge_f L) (by simp[Act.eval,stA]), ?_⟩
 walk_nrm
 u_c fb (b _ _) a
 u_c lw (b _ _) a
 u_reg (b _ _) a
 refine qH (λd e=> ?_);replace a:=b _ _ a e;exact⟨_,vA .disable (by simp) rfl rfl (by k_ne) rfl H.f_disable (x_disable_n L) (x_disable_b L) (x_disable_x L) (x_disable_f L)⟩
end
section
variable [Payload] {P:Program} {ty:TypeId} {Wg C n k:Nat} {R:World->World->Prop} {v:Value}
def atH(c:∀w,R w w)(q:∀g w,St g w->∃p,stepG P false g w=.go p w #[mk (.releaseMerge (stA Wg))]) :
  ∀{m f:Nat} {g:Goroutine} {w:World},Goes P false R DC0 (atG P) m g w->¬Goes P false R (DWs Wg FF FF C n k) St f g w:=by
 have i:∀{f:Nat} {g:Goroutine} {w:World},(∀a,R w a->atG P g a)->¬Goes P false R (DWs Wg FF FF C n k) St f g w:=λ{f g w} d b=>by
  obtain⟨p,e⟩:=d w (c w);have l:¬ ∀a,R w a->St g a:=λh=>by
   obtain⟨s,o⟩:=q _ _ (h w (c w));rw[e] at o;cases o
  cases f with
  |zero=>exact l b
  |succ f=>
   rcases b with b|⟨-,b⟩
   .exact l b
   .have:=b w (c w);rw[e,tO] at this;exact(this.1.2 (mk .disable) (by simp)).2.1 rfl
 intro m
 induction m with
 |zero=>intro f g w d b;exact i d b
 |succ m t=>
  intro f g w d b;rcases d with d|⟨-,d⟩
  .exact i d b
  .have d:=d w (c w);obtain⟨p,j,u,e,⟨rfl,rfl⟩,r⟩:=goes_elim d;have l:¬ ∀a,R j a->St g a:=λh=>by
    obtain⟨s,o⟩:=q _ _ (h j (c j));rw[e] at o;cases o
   cases f with
   |zero=>exact l b
   |succ f=>
    rcases b with b|⟨-,b⟩
    .exact l b
    .have:=b j (c j);rw[e,tO] at this;exact t r this.2
def ane(j:∀w,R w w)(r:∀a b c,R a b->R b c->R a c)(y:∀g w,St g w->∃t,stepG P false g w=.go t w #[mk (.releaseMerge (stA Wg))]) :
  ∀{m o i:Nat} {g:Goroutine} {w:World},Goes P false R DC0 (azD P R Wg o) m g w->Goes P false R (DWs Wg FF FF C n k) St i g w->Goes P false R DC0 St m g w:=by
 have p:∀{m o i:Nat} {g:Goroutine} {w:World},(∀d,R w d->azD P R Wg o g d)->Goes P false R (DWs Wg FF FF C n k) St i g w->Goes P false R DC0 St m g w:=λ{m o i g w} l f=>by
  refine qH λd q=> ?_;have f:=tH r f q;cases i with
  |zero=>exact f d (j _)
  |succ i=>
   rcases f with f|⟨-,f⟩
   .exact f d (j _)
   .obtain⟨t,e,s⟩:=l d q;have:=f d (j _);rw[e,tO] at this;exact absurd this.2 (atH j y s)
 intro m
 induction m with
 |zero=>intro o i g w l f;exact p l f
 |succ m x=>
  intro o i g w l f;rcases l with l|⟨u,l⟩
  .exact p l f
  .cases i with
   |zero=>exact .inl f
   |succ i=>
    rcases f with f|⟨-,f⟩
    .exact .inl f
    .refine .inr ⟨u,λd q=> ?_⟩;obtain⟨t,z,A,e,hd,v⟩:=goes_elim (l d q);have:=f d q;rw[e,tO] at this ⊢;exact⟨hd,x v this.2⟩
end
section
variable [Payload] {P:Program} {L:WgLink} {Wg C n κ:Nat} {val:Nat->Value} {R S:au} {c:Frame} {cs:List Frame} {qt:Nat}
def aqr(H:WgLib P L)(q:c.mode=.returning)(D:QuitsD P qt 0 (G c cs))(w:World)(v:WgLive L.tWg Wg w)(B:Has C (2*κ) (val (2*κ)) w)(o:Has C (2*κ+1) (val (2*κ+1)) w) :
  bM P false (kg L.tWg Wg C (2*n) R (dZ κ)) (Gua Wg C (2*n) R (dZ κ)) (agG P L.tWg Wg C n val κ) S (G ((baseD L.done).at ⟨#[.pointer (some ⟨Wg,0,none⟩),undef,undef,undef],[]⟩ [.code (body_done L)]) (c::cs)) w:=by
 have J:=doneN H (Own:=FF) (Rd:=FF) (Wg:=Wg) (C:=C) (n:=2*n) (Low:=0) (k:=2*κ+1) (val:=val (2*κ)) q D w ⟨v,B⟩;have K:=aqq (Wg:=Wg) (R:=RW L.tWg Wg C (2*n) 0 (2*κ+1-1)) (c:=c) (cs:=cs) H (λ_ _ h r=>r.live h) w v;have E:=ane (St:=AtR0 P L.tWg Wg C (2*n) 0 (2*κ+1) (val (2*κ))) (λw=>⟨λ_ _ _ _=>rfl,id,id,rfl⟩) (λa b c x y=>⟨λb o u z=>(y.low b o u z).trans (x.low b o u z),y.live∘x.live,y.pay∘x.pay,y.cell.trans x.cell⟩)
  (λg w h=>let⟨_,_,s,e,_⟩:=h;⟨s,e⟩) K J
 have t:∀{m:Nat} {g:Goroutine} {w:World},Has C (2*κ+1) (val (2*κ+1)) w->Goes P false (RW L.tWg Wg C (2*n) 0 (2*κ+1-1)) DC0 (AtR0 P L.tWg Wg C (2*n) 0 (2*κ+1) (val (2*κ))) m g w->
   bM P false (kg L.tWg Wg C (2*n) R (dZ κ)) (Gua Wg C (2*n) R (dZ κ)) (agG P L.tWg Wg C n val κ) S g w:=by
  have j:∀{w d:World},kg L.tWg Wg C (2*n) R (dZ κ) S w d->RW L.tWg Wg C (2*n) 0 (2*κ+1-1) w d:=λf=>kg.rw (i:=2*κ) f (by show 2*κ / 2=κ;omega);have l:∀{w d:World},Has C (2*κ+1) (val (2*κ+1)) w->kg L.tWg Wg C (2*n) R (dZ κ) S w d->Has C (2*κ+1) (val (2*κ+1)) d:=λh f=>(f.cell (2*κ+1) (by show(2*κ+1) / 2=κ;omega)).trans h;intro m
  induction m with
  |zero=>intro g w p h;exact .stop λd f=>⟨h d (j f),l p f⟩
  |succ m M=>
   intro g w p h;rcases h with h|⟨F,h⟩
   .exact .stop λd f=>⟨h d (j f),l p f⟩
   .refine .step F λd f=> ?_;obtain⟨s,A,N,e,⟨rfl,rfl⟩,I⟩:=goes_elim (h d (j f));exact⟨s,A,#[],S,e,⟨λ_ _ _ _=>rfl,am _,rfl,id,λ_ _=>rfl,λ_ h=>h,λ_ h=>.inl h,by simp⟩,M (l p f) I⟩
 exact t o E
end
end
section
open Go Go.Conc Go.ConcN Go.RowKit
open Go.ConcR (KK wgBlock WgAt stA smA rd wr mk Payload DC0)
instance aFT:Payload:=⟨141⟩
structure Wx where
 w0:World
 Wg:Nat
 C:Nat
 n2:Nat
 κ:Nat
 R:au
 Rg:Nat->Prop
 key:Int
 A:Option Addr
 n:Nat
 c:Nat
 l:List iY
 nm:Int
 bk:Nat
 bp:Nat
 bn:Nat
 ba:Nat
 bi:Nat
 tWg:TypeId
structure Wx.Ok (X:Wx):Prop where
 hN:gN<=X.w0.heap.size
 gl:∀g∈gL,X.Rg g
 gr:∀g∈gL,eP X.w0 g
 k1:1<=X.key
 k2:X.key<=99
 hl:X.l.length=X.n
 hc:X.n<=X.c
 hcm:(X.c:Int)<=9223372036854775807
 rd:RdP X.w0 X.A 0 X.l
 rgp:RgP X.Rg X.w0 X.A X.l
 al:∀a,X.A=some a->X.Rg a.block
 nm:In_ X.nm
 kn:X.κ<X.n2
 rows:∀b,X.Rg b->X.R b
 rk:X.R X.bk/\X.w0.cell? ⟨X.bk,0,none⟩=some (.int .i64 X.key)
 rp:X.R X.bp/\X.w0.cell? ⟨X.bp,0,none⟩=some (.slice X.A X.n X.c)
 rn:X.R X.bn/\X.w0.cell? ⟨X.bn,0,none⟩=some (.int .i64 X.nm)
 ra:X.R X.ba/\X.w0.cell? ⟨X.ba,0,none⟩=some (.slice (some ⟨X.C,0,none⟩) X.n2 X.n2)
 ri:X.R X.bi/\X.w0.cell? ⟨X.bi,0,none⟩=some (.int .i64 X.κ)
 rlt:∀b,X.R b->b<X.w0.heap.size
 rC:¬X.R X.C
 rW:¬X.R X.Wg
 cW:X.C≠X.Wg
abbrev Wx.Rl(X:Wx):au->World->World->Prop:=kg X.tWg X.Wg X.C (2*X.n2) X.R (dZ X.κ)
abbrev Wx.Gr(X:Wx):au->au->World->World->Array Event->Prop:=Gua X.Wg X.C (2*X.n2) X.R (dZ X.κ)
def Wx.nI(X:Wx):pQ X.Rl X.R:=⟨λS w=>kg.refl _ _ _ _,λ_ _ _ _=>kg.trans,λ_ _ _ h=>⟨h.keep,h.size,h.os⟩⟩
structure Wx.Inv (X:Wx) (S:au) (w:World):Prop where
 r:∀b,X.R b->w.heap[b]?=X.w0.heap[b]?
 s:∀b,S b->¬X.R b/\b≠X.C/\b≠X.Wg
 c:X.C<w.heap.size
 wg:X.Wg<w.heap.size
 sz:X.w0.heap.size<=w.heap.size
 live:WgLive X.tWg X.Wg w
 pay:PayAt X.C (2*X.n2) w
 os:w.ou=X.w0.ou
section
variable {X:Wx} {S S':au} {w w' w1:World} {es:Array Event}
def Wx.Inv.rely(h:X.Inv S w)(a:X.Rl S w w1):X.Inv S w1:=
 ⟨λb c=>(a.keep b (.inr c)).trans (h.r b c),h.s,bd h.c a.size,bd h.wg a.size,ap h.sz a.size,a.live h.live,a.pay h.pay,a.os.trans h.os⟩
def Wx.step(s:X.Ok)(h:X.Inv S w)(g:pP X.R S S' w w' es):X.Gr S S' w w' es/\X.Inv S' w':=by
 obtain⟨l,k,q,rfl,B⟩:=g;have m:w'.heap[X.C]?=w.heap[X.C]?:=l _ h.c λd=>(h.s _ d).2.1 rfl;have r:w'.heap[X.Wg]?=w.heap[X.Wg]?:=l _ h.wg λd=>(h.s _ d).2.2 rfl;refine⟨⟨λb c A _=>l b c A,k,q,λ⟨n,a,b⟩=>⟨n,m.trans a,b⟩,λi _=>uH m i,λb c=>.inl c,λb c=>c,λe E=> ?_⟩, ?_⟩
 .obtain⟨C,o,D⟩:=B e E;refine⟨λx v=>(C x v).elim .inl λy=>.inr (.inr y),λj=> ?_,λj=> ?_,λj=> ?_,D⟩
  .rcases o _ j with⟨f,e⟩|e<;>cases e
  .rcases o _ j with⟨f,e⟩|e<;>cases e
  .rcases o _ j with⟨f,e⟩|e<;>cases e
 .have p:∀b,X.R b->b<w.heap.size:=λb c=>bd (s.rlt b c) h.sz;refine⟨λb c=>(l b (p b c) λd=>(h.s b d).1 c).trans (h.r b c),λb c=> ?_,bd h.c k,bd h.wg k,ap h.sz k, ?_, ?_,q.trans h.os⟩
  .rcases c with c|⟨c,_⟩
   .exact h.s b c
   .refine⟨λu=> ?_,λe=> ?_,λe=> ?_⟩
    .have:=p b u;omega
    .have:=h.c;omega
    .have:=h.wg;omega
  .obtain⟨z,sm,t⟩:=h.live;exact⟨z,sm,r.trans t⟩
  .obtain⟨n,a,b⟩:=h.pay;exact⟨n,m.trans a,b⟩
def Wx.lift(c:X.Ok)(h:bM prog false X.Rl (pP X.R) Stop S g w)(hi:X.Inv S w):bM prog false X.Rl X.Gr (λS g w=>Stop S g w/\X.Inv S w) S g w:=
 bM.inv (Rl:=X.Rl) (Gr:=pP X.R) (Gr2:=X.Gr) (Stop:=Stop) (Inv:=X.Inv) (λ_ _ _ a b=>a.rely b) (λ_ _ _ _ _ a b=>Wx.step c a b) (λ_ _ _ a b=>⟨a,b⟩) h hi
def Wx.Inv.cell(h:X.Inv S w)(a:X.R b)(c:X.w0.cell? ⟨b,i,none⟩=some v):w.cell? ⟨b,i,none⟩=some v:=(uH (h.r b a) i).trans c
end
end
section
open Go Go.Conc Go.ConcN Go.RowKit
open Go.ConcR (KK wgBlock WgAt stA smA rd wr mk Payload DC0)
abbrev nCl:FuncId:=84
def mv:Code->Code
 |.seq a _=>a
 |c=>c
def uG:Code->Array Oper
 |.region _ o _=>o
 |_=>#[]
noncomputable def aoq:Code:=f84.body.getD .skip
noncomputable def px:Array Oper:=uG (mv aoq)
noncomputable def aX:Array Oper:=uG (cA aoq)
def atI:aoq=.seq (.region 0 px false) (.region 1 aX true):=rfl
def aor:aX.size=8:=rfl
def aCo:∃p,aX[0]?=some ⟨some 6,.load 130 (.tmp 4),130,p,#[],none⟩:=⟨_,rfl⟩
def aCp:∃p,aX[1]?=some ⟨some 7,.load 3 (.tmp 5),3,p,#[],none⟩:=⟨_,rfl⟩
def aCq:∃p,aX[2]?=some ⟨some 8,.load 3 (.tmp 1),3,p,#[],none⟩:=⟨_,rfl⟩
def aCr:∃p,aX[3]?=some ⟨some 9,.load 23 (.tmp 2),23,p,#[],none⟩:=⟨_,rfl⟩
def aCs:∃p,aX[4]?=some ⟨some 10,.load 3 (.tmp 3),3,p,#[],none⟩:=⟨_,rfl⟩
def aCt:∃p,aX[5]?=some ⟨some 11,.call ⟨.value (.func 86),#[.tmp 8,.tmp 9,.tmp 10],#[3,23,3]⟩,141,p,#[⟨2,.data⟩,⟨3,.data⟩,⟨4,.data⟩],none⟩:=⟨_,rfl⟩
def aCu:∃p,aX[6]?=some ⟨some 12,.indexAddr 130 (.tmp 6) (.tmp 7),0,p,#[⟨0,.data⟩,⟨1,.data⟩,⟨0,.phase⟩,⟨1,.phase⟩,⟨2,.phase⟩,⟨3,.phase⟩,⟨4,.phase⟩,⟨5,.phase⟩],none⟩:=⟨_,rfl⟩
def aCv:∃p,aX[7]?=some ⟨none,.store 141 (.tmp 12) (.tmp 11),0,p,#[⟨6,.data⟩,⟨5,.data⟩,⟨5,.chain⟩,⟨0,.phase⟩,⟨1,.phase⟩,⟨2,.phase⟩,⟨3,.phase⟩,⟨4,.phase⟩,⟨5,.phase⟩],none⟩:=⟨_,rfl⟩
def kK(L:Nat->Bool):Nat->Bool
 |5=>L 2&&L 3&&L 4
 |6=>L 0&&L 1&&L 2&&L 3&&L 4&&L 5
 |7=>L 6&&L 5&&L 0&&L 1&&L 2&&L 3&&L 4
 |_=>true
def aos(L:Nat->Bool)(hi:i<8):((aX[i]?).map (λo:Oper=>o.after.all λe=>!Region.binds .any e||L e.on)).getD false=kK L i:=by
 have:i=0\/i=1\/i=2\/i=3\/i=4\/i=5\/i=6\/i=7:=by omega
 rcases this with rfl|rfl|rfl|rfl|rfl|rfl|rfl|rfl
 .obtain⟨p,e⟩:=aCo;rw[e];simp[kK]
 .obtain⟨p,e⟩:=aCp;rw[e];simp[kK]
 .obtain⟨p,e⟩:=aCq;rw[e];simp[kK]
 .obtain⟨p,e⟩:=aCr;rw[e];simp[kK]
 .obtain⟨p,e⟩:=aCs;rw[e];simp[kK]
 .obtain⟨p,e⟩:=aCt;rw[e];simp[Region.binds,kK,wI]
 .obtain⟨p,e⟩:=aCu;rw[e];simp[Region.binds,kK];cases L 0<;>cases L 1<;>simp[wI]
 .obtain⟨p,e⟩:=aCv;rw[e];simp[Region.binds,kK];cases L 5<;>cases L 6<;>simp[wI]
def afL(d:listed.size=8) :i∈Region.ready .any aX listed↔i<8/\listed.getD i false=false/\kK (λj=>listed.getD j false) i=true:=by
 unfold Region.ready;rw[rI,qz,aor];constructor
 .rintro⟨b,a⟩;rw[aos (λj=>listed.getD j false) b] at a;simp only[ff,uD] at a;refine⟨b, ?_,a.2⟩;have:=a.1;rw[iS,gn (by omega)] at this ⊢;exact this
 .rintro⟨b,a,c⟩;refine⟨b, ?_⟩;rw[aos (λj=>listed.getD j false) b,c];rw[iS,gn (by omega)] at a ⊢;simp only[qw] at a ⊢;rw[a];rfl
def unW(listed:Array Bool):Nat:=(List.range 8).countP λi=>!listed.getD i false
def aha{p q:Nat->Bool}:∀{l:List Nat} {x:Nat},(∀y,q y=true->p y=true)->x∈l->p x=true->q x=false->l.countP q<l.countP p
 |[],x,_,b,_,_=>by cases b
 |a::l,x,h,b,hp,hq=>by
  rw[List.countP_cons,List.countP_cons];have e:l.countP q<=l.countP p:=List.countP_mono_left λy _=>h y;rcases mu.1 b with rfl|b
  .rw[hp,hq];simp;omega
  .have:=aha h b hp hq;have f:=h a;cases d:q a<;>cases c:p a<;>simp_all<;>omega
def iX(hi:i<listed.size):(listed.setIfInBounds i true).getD j false=if j=i then true else listed.getD j false:=by
 rw[iS,iS,oR];by_cases e:i=j
 .subst e;simp[hi]
 .rw[be e,be (λx=>e x.symm)]
def awo(b:listed.size=8)(hi:i<8)(h:listed.getD i false=false):unW (listed.setIfInBounds i true)<unW listed:=by
 refine aha (x:=i) (λy a=> ?_) (qz.2 hi) (by rw[h];rfl) (by rw[iX (by omega)];simp);rw[iX (by omega)] at a;by_cases e:y=i
 .simp[e] at a
 .simpa[e] using a
def aCw(m:listed.size=8)(h:Region.ready .any aX listed=[]\/unW listed=0):∀i,i<8->listed.getD i false=true:=by
 rcases h with h|h
 .have a:∀i,i<8->kK (λj=>listed.getD j false) i=true->listed.getD i false=true:=λi b hd=>by
   cases e:listed.getD i false with
   |true=>rfl
   |false=>
    have:i∈Region.ready .any aX listed:=(afL m).2 ⟨b,e,hd⟩;rw[h] at this;cases this
  have g:=a 0 (by omega) rfl;have k:=a 1 (by omega) rfl;have c:=a 2 (by omega) rfl;have d:=a 3 (by omega) rfl;have f:=a 4 (by omega) rfl;have l:=a 5 (by omega) (by simp only[kK,c,d,f];rfl);have n:=a 6 (by omega) (by simp only[kK,g,k,c,d,f,l];rfl);have o:=a 7 (by omega) (by simp only[kK,g,k,c,d,f,l,n];rfl);intro i b;have:i=0\/i=1\/i=2\/i=3\/i=4\/i=5\/i=6\/i=7:=by omega
  rcases this with rfl|rfl|rfl|rfl|rfl|rfl|rfl|rfl<;>assumption
 .intro i b;have:=List.countP_eq_zero.1 h i (qz.2 b);simpa using this
end
section
open Go Go.Conc Go.ConcN Go.RowKit
open Go.ConcR (KK wgBlock WgAt stA smA rd wr mk Payload DC0)
def Wx.cap(X:Wx):Nat->Value
 |1=>.pointer (some ⟨X.bk,0,none⟩)
 |2=>.pointer (some ⟨X.bp,0,none⟩)
 |3=>.pointer (some ⟨X.bn,0,none⟩)
 |4=>.pointer (some ⟨X.ba,0,none⟩)
 |_=>.pointer (some ⟨X.bi,0,none⟩)
def Wx.val(X:Wx)(v:ByteArray×Bool):Nat->Value
 |0=>.slice (some ⟨X.C,0,none⟩) X.n2 X.n2
 |1=>.int .i64 X.κ
 |2=>.int .i64 X.key
 |3=>.slice X.A X.n X.c
 |4=>.int .i64 X.nm
 |5=>.agg #[.string v.1,.bool v.2]
 |_=>.pointer (some ⟨X.C,2*X.κ,none⟩)
abbrev FW(dd:Deferred)(T:Array Value)(k:List Item):Frame:=⟨nCl,T,k,[dd],.run,.deferred,none⟩
structure RI (X:Wx) (v:ByteArray×Bool) (listed:Array Bool) (T:Array Value) (S:au) (w:World):Prop where
 sz:T.size=13
 cap:∀t,1<=t->t<=5->T.getD t undef=X.cap t
 done:∀j,j<7->listed.getD j false=true->T.getD (6+j) undef=X.val v j
 st:listed.getD 7 false=true->Has X.C (2*X.κ) (.string v.1) w/\Has X.C (2*X.κ+1) (.bool v.2) w
 ord:listed.getD 7 false=true->∀j,j<7->listed.getD j false=true
 inv:X.Inv S w
section
variable {P:Program} {m:Bool} {fr:Frame} {xs base:List Frame} {ops:Array Oper} {i:Nat} {rest:List Nat} {k:List Item} {o:Oper} {w w2:World} {es:Array Event} {v:Value}
def atJ (f:fr.mode=.run) (g:(fr.kind ==.early)=false) (b:fr.roundOf=none) (e:fr.todo=.inRegion ops (i::rest)::k) (n:ops[i]?=some o) (q:o.guard=none)
  (p:(execOp fr.eval o).runT P w #[]=(.ok (.value v) w2,es)):stepG P m (Gl (fr::xs) base) w=.go (Gl (fr.finish v::xs) base) w2 (seen P fr.fn es):=by
 obtain⟨fn,a,j,d,t,c,s⟩:=fr;dsimp only at f g b e;subst f b e;have l:∀y,Region.wanted o y=true:=λy=>by unfold Region.wanted;rw[q]
 have r:stepG P m (Gl (⟨fn,a,.inRegion ops (i::rest)::k,d,.run,c,none⟩::xs) base) w =
   stepG.apply P true ⟨fn,a,.inRegion ops (i::rest)::k,d,.run,c,none⟩ (xs++base) none (execOp (Frame.eval ⟨fn,a,.inRegion ops (i::rest)::k,d,.run,c,none⟩) o) w:=by
  simp[Gl,stepG,stepG.exec,stepG.oper,Frame.oper?,n,l]
 rw[r];unfold stepG.apply;simp only[p,qe];simp[GStep.after,g,Gl]
def akF (f:fr.mode=.run) (g:(fr.kind ==.early)=false) (b:fr.roundOf=none) (e:fr.todo=.inRegion ops (i::rest)::k) (n:ops[i]?=some o) (q:o.guard=none)
  (p:(execOp fr.eval o).runT P w #[]=(.ok .skip w2,es)):stepG P m (Gl (fr::xs) base) w=.go (Gl (fr.finish undef::xs) base) w2 (seen P fr.fn es):=by
 obtain⟨fn,a,j,d,t,c,s⟩:=fr;dsimp only at f g b e;subst f b e;have l:∀y,Region.wanted o y=true:=λy=>by unfold Region.wanted;rw[q]
 have r:stepG P m (Gl (⟨fn,a,.inRegion ops (i::rest)::k,d,.run,c,none⟩::xs) base) w =
   stepG.apply P true ⟨fn,a,.inRegion ops (i::rest)::k,d,.run,c,none⟩ (xs++base) none (execOp (Frame.eval ⟨fn,a,.inRegion ops (i::rest)::k,d,.run,c,none⟩) o) w:=by
  simp[Gl,stepG,stepG.exec,stepG.oper,Frame.oper?,n,l]
 rw[r];unfold stepG.apply;simp only[p,qe];simp[GStep.after,g,Gl]
end
noncomputable def fG:Frame:={(default:Frame) with fn:=prog.funcs.size,defers:=[],mode:=.panicking [goexitEntry]}
section
variable {X:Wx} {v:ByteArray×Bool} {listed:Array Bool} {T T':Array Value} {S:au} {w w1:World} {dd:Deferred} {k:List Item} {rest:List Nat}
def acS(h:Has X.C (2*X.κ) (.string v.1) w/\Has X.C (2*X.κ+1) (.bool v.2) w)(a:X.Rl S w w1):Has X.C (2*X.κ) (.string v.1) w1/\Has X.C (2*X.κ+1) (.bool v.2) w1:=
 ⟨(a.cell (2*X.κ) (by show 2*X.κ / 2=X.κ;omega)).trans h.1,(a.cell (2*X.κ+1) (by show(2*X.κ+1) / 2=X.κ;omega)).trans h.2⟩
def RI.rely(h:RI X v listed T S w)(a:X.Rl S w w1):RI X v listed T S w1:=⟨h.sz,h.cap,h.done,λe=>acS (h.st e) a,h.ord,h.inv.rely a⟩
def RI.put(h:RI X v listed T S w)(k:listed.size=8)(hi:i<7)(b:Tm [6+i] T T')(d:T'.getD (6+i) undef=X.val v i):RI X v (listed.setIfInBounds i true) T' S w:=by
 refine⟨b.size.trans h.sz,λt f g=>(b.same t (by simp;omega)).trans (h.cap t f g),λj c e=> ?_,λe=> ?_,λe j c=> ?_,h.inv⟩
 .by_cases a:j=i
  .subst a;exact d
  .rw[iX (by omega),be a] at e;exact(b.same (6+j) (by simp;omega)).trans (h.done j c e)
 .rw[iX (by omega),be (by omega)] at e;exact h.st e
 .rw[iX (by omega),be (by omega)] at e;rw[iX (by omega)];by_cases a:j=i
  .rw[du a]
  .rw[be a];exact h.ord e j c
def atK(hi:X.Inv S w)(g:X.Ok)(c:X.R b):X.Gr S S w w (seen prog f #[⟨.cell ⟨b,0,none⟩,false,false⟩]):=by
 refine⟨λ_ _ _ _=>rfl,am _,rfl,id,λ_ _=>rfl,λ_ h=>h,λ_ h=>.inl h,λe i=> ?_⟩;have a:=tn i;simp only[sJ,mu,rN,uj] at a;subst a;refine⟨λx d=>.inr (.inr ?_),(λe=>by cases e),(λe=>by cases e),(λe=>by cases e), ?_⟩
 .simp[MemAct.ofEvent,MemAct.touch?] at d;rw[<-d];exact⟨c,rfl⟩
 .exact bd (g.rlt b c) hi.sz
def akG :X.Gr S S w w (seen prog f #[]):=
 ⟨λ_ _ _ _=>rfl,am _,rfl,id,λ_ _=>rfl,λ_ h=>h,λ_ h=>.inl h,λe a=>by cases(by simpa using tn a:False)⟩
def akH{x:Operand}{t:TypeId}{d:TypeDesc}{A:Addr}{dst:Option Tmp}{pos:String}(b:P.underlying t=some d)(a:ajJ d=true)(c:e x=.pointer (some A))(f:w.cell? A=some u) :
  (execOp e ⟨dst,.load t x,ty,pos,af,gd⟩).runT P w #[]=(.ok (.value u) w,#[⟨.cell A,false,false⟩]):=by
 cases d<;>first|(cases a;done)|simp[execOp,c,Instr.loadAt,Instr.sureAddr,loadVar,isAgg,me b,f]
def acT (n:X.Ok) (h:RI X v listed T S w) {ty : Nat} {d:TypeDesc} (hi:i<5) (a:∃p,aX[i]?=some ⟨some (6+i),.load ty (.tmp t),ty,p,#[],none⟩) (q:prog.underlying ty=some d) (l:ajJ d=true)
  (c:T.getD t undef=.pointer (some ⟨b,0,none⟩)) (e:X.R b/\X.w0.cell? ⟨b,0,none⟩=some (X.val v i))
  (K:∀T' g,RI X v listed T S g->Tm [6+i] T T'->T'.getD (6+i) undef=X.val v i->bM prog false X.Rl X.Gr Stop S (Gl [FW dd T' (.inRegion aX rest::k)] [fG]) g) :
  bM prog false X.Rl X.Gr Stop S (Gl [FW dd T (.inRegion aX (i::rest)::k)] [fG]) w:=by
 obtain⟨p,a⟩:=a;refine .step rfl λw1 o=> ?_;have f:=h.rely o;refine⟨_,w1,_,S,atJ (xs:=[]) (base:=[fG]) rfl rfl rfl rfl a rfl (akH q l (x:=.tmp t) (A:=⟨b,0,none⟩) c (f.inv.cell e.1 e.2)),atK f.inv n e.1, ?_⟩;have m:Frame.finish (FW dd T (.inRegion aX (i::rest)::k)) (X.val v i)=FW dd (T.setIfInBounds (6+i) (X.val v i)) (.inRegion aX rest::k):=by
  simp only[Frame.finish,a,qN]
 rw[m];have j:6+i<T.size:=by rw[h.sz];omega
 exact K _ w1 f (.one (by simp) λt c=>by rw[aG j,be c]) (by rw[aG j,du rfl])
def atM(F:FaT P){x : Operand}{a:Addr}{dst:Option Tmp}{pos:String}(f:e x=.slice (some a) n c)(b:e y=.int .i64 j)(g:j<n) :
  (execOp e ⟨dst,.indexAddr 130 x y,ty,pos,af,gd⟩).runT P w #[]=(.ok (.value (.pointer (some (a.add (j*2))))) w,#[]):=by
 obtain⟨i,d,k, -⟩:=F.ad4;simp[execOp,f,b,Instr.indexAt,asIntOf,me F.ahW,g,sizeOf,typeInfo,d,k]
def atN (e:X.Ok) (h:RI X v listed T S w) (g:listed.getD 0 false=true) (l:listed.getD 1 false=true)
  (K:∀T' b,RI X v listed T S b->Tm [6+6] T T'->T'.getD (6+6) undef=X.val v 6->bM prog false X.Rl X.Gr Stop S (Gl [FW dd T' (.inRegion aX rest::k)] [fG]) b) :
  bM prog false X.Rl X.Gr Stop S (Gl [FW dd T (.inRegion aX (6::rest)::k)] [fG]) w:=by
 obtain⟨p,a⟩:=aCu;refine .step rfl λw1 f=> ?_;refine⟨_,w1,_,S,atJ (xs:=[]) (base:=[fG]) rfl rfl rfl rfl a rfl (atM faT (x:=.tmp 6) (y:=.tmp 7) (h.done 0 (by omega) g) (h.done 1 (by omega) l) e.kn),akG, ?_⟩;have j:(⟨X.C,0,none⟩:Addr).add (X.κ*2)=⟨X.C,2*X.κ,none⟩:=by rw[jr,mc,tR]
 rw[j];have d:Frame.finish (FW dd T (.inRegion aX (6::rest)::k)) (X.val v 6)=FW dd (T.setIfInBounds 12 (X.val v 6)) (.inRegion aX rest::k):=by
  simp only[Frame.finish,a,qN]
 have c:12<T.size:=by rw[h.sz];omega
 have:=K (T.setIfInBounds 12 (X.val v 6)) w1 (h.rely f) (.one (by simp) λt i=>by rw[aG c,be i]) (by rw[aG c,du rfl]);rw[<-d] at this;exact this
end
end
section
open Go Go.Conc Go.ConcN Go.RowKit
open Go.ConcR (KK wgBlock WgAt stA smA rd wr mk Payload DC0)
def aiw{args:Array Value} :(callFunc 86 args).runT prog w #[]=(.ok (.enter 86 args) w,#[]):=by
 have a:=cH func86;have c:¬f86.name= "runtime.NumGoroutine" :=by simpa using a
 have b:¬f86.body=none:=λe=>by have:=afJ;rw[e] at this;cases this
 unfold callFunc;simp[func86,c,b]
def akI {m:Bool} {base : List Frame}     {w2 : World}  {args:Array Value} (j:fr.mode=.run) (l:(fr.kind ==.early)=false) (b:fr.roundOf=none) (g:fr.todo=.inRegion W (i::rest)::k) (p:W[i]?=some o) (r:o.guard=none)
  (q:(execOp fr.eval o).runT P w #[]=(.ok (.enter f args) w2,es)):stepG P m (Gl (fr::xs) base) w=.go (Gl (Frame.enter P f args .normal::fr::xs) base) w2 (seen P fr.fn es):=by
 obtain⟨fn,a,e,d,u,c,t⟩:=fr;dsimp only at j l b g;subst j b g;have n:∀y,Region.wanted o y=true:=λy=>by unfold Region.wanted;rw[r]
 have s:stepG P m (Gl (⟨fn,a,.inRegion W (i::rest)::k,d,.run,c,none⟩::xs) base) w =
   stepG.apply P true ⟨fn,a,.inRegion W (i::rest)::k,d,.run,c,none⟩ (xs++base) none (execOp (Frame.eval ⟨fn,a,.inRegion W (i::rest)::k,d,.run,c,none⟩) o) w:=by
  simp[Gl,stepG,stepG.exec,stepG.oper,Frame.oper?,p,n]
 rw[s];unfold stepG.apply;simp only[q,qe];simp[GStep.after,l,Gl]
section
variable {X:Wx} {v:ByteArray×Bool} {listed:Array Bool} {T T':Array Value} {S:au} {w w1:World} {dd:Deferred} {k:List Item} {rest:List Nat}
def awp(a:X.Ok)(q:eT Z)(j:∀d nm,Z d [] nm=(⟨#[]⟩,false))(hi:X.Inv S w) :
  bM prog false X.Rl X.Gr (λn g w1=>g=⟨cfr.finish (.agg #[.string (Z X.key X.l X.nm).1,.bool (Z X.key X.l X.nm).2]),[fG],.running,none,none⟩/\X.Inv n w1) S
   (Gl (Frame.enter prog 86 #[.int .i64 X.key,.slice X.A X.n X.c,.int .i64 X.nm] .normal::[]) [cfr,fG]) w:=by
 by_cases k:X.n=0
 .have l:X.l=[]:=by have:=a.hl;rw[k] at this;exact qh.1 this
  rw[l,j,k];exact Wx.lift a (awm X.nI) hi
 .have m:∀(A:Addr) (u:Value),X.w0.cell? A=some u->X.Rg A.block->plV (λb=>X.Rg b/\eP X.w0 b) u->w.cell? A=some u:=λA u o p _=>(gQ (hi.r _ (a.rows _ p))).trans o;exact Wx.lift a (aty (Rg:=X.Rg) q (ap a.hN hi.sz) (λg i=>by
   obtain⟨c,t,z,e⟩:=a.gr g i;exact⟨a.gl g i,c,t,z,(hi.r g (a.rows g (a.gl g i))).trans e⟩) a.k1 a.k2 a.hl a.hc a.hcm (a.rd.mask a.rgp a.al m) (a.rgp.move a.al λb f=>hi.r b (a.rows b f)) a.al (by omega) a.nm X.nI (λb f=>a.rows b f.1)) hi
def atO (B:X.Ok) (x:eT Z) (a:∀b nm,Z b [] nm=(⟨#[]⟩,false)) (h:RI X (Z X.key X.l X.nm) listed T S w) (f:listed.getD 5 false=false) (n:listed.getD 2 false=true) (D:listed.getD 3 false=true) (q:listed.getD 4 false=true)
  (K:∀T' l d,RI X (Z X.key X.l X.nm) listed T l d->Tm [6+5] T T'->T'.getD (6+5) undef=X.val (Z X.key X.l X.nm) 5->bM prog false X.Rl X.Gr Stop l (Gl [FW dd T' (.inRegion aX rest::k)] [fG]) d) :
  bM prog false X.Rl X.Gr Stop S (Gl [FW dd T (.inRegion aX (5::rest)::k)] [fG]) w:=by
 obtain⟨p,j⟩:=aCt;refine .step rfl λw1 C=> ?_;have r:=h.rely C;have m:∀w,(execOp (Frame.eval (FW dd T (.inRegion aX (5::rest)::k))) ⟨some 11,.call ⟨.value (.func 86),#[.tmp 8,.tmp 9,.tmp 10],#[3,23,3]⟩,141,p,#[⟨2,.data⟩,⟨3,.data⟩,⟨4,.data⟩],none⟩).runT prog w #[]=(.ok (.enter 86 #[.int .i64 X.key,.slice X.A X.n X.c,.int .i64 X.nm]) w,#[]):=λw=>by
  have E:Array.map (Frame.eval (FW dd T (.inRegion aX (5::rest)::k))) #[.tmp 8,.tmp 9,.tmp 10]=#[.int .i64 X.key,.slice X.A X.n X.c,.int .i64 X.nm]:=by
   have G:T.getD 8 undef=.int .i64 X.key:=h.done 2 (by omega) n;have v:T.getD 9 undef=.slice X.A X.n X.c:=h.done 3 (by omega) D;have y:T.getD 10 undef=.int .i64 X.nm:=h.done 4 (by omega) q;rw[<-G,<-v,<-y];simp[Frame.eval]
  have F:execOp (Frame.eval (FW dd T (.inRegion aX (5::rest)::k))) ⟨some 11,.call ⟨.value (.func 86),#[.tmp 8,.tmp 9,.tmp 10],#[3,23,3]⟩,141,p,#[⟨2,.data⟩,⟨3,.data⟩,⟨4,.data⟩],none⟩=callFunc 86 #[.int .i64 X.key,.slice X.A X.n X.c,.int .i64 X.nm]:=by
   simp only[execOp,resolve];rw[E];simp[Deferred.ofValue,invoke,Frame.eval];try rfl
  exact(ga (λs=>Sem.runT prog s w #[]) F).trans aiw
 refine⟨_,w1,_,S,akI (xs:=[]) (base:=[fG]) rfl rfl rfl rfl j rfl (m w1),akG, ?_⟩;refine bM.bind X.nI.gz X.nI.tr (awp B x a r.inv (cfr:=FW dd T (.inRegion aX (5::rest)::k))) λz g H ⟨hg,kL⟩=> ?_;subst hg;have i:11<T.size:=by rw[h.sz];omega
 have A:Frame.finish (FW dd T (.inRegion aX (5::rest)::k)) (X.val (Z X.key X.l X.nm) 5)=FW dd (T.setIfInBounds 11 (X.val (Z X.key X.l X.nm) 5)) (.inRegion aX rest::k):=by
  simp only[Frame.finish,j,qN]
 have u:listed.getD 7 false=false:=by
  cases e:listed.getD 7 false with
  |false=>rfl
  |true=>rw[h.ord e 5 (by omega)] at f;cases f
 have:=K (T.setIfInBounds 11 (X.val (Z X.key X.l X.nm) 5)) z H ⟨h.sz,h.cap,h.done,λe=>(by rw[u] at e;cases e),h.ord,kL⟩ (.one (by simp) λt o=>by rw[aG i,be o]) (by rw[aG i,du rfl]);rw[<-A] at this;exact this
end
end
section
open Go Go.Conc Go.ConcN Go.RowKit
open Go.ConcR (KK wgBlock WgAt stA smA rd wr mk Payload DC0)
section
variable {X:Wx} {v:ByteArray×Bool} {listed:Array Bool} {T T':Array Value} {S:au} {w w1:World} {dd:Deferred} {k:List Item} {rest:List Nat}
def aqs (B:X.Ok) (h:RI X v listed T S w) (M:listed.getD 5 false=true) (U:listed.getD 6 false=true)
  (K:∀s,X.Inv S s->(Has X.C (2*X.κ) (.string v.1) s/\Has X.C (2*X.κ+1) (.bool v.2) s)->bM prog false X.Rl X.Gr Stop S (Gl [FW dd T (.inRegion aX rest::k)] [fG]) s) :
  bM prog false X.Rl X.Gr Stop S (Gl [FW dd T (.inRegion aX (7::rest)::k)] [fG]) w:=by
 obtain⟨p,F⟩:=aCv;refine .step rfl λw1 Q=> ?_;have E:=h.rely Q;obtain⟨t,g,H⟩:=E.inv.pay;have g:w1.heap[X.C]?=some (.cells t 141 (0,0)):=g;have L:=B.kn;obtain⟨u0,C⟩:∃u,t[2*X.κ]?=some u:=⟨_,gn (by omega)⟩;obtain⟨u1,z⟩:∃u,t[2*X.κ+1]?=some u:=⟨_,gn (by omega)⟩;have D:(⟨X.C,2*X.κ,none⟩:Addr).add 1=⟨X.C,2*X.κ+1,none⟩:=jr _ _ _;have q:=ag8 faT (w:=w1) (e:=Frame.eval (FW dd T (.inRegion aX (7::rest)::k))) (x:=.tmp 12) (y:=.tmp 11) (dst:=none) (ty:=0) (pos:=p) (af:=#[⟨6,.data⟩,⟨5,.data⟩,⟨5,.chain⟩,⟨0,.phase⟩,⟨1,.phase⟩,⟨2,.phase⟩,⟨3,.phase⟩,⟨4,.phase⟩,⟨5,.phase⟩]) (gd:=none) (A:=⟨X.C,2*X.κ,none⟩) (u0:=.string v.1) (u1:=.bool v.2) rfl rfl
  (h.done 6 (by omega) U) (h.done 5 (by omega) M) ((fq g).trans C) (iL g) (by rw[D];exact(fq g).trans z) (by rw[D];exact iL g)
 rw[D] at q;have a:((w1.setCell ⟨X.C,2*X.κ,none⟩ (.string v.1)).setCell ⟨X.C,2*X.κ+1,none⟩ (.bool v.2)).heap[X.C]?=some (.cells ((t.setIfInBounds (2*X.κ) (.string v.1)).setIfInBounds (2*X.κ+1) (.bool v.2)) 141 (0,0)):=setRow (setRow g);have c:((w1.setCell ⟨X.C,2*X.κ,none⟩ (.string v.1)).setCell ⟨X.C,2*X.κ+1,none⟩ (.bool v.2)).heap.size=w1.heap.size:=by rw[bv,bv]
 have d:∀b,b≠X.C->((w1.setCell ⟨X.C,2*X.κ,none⟩ (.string v.1)).setCell ⟨X.C,2*X.κ+1,none⟩ (.bool v.2)).heap[b]?=w1.heap[b]?:=λb j=>by
  rw[bu _ _ _ (λe=>j e.symm),bu _ _ _ (λe=>j e.symm)]
 have n:((w1.setCell ⟨X.C,2*X.κ,none⟩ (.string v.1)).setCell ⟨X.C,2*X.κ+1,none⟩ (.bool v.2)).ou=w1.ou:=rfl;have l:=akF (m:=false) (xs:=[]) (base:=[fG]) (k:=k) (fr:=FW dd T (.inRegion aX (7::rest)::k)) rfl rfl rfl rfl F rfl q;generalize ((w1.setCell ⟨X.C,2*X.κ,none⟩ (.string v.1)).setCell ⟨X.C,2*X.κ+1,none⟩ (.bool v.2))=w2 at a c d n l;have O:Frame.finish (FW dd T (.inRegion aX (7::rest)::k)) undef=FW dd T (.inRegion aX rest::k):=by
  simp only[Frame.finish,F,qN]
 rw[O] at l;have f:=E.inv;have o:X.Inv S w2:=by
  refine⟨λb j=>(d b (λe=>B.rC (e▸j))).trans (f.r b j),f.s,by rw[c];exact f.c,by rw[c];exact f.wg,by rw[c];exact f.sz, ?_,⟨_,a,by simpa using H⟩,n.trans f.os⟩;obtain⟨R,sm,P⟩:=f.live;exact⟨R,sm,(d X.Wg (λe=>B.cW e.symm)).trans P⟩
 refine⟨_,w2,_,S,l,⟨λb _ _ j=>d b j,pa c.symm,n,λ_=>⟨_,a,by simpa using H⟩,λi I=> ?_,λ_ h=>h,λ_ h=>.inl h,λe V=> ?_⟩,K w2 o ⟨?_, ?_⟩⟩
 .have N:i≠2*X.κ:=λe=>I (by show i / 2=X.κ;omega);have W:i≠2*X.κ+1:=λe=>I (by show i / 2=X.κ;omega);rw[fq a,fq g,lc (λe=>W e.symm),lc (λe=>N e.symm)]
 .have G:=tn V;simp only[sJ,mu,rN,uj] at G;have J:X.C<w2.heap.size:=by rw[c];exact f.c
  rcases G with rfl|rfl
  .refine⟨λx r=>.inr (.inl ⟨⟨X.C,2*X.κ,none⟩, ?_,rfl, ?_⟩),(λe=>by cases e),(λe=>by cases e),(λe=>by cases e),J⟩
   .simp[MemAct.ofEvent,MemAct.touch?] at r;rw[<-r]
   .show 2*X.κ / 2=X.κ;omega
  .refine⟨λx r=>.inr (.inl ⟨⟨X.C,2*X.κ+1,none⟩, ?_,rfl, ?_⟩),(λe=>by cases e),(λe=>by cases e),(λe=>by cases e),J⟩
   .simp[MemAct.ofEvent,MemAct.touch?] at r;rw[<-r]
   .show(2*X.κ+1) / 2=X.κ;omega
 .show w2.cell? ⟨X.C,2*X.κ,none⟩=_;rw[fq a,lc (by omega),qk (by omega)]
 .show w2.cell? ⟨X.C,2*X.κ+1,none⟩=_;rw[fq a,qk (by simp;omega)]
def axD(X:Wx)(v:ByteArray×Bool)(dd:Deferred)(k:List Item):au->Goroutine->World->Prop:=λS g w=>∃T,g=Gl [FW dd T (.inRegion aX []::k)] [fG]/\T.size=13/\X.Inv S w/\Has X.C (2*X.κ) (.string v.1) w/\Has X.C (2*X.κ+1) (.bool v.2) w
def ahb(c:X.Ok){o:Int->List iY->Int->ByteArray×Bool}(B:eT o)(p:∀y nm,o y [] nm=(⟨#[]⟩,false)):∀(fuel t:Nat) (listed:Array Bool) (T:Array Value) (S:au) (w:World),listed.size=8->unW listed<=fuel->RI X (o X.key X.l X.nm) listed T S w->
  bM prog false X.Rl X.Gr (axD X (o X.key X.l X.nm) dd k) S (Gl [FW dd T (.inRegion aX (Region.linearise.go .any aX fuel t listed [])::k)] [fG]) w
 |0,t,listed,T,S,w,d,hf,h=>by
  have l:=aCw d (.inr (by omega));exact .stop λw1 m=>⟨T,rfl,h.sz,h.inv.rely m,acS (h.st (l 7 (by omega))) m⟩
 |fuel+1,t,listed,T,S,w,d,hf,h=>by
  simp only[Region.linearise.go];change bM _ _ _ _ _ S (Gl [FW dd T (.inRegion aX (match(Region.ready .any aX listed)[t % (Region.ready .any aX listed).length]? with
   |some i=>Region.linearise.go .any aX fuel (t / (Region.ready .any aX listed).length) (listed.setIfInBounds i true) [i]
   |none=>[].reverse)::k)] [fG]) w
  cases A:(Region.ready .any aX listed)[t % (Region.ready .any aX listed).length]? with
  |none=>
   have q:Region.ready .any aX listed=[]:=by
    cases m:Region.ready .any aX listed with
    |nil=>rfl
    |cons x D=>
     rw[m] at A;have r:t % (x::D).length<(x::D).length:=tD _ (by simp);simp at A;simp at r;omega
   have l:=aCw d (.inl q);exact .stop λw1 m=>⟨T,rfl,h.sz,h.inv.rely m,acS (h.st (l 7 (by omega))) m⟩
  |some i=>
   simp only[];rw[linearise_go_acc,List.reverse_singleton,List.singleton_append];obtain⟨z,C,hd⟩:=(afL d).1 (db A);have F:=awo d z C;have s:(listed.setIfInBounds i true).size=8:=by simpa using d
   have next:∀T' n a,RI X (o X.key X.l X.nm) (listed.setIfInBounds i true) T' n a->bM prog false X.Rl X.Gr (axD X (o X.key X.l X.nm) dd k) n (Gl [FW dd T' (.inRegion aX (Region.linearise.go .any aX fuel (t / (Region.ready .any aX listed).length) (listed.setIfInBounds i true) [])::k)] [fG]) a:=
    λT' n a b=>ahb c B p fuel _ _ T' n a s (by omega) b
   generalize Region.linearise.go .any aX fuel (t / (Region.ready .any aX listed).length) (listed.setIfInBounds i true) []=rest at next ⊢
   have:i=0\/i=1\/i=2\/i=3\/i=4\/i=5\/i=6\/i=7:=by omega
   rcases this with rfl|rfl|rfl|rfl|rfl|rfl|rfl|rfl
   .exact acT c h (by omega) aCo faT.ahW rfl (h.cap 4 (by omega) (by omega)) c.ra λT' a b f g=>next T' S a (b.put d (by omega) f g)
   .exact acT c h (by omega) aCp faT.u3 rfl (h.cap 5 (by omega) (by omega)) c.ri λT' a b f g=>next T' S a (b.put d (by omega) f g)
   .exact acT c h (by omega) aCq faT.u3 rfl (h.cap 1 (by omega) (by omega)) c.rk λT' a b f g=>next T' S a (b.put d (by omega) f g)
   .exact acT c h (by omega) aCr faT.u23 rfl (h.cap 2 (by omega) (by omega)) c.rp λT' a b f g=>next T' S a (b.put d (by omega) f g)
   .exact acT c h (by omega) aCs faT.u3 rfl (h.cap 3 (by omega) (by omega)) c.rn λT' a b f g=>next T' S a (b.put d (by omega) f g)
   .simp only[kK,ff] at hd;exact atO c B p h C hd.1.1 hd.1.2 hd.2 λT' n a b f g=>next T' n a (b.put d (by omega) f g)
   .simp only[kK,ff] at hd;exact atN c h hd.1.1.1.1.1 hd.1.1.1.1.2 λT' a b f g=>next T' S a (b.put d (by omega) f g)
   .simp only[kK,ff] at hd;refine aqs c h hd.1.1.1.1.1.2 hd.1.1.1.1.1.1 λa u v=>next T S a ⟨h.sz,h.cap,λj E e=> ?_,λ_=>v,λ_ j E=> ?_,u⟩
    .rw[iX (by omega),be (by omega)] at e;exact h.done j E e
    .rw[iX (by omega),be (by omega)];have:j=0\/j=1\/j=2\/j=3\/j=4\/j=5\/j=6:=by omega
     rcases this with rfl|rfl|rfl|rfl|rfl|rfl|rfl
     .exact hd.1.1.1.1.2
     .exact hd.1.1.1.2
     .exact hd.1.1.2
     .exact hd.1.2
     .exact hd.2
     .exact hd.1.1.1.1.1.2
     .exact hd.1.1.1.1.1.1
end
end
section
open Go Go.Conc Go.ConcN Go.RowKit Go.Conc.Lib Go.ConcR.Gen Go.ConcN.Gen
open Go.ConcR (KK wgBlock WgAt stA smA rd wr mk Payload DC0)
section
variable {X:Wx} {v:ByteArray×Bool} {T:Array Value} {S:au} {w w1:World} {dd:Deferred} {k:List Item} {Stop:au->Goroutine->World->Prop}
def acU {fr2 : Frame} {es:World->Array Event} {g:World->World} (hi:X.Inv S w) (p:∀w,X.Inv S w->stepG prog false (Gl [fr] [fG]) w=.go (Gl [fr2] [fG]) (g w) (es w)) (q:∀w,(g w).heap=w.heap/\(g w).ou=w.ou) (s:∀w,X.Inv S w->∀e∈es w,False)
  (K:∀k,X.Inv S k->bM prog false X.Rl X.Gr Stop S (Gl [fr2] [fG]) k):bM prog false X.Rl X.Gr Stop S (Gl [fr] [fG]) w:=by
 refine .step rfl λw1 n=> ?_;have d:=hi.rely n;obtain⟨c,l⟩:=q w1;have f:∀a,(g w1).cell? a=w1.cell? a:=λa=>by unfold World.cell?;rw[c]
 refine⟨_,g w1,_,S,p w1 d,⟨λb _ _ _=>by rw[c],pa (by rw[c]),l,λ⟨j,a,b⟩=>⟨j,by rw[c];exact a,b⟩,λi _=>f _,λ_ h=>h,λ_ h=>.inl h,λe h=>(s w1 d e h).elim⟩,K _ ⟨λb o=>by rw[c];exact d.r b o,d.s,by rw[c];exact d.c,by rw[c];exact d.wg,by rw[c];exact d.sz, ?_, ?_,l.trans d.os⟩⟩
 .obtain⟨r,sm,m⟩:=d.live;exact⟨r,sm,by unfold WgAt;rw[c];exact m⟩
 .obtain⟨j,a,b⟩:=d.pay;exact⟨j,by rw[c];exact a,b⟩
abbrev ddW(Wg:Nat):Deferred:=⟨.fn (.func eR.done) #[],#[.pointer (some ⟨Wg,0,none⟩)]⟩
def aEq:∃p,px[0]?=some ⟨none,.defer ⟨.value (.func eR.done),#[.tmp 0],#[138]⟩,0,p,#[],none⟩:=⟨_,rfl⟩
def awq(T:Array Value):QuitsD prog 2 0 (G ⟨nCl,T,[],[],.returning,.deferred,none⟩ [fG]):=by
 refine QuitsD.ctl (g':=G fG []) rfl (λw=> ?_) ?_
 .have a:(results f84 T).runT prog w #[]=(.ok (.tuple #[]) w,#[]):=by
   have:f84.results=#[]:=rfl;simp[results,this]
  simp only[G,stepG,unwind,func84,a];simp[doReturn,GStep.after,seen,fG,goexitEntry]
 refine QuitsD.ctl (g':={G fG [] with status:=.finished}) rfl (λw=> ?_) ⟨rfl,rfl⟩;simp[G,stepG,unwind,fG,goexitEntry,Frame.catches];rfl
def adq {fr2 : Frame} {cs2 : List Frame} (hi:X.Inv S w) (c:Has X.C (2*X.κ) (.string v.1) w/\Has X.C (2*X.κ+1) (.bool v.2) w) {es:World->Array Event} (f:∀w,stepG prog false (G fr cs) w=.go (G fr2 cs2) w (es w)) (d:∀w,∀e∈es w,False)
  (K:∀a,X.Inv S a->Has X.C (2*X.κ) (.string v.1) a/\Has X.C (2*X.κ+1) (.bool v.2) a->bM prog false X.Rl X.Gr Stop S (G fr2 cs2) a):bM prog false X.Rl X.Gr Stop S (G fr cs) w:=by
 refine .step rfl λw1 b=> ?_;exact⟨_,w1,_,S,f w1,⟨λ_ _ _ _=>rfl,am _,rfl,id,λ_ _=>rfl,λ_ h=>h,λ_ h=>.inl h,λe h=>(d w1 e h).elim⟩,K w1 (hi.rely b) (acS c b)⟩
def ab5  :∀e∈seen P f #[],False:=λe h=>by simpa using tn h
def akJ{args:Array Value} :(callFunc eR.done args).runT prog w #[]=(.ok (.enter eR.done args) w,#[]):=by
 have h:=aaS.f_done;have b:¬(doneFn eR).name= "runtime.NumGoroutine" :=by decide
 have a:¬(doneFn eR).body=none:=λe=>by cases e
 unfold callFunc;simp[h,b,a]
def azE(r:X.Ok)(k:X.tWg=eR.tWg){val:Nat->Value}(p:val (2*X.κ)=.string v.1)(o:val (2*X.κ+1)=.bool v.2)(hi:X.Inv S w)(m:Has X.C (2*X.κ) (.string v.1) w/\Has X.C (2*X.κ+1) (.bool v.2) w) :
  bM prog false X.Rl X.Gr (agG prog X.tWg X.Wg X.C X.n2 val X.κ) S (G (FW (ddW X.Wg) T [.inRegion aX []]) [fG]) w:=by
 refine adq (fr2:=FW (ddW X.Wg) T []) (cs2:=[fG]) hi m (es:=λ_=>#[]) (λw=>by simp[G,stepG,stepG.exec]) (λ_ e h=>by simpa using h) λt q f=> ?_;refine adq (fr2:=⟨nCl,T,[],[ddW X.Wg],.returning,.deferred,none⟩) (cs2:=[fG]) q f (es:=λ_=>#[]) (λw=>by simp[G,stepG,stepG.exec]) (λ_ e h=>by simpa using h) λs g d=> ?_;have j:Frame.enter prog eR.done #[.pointer (some ⟨X.Wg,0,none⟩)] .deferred=(baseD eR.done).at ⟨#[.pointer (some ⟨X.Wg,0,none⟩),undef,undef,undef],[]⟩ [.code (body_done eR)]:=by
  unfold Frame.enter;rw[aaS.f_done];rfl
 refine adq (fr2:=(baseD eR.done).at ⟨#[.pointer (some ⟨X.Wg,0,none⟩),undef,undef,undef],[]⟩ [.code (body_done eR)]) (cs2:=[⟨nCl,T,[],[],.returning,.deferred,none⟩,fG]) g d (es:=λw=>seen prog nCl #[]) (λw=> ?_) (λ_=>ab5) λl i b=> ?_
 .have a:(invoke (ddW X.Wg).target (ddW X.Wg).args).runT prog w #[]=(.ok (.enter eR.done #[.pointer (some ⟨X.Wg,0,none⟩)]) w,#[]):=akJ;simp only[G,stepG,unwind,callDeferred,a,j];simp[GStep.after]
 .have:=aqr (κ:=X.κ) (n:=X.n2) (R:=X.R) (S:=S) (val:=val) (c:=⟨nCl,T,[],[],.returning,.deferred,none⟩) (cs:=[fG]) aaS rfl (awq T) l (k▸i.live) (by rw[p];exact b.1) (by rw[o];exact b.2);rw[<-k] at this;exact this
end
end
section
open Go Go.Conc Go.ConcN Go.RowKit Go.Conc.Lib Go.ConcR.Gen Go.ConcN.Gen
open Go.ConcR (KK wgBlock WgAt stA smA rd wr mk Payload DC0)
abbrev Wx.dP(X:Wx):Array Value:=#[.pointer (some ⟨X.Wg,0,none⟩),.pointer (some ⟨X.bk,0,none⟩),.pointer (some ⟨X.bp,0,none⟩),.pointer (some ⟨X.bn,0,none⟩),.pointer (some ⟨X.ba,0,none⟩),.pointer (some ⟨X.bi,0,none⟩)]
abbrev FD(T:Array Value)(k:List Item):Frame:=⟨nCl,T,k,[],.run,.deferred,none⟩
def awr :Frame.enter prog nCl a .deferred=FD (a++Array.replicate (13-a.size) undef) [.code aoq]:=by
 unfold Frame.enter;rw[func84];rfl
def azF:prog.follows .mixedOrders=true:=by kernel_rfl
section
variable {X:Wx} {S:au} {w:World}
def akK(ok:X.Ok)(hF:eT Z)(v:∀D nm,Z D [] nm=(⟨#[]⟩,false))(M:X.tWg=eR.tWg){val:Nat->Value}(v0:val (2*X.κ)=.string (Z X.key X.l X.nm).1)(P:val (2*X.κ+1)=.bool (Z X.key X.l X.nm).2)(hi:X.Inv S w) :
  bM prog false X.Rl X.Gr (agG prog X.tWg X.Wg X.C X.n2 val X.κ) S (G (Frame.enter prog nCl X.dP .deferred) [fG]) w:=by
 rw[awr];obtain⟨T,hT,Q,g0,H⟩:∃T:Array Value,T=X.dP++Array.replicate (13-X.dP.size) undef/\T.size=13/\T.getD 0 undef=.pointer (some ⟨X.Wg,0,none⟩)/\∀t,1<=t->t<=5->T.getD t undef=X.cap t:=by
  refine⟨_,rfl,by simp, ?_,λt K m=> ?_⟩
  .rw[iS,sd (by simp)];rfl
  .rw[iS,sd (by simp;omega)];have:t=1\/t=2\/t=3\/t=4\/t=5:=by omega
   rcases this with rfl|rfl|rfl|rfl|rfl<;>rfl
 rw[<-hT];rw[atI];refine acU (fr:=FD T [.code (.seq (.region 0 px false) (.region 1 aX true))]) (fr2:=FD T [.code (.region 0 px false),.code (.region 1 aX true)]) (g:=id) (es:=λ_=>#[]) hi (λw _=>by simp[Gl,stepG,stepG.exec]) (λ_=>⟨rfl,rfl⟩) (λ_ _ e h=>by simpa using h) λw1 K=> ?_;have A:List.range px.size=[0]:=rfl;refine acU (fr2:=FD T [.inRegion px [0],.code (.region 1 aX true)]) (g:=id) (es:=λ_=>#[]) K (λw _=>by simp[Gl,stepG,stepG.exec,A]) (λ_=>⟨rfl,rfl⟩) (λ_ _ e h=>by simpa using h) λw2 L=> ?_;obtain⟨p,I⟩:=aEq;refine acU (fr2:=FW (ddW X.Wg) T [.inRegion px [],.code (.region 1 aX true)]) (g:=id) (es:=λ_=>seen prog nCl #[]) L (λw _=> ?_) (λ_=>⟨rfl,rfl⟩) (λ_ _=>ab5) λw3 V=> ?_
 .have F:(execOp (Frame.eval (FD T [.inRegion px [0],.code (.region 1 aX true)])) ⟨none,.defer ⟨.value (.func eR.done),#[.tmp 0],#[138]⟩,0,p,#[],none⟩).runT prog w #[]=(.ok (.defer (ddW X.Wg)) w,#[]):=by
   have hm:Array.map (Frame.eval (FD T [.inRegion px [0],.code (.region 1 aX true)])) #[.tmp 0]=#[.pointer (some ⟨X.Wg,0,none⟩)]:=by
    rw[<-g0];simp[Frame.eval]
   simp only[execOp,resolve];rw[hm];simp[Deferred.ofValue,Frame.eval]
  have R:∀y,Region.wanted ⟨none,.defer ⟨.value (.func eR.done),#[.tmp 0],#[138]⟩,0,p,#[],none⟩ y=true:=λy=>rfl;have Y:stepG prog false (Gl [FD T [.inRegion px [0],.code (.region 1 aX true)]] [fG]) w =
    stepG.apply prog true (FD T [.inRegion px [0],.code (.region 1 aX true)]) [fG] none (execOp (Frame.eval (FD T [.inRegion px [0],.code (.region 1 aX true)])) ⟨none,.defer ⟨.value (.func eR.done),#[.tmp 0],#[138]⟩,0,p,#[],none⟩) w:=by
   simp[Gl,stepG,stepG.exec,stepG.oper,Frame.oper?,I,R]
  rw[Y];unfold stepG.apply;simp only[F,qe];have B:(CallKind.deferred ==CallKind.early)=false:=rfl;simp[GStep.after,B,Gl,Frame.finish,I]
 refine acU (fr2:=FW (ddW X.Wg) T [.code (.region 1 aX true)]) (g:=id) (es:=λ_=>#[]) V (λw _=>by simp[Gl,stepG,stepG.exec]) (λ_=>⟨rfl,rfl⟩) (λ_ _ e h=>by simpa using h) λw4 O=> ?_;refine .step rfl λr s=> ?_;have m:=O.rely s;have z:∃(t:Nat) (f:World),f.heap=r.heap/\f.ou=r.ou/\stepG prog false (Gl [FW (ddW X.Wg) T [.code (.region 1 aX true)]] [fG]) r=.go (Gl [FW (ddW X.Wg) T [.inRegion aX (Region.linearise.go .any aX 8 t (Array.replicate 8 false) [])]] [fG]) f #[]:=by
  have u:∀t,Region.schedule (prog.follows .mixedOrders) aX t=Region.linearise.go .any aX 8 t (Array.replicate 8 false) []:=λt=>by
   simp only[Region.schedule,azF,Bool.true_or,qe,Region.linearise,aor]
  simp only[Gl,stepG,stepG.exec,u,vM,li,qM];cases d:(choose (.order nCl 1)).run prog r with
  |ok t f=>
   refine⟨t,f, ?_⟩;have:f.heap=r.heap/\f.ou=r.ou:=by
    unfold choose at d;rw[Sem.run] at d;split at d
    .cases d;exact⟨rfl,rfl⟩
    .cases d;exact⟨rfl,rfl⟩
   exact⟨this.1,this.2,rfl⟩
  |halt q f=>
   exfalso;unfold choose at d;rw[Sem.run] at d;split at d<;>cases d
 obtain⟨t,f,l,J,E⟩:=z;have o:∀a,f.cell? a=r.cell? a:=λa=>by unfold World.cell?;rw[l]
 have h6:X.Inv S f:=by
  refine⟨λb N=>by rw[l];exact m.r b N,m.s,by rw[l];exact m.c,by rw[l];exact m.wg,by rw[l];exact m.sz, ?_, ?_,J.trans m.os⟩
  .obtain⟨W,sm,U⟩:=m.live;exact⟨W,sm,by unfold WgAt;rw[l];exact U⟩
  .obtain⟨x,a,b⟩:=m.pay;exact⟨x,by rw[l];exact a,b⟩
 have n:∀j,(Array.replicate 8 false).getD j false=false:=λj=>by
  rw[iS,um];split<;>rfl
 refine⟨_,f,_,S,E,⟨λb _ _ _=>by rw[l],pa (by rw[l]),J,λ⟨x,a,b⟩=>⟨x,by rw[l];exact a,b⟩,λi _=>o _,λ_ h=>h,λ_ h=>.inl h,λe h=>by simp at h⟩, ?_⟩;have C:=ahb (dd:=ddW X.Wg) (k:=[]) ok hF v 8 t (Array.replicate 8 false) T S f (by simp) (List.countP_le_length) ⟨Q,H,λj _ e=>(by rw[n] at e;cases e),λe=>(by rw[n] at e;cases e),λe=>(by rw[n] at e;cases e),h6⟩;refine bM.bind X.nI.gz X.nI.tr C λS2 g w7 ⟨T2,hg,_,hi7,hv0,hv1⟩=> ?_;subst hg;exact azE ok M v0 P hi7 ⟨hv0,hv1⟩
def aqt{args:Array Value} :(callFunc nCl args).runT prog w #[]=(.ok (.enter nCl args) w,#[]):=by
 have a:=cH func84;have c:¬f84.name= "runtime.NumGoroutine" :=by simpa using a
 have b:¬f84.body=none:=λe=>by cases e
 unfold callFunc;simp[func84,c,b]
def aiK(i:X.Ok)(n:eT Z)(g:∀d nm,Z d [] nm=(⟨#[]⟩,false))(k:X.tWg=eR.tWg){val:Nat->Value}(m:val (2*X.κ)=.string (Z X.key X.l X.nm).1)(l:val (2*X.κ+1)=.bool (Z X.key X.l X.nm).2)(hi:X.Inv S w) :
  bM prog false X.Rl X.Gr (agG prog X.tWg X.Wg X.C X.n2 val X.κ) S (born prog ⟨.fn (.func nCl) X.dP,#[]⟩) w:=by
 refine .step rfl λa j=> ?_;have b:(invoke (Target.fn (.func nCl) X.dP) #[]).runT prog a #[]=(.ok (.enter nCl X.dP) a,#[]):=aqt;have f:stepG prog false (born prog ⟨.fn (.func nCl) X.dP,#[]⟩) a=.go (G (Frame.enter prog nCl X.dP .deferred) [fG]) a (seen prog prog.funcs.size #[]):=by
  simp only[born,stepG,unwind,callDeferred,b];simp[GStep.after,G,fG]
 exact⟨_,a,_,S,f,⟨λ_ _ _ _=>rfl,am _,rfl,id,λ_ _=>rfl,λ_ h=>h,λ_ h=>.inl h,λe h=>(ab5 e h).elim⟩,akK i n g k m l (hi.rely j)⟩
end
end
section
open Go Go.Conc Go.ConcN Go.RowKit Go.Conc.Lib Go.ConcR.Gen Go.ConcN.Gen
open Go.ConcR (KK wgBlock WgAt stA smA rd wr mk Payload DC0)
section
variable {P:Program} {R:World->World->Prop} {Q:World->Prop} {St:Goroutine->World->Prop}
def eY{main:Bool}(c:∀w d,Q w->R w d->Q d) :
  ∀{n:Nat} {g:Goroutine} {w:World},Q w->Goes P main R DC0 St n g w->Goes P main R DC0 (λg w=>St g w/\Q w) n g w
 |0,_,_,hq,h=>λa b=>⟨h a b,c _ _ hq b⟩
 |n+1,g,w,hq,h=>by
  rcases h with h|⟨f,h⟩
  .exact .inl λa b=>⟨h a b,c _ _ hq b⟩
  .refine .inr ⟨f,λa b=> ?_⟩;have:=h a b;cases e:stepG P main g a with
   |go k i j=>
    rw[e,tO] at this;rw[tO];exact⟨this.1,eY c (this.1.1▸c _ _ hq b) this.2⟩
   |_=>rw[e] at this;exact this.elim
def fJ(a:∀g w,St g w->Y g w)(h:Goes P main R DC0 St n g w):Goes P main R DC0 Y n g w:=oU (λ_ _ _ x=>x) a h
def jY(c:∀w a,Q w->R w a->Q a){e:Mark}(b:Q w)(h:pD P R e m St g w):pD P R e m (λg w=>St g w/\Q w) g w:=
 ⟨h.1,let⟨f,d,k⟩:=h.2;⟨f,d,eY c b k⟩⟩
def ab1(b:∀g w,St g w->Y g w){e:Mark}(h:pD P R e m St g w):pD P R e m Y g w:=
 ⟨h.1,let⟨c,a,k⟩:=h.2;⟨c,a,fJ b k⟩⟩
def aqu{Wg:Nat}(a:∀w d,Q w->R w d->Q d)(k:∀w v i,Q w->WgAt ty Wg w v 0->Q (w.setCell (stA Wg) (.int .u64 i)))(l:Q w)(h:akE P R ty Wg St g w):akE P R ty Wg (λg w=>St g w/\Q w) g w:=
 ⟨h.1,λv m c=>by
  obtain⟨p,e,n,f⟩:=h.2 v m c;have b:=k w _ ((v+1)*KK) l c;exact⟨p,e,λj=>fJ (λg w x=>ab1 (λg w x=>jY a x.2 x.1) (jY a x.2 x.1)) (eY a b (n j)),λo=>fJ (λg w x=>jY a x.2 x.1) (eY a b (f o))⟩⟩
end
section
variable [Payload] {P:Program} {L:WgLink} {Wg C n:Nat} {R S:au}
 {b₀:Frame} {a₀:Act} {ops₀:Array Oper} {i₀:Nat} {rest₀:List Nat} {k₀:List Item} {cs:List Frame}
def axR(h:DC0 w w' es):Gua Wg C n R Rr S S w w' es:=by
 obtain⟨rfl,rfl⟩:=h;exact⟨λ_ _ _ _=>rfl,am _,rfl,id,λ_ _=>rfl,λ_ h=>h,λ_ h=>.inl h,by simp⟩
omit [Payload] in
def aqv:(#[.pointer (some ⟨Wg,0,none⟩),.int .i64 1]:Array Value)++(List.replicate 115 undef).toArray=#[.pointer (some ⟨Wg,0,none⟩),.int .i64 1,undef,undef,undef,undef,undef,undef,undef,undef,undef,undef,undef,undef,undef,undef,undef,undef,undef,undef,undef,undef,undef,undef,undef,undef,undef,undef,undef,undef,undef,undef,undef,undef,undef,undef,undef,undef,undef,undef,undef,undef,undef,undef,undef,undef,undef,undef,undef,undef,undef,undef,undef,undef,undef,undef,undef,undef,undef,undef,undef,undef,undef,undef,undef,undef,undef,undef,undef,undef,undef,undef,undef,undef,undef,undef,undef,undef,undef,undef,undef,undef,undef,undef,undef,undef,undef,undef,undef,undef,undef,undef,undef,undef,undef,undef,undef,undef,undef,undef,undef,undef,undef,undef,undef,undef,undef,undef,undef,undef,undef,undef,undef,undef,undef,undef,undef]:=by
 simp[List.replicate]
def aoN (H:WgLib P L) {val:Nat->Value} {d:au->Goroutine->World->Prop} {Q:World->Prop} (e:∀w i,Q w->RM L.tWg Wg C n R S w i->Q i) (q:∀w v l,Q w->WgAt L.tWg Wg w v 0->Q (w.setCell (stA Wg) (.int .u64 l)))
  (s:∀w,WgLive L.tWg Wg w->Q w->bM P true (kg L.tWg Wg C (2*n) R noC) (Gua Wg C (2*n) R noC) (MGo P L.tWg Wg C n val j d R) S (G (b₀.at (a₀.put ((ops₀[i₀]?).bind (·.dst)) (.tuple #[])) (.inRegion ops₀ rest₀::k₀)) cs) w)
  (w:World) (u:WgLive L.tWg Wg w) (f:Q w) :
  bM P true (kg L.tWg Wg C (2*n) R noC) (Gua Wg C (2*n) R noC) (λS g w=>aqO P L.tWg Wg C n val j d R S g w) S
   (G ((base L.add).at ⟨#[.pointer (some ⟨Wg,0,none⟩),.int .i64 1]++(List.replicate 115 undef).toArray,[]⟩ [.code (body_add L)]) (b₀.at a₀ (.inRegion ops₀ (i₀::rest₀)::k₀)::cs)) w:=by
 rw[aqv];have t:=atD (b₀:=b₀) (a₀:=a₀) (ops₀:=ops₀) (i₀:=i₀) (rest₀:=rest₀) (k₀:=k₀) (cs:=cs) (R:=RM L.tWg Wg C n R S) (S:=λg w=>g=G (b₀.at (a₀.put ((ops₀[i₀]?).bind (·.dst)) (.tuple #[])) (.inRegion ops₀ rest₀::k₀)) cs/\WgLive L.tWg Wg w) H (λ_ _ h r=>r.live h) (λ_ h=>⟨rfl,h⟩) w u;have m:=fJ (λg w x=>ab1 (λg w x=>aqu e q x.2 x.1) (jY e x.2 x.1)) (eY (Q:=Q) e f t);refine bM.ab2 (R:=RM L.tWg Wg C n R S) (λ_ _ h=>h) (λ_ _ _ h=>axR h) (λ_ _ h=>azC (λg w p=> ?_) h) m;refine bM.bind (λS w=>kg.refl R noC S w) (λS a b c=>kg.trans) (bM.ab2 (S:=S) (R:=RM L.tWg Wg C n R S) (Stop:=λk g w=>k=S/\(g=G (b₀.at (a₀.put ((ops₀[i₀]?).bind (·.dst)) (.tuple #[])) (.inRegion ops₀ rest₀::k₀)) cs/\WgLive L.tWg Wg w)/\Q w) (λ_ _ h=>h) (λ_ _ _ h=>axR h) (λ_ _ h=>⟨rfl,h⟩) p) ?_;rintro k g w ⟨rfl,⟨rfl,o⟩,f⟩;exact s w o f
end
end
section
open Go Go.Conc Go.ConcN Go.RowKit
open Go.ConcR (KK wgBlock WgAt stA smA rd wr mk Payload DC0)
noncomputable def ab3:Code:=f54.body.getD .skip
noncomputable def ahc:Array Oper:=uG (mv ab3)
noncomputable def adO:Array Oper:=uG (mv (cA ab3))
noncomputable def oX:Array Oper:=uG (mv (cA (cA ab3)))
noncomputable def axE:Code:=mv (cA (cA (cA ab3)))
noncomputable def ahd:Array Oper:=uG (mv axE)
def azH:Code->Code
 |.block _ (.loop c)=>c
 |c=>c
def aws:Code->Code
 |.block _ c=>c
 |c=>c
noncomputable def jF:Code:=azH (cA axE)
noncomputable def atP:Array Oper:=uG (mv jF)
noncomputable def anf:Code:=aws (mv (cA (cA jF)))
noncomputable def acV:Array Oper:=uG (mv anf)
noncomputable def aaU:Array Oper:=uG (mv (cA anf))
noncomputable def mJ:Array Oper:=uG (cA (cA anf))
noncomputable def aiH:Array Oper:=uG (cA (cA (cA jF)))
noncomputable def jZ:Array Oper:=uG (mv (cA (cA (cA (cA ab3)))))
def atQ:ab3=.seq (.region 0 ahc false) (.seq (.region 1 adO false) (.seq (.region 2 oX false) (.seq (.seq (.region 3 ahd false) (.block 0 (.loop jF))) (.seq (.region 9 jZ false) cM)))):=rfl
def ahe:jF=.seq (.region 4 atP false) (.seq (.cond (.tmp 21) .skip (.exit 0)) (.seq (.block 1 (.seq (.region 5 acV false) (.seq (.region 6 aaU false) (.region 7 mJ false)))) (.region 8 aiH false))):=rfl
def aEs:∃p a,ahc[0]?=some ⟨some 3,.box 3 (.tmp 0),0,p,a,none⟩:=⟨_,_,rfl⟩
def aEt:∃p a,ahc[1]?=some ⟨some 4,.box 23 (.tmp 1),0,p,a,none⟩:=⟨_,_,rfl⟩
def aEu:∃p a,ahc[2]?=some ⟨some 6,.assign (.const (.slice none 0 0)),83,p,a,none⟩:=⟨_,_,rfl⟩
def aEv:∃p a,ahc[3]?=some ⟨some 7,.assign (.const (.bool false)),4,p,a,none⟩:=⟨_,_,rfl⟩
def aEw:∃p a,adO[0]?=some ⟨some 15,.move (.tmp 2),37,p,a,none⟩:=⟨_,_,rfl⟩
def aEx:∃p a,adO[1]?=some ⟨some 16,.call ⟨.builtin .len,#[.tmp 15],#[37]⟩,3,p,a,none⟩:=⟨_,_,rfl⟩
def aEy:∃p a,adO[2]?=some ⟨some 17,.makeSlice 130 (.tmp 16) (.tmp 16),130,p,a,none⟩:=⟨_,_,rfl⟩
def aEz:∃p a,adO[3]?=some ⟨some 8,.alloc 130,0,p,a,none⟩:=⟨_,_,rfl⟩
def aEA:∃p a,adO[4]?=some ⟨none,.store 130 (.tmp 8) (.tmp 17),0,p,a,none⟩:=⟨_,_,rfl⟩
def aCK:∃p a,oX[0]?=some ⟨some 9,.alloc eR.tWg,0,p,a,none⟩:=⟨_,_,rfl⟩
def aEB:∃p a,ahd[0]?=some ⟨some 18,.move (.tmp 2),37,p,a,none⟩:=⟨_,_,rfl⟩
def aEC:∃p a,ahd[1]?=some ⟨some 19,.call ⟨.builtin .len,#[.tmp 18],#[37]⟩,3,p,a,none⟩:=⟨_,_,rfl⟩
def aED:∃p a,ahd[2]?=some ⟨some 20,.move (.const (.int .i64 0)),3,p,a,none⟩:=⟨_,_,rfl⟩
def aEE:∃p a,atP[0]?=some ⟨some 21,.binOp .lss 3 (.tmp 20) (.tmp 19) 3,0,p,a,none⟩:=⟨_,_,rfl⟩
def aEF:∃p a,acV[0]?=some ⟨some 22,.move (.tmp 20),3,p,a,none⟩:=⟨_,_,rfl⟩
def aEG:∃p a,acV[1]?=some ⟨some 23,.indexAddr 37 (.tmp 18) (.tmp 20),0,p,a,none⟩:=⟨_,_,rfl⟩
def aEH:∃p a,acV[2]?=some ⟨some 24,.load 3 (.tmp 23),3,p,a,none⟩:=⟨_,_,rfl⟩
def aEI:∃p a,acV[3]?=some ⟨some 10,.alloc 3,0,p,a,none⟩:=⟨_,_,rfl⟩
def aEJ:∃p a,acV[4]?=some ⟨some 11,.alloc 3,0,p,a,none⟩:=⟨_,_,rfl⟩
def aEK:∃p a,acV[5]?=some ⟨none,.store 3 (.tmp 10) (.tmp 22),0,p,a,none⟩:=⟨_,_,rfl⟩
def aEL:∃p a,acV[6]?=some ⟨none,.store 3 (.tmp 11) (.tmp 24),0,p,a,none⟩:=⟨_,_,rfl⟩
def az3:∃p a,aaU[0]?=some ⟨some 25,.call ⟨.value (.func eR.add),#[.tmp 9,.const (.int .i64 1)],#[eR.tWg,3]⟩,0,p,a,none⟩:=⟨_,_,rfl⟩
def aCF:∃p a,mJ[0]?=some ⟨some 26,.makeFunc (.func nCl) #[] #[.tmp 9,.tmp 3,.tmp 4,.tmp 11,.tmp 8,.tmp 10],1,p,a,none⟩:=⟨_,_,rfl⟩
def aEM:∃p a,mJ[1]?=some ⟨none,.go ⟨.value (.tmp 26),#[],#[]⟩,0,p,a,none⟩:=⟨_,_,rfl⟩
def aCG:∃p a,aiH[0]?=some ⟨some 27,.binOp .add 3 (.tmp 20) (.const (.int .i64 1)) 3,3,p,a,none⟩:=⟨_,_,rfl⟩
def aCH:∃p a,aiH[1]?=some ⟨some 20,.move (.tmp 27),3,p,a,none⟩:=⟨_,_,rfl⟩
def az0:∃p a,jZ[0]?=some ⟨some 28,.call ⟨.value (.func eR.wait),#[.tmp 9],#[eR.tWg]⟩,0,p,a,none⟩:=⟨_,_,rfl⟩
def xd  :seen P f #[]=#[]:=by
 rw[Array.eq_empty_iff_size_eq_zero];rcases h:(seen P f #[]).size with _|n
 .rfl
 .exact(ab5 _ (Array.getElem_mem (xs:=seen P f #[]) (i:=0) (by omega))).elim
def auo{base : List Frame}(h:T.getD 26 undef=.func (.func nCl) #[] X) :
  stepG prog true (Gl (FQ cE T (.inRegion mJ [1]::k)::xs) base) w=.spawn (Gl (FQ cE T (.inRegion mJ []::k)::xs) base) (born prog ⟨.fn (.func nCl) X,#[]⟩) w #[]:=by
 obtain⟨p,a,e⟩:=aEM;have b:(execOp (Frame.eval (FQ cE T (.inRegion mJ [1]::k))) ⟨none,.go ⟨.value (.tmp 26),#[],#[]⟩,0,p,a,none⟩).runT prog w #[]=(.ok (.spawn ⟨.fn (.func nCl) X,#[]⟩) w,#[]):=by
  have i:Frame.eval (FQ cE T (.inRegion mJ [1]::k)) (.tmp 26)=.func (.func nCl) #[] X:=h;simp only[execOp,resolve,i];simp[Deferred.ofValue]
 have f:∀y,Region.wanted ⟨none,.go ⟨.value (.tmp 26),#[],#[]⟩,0,p,a,none⟩ y=true:=λy=>rfl;have g:stepG prog true (Gl (FQ cE T (.inRegion mJ [1]::k)::xs) base) w =
   stepG.apply prog true (FQ cE T (.inRegion mJ [1]::k)) (xs++base) none (execOp (Frame.eval (FQ cE T (.inRegion mJ [1]::k))) ⟨none,.go ⟨.value (.tmp 26),#[],#[]⟩,0,p,a,none⟩) w:=by
  simp[Gl,stepG,stepG.exec,stepG.oper,Frame.oper?,e,f]
 rw[g];unfold stepG.apply;simp only[b,qe];have d:(CallKind.normal ==CallKind.early)=false:=rfl;simp[GStep.after,d,Gl,Frame.finish,e,born,xd]
end
section
open Go Go.Conc Go.ConcN Go.RowKit
open Go.ConcR (KK wgBlock WgAt stA smA rd wr mk Payload DC0)
section
variable {P:Program} {w:World} {e:Operand->Value} {x y:Operand} {v:Value} {dst:Option Tmp} {t ty:TypeId} {pos:String} {af:Array Edge} {gd:Option (Nat×Bool)}
def atS(h:e x=v)(a:v.cells=#[v]):(execOp e ⟨dst,.box t x,ty,pos,af,gd⟩).runT P w #[]=(.ok (.value (.pointer (some ⟨w.heap.size,0,none⟩))) (w.alloc (.cells #[v] t)),#[]):=by
 simp[execOp,Instr.box,newVar,newRow,h,a]
def ahf(h:e x=v):(execOp e ⟨dst,.assign x,ty,pos,af,gd⟩).runT P w #[]=(.ok (.value v) w,#[]):=by
 simp[execOp,h]
def aas{i:TypeInfo}(hi:P.info? t=some i)(a:i.zero=some v):(execOp e ⟨dst,.alloc t,ty,pos,af,gd⟩).runT P w #[]=(.ok (.value (.pointer (some ⟨w.heap.size,0,none⟩))) (w.alloc (.cells v.cells t)),#[]):=by
 simp[execOp,Instr.alloc,zeroValue,typeInfo,hi,a,newVar,newRow]
def ahg{i:TypeInfo}{A:Addr}(hi:P.info? t=some i)(n:i.size=1)(k:al9 v=true)(a:v.cells=#[v])(m:e x=.pointer (some A))(j:e y=v)(l:w.cell? A=some u)(d:w.frozen? A=false) :
  (execOp e ⟨dst,.store t x y,ty,pos,af,gd⟩).runT P w #[]=(.ok .skip (w.setCell A v),#[⟨.cell A,true,false⟩]):=by
 have b:(storeCells A [v] 0).runT P w #[]=(.ok () (w.setCell A v),#[⟨.cell A,true,false⟩]):=by
  show(Sem.store .plain (A.add 0) v (Sem.pure ())).runT P w #[]=_;have f:A.add 0=A:=by unfold Addr.add;simp
  rw[f,abM k l d];rfl
 have c:(storeCells A [v] 0).run P w=.ok () (w.setCell A v):=by
  rw[<-rA _ _ _ #[]];exact ga Prod.fst b
 have g:(storeCells A [v] 0).events P w #[]=#[⟨.cell A,true,false⟩]:=ga Prod.snd b;simp[execOp,m,j,Instr.storeAt,Instr.sureAddr,storeVar,sizeOf,typeInfo,hi,n,a,c,g]
def akL(F:FaT P){s:Tmp}(h:e (.tmp s)=.slice A n c):(execOp e ⟨dst,.call ⟨.builtin .len,#[.tmp s],#[37]⟩,ty,pos,af,gd⟩).runT P w #[]=(.ok (.value (.int .i64 n)) w,#[]):=by
 rw[qd (s:=λv=>Builtin.len_ #[37] ty #[v]) λ_ v=>rfl,h];change Sem.runT P (Builtin.len_ #[37] ty #[.slice A n c] >>=λu=>pure (Next.value u)) w #[]=_;simp[Builtin.len_,me F.u31,goInt]
def aiI{fn:Fn}{a:Array Operand}(h:a.map e=X):(execOp e ⟨dst,.makeFunc fn #[] a,ty,pos,af,gd⟩).runT P w #[]=(.ok (.value (.func fn #[] X)) w,#[]):=by
 simp[execOp,Instr.makeFunc,h]
def awt(F:FaT P)(m:(n:Int)<=2147483647)(b:e x=.int .i64 n):∃c:Array Value,c.size=2*n/\(execOp e ⟨dst,.makeSlice 130 x x,ty,pos,af,gd⟩).runT P w #[]=(.ok (.value (.slice (some ⟨w.heap.size,0,none⟩) n n)) (w.alloc (.cells c 141)),#[]):=by
 obtain⟨c,k,g⟩:=an6 F (w:=w) (dst:=dst) (ty:=ty) (pos:=pos) (af:=af) (gd:=gd) m b;refine⟨c,k,Prod.ext ((rA _ _ _ _).trans g) ?_⟩;obtain⟨i,l,o,a,f⟩:=F.ad4;have d:=events_make w 130 141 i _ F.ahW l f .i64 .i64 n n (by omega) (vC _) (by rw[a];omega) (by omega) (by rw[a];omega) #[];show(execOp e ⟨dst,.makeSlice 130 x x,ty,pos,af,gd⟩).events P w #[]=#[];have j:execOp e ⟨dst,.makeSlice 130 x x,ty,pos,af,gd⟩=(Instr.makeSlice 130 (e x) (e x)).bind λv=>Sem.pure (.value v):=rfl;rw[j,b,Sem.events_bind',d];cases(Instr.makeSlice 130 (.int .i64 n) (.int .i64 n)).run P w<;>rfl
def aun{a:Int}(d:e x=.int .i64 a)(c:e y=.int .i64 1)(g:0<=a)(f:a<2147483647):(execOp e ⟨dst,.binOp .add 3 x y 3,ty,pos,af,gd⟩).runT P w #[]=(.ok (.value (.int .i64 (a+1))) w,#[]):=by
 have:execOp e ⟨dst,.binOp .add 3 x y 3,ty,pos,af,gd⟩=(binOp .add 3 (e x) (e y)).bind λv=>Sem.pure (.value v):=rfl;rw[this,d,c];have b:IntKind.i64.wrap (a+1)=a+1:=by rw[uP];omega
 show(Result.ok (Next.value (.int .i64 (IntKind.i64.wrap (a+1)))) w,#[])=_;rw[b]
end
end
section
open Go Go.Conc Go.ConcN Go.RowKit
section
variable {Rl:au->World->World->Prop} {St:au->Goroutine->World->Prop} {S Rr:au} {w0:World} {T:Array Value} {k:List Item} {xs base:List Frame}
structure Kp (S Rr:au) (w0:World) (S':au) (w':World):Prop where
 keep:∀b,b<w0.heap.size->S b\/Rr b->w'.heap[b]?=w0.heap[b]?
 size:w0.heap.size<=w'.heap.size
 os:w'.ou=w0.ou
 mono:∀b,S b->S' b
 new:∀b,S' b->S b\/(w0.heap.size<=b/\b<w'.heap.size)
def Kp.rl(H:pQ Rl Rr)(h:Rl S w0 U):Kp S Rr w0 S U:=let⟨a,b,c⟩:=H.rl _ _ _ h;⟨λx _ d=>a x d,b,c,λ_ h=>h,λ_ h=>.inl h⟩
def Kp.alloc(S Rr:au)(w:World)(ob:Obj):Kp S Rr w (SN S w (w.alloc ob)) (w.alloc ob):=
 ⟨λb a _=>sK w _ b a,by rw[oS];omega,rfl,λ_ h=>.inl h,λ_ h=>h⟩
def Kp.trans{d c:au}{w2 : World}(a:Kp S Rr w0 d U)(b:Kp d Rr U c w2):Kp S Rr w0 c w2:=
 ⟨λx e h=>(b.keep x (bd e a.size) (h.imp (a.mono x) id)).trans (a.keep x e h),ap a.size b.size,b.os.trans a.os,λx h=>b.mono x (a.mono x h),λx h=>(b.new x h).elim (λh=>(a.new x h).imp id λh=>⟨h.1,bd h.2 b.size⟩) λh=>.inr ⟨ap a.size h.1,h.2⟩⟩
def lG(w:World)(ob:Obj):(w.alloc ob).heap[w.heap.size]?=some ob:=by
 show(w.heap.push _)[_]?=_;rw[rh]
def my(S:au)(w:World)(ob:Obj):SN S w (w.alloc ob) w.heap.size:=.inr ⟨am _,by rw[oS];omega⟩
def awu (H:pQ Rl Rr) (hZ:45<=V) (hz:T.size=V)   (N:T.getD 0 undef=.int .i64 key) (P:T.getD 1 undef=.slice A n c)
  (K:∀(T':Array Value) (i:au) (e:World) (f g:Nat),T'.size=V->(∀t,t≠3->t≠4->t≠6->t≠7->T'.getD t undef=T.getD t undef)->T'.getD 3 undef=.pointer (some ⟨f,0,none⟩)->T'.getD 4 undef=.pointer (some ⟨g,0,none⟩)->
   T'.getD 6 undef=.slice none 0 0->T'.getD 7 undef=.bool false->Kp S Rr w0 i e->i f->i g->w0.heap.size<=f->f<g->e.heap[f]?=some (.cells #[.int .i64 key] 3)->e.heap[g]?=some (.cells #[.slice A n c] 23)->bM prog true Rl (pP Rr) St i (Gl (FQ cE T' k::xs) base) e) :
  bM prog true Rl (pP Rr) St S (Gl (FQ cE T (.inRegion ahc [0,1,2,3]::k)::xs) base) w0:=by
 obtain⟨p0,a0,y⟩:=aEs;obtain⟨p1,a1,G⟩:=aEt;obtain⟨Y,a2,D⟩:=aEu;obtain⟨X,a3,W⟩:=aEv;refine nU H (d:=3) (ob:=.cells #[.int .i64 key] 3) (by show(3:Nat)<_;omega) y rfl rfl (λw=>atS (x:=.tmp 0) N rfl) (λa I T1 z1 B s=> ?_) w0 (H.gz _ _);refine nU H (d:=4) (ob:=.cells #[.slice A n c] 23) (by show(4:Nat)<_;omega) G rfl rfl (λw=>atS (x:=.tmp 1) ((s 1 (by decide)).trans P) rfl) (λb z T2 z2 F u=> ?_);refine bQ H.cmp (d:=6) (v:=.slice none 0 0) (es:=#[]) (by show(6:Nat)<_;omega) D rfl rfl (λw _=>ahf rfl) (λw _=>bB _) (λT3 z3 M l=> ?_);refine bQ H.cmp (d:=7) (v:=.bool false) (es:=#[]) (by show(7:Nat)<_;omega) W rfl rfl (λw _=>ahf rfl) (λw _=>bB _) (λE Z U j=> ?_);refine iE H.cmp λe m=> ?_;have r:=Kp.rl H I;have J:=Kp.alloc S Rr a (.cells #[.int .i64 key] 3);have q:=Kp.rl H z;have p:=Kp.alloc (SN S a (a.alloc (.cells #[.int .i64 key] 3))) Rr b (.cells #[.slice A n c] 23);have o:=Kp.rl H m;have s1:(a.alloc (.cells #[.int .i64 key] 3)).heap.size=a.heap.size+1:=oS _ _;have s2:(b.alloc (.cells #[.slice A n c] 23)).heap.size=b.heap.size+1:=oS _ _;have Q:=r.size;have g2:=q.size;refine K E _ e a.heap.size b.heap.size (by omega) (λt O L C R=> ?_) ?_ ?_ ?_ U ((((r.trans J).trans q).trans p).trans o) (p.mono _ (my S a _)) (my _ b _) Q (by omega) ?_ ?_
 .rw[j t R,l t C,u t L,s t O]
 .rw[j 3 (by decide),l 3 (by decide),u 3 (by decide),B]
 .rw[j 4 (by decide),l 4 (by decide),F]
 .rw[j 6 (by decide),M]
 .rw[((q.trans p).trans o).keep a.heap.size (by omega) (.inl (my S a _)),lG]
 .rw[o.keep b.heap.size (by omega) (.inl (my _ b _)),lG]
end
end
section
open Go Go.Conc Go.ConcN Go.RowKit
section
variable {P:Program} {main:Bool} {Rl:au->World->World->Prop} {St:au->Goroutine->World->Prop} {S Rr:au} {w0:World} {f:FuncId} {T:Array Value} {k:List Item} {xs base:List Frame}
def azI (H:pQ Rl Rr)     {Q:Value->Obj->World->Prop} (l:d<T.size) (m:W[i]?=some o) (s:o.guard=none) (g:o.dst=some d)
  (p:∀w,∃v ob,Q v ob w/\(execOp (FQ f T (.inRegion W (i::rest)::k)).eval o).runT P w #[]=(.ok (.value v) (w.alloc ob),#[]))
  (u:∀w,Rl S w0 w->∀v ob,Q v ob w->∀T':Array Value,T'.size=T.size->T'.getD d undef=v->(∀t,t≠d->T'.getD t undef=T.getD t undef)->∀a,Rl (SN S w (w.alloc ob)) (w.alloc ob) a->bM P main Rl (pP Rr) St (SN S w (w.alloc ob)) (Gl (FQ f T' (.inRegion W rest::k)::xs) base) a) :
  ∀w,Rl S w0 w->bM P main Rl (pP Rr) St S (Gl (FQ f T (.inRegion W (i::rest)::k)::xs) base) w:=λw n=>by
 refine .step rfl λa j=> ?_;have x:=H.tr _ _ _ _ n j;obtain⟨v,ob,y,c⟩:=p a;refine⟨_,_,_,_,anr rfl rfl rfl rfl m s c,⟨λb r _=>sK a _ b r,by rw[oS];omega,rfl,rfl,λe z=>by cases(by simpa using tn z:False)⟩, ?_⟩;have:Frame.finish (FQ f T (.inRegion W (i::rest)::k)) v=FQ f (T.setIfInBounds d v) (.inRegion W rest::k):=by
  simp only[Frame.finish,m,qN,g]
 rw[this];exact u a x _ _ y _ (by simp) (by rw[aG l,du rfl]) (λt q=>by rw[aG l,be q]) _ (H.gz _ _)
end
section
variable {w:World} {b:Nat} {u v:Value} {t:TypeId}
def tU(h:w.heap[b]?=some (.cells #[u] t)):w.cell? ⟨b,0,none⟩=some u/\w.frozen? ⟨b,0,none⟩=false:=by
 constructor
 .simp[World.cell?,h]
 .simp[World.frozen?,h]
def xc(h:w.heap[b]?=some (.cells #[u] t)):(w.setCell ⟨b,0,none⟩ v).heap[b]?=some (.cells #[v] t):=by
 simp[World.setCell,pr,h]
end
section
variable {Rl:au->World->World->Prop} {St:au->Goroutine->World->Prop} {S Rr:au} {w0:World} {T:Array Value} {k:List Item} {xs base:List Frame}
def awv (H:pQ Rl Rr) (hZ:45<=V) (hz:T.size=V)  (hn:(n:Int)<=2147483647) (Y:T.getD 2 undef=.slice A n c)
  (K:∀(T':Array Value) (p:au) (l:World) (C B:Nat) (g:Array Value),T'.size=V->(∀t,t≠15->t≠16->t≠17->t≠8->T'.getD t undef=T.getD t undef)->T'.getD 8 undef=.pointer (some ⟨B,0,none⟩)->T'.getD 17 undef=.slice (some ⟨C,0,none⟩) n n->
   Kp S Rr w0 p l->p C->p B->w0.heap.size<=C->C<B->g.size=2*n->l.heap[C]?=some (.cells g 141)->l.heap[B]?=some (.cells #[.slice (some ⟨C,0,none⟩) n n] 130)->bM prog true Rl (pP Rr) St p (Gl (FQ cE T' k::xs) base) l) :
  bM prog true Rl (pP Rr) St S (Gl (FQ cE T (.inRegion adO [0,1,2,3,4]::k)::xs) base) w0:=by
 obtain⟨p0,a0,W⟩:=aEw;obtain⟨p1,a1,e1⟩:=aEx;obtain⟨p2,a2,e2⟩:=aEy;obtain⟨p3,a3,e3⟩:=aEz;obtain⟨p4,a4,e4⟩:=aEA;obtain⟨Z,P,F,L⟩:=faT.al4;refine bQ H.cmp (d:=15) (v:=.slice A n c) (es:=#[]) (by show(15:Nat)<_;omega) W rfl rfl (λw _=>fK (x:=.tmp 2) Y) (λw _=>bB _) (λT1 z1 v1 r1=> ?_) w0 (H.gz _ _);refine bQ H.cmp (d:=16) (v:=.int .i64 n) (es:=#[]) (by show(16:Nat)<_;omega) e1 rfl rfl (λw _=>akL faT (s:=15) v1) (λw _=>bB _) (λT2 z2 v2 r2=> ?_);refine azI H (d:=17) (Q:=λv ob w=>v=.slice (some ⟨w.heap.size,0,none⟩) n n/\∃g:Array Value,g.size=2*n/\ob=.cells g 141) (by show(17:Nat)<_;omega) e2 rfl rfl (λw=> ?_) (λa ha vv ob hq T3 z3 v3 X=> ?_)
 .obtain⟨g,q,hr⟩:=awt faT (w:=w) (x:=.tmp 16) (e:=Frame.eval (FQ cE T2 (.inRegion adO [2,3,4]::k))) hn v2;exact⟨_,_,⟨rfl,g,q,rfl⟩,hr⟩
 obtain⟨rfl,g,J,rfl⟩:=hq;refine nU H (d:=8) (ob:=.cells #[.slice none 0 0] 130) (by show(8:Nat)<_;omega) e3 rfl rfl (λw=>aas P L) (λf D O z4 U R=> ?_);have o:O.getD 17 undef=.slice (some ⟨a.heap.size,0,none⟩) n n:=by rw[R 17 (by decide),v3]
 have s1:(a.alloc (.cells g 141)).heap.size=a.heap.size+1:=oS _ _;have s2:(f.alloc (.cells #[.slice none 0 0] 130)).heap.size=f.heap.size+1:=oS _ _;have N:=Kp.rl H ha;have kb:=Kp.alloc S Rr a (.cells g 141);have M:=Kp.rl H D;have r:=Kp.alloc (SN S a (a.alloc (.cells g 141))) Rr f (.cells #[.slice none 0 0] 130);have g1:=N.size;have g2:=M.size;have i:=my (SN S a (a.alloc (.cells g 141))) f (.cells #[.slice none 0 0] 130);have I:∀{w},Rl (SN (SN S a (a.alloc (.cells g 141))) f (f.alloc (.cells #[.slice none 0 0] 130))) (f.alloc (.cells #[.slice none 0 0] 130)) w->w.heap[f.heap.size]?=some (.cells #[.slice none 0 0] 130):=λ{w} h=>by
  rw[(Kp.rl H h).keep f.heap.size (by omega) (.inl i),lG]
 refine afa H.cmp (A:=⟨f.heap.size,0,none⟩) (u:=.slice (some ⟨a.heap.size,0,none⟩) n n) e4 rfl rfl (λw h=>ahg (x:=.tmp 8) (y:=.tmp 17) P F rfl rfl U o (tU (I h)).1 (tU (I h)).2) i (λw h=>acw i (by have:=(Kp.rl H h).size;show f.heap.size<_;omega)) (λz q w1 cZ=> ?_);refine iE H.cmp (λl E=> ?_) w1 cZ;have G:=Kp.rl H q;have m:=Kp.rl H E;have g3:=G.size;have a5:(z.setCell ⟨f.heap.size,0,none⟩ (.slice (some ⟨a.heap.size,0,none⟩) n n)).heap.size=z.heap.size:=bv _ _ _;have other:∀b,b≠f.heap.size->(z.setCell ⟨f.heap.size,0,none⟩ (.slice (some ⟨a.heap.size,0,none⟩) n n)).heap[b]?=z.heap[b]?:=λb h=>bu _ _ _ (λe=>h e.symm);have j:=((N.trans kb).trans M).trans (r.trans G);have g4:=m.size;refine K O _ l a.heap.size f.heap.size g (by omega) (λt q1 q2 q3 q4=> ?_) U o ⟨λb D h=> ?_,by have:=j.size;omega, ?_,j.mono,λb h=>(j.new b h).imp id λh=>⟨h.1,by omega⟩⟩ (r.mono _ (my S a _)) i g1 (by omega) J ?_ ?_
 .rw[R t q4,X t q3,r2 t q2,r1 t q1]
 .exact(m.keep b (by have:=j.size;omega) (h.imp (j.mono b) id)).trans ((other b (by omega)).trans (j.keep b D h))
 .exact m.os.trans j.os
 .exact(m.keep a.heap.size (by omega) (.inl (r.mono _ (my S a _)))).trans ((other _ (by omega)).trans (((M.trans (r.trans G)).keep a.heap.size (by omega) (.inl (my S a _))).trans (lG a _)))
 .exact(m.keep f.heap.size (by omega) (.inl i)).trans (xc (I q))
end
end
section
open Go Go.Conc Go.ConcN Go.RowKit
open Go.ConcR (KK wgBlock WgAt stA smA rd wr mk Payload DC0)
def atT:(prog.info? eR.tWg).map (λi=>i.zero.map (·.cells))=some (some #[.int .u64 0,.int .u32 0]):=by kernel_rfl
def aup:∃i z,prog.info? eR.tWg=some i/\i.zero=some z/\z.cells=#[.int .u64 0,.int .u32 0]:=by
 have h:=atT;cases b:prog.info? eR.tWg with
 |none=>rw[b] at h;cases h
 |some i=>
  rw[b] at h;cases a:i.zero with
  |none=>simp[a] at h
  |some z=>
   simp only[qu,a,lP] at h;exact⟨i,z,rfl,a,h⟩
end
section
open Go Go.Conc Go.ConcN Go.RowKit
open Go.ConcR (KK wgBlock WgAt stA smA rd wr mk Payload DC0)
def jG{o:Obj}(h:w.heap[b]?=some o):b<w.heap.size:=(dl.1 h).1
noncomputable def ij:Code:=.seq (.seq (.region 3 ahd false) (.block 0 (.loop jF))) (.seq (.region 9 jZ false) cM)
section
variable {Rl:au->World->World->Prop} {St:au->Goroutine->World->Prop} {S Rr:au} {w0:World} {T:Array Value} {k:List Item} {xs base:List Frame}
def ak8 (H:pQ Rl Rr) (E:45<=V) (O:T.size=V) {A2 : Option Addr} (hn:(b:Int)<=2147483647) (h0:T.getD 0 undef=.int .i64 key) (h1:T.getD 1 undef=.slice A n c) (F:T.getD 2 undef=.slice A2 b i)
  (K:∀(T':Array Value) (x:au) (g:World) (e d C j:Nat) (o:Array Value),T'.size=V->(∀t,(t<3\/aaV t=true)->T'.getD t undef=T.getD t undef)->
   T'.getD 3 undef=.pointer (some ⟨e,0,none⟩)/\T'.getD 4 undef=.pointer (some ⟨d,0,none⟩)/\T'.getD 6 undef=.slice none 0 0/\T'.getD 7 undef=.bool false/\T'.getD 8 undef=.pointer (some ⟨j,0,none⟩)/\T'.getD 17 undef=.slice (some ⟨C,0,none⟩) b b->
   Kp S Rr w0 x g->w0.heap.size<=e/\e<d/\d<C/\C<j->g.heap[e]?=some (.cells #[.int .i64 key] 3)->g.heap[d]?=some (.cells #[.slice A n c] 23)->o.size=2*b->g.heap[C]?=some (.cells o 141)->g.heap[j]?=some (.cells #[.slice (some ⟨C,0,none⟩) b b] 130)->
   bM prog true Rl (pP Rr) St x (Gl (FQ cE T' (.code (.region 2 oX false) :: .code ij::k)::xs) base) g) :
  bM prog true Rl (pP Rr) St S (Gl (FQ cE T (.code ab3::k)::xs) base) w0:=by
 rw[atQ];refine eN H.cmp (gD H.cmp (l:=[0,1,2,3]) rfl λwa R=>awu H E O h0 h1 λT1 S1 w1 e d M B t3 G J I k1 L sp lk N ck y=> ?_) w0 (H.gz _ _);refine eN H.cmp (gD H.cmp (l:=[0,1,2,3,4]) rfl λwb w=>awv H E M hn ((B 2 (by decide) (by decide) (by decide) (by decide)).trans F) λZ S2 w2 C j o z2 m t8 q P U Q lC la u X D=> ?_) w1 (H.gz _ _);refine eN H.cmp (λwc Y=> ?_) w2 (H.gz _ _);have z:=Kp.rl H R;have s:=(Kp.rl H w).trans P;have f:=Kp.rl H Y;have a1:=jG y;have a0:=jG D;have g1:=z.size;have g2:=(Kp.rl H w).size;have g3:=f.size;refine K Z S2 wc e d C j o z2 (λt a=> ?_) ⟨?_, ?_, ?_, ?_,t8,q⟩ (((z.trans k1).trans s).trans f) ⟨by omega,N,by omega,la⟩ ?_ ?_ u ?_ ?_
 .have p:t≠15:=by rintro rfl;exact absurd a (by decide)
  have r:t≠16:=by rintro rfl;exact absurd a (by decide)
  have v:t≠17:=by rintro rfl;exact absurd a (by decide)
  have e8:t≠8:=by rintro rfl;exact absurd a (by decide)
  have e3:t≠3:=by rintro rfl;exact absurd a (by decide)
  have W:t≠4:=by rintro rfl;exact absurd a (by decide)
  have e6:t≠6:=by rintro rfl;exact absurd a (by decide)
  have e7:t≠7:=by rintro rfl;exact absurd a (by decide)
  rw[m t p r v e8,B t e3 W e6 e7]
 .rw[m 3 (by decide) (by decide) (by decide) (by decide),t3]
 .rw[m 4 (by decide) (by decide) (by decide) (by decide),G]
 .rw[m 6 (by decide) (by decide) (by decide) (by decide),J]
 .rw[m 7 (by decide) (by decide) (by decide) (by decide),I]
 .rw[(s.trans f).keep e (by omega) (.inl L),ck]
 .rw[(s.trans f).keep d (by omega) (.inl sp),y]
 .rw[f.keep C (by omega) (.inl U),X]
 .rw[f.keep j (by omega) (.inl Q),D]
end
end
section
open Go Go.Conc Go.ConcN Go.RowKit
section
variable {Rl:au->World->World->Prop} {St:au->Goroutine->World->Prop} {S Rr:au} {w0:World} {T:Array Value} {k:List Item} {xs base:List Frame}
def auq (H:pQ Rl Rr) (G:45<=V) (E:T.size=V)  (i:T.getD 2 undef=.slice A n c)
  (K:∀T':Array Value,T'.size=V->(∀t,t≠18->t≠19->t≠20->T'.getD t undef=T.getD t undef)->T'.getD 18 undef=.slice A n c->T'.getD 19 undef=.int .i64 n->T'.getD 20 undef=.int .i64 0->
   ∀b,Rl S w0 b->bM prog true Rl (pP Rr) St S (Gl (FQ cE T' k::xs) base) b) :
  bM prog true Rl (pP Rr) St S (Gl (FQ cE T (.inRegion ahd [0,1,2]::k)::xs) base) w0:=by
 obtain⟨L,J,g⟩:=aEB;obtain⟨F,M,u⟩:=aEC;obtain⟨z,N,q⟩:=aED;refine bQ H.cmp (d:=18) (v:=.slice A n c) (es:=#[]) (by show(18:Nat)<_;omega) g rfl rfl (λw _=>fK (x:=.tmp 2) i) (λw _=>bB _) (λB D e j=> ?_) w0 (H.gz _ _);refine bQ H.cmp (d:=19) (v:=.int .i64 n) (es:=#[]) (by show(19:Nat)<_;omega) u rfl rfl (λw _=>akL faT (s:=18) e) (λw _=>bB _) (λO C r f=> ?_);refine bQ H.cmp (d:=20) (v:=.int .i64 0) (es:=#[]) (by show(20:Nat)<_;omega) q rfl rfl (λw _=>fK rfl) (λw _=>bB _) (λm I l a=> ?_);refine iE H.cmp (K m (by omega) (λt o y p=>by rw[a t p,f t y,j t o]) (by rw[a 18 (by decide),f 18 (by decide),e]) (by rw[a 19 (by decide),r]) l)
def aot (H:pQ Rl Rr) (l:45<=V) (q:T.size=V) (a:T.getD 20 undef=.int .i64 i) (b:T.getD 19 undef=.int .i64 n)
  (K:∀T':Array Value,T'.size=V->(∀t,t≠21->T'.getD t undef=T.getD t undef)->T'.getD 21 undef=.bool (decide (i<n))->
   ∀c,Rl S w0 c->bM prog true Rl (pP Rr) St S (Gl (FQ cE T' k::xs) base) c) :
  bM prog true Rl (pP Rr) St S (Gl (FQ cE T (.inRegion atP [0]::k)::xs) base) w0:=by
 obtain⟨o,m,e⟩:=aEE;refine bQ H.cmp (d:=21) (v:=.bool (decide ((i:Int)<n))) (es:=#[]) (by show(21:Nat)<_;omega) e rfl rfl (λw _=>atA (x:=.tmp 20) (y:=.tmp 19) a b) (λw _=>bB _) (λg p j f=> ?_) w0 (H.gz _ _);exact iE H.cmp (K g (by omega) f (by rw[j];congr 1;exact uM.2 (by omega)))
end
end
section
open Go Go.Conc Go.ConcN Go.RowKit
def aqw:(prog.info? 3).map (λi=>(i.size,i.zero))=some (1,some (.int .i64 0)):=by kernel_rfl
def akM:∃i,prog.info? 3=some i/\i.size=1/\i.zero=some (.int .i64 0):=by
 have h:=aqw;cases a:prog.info? 3 with
 |none=>rw[a] at h;cases h
 |some i=>
  rw[a] at h;simp only[qu,lP,vG] at h;exact⟨i,rfl,h⟩
section
variable {P:Program} {w:World} {e:Operand->Value} {x y:Operand} {dst:Option Tmp} {ty:TypeId} {pos:String} {af:Array Edge} {gd:Option (Nat×Bool)}
def ang{i:TypeInfo}(g:P.underlying 37=some (.slice 3))(hi:P.info? 3=some i)(f:i.size=1){a:Addr}(k:e x=.slice (some a) n c)(d:e y=.int .i64 j)(b:j<n) :
  (execOp e ⟨dst,.indexAddr 37 x y,ty,pos,af,gd⟩).runT P w #[]=(.ok (.value (.pointer (some (a.add j)))) w,#[]):=by
 simp[execOp,k,d,Instr.indexAt,asIntOf,me g,b,sizeOf,typeInfo,hi,f]
end
end
section
open Go Go.Conc Go.ConcN Go.RowKit
section
variable {Rl:au->World->World->Prop} {St:au->Goroutine->World->Prop} {S Rr:au} {w0:World} {T:Array Value} {k:List Item} {xs base:List Frame}
def atU (H:pQ Rl Rr)   {p:String} {s : Tmp} {u v:Int} (E:W[i]?=some ⟨none,.store 3 (.tmp d) (.tmp s),0,p,af,none⟩) (t:T.getD d undef=.pointer (some ⟨b,0,none⟩)) (F:T.getD s undef=.int .i64 v)
  (n:S b) (q:w0.heap[b]?=some (.cells #[.int .i64 u] 3))
  (K:∀a,Kp S Rr (w0.setCell ⟨b,0,none⟩ (.int .i64 v)) S a->(∀x,x≠b->S x\/Rr x->a.heap[x]?=w0.heap[x]?)->w0.heap.size<=a.heap.size->a.ou=w0.ou->a.heap[b]?=some (.cells #[.int .i64 v] 3)->bM prog true Rl (pP Rr) St S (Gl (FQ cE T (.inRegion W rest::k)::xs) base) a) :
  bM prog true Rl (pP Rr) St S (Gl (FQ cE T (.inRegion W (i::rest)::k)::xs) base) w0:=by
 obtain⟨M,G,D, -⟩:=akM;have C:=jG q;have l:∀{w},Rl S w0 w->w.heap[b]?=some (.cells #[.int .i64 u] 3):=λ{w} h=>by rw[(Kp.rl H h).keep b C (.inl n),q]
 refine afa H.cmp (A:=⟨b,0,none⟩) (u:=.int .i64 v) E rfl rfl (λw h=>ahg (x:=.tmp d) (y:=.tmp s) G D rfl rfl t F (tU (l h)).1 (tU (l h)).2) n (λw h=>acw n (jG (l h))) (λj f o I=> ?_) w0 (H.gz _ _);have g:=H.rl _ _ _ f;have c:=H.rl _ _ _ I;have z:(j.setCell ⟨b,0,none⟩ (.int .i64 v)).heap.size=j.heap.size:=bv _ _ _;have other:∀x,x≠b->(j.setCell ⟨b,0,none⟩ (.int .i64 v)).heap[x]?=j.heap[x]?:=λx h=>bu _ _ _ (λe=>h e.symm);have r:o.heap[b]?=some (.cells #[.int .i64 v] 3):=(c.1 b (.inl n)).trans (xc (l f));have same:∀x,x≠b->S x\/Rr x->o.heap[x]?=w0.heap[x]?:=λx h m=>(c.1 x m).trans ((other x h).trans (g.1 x m));have B:(w0.setCell ⟨b,0,none⟩ (.int .i64 v)).heap.size=w0.heap.size:=bv _ _ _;have L:=g.2.1;have J:=c.2.1;refine K o ⟨λx _ m=> ?_,by omega,(c.2.2.trans g.2.2),λ_ h=>h,λ_ h=>.inl h⟩ same (by omega) (c.2.2.trans g.2.2) r;by_cases e:x=b
 .rw[e,r,xc q]
 .rw[same x e m,bu _ _ _ (λh=>e h.symm)]
end
section
variable {P:Program} {S Rr:au}
def aww{A:Addr}{B:Nat}(d:Rr A.block)(g:A.block<B):∀e∈seen P f #[⟨.cell A,false,false⟩],nP S Rr B e:=λe c=>by
 have h:=tn c;simp only[sJ,mu,rN,uj] at h;subst h;refine⟨λx a=>.inr ?_,λm b=>(by cases b),g⟩;simp[MemAct.ofEvent,MemAct.touch?] at a;rw[<-a];exact⟨d,rfl⟩
end
end
section
open Go Go.Conc Go.ConcN Go.RowKit
section
variable {Rl:au->World->World->Prop} {St:au->Goroutine->World->Prop} {S Rr:au} {w0:World} {T:Array Value} {k:List Item} {xs base:List Frame}
def awx (H:pQ Rl Rr) (hZ:45<=V) (hz:T.size=V)  {nm:Int} (W:T.getD 18 undef=.slice A n c) (B:T.getD 20 undef=.int .i64 j) (hj:j<n) (U:ajO w0 A j nm) (hR:∀a,A=some a->Rr a.block)
  (K:∀(T':Array Value) (F:au) (G:World) (s E:Nat),T'.size=V->(∀t,t≠22->t≠23->t≠24->t≠10->t≠11->T'.getD t undef=T.getD t undef)->T'.getD 10 undef=.pointer (some ⟨s,0,none⟩)->T'.getD 11 undef=.pointer (some ⟨E,0,none⟩)->
   Kp S Rr w0 F G->F s->F E->w0.heap.size<=s->s<E->G.heap[s]?=some (.cells #[.int .i64 j] 3)->G.heap[E]?=some (.cells #[.int .i64 nm] 3)->bM prog true Rl (pP Rr) St F (Gl (FQ cE T' k::xs) base) G) :
  bM prog true Rl (pP Rr) St S (Gl (FQ cE T (.inRegion acV [0,1,2,3,4,5,6]::k)::xs) base) w0:=by
 obtain⟨p0,a0,e0⟩:=aEF;obtain⟨p1,a1,e1⟩:=aEG;obtain⟨p2,a2,e2⟩:=aEH;obtain⟨p3,a3,e3⟩:=aEI;obtain⟨p4,a4,e4⟩:=aEJ;obtain⟨p5,a5,e5⟩:=aEK;obtain⟨p6,a6,e6⟩:=aEL;obtain⟨a,rfl,g,kW⟩:=U;obtain⟨i3,o,Q,r⟩:=akM;have C:=hR a rfl;have m:(a.add j).block=a.block:=rF a j;have a7:=eW g;have jb:∀{w},Rl S w0 w->w.cell? (a.add j)=some (.int .i64 nm):=λ{w} h=>(gQ (by rw[m];exact(H.rl _ _ _ h).1 a.block (.inr C))).trans g
 refine bQ H.cmp (d:=22) (v:=.int .i64 j) (es:=#[]) (by show(22:Nat)<_;omega) e0 rfl rfl (λw _=>fK (x:=.tmp 20) B) (λw _=>bB _) (λT1 z1 v1 r1=> ?_) w0 (H.gz _ _);refine bQ H.cmp (d:=23) (v:=.pointer (some (a.add j))) (es:=#[]) (by show(23:Nat)<_;omega) e1 rfl rfl (λw _=>ang faT.u31 o Q (x:=.tmp 18) (y:=.tmp 20) ((r1 18 (by decide)).trans W) ((r1 20 (by decide)).trans B) hj) (λw _=>bB _) (λT2 z2 v2 r2=> ?_);refine bQ H.cmp (d:=24) (v:=.int .i64 nm) (es:=#[⟨.cell (a.add j),false,false⟩]) (by show(24:Nat)<_;omega) e2 rfl rfl (λw P=>akH underlying3 rfl (x:=.tmp 23) v2 (jb P)) (λw P=>aww (by rw[m];exact C) (bd a7 (H.rl _ _ _ P).2.1)) (λT3 z3 v3 r3=> ?_);refine nU H (d:=10) (ob:=.cells #[.int .i64 0] 3) (by show(10:Nat)<_;omega) e3 rfl rfl (λw=>aas o r) (λe ha T4 z4 v4 r4=> ?_);refine nU H (d:=11) (ob:=.cells #[.int .i64 0] 3) (by show(11:Nat)<_;omega) e4 rfl rfl (λw=>aas o r) (λl hb J z5 v5 L w1 cZ=> ?_);have s1:(e.alloc (.cells #[.int .i64 0] 3)).heap.size=e.heap.size+1:=oS _ _;have s2:(l.alloc (.cells #[.int .i64 0] 3)).heap.size=l.heap.size+1:=oS _ _;have ka:=(Kp.rl H ha).trans (Kp.alloc S Rr e (.cells #[.int .i64 0] 3));have X:=Kp.rl H hb;have kc:=Kp.alloc (SN S e (e.alloc (.cells #[.int .i64 0] 3))) Rr l (.cells #[.int .i64 0] 3);have I:=Kp.rl H cZ;have g0:=(Kp.rl H ha).size;have g1:=X.size;have g2:=I.size;have i:=kc.mono _ (my S e (.cells #[.int .i64 0] 3));have f:=my (SN S e (e.alloc (.cells #[.int .i64 0] 3))) l (.cells #[.int .i64 0] 3);have ci:w1.heap[e.heap.size]?=some (.cells #[.int .i64 0] 3):=by
  rw[((X.trans kc).trans I).keep e.heap.size (by omega) (.inl (my S e _)),lG]
 have cn:w1.heap[l.heap.size]?=some (.cells #[.int .i64 0] 3):=by
  rw[I.keep l.heap.size (by omega) (.inl f),lG]
 have D:J.getD 10 undef=.pointer (some ⟨e.heap.size,0,none⟩):=by rw[L 10 (by decide),v4]
 have M:J.getD 22 undef=.int .i64 j:=by rw[L 22 (by decide),r4 22 (by decide),r3 22 (by decide),r2 22 (by decide),v1]
 have R:J.getD 24 undef=.int .i64 nm:=by rw[L 24 (by decide),r4 24 (by decide),v3]
 refine atU H e5 D M i ci (λw2 _ z z6 o6 Z=> ?_);have a8:w2.heap[l.heap.size]?=some (.cells #[.int .i64 0] 3):=(z _ (by omega) (.inl f)).trans cn;refine atU H e6 v5 R f a8 (λw3 _ u z7 o7 Y=> ?_);refine iE H.cmp (λw4 N=> ?_) w3 (H.gz _ _);have q:=Kp.rl H N;have p:=((ka.trans X).trans kc).trans I;have aa:=p.size;refine K J _ w4 e.heap.size l.heap.size (by omega) (λt q1 q2 q3 q4 q5=> ?_) D v5 ⟨λb a9 h=> ?_, ?_, ?_,p.mono,λb h=>(p.new b h).imp id λh=>⟨h.1, ?_⟩⟩ i f g0 (by omega) ?_ ?_
 .rw[L t q5,r4 t q4,r3 t q3,r2 t q2,r1 t q1]
 .have O:=h.imp (p.mono b) id;rw[q.keep b (by omega) O,u b (by omega) O,z b (by omega) O,p.keep b a9 h]
 .have:=q.size;omega
 .rw[q.os,o7,o6,p.os]
 .have:=q.size;omega
 .rw[q.keep _ (by omega) (.inl i),u _ (by omega) (.inl i),Z]
 .rw[q.keep _ (by omega) (.inl f),Y]
end
end
section
open Go Go.Conc Go.ConcN Go.RowKit
open Go.ConcR (KK wgBlock WgAt stA smA rd wr mk Payload DC0)
structure Mx where
 wE:World
 Wg:Nat
 C:Nat
 n2:Nat
 Rg:Nat->Prop
 key:Int
 A:Option Addr
 n:Nat
 c:Nat
 l:List iY
 A2:Option Addr
 c2:Nat
 dK:List Int
 bk:Nat
 bp:Nat
 ba:Nat
 sv:Nat->Value
 Z:Nat
 V:au
structure Mx.Ok (X:Mx):Prop where
 hN:gN<=X.wE.heap.size
 gl:∀g∈gL,X.Rg g
 k1:1<=X.key
 k2:X.key<=99
 hl:X.l.length=X.n
 hc:X.n<=X.c
 hcm:(X.c:Int)<=9223372036854775807
 gr:∀g∈gL,eP X.wE g
 rd:RdP X.wE X.A 0 X.l
 rgp:RgP X.Rg X.wE X.A X.l
 al:∀a,X.A=some a->X.Rg a.block
 al2:∀a,X.A2=some a->X.Rg a.block
 nm:∀i nm,X.dK[i]?=some nm->ajO X.wE X.A2 i nm
 nn:X.dK.length=X.n2
 n2m:(X.n2:Int)<=2147483647
 cW:X.C≠X.Wg
 vr:∀b,X.Rg b->X.V b
structure Mx.At (X:Mx) (R:au) (w:World):Prop where
 keep:∀b,X.V b->w.heap[b]?=X.wE.heap[b]?
 sz:X.wE.heap.size<=w.heap.size
 os:w.ou=X.wE.ou
 rows:∀b,X.V b->R b
 rk:R X.bk/\w.heap[X.bk]?=some (.cells #[.int .i64 X.key] 3)
 rp:R X.bp/\w.heap[X.bp]?=some (.cells #[.slice X.A X.n X.c] 23)
 ra:R X.ba/\w.heap[X.ba]?=some (.cells #[.slice (some ⟨X.C,0,none⟩) X.n2 X.n2] 130)
 rlt:∀b,R b->b<w.heap.size
 rC:¬R X.C
 rW:¬R X.Wg
 ltC:X.C<w.heap.size
 ltW:X.Wg<w.heap.size
section
variable {X:Mx} {R S S':au} {w w':World} {es:Array Event}
def Mx.At.move(h:X.At R w)(a:∀b,R b->w'.heap[b]?=w.heap[b]?)(d:w.heap.size<=w'.heap.size)(e:w'.ou=w.ou):X.At R w':=
 ⟨λb c=>(a b (h.rows b c)).trans (h.keep b c),ap h.sz d,e.trans h.os,h.rows,⟨h.rk.1,(a _ h.rk.1).trans h.rk.2⟩,⟨h.rp.1,(a _ h.rp.1).trans h.rp.2⟩,⟨h.ra.1,(a _ h.ra.1).trans h.ra.2⟩,
  λb c=>bd (h.rlt b c) d,h.rC,h.rW,bd h.ltC d,bd h.ltW d⟩
def Mx.At.grow(h:X.At R w)(c:∀b,S b->b<w.heap.size/\b≠X.C/\b≠X.Wg):X.At (λb=>S b\/R b) w:=
 ⟨h.keep,h.sz,h.os,λb a=>.inr (h.rows b a),⟨.inr h.rk.1,h.rk.2⟩,⟨.inr h.rp.1,h.rp.2⟩,⟨.inr h.ra.1,h.ra.2⟩,λb a=>a.elim (λx=>(c b x).1) (h.rlt b),
  λa=>a.elim (λx=>(c _ x).2.1 rfl) h.rC,λa=>a.elim (λx=>(c _ x).2.2 rfl) h.rW,h.ltC,h.ltW⟩
def Mx.At.rgp(a:X.Ok)(h:X.At R w):RgP X.Rg w X.A X.l:=a.rgp.move a.al λb c=>h.keep b (a.vr b c)
def Mx.At.gr(a:X.Ok)(h:X.At R w):∀g∈gL,eP w g:=λg b=>by
 obtain⟨c,t,z,e⟩:=a.gr g b;exact⟨c,t,z,(h.keep g (a.vr g (a.gl g b))).trans e⟩
def Mx.At.rd(a:X.Ok)(h:X.At R w):RdP w X.A 0 X.l:=a.rd.mask a.rgp a.al λ_ _ c b _=>(gQ (h.keep _ (a.vr _ b))).trans c
def Mx.At.nm(b:X.Ok)(h:X.At R w){nm:Int}(hi:X.dK[i]?=some nm):ajO w X.A2 i nm:=by
 obtain⟨a,e,d,c⟩:=b.nm i nm hi;exact⟨a,e,(gQ (by rw[rF];exact h.keep _ (b.vr _ (b.al2 a e)))).trans d,c⟩
abbrev Mx.Rl(X:Mx)(R:au):au->World->World->Prop:=kg eR.tWg X.Wg X.C (2*X.n2) R noC
abbrev Mx.Gr(X:Mx)(R:au):au->au->World->World->Array Event->Prop:=Gua X.Wg X.C (2*X.n2) R noC
def Mx.nI(X:Mx)(R:au):pQ (X.Rl R) R:=⟨λS w=>kg.refl _ _ _ _,λ_ _ _ _=>kg.trans,λ_ _ _ h=>⟨h.keep,h.size,h.os⟩⟩
structure Mx.Inv (X:Mx) (R S:au) (w:World):Prop where
 s:∀b,S b->b<w.heap.size/\b≠X.C/\b≠X.Wg
 at_:X.At R w
 live:WgLive eR.tWg X.Wg w
 sr:∀b,R b->¬S b
def Mx.Inv.rely(h:X.Inv R S w)(a:X.Rl R S w w'):X.Inv R S w':=
 ⟨λb c=>⟨bd (h.s b c).1 a.size,(h.s b c).2⟩,h.at_.move (λb c=>a.keep b (.inr c)) a.size a.os,a.live h.live,h.sr⟩
def Mx.step(h:X.Inv R S w)(g:pP R S S' w w' es):X.Gr R S S' w w' es/\X.Inv R S' w':=by
 obtain⟨k,l,p,rfl,z⟩:=g;have o:w'.heap[X.C]?=w.heap[X.C]?:=k _ h.at_.ltC λd=>(h.s _ d).2.1 rfl;have q:w'.heap[X.Wg]?=w.heap[X.Wg]?:=k _ h.at_.ltW λd=>(h.s _ d).2.2 rfl;refine⟨⟨λb c v _=>k b c v,l,p,λ⟨r,a,b⟩=>⟨r,o.trans a,b⟩,λi _=>uH o i,λb c=>.inl c,λb c=>c,λe C=> ?_⟩, ?_⟩
 .obtain⟨A,m,B⟩:=z e C;refine⟨λx t=>(A x t).elim .inl λy=>.inr (.inr y),λj=> ?_,λj=> ?_,λj=> ?_,B⟩
  .rcases m _ j with⟨f,e⟩|e<;>cases e
  .rcases m _ j with⟨f,e⟩|e<;>cases e
  .rcases m _ j with⟨f,e⟩|e<;>cases e
 .refine⟨λb c=> ?_,h.at_.move (λb c=>k b (h.at_.rlt b c) (h.sr b c)) l p, ?_,λb c d=> ?_⟩
  .rcases c with c|⟨c,n⟩
   .exact⟨bd (h.s b c).1 l,(h.s b c).2⟩
   .have E:=h.at_.ltC;have D:=h.at_.ltW;exact⟨n,by omega,by omega⟩
  .obtain⟨u,sm,s⟩:=h.live;exact⟨u,sm,q.trans s⟩
  .rcases d with d|⟨d,_⟩
   .exact h.sr b c d
   .have:=h.at_.rlt b c;omega
def Mx.lift(h:bM prog true (X.Rl R) (pP R) Stop S g w)(hi:X.Inv R S w):bM prog true (X.Rl R) (X.Gr R) (λS g w=>Stop S g w/\X.Inv R S w) S g w:=
 bM.inv (Rl:=X.Rl R) (Gr:=pP R) (Gr2:=X.Gr R) (Stop:=Stop) (Inv:=X.Inv R) (λ_ _ _ a b=>a.rely b) (λ_ _ _ _ _ a b=>Mx.step a b) (λ_ _ _ a b=>⟨a,b⟩) h hi
def ak9(t:Nat):Bool:=t ==0||t ==1||t ==2||t ==6||t ==7||t ==17||aaV t
structure Mx.Sl (X:Mx) (T:Array Value) (j:Nat):Prop where
 z:T.size=X.Z
 zz:45<=X.Z
 s3:T.getD 3 undef=.pointer (some ⟨X.bk,0,none⟩)
 s4:T.getD 4 undef=.pointer (some ⟨X.bp,0,none⟩)
 s8:T.getD 8 undef=.pointer (some ⟨X.ba,0,none⟩)
 s9:T.getD 9 undef=.pointer (some ⟨X.Wg,0,none⟩)
 s18:T.getD 18 undef=.slice X.A2 X.n2 X.c2
 s19:T.getD 19 undef=.int .i64 X.n2
 iF:T.getD 20 undef=.int .i64 j
 sv:∀t,ak9 t=true->T.getD t undef=X.sv t
def wrM(t:Nat):Bool:=t ==10||t ==11||(21<=t&&t<=28)
def azJ(h:ak9 t=true):wrM t=false:=by
 simp only[ak9,aaV,rm,nF,qT] at h;simp only[wrM,wR,de,sV,tu];omega
def Mx.Sl.keep{T' : Array Value}(h:X.Sl T j)(c:T'.size=X.Z)(a:∀t,wrM t=false->T'.getD t undef=T.getD t undef):X.Sl T' j:=
 ⟨c,h.zz,(a 3 rfl).trans h.s3,(a 4 rfl).trans h.s4,(a 8 rfl).trans h.s8,(a 9 rfl).trans h.s9,(a 18 rfl).trans h.s18,(a 19 rfl).trans h.s19,(a 20 rfl).trans h.iF,λt b=>(a t (azJ b)).trans (h.sv t b)⟩
end
end
section
open Go Go.Conc Go.ConcN Go.RowKit
open Go.ConcR (KK wgBlock WgAt stA smA rd wr mk Payload DC0)
section
variable {P:Program} {main:Bool} {Rl:au->World->World->Prop} {Gr:au->au->World->World->Array Event->Prop} {St:au->Goroutine->World->Prop} {S Rr:au} {w0:World} {f h:FuncId} {T:Array Value} {k:List Item} {xs bs:List Frame}
def akN (C:Cmp Rl Gr Rr)    {args:Array Value} (a:W[i]?=some o) (c:o.guard=none)
  (b:∀w,(execOp (FQ f T (.inRegion W (i::rest)::k)).eval o).runT P w #[]=(.ok (.enter h args) w,#[]))
  (d:∀w,Rl S w0 w->bM P main Rl Gr St S (Gl (Frame.enter P h args .normal::FQ f T (.inRegion W (i::rest)::k)::xs) bs) w):∀w,Rl S w0 w->bM P main Rl Gr St S (Gl (FQ f T (.inRegion W (i::rest)::k)::xs) bs) w:=
 bM.still C (l2:=Frame.enter P h args .normal::FQ f T (.inRegion W (i::rest)::k)::xs) (es:=λ_=>seen P f #[]) (λw _=>akI rfl rfl rfl rfl a c (b w)) (λw _=>bB _) d
end
def anh{args:Array Value} :(callFunc eR.add args).runT prog w #[]=(.ok (.enter eR.add args) w,#[]):=by
 have h:=aaS.f_add;have b:¬(Go.Conc.Lib.addFn eR).name= "runtime.NumGoroutine" :=by decide
 have a:¬(Go.Conc.Lib.addFn eR).body=none:=λe=>by cases e
 unfold callFunc;simp[h,b,a]
def akO{args:Array Value} :(callFunc eR.wait args).runT prog w #[]=(.ok (.enter eR.wait args) w,#[]):=by
 have h:=aaS.f_wait;have b:¬(Go.Conc.Lib.waitFn eR).name= "runtime.NumGoroutine" :=by decide
 have a:¬(Go.Conc.Lib.waitFn eR).body=none:=λe=>by cases e
 unfold callFunc;simp[h,b,a]
noncomputable abbrev kM:List Item:=[.code (.seq (.region 9 jZ false) cM)]
noncomputable abbrev kB:List Item:=.inLoop jF :: .inBlock 0::kM
noncomputable abbrev kA:List Item:=.code (.region 7 mJ false) :: .inBlock 1 :: .code (.region 8 aiH false)::kB
section
variable {X:Mx} {R:au} {w:World} {T:Array Value} {j:Nat} {xs bs:List Frame}
def StA(X:Mx)(j:Nat)(xs bs:List Frame)(S:au)(g:Goroutine)(w:World):Prop:=
 ∃(T':Array Value) (b a:Nat) (nm:Int),X.dK[j]?=some nm/\X.Sl T' j/\T'.getD 10 undef=.pointer (some ⟨b,0,none⟩)/\T'.getD 11 undef=.pointer (some ⟨a,0,none⟩)/\S b/\S a/\w.heap[b]?=some (.cells #[.int .i64 j] 3)/\w.heap[a]?=some (.cells #[.int .i64 nm] 3)/\
  g=Gl (Frame.enter prog eR.add #[.pointer (some ⟨X.Wg,0,none⟩),.int .i64 1] .normal::FQ cE T' (.inRegion aaU [0]::kA)::xs) bs
def StW(X:Mx)(xs bs:List Frame)(S:au)(g:Goroutine)(_:World):Prop:=
 ∃T':Array Value,X.Sl T' X.n2/\S=(λ_=>False)/\g=Gl (Frame.enter prog eR.wait #[.pointer (some ⟨X.Wg,0,none⟩)] .normal::FQ cE T' (.inRegion jZ [0]::[.code cM])::xs) bs
def aoM(n:X.Ok)(g:X.Sl T j)(v:j<X.n2)(r:X.At R w):bM prog true (X.Rl R) (pP R) (StA X j xs bs) (λ_=>False) (Gl (FQ cE T (.code jF::kB)::xs) bs) w:=by
 have H:=X.nI R;obtain⟨nm,m⟩:∃nm,X.dK[j]?=some nm:=⟨_,jp (by rw[n.nn];exact v)⟩;rw[ahe];refine eN H.cmp (gD H.cmp (l:=[0]) rfl λwa x=>aot H g.zz g.z g.iF g.s19 λM D K i=> ?_) w (H.gz _ _);rw[dk v] at i;refine eN H.cmp (acv H.cmp i (an4 H.cmp (eN H.cmp (aeK H.cmp (eN H.cmp (gD H.cmp (l:=[0,1,2,3,4,5,6]) rfl λP q=> ?_))))));have e:X.Sl M j:=g.keep D λt d=>K t (by rintro rfl;cases d);have I:X.At R P:=(r.move (λb f=>x.keep b (.inr f)) x.size x.os).move (λb f=>q.keep b (.inr f)) q.size q.os;refine awx H g.zz D e.s18 e.iF v (I.nm n m) (λa A=>I.rows _ (n.vr _ (n.al2 a A))) λo S2 Z G B N V z u kp C F lb J S Q=> ?_;have k:X.Sl o j:=e.keep N λt d=>V t (by rintro rfl;cases d) (by rintro rfl;cases d) (by rintro rfl;cases d) (by rintro rfl;cases d) (by rintro rfl;cases d);obtain⟨L,U,O⟩:=az3;refine eN H.cmp (gD H.cmp (l:=[0]) rfl (akN H.cmp (h:=eR.add) (args:=#[.pointer (some ⟨X.Wg,0,none⟩),.int .i64 1]) O rfl (λw=> ?_) λw5 y=>.stop λw6 p=> ?_)) Z (H.gz _ _)
 .have W:Array.map (Frame.eval (FQ cE o (.inRegion aaU [0]::kA))) #[.tmp 9,.const (.int .i64 1)]=#[.pointer (some ⟨X.Wg,0,none⟩),.int .i64 1]:=by
   rw[<-k.s9];simp[Frame.eval]
  have Y:execOp (Frame.eval (FQ cE o (.inRegion aaU [0]::kA))) ⟨some 25,.call ⟨.value (.func eR.add),#[.tmp 9,.const (.int .i64 1)],#[eR.tWg,3]⟩,0,L,U,none⟩=callFunc eR.add #[.pointer (some ⟨X.Wg,0,none⟩),.int .i64 1]:=by
   simp only[execOp,resolve];rw[W];simp[Deferred.ofValue,invoke,Frame.eval];try rfl
  exact(ga (λs=>Sem.runT prog s w #[]) Y).trans anh
 .have E:=H.tr _ _ _ _ y p;exact⟨o,G,B,nm,m,k,z,u,C,F,(E.keep G (.inl C)).trans S,(E.keep B (.inl F)).trans Q,rfl⟩
def aoL(d:X.Sl T X.n2):bM prog true (X.Rl R) (pP R) (StW X xs bs) (λ_=>False) (Gl (FQ cE T (.code jF::kB)::xs) bs) w:=by
 have H:=X.nI R;rw[ahe];refine eN H.cmp (gD H.cmp (l:=[0]) rfl λv u=>aot H d.zz d.z d.iF d.s19 λe p f b=> ?_) w (H.gz _ _);rw[da (Nat.lt_irrefl _)] at b;have a:X.Sl e X.n2:=d.keep p λt j=>f t (by rintro rfl;cases j);obtain⟨n,i,k⟩:=az0;refine eN H.cmp (acv H.cmp b (an5 H.cmp (k2:=kM) rfl (eN H.cmp (gD H.cmp (l:=[0]) rfl (akN H.cmp (h:=eR.wait) (args:=#[.pointer (some ⟨X.Wg,0,none⟩)]) k rfl (λw=> ?_) λx q=>.stop λr g=>⟨e,a,rfl,rfl⟩)))));have m:Array.map (Frame.eval (FQ cE e (.inRegion jZ [0]::[.code cM]))) #[.tmp 9]=#[.pointer (some ⟨X.Wg,0,none⟩)]:=by
  rw[<-a.s9];simp[Frame.eval]
 have o:execOp (Frame.eval (FQ cE e (.inRegion jZ [0]::[.code cM]))) ⟨some 28,.call ⟨.value (.func eR.wait),#[.tmp 9],#[eR.tWg]⟩,0,n,i,none⟩=callFunc eR.wait #[.pointer (some ⟨X.Wg,0,none⟩)]:=by
  simp only[execOp,resolve];rw[m];simp[Deferred.ofValue,invoke,Frame.eval];try rfl
 exact(ga (λs=>Sem.runT prog s w #[]) o).trans akO
end
end
end Go.Proofs.YtokgbpkbaoeeoaaGreatDoor