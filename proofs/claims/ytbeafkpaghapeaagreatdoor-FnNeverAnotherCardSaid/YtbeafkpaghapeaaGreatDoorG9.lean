/- A part of the proof. -/
import Derived.Test.YtbeafkpaghapeaaGreatDoorG8
import Derived.Conc.WgGenN3
import Derived.Orders
import Derived.Conc.AppendWalk
set_option maxRecDepth 100000
set_option maxHeartbeats 8000000
set_option linter.all false
open Go Go.Conc Go.ConcN Go.RowKit Go.Proofs.Tryz Go.Proofs.YtbeafkpaghapeaaGreatDoor
variable {Rr S:au} {W b c i j m n:Nat} {d:Tmp} {key:Int} {main:Bool} {o:Oper} {V w w':World} {cfr fr:Frame} {u v:Value} {f:FuncId} {t ty:TypeId} {P:Program} {l:List iD} {y:Operand} {Rg:Nat→Prop} {rest:List Nat} {g:Goroutine} {k:List Item} {z:Nat × Nat} {X:Array Oper} {af:Array Edge} {cs xs:List Frame} {listed:Array Bool} {U T a:Array Value} {A:Option Addr} {es:Array Event} {e:Operand→Value} {gd:Option (Nat × Bool)} {Y St:Goroutine→World→Prop} {Stop:au→Goroutine→World→Prop} {Z:Int→List iD→Int→ByteArray × Bool}
namespace Go.Proofs.YtbeafkpaghapeaaGreatDoor
def eg:=@_root_.Go.Conc.stepG_region_end
def lw:=@_root_.Go.Conc.stepG_seq
def rD:=@_root_.Go.Conc.stepG_skip
def sx:=@_root_.Go.Conc.stepG_ret'
def uC:=@_root_.Go.Conc.stepG_markAt
def uO:=@_root_.Go.Conc.stepG_mark0
def vJ:=@_root_.List.toArray_replicate
def vT:=@_root_.Bool.and_assoc
def wh:=@_root_.Bool.or_eq_false_iff
def wu:=@_root_.Array.getElem?_ofFn
section
open Go.Conc Go.ConcN Go.RowKit
def plV(V:Nat->Prop):Value->Prop
 |.int k _=>k ≠ .u8
 |.string _=>True
 |.slice (some a) _ _=>V a.block
 |_=>False
def arY:Value->Bool
 |.func (.method _) _ _=>true
 |_=>false
mutual
def ae5:Value->List Value
 |.agg ⟨l⟩=>pG l
 |.tuple ⟨l⟩=>pG l
 |v=>if arY v then[v] else[]
def pG:List Value->List Value
 |[]=>[]
 |v::l=>ae5 v++pG l
end
def agb:∀{l:List Value} {i:Nat} {v x:Value},l[i]?=some v->x∈ae5 v->x∈pG l
 |[],i,v,x,h,_=>by simp at h
 |y::l,0,v,x,h,hx=>by simp at h;subst h;simp only[pG];exact uG _ hx
 |y::l,i+1,v,x,h,hx=>by simp only[pG];exact sH _ (agb (i:=i) (by simpa using h) hx)
def aAJ:Obj->List Value
 |.cells c _ _=>pG c.toList
 |_=>[]
def eQ(w:World):List Value:=w.heap.toList.flatMap aAJ
def afE{c:Array Value}{x : Value}(a:w.heap[b]?=some (.cells c t z))(hi:c[i]?=some v)(d:x∈ae5 v):x∈eQ w:=
 sq.2 ⟨.cells c t z,db (i:=b) (by rw[du];exact a),by
  show x∈pG c.toList;exact agb (i:=i) (by rw[du];exact hi) d⟩
section
variable {ρ:Ren} (hl:ρ.dim=true)
include hl
mutual
theorem awt:∀(v:Value),(∀x∈ae5 v,∃k,ρ.al k=some x)->∃u,VR ρ u v/\(∀k,u ≠ .int .u8 k)/\(adQ u\/∀(g:Ren) d,g.al=ρ.al->VR g u d->d=v)
 |.bool b,_=>⟨_,.bool b,(λk e=>by cases e),.inr λg d _ h=>by cases h;rfl⟩
 |.int k n,_=>⟨_,.fH hl rfl,(λk e=>by cases e),.inl (.inl ⟨_,rfl⟩)⟩
 |.float k n,_=>⟨_,.fH hl rfl,(λk e=>by cases e),.inl (.inl ⟨_,rfl⟩)⟩
 |.complex k n m,_=>⟨_,.fH hl rfl,(λk e=>by cases e),.inl (.inl ⟨_,rfl⟩)⟩
 |.string s,_=>⟨_,.string s,(λk e=>by cases e),.inr λg d _ h=>by cases h;rfl⟩
 |.pointer none,_=>⟨_,.pointer .none,(λk e=>by cases e),.inr λg d _ h=>by cases h with|pointer h=>cases h;rfl⟩
 |.pointer (some a),_=>⟨_,.fH hl rfl,(λk e=>by cases e),.inl (.inl ⟨_,rfl⟩)⟩
 |.slice a l c,_=>⟨_,.fH hl rfl,(λk e=>by cases e),.inl (.inl ⟨_,rfl⟩)⟩
 |.map a,_=>⟨_,.fH hl rfl,(λk e=>by cases e),.inl (.inl ⟨_,rfl⟩)⟩
 |.chan a,_=>⟨_,.fH hl rfl,(λk e=>by cases e),.inl (.inl ⟨_,rfl⟩)⟩
 |.func (.func f) a c,_=>⟨_,.fH hl rfl,(λk e=>by cases e),.inl (.inl ⟨_,rfl⟩)⟩
 |.func (.methodOf t f) a c,_=>⟨_,.fH hl rfl,(λk e=>by cases e),.inl (.inl ⟨_,rfl⟩)⟩
 |.func (.via t p f q) a c,_=>⟨_,.fH hl rfl,(λk e=>by cases e),.inl (.inl ⟨_,rfl⟩)⟩
 |.func (.yield f) a c,_=>⟨_,.fH hl rfl,(λk e=>by cases e),.inl (.inl ⟨_,rfl⟩)⟩
 |.func (.method n) a c,hm=>by
  obtain⟨k,z⟩:=hm (.func (.method n) a c) (by simp[ae5,arY]);refine⟨_,.abe k z,(λk e=>by cases e),.inr λg d B h=> ?_⟩;generalize i:ane k=u at h;cases h with
  |abe D y=>
   have e:k=D:=by
    unfold ane at i;injection i with _ _ A
    have:=jn Array.size A;simpa using this
   subst e;rw[B,z] at y;exact(dk y).symm
  |func j _ _=>
   unfold ane at i;injection i with C _ _
   subst C;cases j with
   |same f j=>cases j
  |_=>unfold ane at i;cases i
 |.nilFunc,_=>⟨_,.nilFunc,(λk e=>by cases e),.inr λg d _ h=>by cases h;rfl⟩
 |.iface t v,_=>⟨_,.fH hl rfl,(λk e=>by cases e),.inl (.inl ⟨_,rfl⟩)⟩
 |.nilIface,_=>⟨_,.nilIface,(λk e=>by cases e),.inr λg d _ h=>by cases h;rfl⟩
 |.agg ⟨l⟩,hm=>by
  obtain⟨o,w⟩:=ax3 l λx r=>hm x (by simpa only[ae5] using r);exact⟨.agg ⟨o⟩,.agg w,(λk e=>by cases e),.inl (.inr ⟨_,rfl⟩)⟩
 |.tuple ⟨l⟩,hm=>by
  obtain⟨o,w⟩:=ax3 l λx r=>hm x (by simpa only[ae5] using r);exact⟨.tuple ⟨o⟩,.tuple w,(λk e=>by cases e),.inl (.inl ⟨_,rfl⟩)⟩
theorem ax3:∀(l:List Value),(∀x∈pG l,∃k,ρ.al k=some x)->∃a,bN ρ a l
 |[],_=>⟨[],.nil⟩
 |v::l,hm=>by
  obtain⟨x,c,_⟩:=awt v λx b=>hm x (by simp only[pG];exact uG _ b);obtain⟨a,d⟩:=ax3 l λx b=>hm x (by simp only[pG];exact sH _ b);exact⟨x::a,.cons c d⟩
end
end
def ahQ(L:List Value)(k:Nat):Option Value:=L[k]?
def ahR{L:List Value}{x:Value}(h:x∈L):∃k,ahQ L k=some x:=by
 obtain⟨k,a,e⟩:=wd.1 h;exact⟨k,by unfold ahQ;rw[iS a,e]⟩
def aj4{ρ:Ren}{Q:Nat->Value->Value->Prop}:∀(l:List Value) (j:Nat),(∀i v,l[i]?=some v->∃u,VR ρ u v/\Q (j+i) u v)->∃d,bN ρ d l/\∀i v,l[i]?=some v->∃u,d[i]?=some u/\Q (j+i) u v
 |[],_,_=>⟨[],.nil,λi v h=>by simp at h⟩
 |v::l,j,h=>by
  obtain⟨u,m,e⟩:=h 0 v rfl;obtain⟨d,f,k⟩:=aj4 l (j+1) λi x c=>by
   obtain⟨u,a,b⟩:=h (i+1) x (by simpa using c);exact⟨u,a,by rwa [show j+1+i=j+(i+1) by omega]⟩
  refine⟨u::d,.cons m f,λi x c=> ?_⟩;cases i with
  |zero=>simp at c;subst c;exact⟨u,rfl,e⟩
  |succ i=>
   obtain⟨g,a,b⟩:=k i x (by simpa using c);exact⟨g,by simpa using a,by rwa [show j+1+i=j+(i+1) by omega] at b⟩
def Ren.rows(V:Nat->Prop)(lax:Bool)(L:List Value):Ren where
 r a b:=a=b/\V a
 lax:=lax
 dim:=true
 al:=ahQ L
 fn:=λh k=>h.1.symm.trans k.1
 inj:=λh k=>h.1.trans k.1.symm
 kN:=λh=>by rw[h.1]
def avf{V:Nat->Prop}(w:World)(F:∀b,V b->Obj):∃a:Array Obj,a.size=w.heap.size/\(∀b (h:V b),b<w.heap.size->a[b]?=some (F b h))/\∀b,¬V b->a[b]?=w.heap[b]?:=by
 classical
 refine⟨Array.ofFn λi:Fin w.heap.size=>if h:V i.1 then F i.1 h else w.heap[i],by simp,λb h c=> ?_,λb h=> ?_⟩
 .rw[wu,tL c];simp only[tL h]
 .rw[wu];by_cases c:b<w.heap.size
  .rw[tL c,fi c];simp only[dif_neg h];rfl
  .rw[dif_neg c,qd (by omega)]
theorem mask{w:World}{V:Nat->Prop}(hV:∀b,V b->et w b)(hg:∀g∈gL,V g)(hN:gN<=w.heap.size) :
  ∃wL:World,WR (Ren.rows V true (eQ w)) wL w/\GlR (Ren.rows V true (eQ w))/\wL.heap.size=w.heap.size/\(∀b,V b->bH wL b/\NoB wL b)/\∀A v,w.cell? A=some v->V A.block->plV V v->wL.cell? A=some v:=by
 classical
 have row:∀b,V b->∃(c:Array Value) (t:TypeId) (z:Nat×Nat) (xs:List Value),w.heap[b]?=some (.cells c t z)/\bN (Ren.rows V true (eQ w)) xs c.toList/\∀(i:Nat) v,c.toList[i]?=some v->∃u,xs[i]?=some u/\((∀k,u ≠ .int .u8 k)/\(plV V v->u=v)):=λb hb=>by
  obtain⟨c,t,z,hc⟩:=hV b hb;obtain⟨xs,h1,h2⟩:=aj4 (ρ:=Ren.rows V true (eQ w)) (Q:=λ_ u v=>(∀k,u ≠ .int .u8 k)/\(plV V v->u=v)) c.toList 0 λi v hi=>by
   by_cases hp:plV V v
   .cases v with
    |int k n=>exact⟨_,.int k n,(λk' e=>by cases e;exact hp rfl),λ_=>rfl⟩
    |string s=>exact⟨_,.string s,(λk e=>by cases e),λ_=>rfl⟩
    |slice a l c=>cases a with
     |none=>exact hp.elim
     |some a=>
      obtain⟨b,o,s⟩:=a;have hr:(Ren.rows V true (eQ w)).r b b:=⟨rfl,hp⟩;exact⟨_,.slice (.some (.mk hr o s)) l c,(λk e=>by cases e),λ_=>rfl⟩
    |_=>exact hp.elim
   .obtain⟨u,h1,h2, -⟩:=awt (ρ:=Ren.rows V true (eQ w)) rfl v λx hx=>ahR (afE hc (i:=i) (by rw[<-du];exact hi) hx);exact⟨u,h1,h2,λh=>absurd h hp⟩
  exact⟨c,t,z,xs,hc,h1,h2⟩
 let F:∀b,V b->Obj:=λb hb=>.cells ⟨(row b hb).choose_spec.choose_spec.choose_spec.choose⟩ (row b hb).choose_spec.choose (0,max ((row b hb).choose.size+1) (row b hb).choose_spec.choose_spec.choose.2)
 have hF:∀b (hb:V b),∃(c:Array Value) (t:TypeId) (z:Nat×Nat) (xs:List Value),w.heap[b]?=some (.cells c t z)/\bN (Ren.rows V true (eQ w)) xs c.toList/\(∀(i:Nat) v,c.toList[i]?=some v->∃u,xs[i]?=some u/\((∀k,u ≠ .int .u8 k)/\(plV V v->u=v)))/\F b hb=.cells ⟨xs⟩ t (0,max (c.size+1) z.2):=λb hb=>
  let h:=(row b hb).choose_spec.choose_spec.choose_spec.choose_spec
  ⟨_,_,_,_,h.1,h.2.1,h.2.2,rfl⟩
 obtain⟨heap,hs,h1,h2⟩:=avf w F;have aaA:∀b,V b->∃(c:Array Value) (t:TypeId) (z:Nat×Nat) (xs:List Value),w.heap[b]?=some (.cells c t z)/\heap[b]?=some (.cells ⟨xs⟩ t (0,max (c.size+1) z.2))/\bN (Ren.rows V true (eQ w)) xs c.toList/\∀(i:Nat) v,c.toList[i]?=some v->∃u,xs[i]?=some u/\((∀k,u ≠ .int .u8 k)/\(plV V v->u=v)):=λb hb=>by
  obtain⟨c,t,z,xs,k1,k2,k3,k4⟩:=hF b hb;exact⟨c,t,z,xs,k1,(h1 b hb (dl.1 k1).1).trans (jn some k4),k2,k3⟩
 refine⟨{w with heap},⟨λ{b b'} hb=> ?_,rfl,by show gN<=heap.size;omega,hN⟩,λg lT=>⟨rfl,hg g lT⟩,hs,λb hb=> ?_,λA v hc hA hp=> ?_⟩
 .obtain⟨rfl,hb⟩:=hb;obtain⟨c,t,z,xs,k1,k2,k3, -⟩:=aaA b hb;have hlen:=k3.length;refine⟨_,_,k2,k1,.cells k3 t (.inr ⟨rfl,rfl, ?_,.inr ?_⟩)⟩
  .show xs.length<max _ _;simp at hlen;omega
  .show z.2<=max _ _;omega
 .obtain⟨c,t,z,xs,k1,k2,k3,k4⟩:=aaA b hb;have hlen:=k3.length;simp at hlen;refine⟨⟨_,_,_,k2,rfl, ?_, ?_⟩,λc' t' z' hc' i k e=> ?_⟩
  .show xs.length<=max _ _;omega
  .show 0<max _ _;omega
  .have:heap[b]?=some (.cells c' t' z'):=hc';rw[k2] at this;cases this;have hi:i<c.toList.length:=by
    have:=(dl.1 e).1;simp at this ⊢;omega
   obtain⟨u,q1,q2, -⟩:=k4 i _ (iS hi);have e':xs[i]?=some (.int .u8 k):=by simpa using e
   rw[q1] at e';exact q2 k (dk e')
 .obtain⟨c,t,z,xs,k1,k2,k3,k4⟩:=aaA A.block hA;have k2':({w with heap}:World).heap[A.block]?=some (.cells ⟨xs⟩ t (0,max (c.size+1) z.2)):=k2;unfold World.cell? at hc ⊢;rw[k2'];rw[k1] at hc;cases hsp:A.spot with
  |some s=>simp[hsp] at hc
  |none=>
   simp[hsp] at hc ⊢;obtain⟨u,q1, -,q2⟩:=k4 A.off v (by rw[du];exact hc);rw[q1,q2 hp]
end
section
open Go Go.Conc Go.ConcN Go.RowKit
def oK(Rr:au)(S S':au)(w w':World)(es:Array Event):Prop:=
 (∀b,b<w.heap.size->¬S b->w'.heap[b]?=w.heap[b]?)/\w.heap.size<=w'.heap.size/\w'.ou=w.ou/\S'=(λb=>S b\/(w.heap.size<=b/\b<w'.heap.size))/\∀e∈es,mP S' Rr w'.heap.size e
structure oJ (Rl:au->World->World->Prop) (Rr:au):Prop where
 fK:∀S w,Rl S w w
 tr:∀S a b c,Rl S a b->Rl S b c->Rl S a c
 rl:∀S w w1,Rl S w w1->(∀b,S b\/Rr b->w1.heap[b]?=w.heap[b]?)/\w.heap.size<=w1.heap.size/\w1.ou=w.ou
def oJ.cmp{Rl:au->World->World->Prop}(h:oJ Rl Rr):Cmp Rl (oK Rr) Rr:=⟨h.fK,h.tr,h.rl,λ_ _ _ _ a b c d=>⟨a,b,c,rfl,d⟩⟩
section
variable {P:Program} {main:Bool} {Rl:au->World->World->Prop} {Gr Gr2:au->au->World->World->Array Event->Prop} {Stop afB:au->Goroutine->World->Prop} {Inv:au->World->Prop}
def pU.inv(i:∀S w a,Inv S w->Rl S w a->Inv S a)(k:∀S d w c e,Inv S w->Gr S d w c e->Gr2 S d w c e/\Inv d c)(j:∀S g w,Stop S g w->Inv S w->afB S g w):∀{T:jv} {S:au} {g:Goroutine} {w:World},pU P main Rl Gr Stop T S g w->Inv S w->pU P main Rl Gr2 afB T S g w
 |.leaf,_,_,_,h,hi=>λa b=>j _ _ _ (h a b) (i _ _ _ hi b)
 |.node f,_,_,_,h,hi=>Or.imp (λh a b=>j _ _ _ (h a b) (i _ _ _ hi b)) (λx=>⟨x.1,λa b=>
   let⟨q,c,e,d,o,l,m⟩:=x.2 a b
   let⟨n,p⟩:=k _ _ _ _ _ (i _ _ _ hi b) l
   ⟨q,c,e,d,o,n,pU.inv i k j m p⟩⟩) h
def bI.inv(f:∀S w c,Inv S w->Rl S w c->Inv S c)(i:∀S a w b d,Inv S w->Gr S a w b d->Gr2 S a w b d/\Inv a b)(e:∀S g w,Stop S g w->Inv S w->afB S g w)(h:bI P main Rl Gr Stop S g w)(hi:Inv S w):bI P main Rl Gr2 afB S g w:=
 let⟨T,h⟩:=h;⟨T,pU.inv f i e h hi⟩
end
def alS   :(Frame.enter P f a .normal).mode=.run:=by
 unfold Frame.enter;cases P.funcs[f]?<;>rfl
def aoT{R:List Frame->World->Prop}{c:Cfg}{m:List Frame}(q:jP (ah false) R c)(i:c.l=Frame.enter (ah false) cf a .normal::m):False:=by
 obtain⟨n,t,s,d,f, -⟩:=q c.t λ_ _ _=>rfl;have b:c.l≠[]:=by rw[i];simp
 cases n with
 |zero=>
  simp only[runN,qJ] at d;obtain⟨e, -⟩:=gU d;obtain rfl:=nh b f.ne e;obtain⟨u,l,p, -⟩:=f;rw[i] at l;cases l;rw[alS] at p;cases p
 |succ n=>
  unfold runN at d;have r:Frame.enter (ah false) cf a .normal=⟨cf,T0F a,[.code (.refuse "")],[],.run,.normal,none⟩:=by
   have f:(ah false).funcs[cf]?=some (qFA false):=acu false;unfold Frame.enter;rw[f];rfl
  have g:∃o j k,stepG (ah false) true (Gl c.l [jS (ah false)]) (c.w.dM c.t)=.ended o j k:=by
   rw[i,r];simp only[Gl,stepG,stepG.exec];exact⟨_,_,_,rfl⟩
  obtain⟨o,j,k,g⟩:=g;rw[cj (jh b _) g] at d;cases d
def aAK:jX (λ_=>false) (f129.body.getD .skip)=false:=by kernel_rfl
def aAL:jX (λ_=>false) (f48.body.getD .skip)=false:=by kernel_rfl
def adj{fn:Func}(h:prog.funcs[f]?=some fn)(b:fn.body.isSome=true)(a:Array Value):(Frame.enter prog f a .normal).todo=[.code (fn.body.getD .skip)]:=by
 unfold Frame.enter;rw[h];obtain⟨c,d⟩:=ry.1 b;simp[d]
def avc{J:Nat->Bool}(d:jX J (f129.body.getD .skip)=false)(c:jX J (f48.body.getD .skip)=false):∀f,gH f=true->∀a,(Frame.enter prog f a .normal).todo.all (lM J)=false:=λf b a=>by
 rcases xp b with rfl|rfl
 .rw[adj func48 aml];simp only[qy,vE,uq,lM];exact c
 .rw[adj func129 amk];simp only[qy,vE,uq,lM];exact d
def ahw:gH 69=false:=by unfold gH;kernel_rfl
def ahL{A:Addr}{c:Array Value}(h:w.heap[A.block]?=some (.cells c t z))(a:w.cell? A=some v):c[A.off]?=some v:=by
 unfold World.cell? at a;rw[h] at a;cases b:A.spot with
 |some s=>simp[b] at a
 |none=>simpa[b] using a
def RgP(Rg:Nat->Prop)(w:World)(A:Option Addr)(l:List iD):Prop:=∀i x,l[i]?=some x->∀a b m e,A=some a->w.cell? ((a.add (i*2)).add 1)=some (.slice (some b) m e)->Rg b.block
def RgP.move(h:RgP Rg w A l)(j:∀a,A=some a->Rg a.block)(d:∀b,Rg b->w'.heap[b]?=w.heap[b]?):RgP Rg w' A l:=λi x f a b m e c g=>
 h i x f a b m e c ((fY (by rw[rr,rr];exact d _ (j a c))).symm.trans g)
def RdP.mask    (h:RdP w A 0 l) (C:RgP Rg w A l) (q:∀a,A=some a->Rg a.block)
  (f:∀A v,w.cell? A=some v->Rg A.block->plV (λb=>Rg b/\et w b) v->V.cell? A=some v):RdP V A 0 l:=λi x r=>by
 obtain⟨⟨a,B,c,g,u,n,D,E,H,p⟩,F⟩:=h i x r;have o:∀b,B=some b->Rg b.block:=λb z=>by
  subst z;rw[mc] at n;exact C i x r a b _ _ g n
 have k:∀j y,x.2[j]?=some y->ag9 V B (0+j) y:=λj y I=>by
  obtain⟨⟨b,e,m,s⟩,J,t⟩:=p j y I;exact⟨⟨b,e,f _ _ m (by rw[rr];exact o b e) (by show IntKind.i64 ≠ .u8;decide),f _ _ s (by rw[rr,rr];exact o b e) trivial⟩,J,t⟩
 refine⟨⟨a,B,c,g,f _ _ u (by rw[rr];exact q a g) (by show IntKind.i64 ≠ .u8;decide),f _ _ n (by rw[rr,rr];exact q a g) ?_,D,E,H,k⟩,F⟩;obtain⟨y,G⟩:∃y,x.2[0]?=some y:=⟨_,iS (by omega)⟩;obtain⟨⟨b,e,m,s⟩, -⟩:=p 0 y G;subst e;have d:=lz m;rw[rr] at d;exact⟨o b rfl,d⟩
end
section
open Go Go.Conc Go.ConcN Go.RowKit
def acZ   :(Frame.enter P f a .normal).roundOf=none:=by
 unfold Frame.enter;cases P.funcs[f]?<;>rfl
def aoU{a:Ren}{s:ByteArray}{b:Bool}{v':Value}(h:VR a (.agg #[.string s,.bool b]) v'):v'=.agg #[.string s,.bool b]:=by
 cases h with
 |@agg c f h=>
  obtain⟨l⟩:=f;change bN a [.string s,.bool b] l at h;cases h with
  |cons g d=>
   cases g;cases d with
   |cons i e=>cases i;cases e;rfl
def arZ (hF:eF Z)  (hN:gN<=w.heap.size) (H:∀g∈gL,Rg g/\et w g)    {nm:Int}
  (k1:1<=key) (k2:key<=99) (hl:l.length=n) (x:n<=c) (C:(c:Int)<=9223372036854775807) (p:RdP w A 0 l) (M:RgP Rg w A l) (hA:∀a,A=some a->Rg a.block) (hn:0<n) (G:In_ nm)
  {Rl:au->World->World->Prop} (d:oJ Rl Rr) (hR:∀b,(Rg b/\et w b)->Rr b)   :
  bI prog main Rl (oK Rr) (λ_ g _=>g=⟨cfr.finish (.agg #[.string (Z key l nm).1,.bool (Z key l nm).2]),cs,.running,none,none⟩) S
   (Gl (Frame.enter prog 69 #[.int .i64 key,.slice A n c,.int .i64 nm] .normal::[]) (cfr::cs)) w:=by
 obtain⟨j,h1,W,h3,h4,h5⟩:=mask (V:=λb=>Rg b/\et w b) (λb h=>h.2) H hN;have N:=p.mask M hA λA v x P hp=>h5 A v x ⟨P,lz x⟩ hp;obtain⟨y,hy⟩:∃y,l[0]?=some y:=⟨_,iS (by omega)⟩;obtain⟨⟨a,_,_,e1,e2,_⟩,_⟩:=p 0 y hy;subst e1;have i:=lz e2;rw[rr] at i;have m:(Ren.rows (λb=>Rg b/\et w b) true (eQ w)).r a.block a.block:=⟨rfl,hA a rfl,i⟩;generalize Q:(Ren.rows (λb=>Rg b/\et w b) true (eQ w))=ρ at h1 W m;have E:∀b r,ρ.r b r->Rr r/\bH j b/\NoB j b:=λb r u=>by
  subst Q;obtain⟨rfl,hV⟩:=u;exact⟨hR _ hV,h4 _ hV⟩
 have q:dh ρ #[.int .i64 key,.slice (some a) n c,.int .i64 nm] #[.int .i64 key,.slice (some a) n c,.int .i64 nm]:=by
  obtain⟨b,o,s⟩:=a;exact .cons (.int _ _) (.cons (.slice (.some (.mk m o s)) _ _) (.cons (.int _ _) .nil))
 have Y:∀t:Tape,Calls (ah false) 69 #[.int .i64 key,.slice (some a) n c,.int .i64 nm] (j.dM t) λe J=>∃v,e=.returned v/\v=.agg #[.string (Z key l nm).1,.bool (Z key l nm).2]:=λt=>by
  refine(hF false (j.dM t) key (some a) n c l nm k1 k2 hl x C (N.below λb u=>rfl) G).mono ?_;rintro e J ⟨v,rfl,hv, -⟩;exact⟨v,rfl,hv⟩
 generalize (#[.int .i64 key,.slice (some a) n c,.int .i64 nm]:Array Value)=args at q Y
 let R:List Frame->World->Prop:=λfs J=>∃B v,fs=[B]/\B.fn=69/\B.leaving (ah false) J (.returned v)/\v=.agg #[.string (Z key l nm).1,.bool (Z key l nm).2]
 have X:jP (ah false) R ⟨[Frame.enter (ah false) 69 args .normal],j,λ_ _=>0⟩:=aal (Post:=λv _=>v=.agg #[.string (Z key l nm).1,.bool (Z key l nm).2]) λt _=>Y t;have L:Acc (ir (ah false)) ⟨[Frame.enter (ah false) 69 args .normal],j,λ_ _=>0⟩:=X.acc.transGen;have K:ahN (ah false) R Rr S ρ ⟨[Frame.enter (ah false) 69 args .normal],j,λ_ _=>0⟩ [Frame.enter prog 69 args .normal] w:=
  ⟨.one (agx (lN false) ahw q) acZ,h1,W,X,λb r u=>.inr (E b r u)⟩
 have I:=ahO (lN false) (avb false) d.fK d.tr d.rl d.cmp.gr (avc aAK aAL) (afD d.cmp) (main:=main) (base:=cfr::cs) L K (.inl rfl);refine bI.bind d.fK d.tr I λS1 g w1 ⟨c1,ρ1,l',hor,hle,hS1,nZ,aCQ,aEh,hW1,oM,_,hend⟩=> ?_;subst nZ;rcases hend with⟨hf,f⟩|⟨_,_,_,_,_,_,T,_⟩
 .obtain⟨_,_,y1,a0,_,e3⟩:=f.ne';obtain⟨B,k, -⟩:=id hf;have e4:=f.lone k e3;subst e4 e3;rw[k] at f;refine .step rfl λw2 P=> ?_;obtain⟨r1,r2,r3⟩:=d.rl _ _ _ P;have F:=aCQ.rely oM r1 r2 r3;obtain⟨σ,v,v',w3,D,es,O,t,q1,q2,q3,q4,q5,q6,z,q8,q9⟩:=atK (lN false) (t0:=c1.t) (Post:=λv _=>v=.agg #[.string (Z key l nm).1,.bool (Z key l nm).2]) f F λt ht=>by
   obtain⟨cA,v,U,_,e6,e7⟩:=hW1.fin hf acp t ht;rw[k] at U;cases U;exact⟨v,e6,e7⟩
  refine⟨_,D,O,_,q9 main cfr cs,⟨aiB oM z,z.size',z.os.2,rfl,aqt oM q6 z q8⟩,.stop λ_ _=> ?_⟩;subst q2;rw[aoU q5]
 .exact(aoT hW1 T).elim
end
section
open Go Go.Conc Go.ConcN Go.RowKit
abbrev SN(S:au)(w w':World):au:=λb=>S b\/(w.heap.size<=b/\b<w'.heap.size)
section
variable {P:Program} {main:Bool} {Rl:au->World->World->Prop} {St:au->Goroutine->World->Prop} {S Rr:au} {w0:World} {f:FuncId} {T:Array Value} {k:List Item} {xs base:List Frame}
def mU (H:oJ Rl Rr)     {ob:Obj} (j:d<T.size) (l:X[i]?=some o) (s:o.guard=none) (c:o.dst=some d)
  (p:∀w,(execOp (FQ f T (.inRegion X (i::rest)::k)).eval o).runT P w #[]=(.ok (.value (.pointer (some ⟨w.heap.size,0,none⟩))) (w.alloc ob),#[]))
  (u:∀w,Rl S w0 w->∀T':Array Value,T'.size=T.size->T'.getD d undef=.pointer (some ⟨w.heap.size,0,none⟩)->(∀t,t≠d->T'.getD t undef=T.getD t undef)->∀a,Rl (SN S w (w.alloc ob)) (w.alloc ob) a->bI P main Rl (oK Rr) St (SN S w (w.alloc ob)) (Gl (FQ f T' (.inRegion X rest::k)::xs) base) a) :
  ∀w,Rl S w0 w->bI P main Rl (oK Rr) St S (Gl (FQ f T (.inRegion X (i::rest)::k)::xs) base) w:=λw m=>by
 refine .step rfl λa g=> ?_;have n:=H.tr _ _ _ _ m g;refine⟨_,_,_,_,amb rfl rfl rfl rfl l s (p a),⟨λb r _=>su a _ b r,by rw[oR];omega,rfl,rfl,λe v=>by cases(by simpa using sT v:False)⟩, ?_⟩;have:Frame.finish (FQ f T (.inRegion X (i::rest)::k)) (.pointer (some ⟨a.heap.size,0,none⟩))=FQ f (T.setIfInBounds d (.pointer (some ⟨a.heap.size,0,none⟩))) (.inRegion X rest::k):=by
  simp only[Frame.finish,l,qG,c]
 rw[this];exact u a n _ (by simp) (by rw[aH j,dq rfl]) (λt q=>by rw[aH j,bv q]) _ (H.fK _ _)
end
section
variable {P:Program} (F:FaT P) {w:World} {e:Operand->Value} {x:Operand} {dst:Option Tmp} {ty:TypeId} {pos:String} {af:Array Edge} {gd:Option (Nat×Bool)}
include F
theorem ajp:(execOp e ⟨dst,.alloc 124,ty,pos,af,gd⟩).runT P w #[]=(.ok (.value (.pointer (some ⟨w.heap.size,0,none⟩))) (w.alloc (.cells #[.string ⟨#[]⟩,.bool false] 124)),#[]):=by
 obtain⟨i,b,d,c,a⟩:=F.adw;simp[execOp,Instr.alloc,zeroValue,typeInfo,b,a,newVar,newRow,Value.cells]
theorem ar0{t:Tmp}(h:e (.tmp t)=.slice A n c):(execOp e ⟨dst,.call ⟨.builtin .len,#[.tmp t],#[23]⟩,ty,pos,af,gd⟩).runT P w #[]=(.ok (.value (.int .i64 n)) w,#[]):=by
 rw[po (s:=λv=>Builtin.len_ #[23] ty #[v]) λ_ v=>rfl,h];change Sem.runT P (Builtin.len_ #[23] ty #[.slice A n c] >>=λu=>pure (Next.value u)) w #[]=_;simp[Builtin.len_,me F.u23,goInt]
omit F in
theorem ar1{a b:Int}(d:e x=.int .i64 a)(c:e y=.int .i64 b):(execOp e ⟨dst,.binOp .lss 3 x y 3,ty,pos,af,gd⟩).runT P w #[]=(.ok (.value (.bool (decide (a<b)))) w,#[]):=by
 have:execOp e ⟨dst,.binOp .lss 3 x y 3,ty,pos,af,gd⟩=(binOp .lss 3 (e x) (e y)).bind λv=>Sem.pure (.value v):=rfl;rw[this,d,c];rfl
omit F in
theorem ar2:(prog.info? 9).map (·.size ==1)=some true/\(prog.info? 4).map (·.size ==1)=some true:=by
 constructor<;>kernel_rfl
omit F in
theorem ajq:(execOp e ⟨dst,.build 124 #[],ty,pos,af,gd⟩).runT prog w #[]=(.ok (.value (.agg #[.string ⟨#[]⟩,.bool false])) w,#[]):=by
 obtain⟨i,d,m,l,b⟩:=faT.adw;obtain⟨f,a,j⟩:=lc.1 ar2.1;obtain⟨k,c,g⟩:=lc.1 ar2.2;simp[execOp,Instr.build,zeroValue,typeInfo,d,b,me underlying124,sizeOf,a,c,Instr.fill,Value.cells]
end
end
section
open Go Go.Conc Go.ConcN Go.RowKit
def auN(h:w'.heap.size=w.heap.size):SN S w w'=S:=by
 funext b
 show(S b\/(w.heap.size<=b/\b<w'.heap.size))=S b;rw[h];exact propext ⟨λx=>x.elim id λy=>absurd y.1 (by omega),.inl⟩
def abd{A:Addr}{c : Value}(b:ak1 u=true)(g:w.cell? A=some c)(d:w.frozen? A=false){f:Type}(k:Sem f)(es:Array Event):(Sem.store .plain A u k).runT P w es=k.runT P (w.setCell A u) (es.push ⟨.cell A,true,false⟩):=by
 have a:(∀x,u ≠ .agg x)/\∀x,u ≠ .tuple x:=⟨λx e=>(by subst e;cases b),λx e=>(by subst e;cases b)⟩;rw[sb _ _ _ _ _ _ _ a.1 a.2];simp only[g,d,kw,qF];rfl
section
variable {P:Program} (F:FaT P) {w:World} {e:Operand->Value} {x y:Operand} {dst:Option Tmp} {ty:TypeId} {pos:String} {af:Array Edge} {gd:Option (Nat×Bool)}
include F
theorem agc{A:Addr}{u0 u1 c0 c1:Value}(m:ak1 u0=true)(q:ak1 u1=true)(o:e x=.pointer (some A))(l:e y=.agg #[u0,u1])(a:w.cell? A=some c0)(d:w.frozen? A=false)(f:w.cell? (A.add 1)=some c1)(b:w.frozen? (A.add 1)=false) :
  (execOp e ⟨dst,.store 124 x y,ty,pos,af,gd⟩).runT P w #[]=(.ok .skip ((w.setCell A u0).setCell (A.add 1) u1),#[⟨.cell A,true,false⟩,⟨.cell (A.add 1),true,false⟩]):=by
 obtain⟨i,n,r, -⟩:=F.adw;have g:(storeCells A [u0,u1] 0).runT P w #[]=(.ok () ((w.setCell A u0).setCell (A.add 1) u1),#[⟨.cell A,true,false⟩,⟨.cell (A.add 1),true,false⟩]):=by
  show(Sem.store .plain (A.add 0) u0 (Sem.store .plain (A.add 1) u1 (Sem.pure ()))).runT P w #[]=_;have j:A.add 0=A:=by unfold Addr.add;simp
  rw[j,abd m a d,abd q (c:=c1) (by rw[tN _ _ _ _ (λe=>aqN e.symm)];exact f) (by rw[uA];exact b)];rfl
 have p:(storeCells A [u0,u1] 0).run P w=.ok () ((w.setCell A u0).setCell (A.add 1) u1):=by
  rw[<-rj _ _ _ #[]];exact jn Prod.fst g
 have k:(storeCells A [u0,u1] 0).events P w #[]=#[⟨.cell A,true,false⟩,⟨.cell (A.add 1),true,false⟩]:=jn Prod.snd g;simp[execOp,o,l,Instr.storeAt,Instr.sureAddr,storeVar,sizeOf,typeInfo,n,r,Value.cells,p,k]
theorem ar3{A:Addr}{u0 u1:Value}{fn:Func}(c:fn.results=#[.cell 6 124])(m:T.getD 6 undef=.pointer (some A))(b:w.cell? A=some u0)(d:w.cell? (A.add 1)=some u1) :
  (results fn T).runT P w #[]=(.ok (.agg #[u0,u1]) w,#[⟨.cell A,false,false⟩,⟨.cell (A.add 1),false,false⟩]):=by
 obtain⟨i,k,p, -⟩:=F.adw;obtain⟨q,j⟩:=F.atX;have e:(loadCells A 2).runT P w #[]=(.ok #[u0,u1] w,#[⟨.cell A,false,false⟩,⟨.cell (A.add 1),false,false⟩]):=by
  show(Sem.load .plain (A.add 0) λo=>Sem.load .plain (A.add 1) λn=>Sem.pure #[o,n]).runT P w #[]=_;have f:A.add 0=A:=by unfold Addr.add;simp
  rw[f,Sem.runT];simp only[b];rw[Sem.runT];simp only[d];rfl
 have l:(loadCells A 2).run P w=.ok #[u0,u1] w:=by
  rw[<-rj _ _ _ #[]];exact jn Prod.fst e
 have g:(loadCells A 2).events P w #[]=#[⟨.cell A,false,false⟩,⟨.cell (A.add 1),false,false⟩]:=jn Prod.snd e;have a:T[6]?.getD undef=.pointer (some A):=by rw[<-gE];exact m
 simp[results,c,a,asAddr,loadVar,isAgg,me j,sizeOf,typeInfo,k,p,l,g]
end
def auO{Rl:au->World->World->Prop}(H:oJ Rl Rr){nm : Int}      :
  bI prog main Rl (oK Rr) (λ_ g _=>g=⟨cfr.finish (.agg #[.string ⟨#[]⟩,.bool false]),cs,.running,none,none⟩) S
   (Gl (Frame.enter prog 69 #[.int .i64 key,.slice A 0 c,.int .i64 nm] .normal::[]) (cfr::cs)) w:=by
 have C:=H.cmp;have K:Frame.enter prog 69 #[.int .i64 key,.slice A 0 c,.int .i64 nm] .normal=FQ 69 (#[.int .i64 key,.slice A 0 c,.int .i64 nm]++Array.replicate 26 undef) [.code (f69.body.getD .skip)]:=by
  unfold Frame.enter;rw[func69];rfl
 rw[K];obtain⟨T,hT,j,R⟩:∃T:Array Value,T=#[.int .i64 key,.slice A 0 c,.int .i64 nm]++Array.replicate 26 undef/\29<=T.size/\T.getD 1 undef=.slice A 0 c:=⟨_,rfl,by simp,by rw[gE,rN (by simp)];rfl⟩;rw[<-hT];simp only[f69,qo];have key:∀y,Rl S w y->bI prog main Rl (oK Rr) (λ_ g _=>g=⟨cfr.finish (.agg #[.string ⟨#[]⟩,.bool false]),cs,.running,none,none⟩) S (Gl (FQ 69 T [.code (f69.body.getD .skip)]::[]) (cfr::cs)) y:=by
  simp only[f69,qo];refine ep C (fN C (l:=[0]) rfl (mU H (d:=6) (bd (by decide) j) rfl rfl rfl (λw=>ajp faT) λn cE T1 a k o=> ?_));replace R:=(o 1 (by decide)).trans R;replace j:=ap j (oS a.symm);have hB:(n.alloc (.cells #[.string ⟨#[]⟩,.bool false] 124)).heap[n.heap.size]?=some (.cells #[.string ⟨#[]⟩,.bool false] 124 (0,0)):=by
   show(n.heap.push _)[n.heap.size]?=_;rw[qR]
  have s:SN S n (n.alloc (.cells #[.string ⟨#[]⟩,.bool false] 124)) n.heap.size:=.inr ⟨am _,by rw[oR];omega⟩;have G:n.heap.size<(n.alloc (.cells #[.string ⟨#[]⟩,.bool false] 124)).heap.size:=by rw[oR];omega
  generalize SN S n (n.alloc (.cells #[.string ⟨#[]⟩,.bool false] 124))=S1 at s ⊢;generalize n.alloc (.cells #[.string ⟨#[]⟩,.bool false] 124)=w2 at hB G ⊢;generalize n.heap.size=B at hB s k G;refine ig C (ep C (ep C (fN C (l:=[0,1,2]) rfl ?_)));refine bK C (d:=11) (v:=.slice A 0 c) (es:=#[]) (bd (by decide) j) rfl rfl rfl (λw r=>fp R) (λw r=>bA _) λT2 a U o=> ?_;replace k:=(o 6 (by decide)).trans k;replace j:=ap j (oS a.symm);refine bK C (d:=12) (v:=.int .i64 (0:Nat)) (es:=#[]) (bd (by decide) j) rfl rfl rfl (λw r=>ar0 faT U) (λw r=>bA _) λT3 a E o=> ?_;replace k:=(o 6 (by decide)).trans k;replace j:=ap j (oS a.symm);refine bK C (d:=13) (v:=.int .i64 0) (es:=#[]) (bd (by decide) j) rfl rfl rfl (λw r=>fp rfl) (λw r=>bA _) λT4 a a0 o=> ?_;replace k:=(o 6 (by decide)).trans k;replace E:=(o 12 (by decide)).trans E;replace j:=ap j (oS a.symm);refine ig C (aec C (amc C (ep C (fN C (l:=[0]) rfl ?_))));refine bK C (d:=14) (v:=.bool (decide ((0:Int)<((0:Nat):Int)))) (es:=#[]) (bd (by decide) j) rfl rfl rfl (λw r=>ar1 a0 E) (λw r=>bA _) λT5 a z o=> ?_;replace k:=(o 6 (by decide)).trans k;replace j:=ap j (oS a.symm);replace z:T5.getD 14 undef=.bool false:=z.trans rfl;refine ig C (ep C (abW C (q:=false) z ?_));simp only[kw,qF];refine amR C rfl (ep C (fN C (l:=[0,1]) rfl ?_));refine bK C (d:=28) (v:=.agg #[.string ⟨#[]⟩,.bool false]) (es:=#[]) (bd (by decide) j) rfl rfl rfl (λw r=>ajq) (λw r=>bA _) λV a ja o=> ?_;replace k:=(o 6 (by decide)).trans k;replace j:=ap j (oS a.symm);have u:(⟨B,0,none⟩:Addr).add 1=⟨B,1,none⟩:=iT _ _ _;have keep:∀y,Rl S1 w2 y->y.heap[B]?=some (.cells #[.string ⟨#[]⟩,.bool false] 124 (0,0))/\B<y.heap.size:=λy hr=>by
   obtain⟨Y,r2, -⟩:=H.rl _ _ _ hr;exact⟨(Y B (.inl s)).trans hB,by omega⟩
  intro w3 Q;refine .step rfl λt X=> ?_;obtain⟨L,b2⟩:=keep t (H.tr _ _ _ _ Q X);have c0:=eO (i:=0) L;have c1:=eO (i:=1) L;refine⟨_,_,_,_,aeH rfl rfl rfl rfl rfl rfl (agc faT (A:=⟨B,0,none⟩) (u0:=.string ⟨#[]⟩) (u1:=.bool false) (c0:=.string ⟨#[]⟩) (c1:=.bool false) rfl rfl k ja c0 (im L) (by rw[u];exact c1) (by rw[u];exact im L)),⟨λb hb hn=> ?_, ?_,rfl,rfl,λev K=> ?_⟩, ?_⟩
  .have F:B≠b:=λe=>hn (e▸s);rw[u,bj _ _ _ F,bj _ _ _ F]
  .rw[be,be];exact am _
  .have N:=sT K;simp only[so,oE,rz,tQ] at N;have M:B<((t.setCell ⟨B,0,none⟩ (.string ⟨#[]⟩)).setCell ((⟨B,0,none⟩:Addr).add 1) (.bool false)).heap.size:=by rw[be,be];exact b2
   rcases N with rfl|rfl
   .exact⟨λx p=>.inl (by simp[MemAct.ofEvent,MemAct.touch?] at p;rw[<-p];exact .inl s),λm D=>(by cases D),M⟩
   .refine⟨λx p=>.inl ?_,λm D=>(by cases D), ?_⟩
    .simp[MemAct.ofEvent,MemAct.touch?] at p;rw[<-p,u];exact .inl s
    .show((⟨B,0,none⟩:Addr).add 1).block<_;rw[rr];exact M
  have P:(λb=>S1 b\/(t.heap.size<=b/\b<((t.setCell ⟨B,0,none⟩ (.string ⟨#[]⟩)).setCell ((⟨B,0,none⟩:Addr).add 1) (.bool false)).heap.size))=S1:=auN (by rw[be,be]);rw[P];have I:((t.setCell ⟨B,0,none⟩ (.string ⟨#[]⟩)).setCell ((⟨B,0,none⟩:Addr).add 1) (.bool false)).heap[B]?=some (.cells #[.string ⟨#[]⟩,.bool false] 124 (0,0)):=by
   rw[u];exact setRow (setRow L)
  have Z:B<((t.setCell ⟨B,0,none⟩ (.string ⟨#[]⟩)).setCell ((⟨B,0,none⟩:Addr).add 1) (.bool false)).heap.size:=by rw[be,be];exact b2
  generalize (t.setCell ⟨B,0,none⟩ (.string ⟨#[]⟩)).setCell ((⟨B,0,none⟩:Addr).add 1) (.bool false)=w5 at I Z ⊢;refine ig (f:=69) (T:=V) C (w0:=w5) ?_ w5 (H.fK _ _);refine bI.still C (l2:=⟨69,V,[.code .ret],[],.returning,.normal,none⟩::[]) (es:=λ_=>#[]) (λw _=>by simp[Gl,stepG,stepG.exec]) (λ_ _ e h=>by cases(by simpa using h:False)) ?_;intro w6 O;refine .step rfl λw7 W=> ?_;obtain⟨Y,r2, -⟩:=H.rl _ _ _ (H.tr _ _ _ _ O W);have b7:=(Y B (.inl s)).trans I;have J:=ar3 faT (T:=V) (A:=⟨B,0,none⟩) (fn:=f69) rfl k (eO (i:=0) b7) (by rw[u];exact eO (i:=1) b7);refine⟨⟨cfr.finish (.agg #[.string ⟨#[]⟩,.bool false]),cs,.running,none,none⟩,w7,seen prog 69 #[⟨.cell ⟨B,0,none⟩,false,false⟩,⟨.cell ((⟨B,0,none⟩:Addr).add 1),false,false⟩],_, ?_,⟨λ_ _ _=>rfl,am _,rfl,rfl,λev K=> ?_⟩,.stop λ_ _=>rfl⟩
  .simp only[Gl,stepG,unwind,func69,J,ru];simp[doReturn,GStep.after]
  .have N:=sT K;simp only[so,oE,rz,tQ] at N;rcases N with rfl|rfl
   .exact⟨λx p=>.inl (by simp[MemAct.ofEvent,MemAct.touch?] at p;rw[<-p];exact .inl s),λm D=>(by cases D),by show B<_;omega⟩
   .refine⟨λx p=>.inl ?_,λm D=>(by cases D), ?_⟩
    .simp[MemAct.ofEvent,MemAct.touch?] at p;rw[<-p,u];exact .inl s
    .show((⟨B,0,none⟩:Addr).add 1).block<_;rw[rr];show B<_;omega
 exact key w (H.fK _ _)
end
section
open Go Go.Conc Go.ConcR Go.RowKit Go.Conc.Lib Go.ConcR.Gen
abbrev eE:WgLink:={add:=66,done:=68,wait:=70,relMerge:=90,disable:=91,enable:=92,inBubble:=93,associate:=94,fatal:=95,uOr:=96,uAdd:=97,raceRead:=98,uLoad:=99,uStore:=100,disassociate:=101,semrelease:=102,acquire:=104,isAssociated:=105,uCas:=106,raceWrite:=107,semacquire:=108,orU64:=121,addU64:=122,loadU64:=123,storeU64:=124,casU64:=128,tWgP:=142,tUP:=144,tAssoc:=146,tWg:=121,tAU:=118,tU64:=116,tUint:=150,tU32:=119,tPU32:=151,tPAU:=176,tPU64:=178,tNoCopy:=113,tANoCopy:=114,tAlign64:=115}
def aat:WgLib prog eE:=
 ⟨func66,func68,func70,func90,func91,func92,func93,func94,func95,func96,func97,func98,func99,func100,func101,func102,func104,func105,func106,func107,func108,func121,func122,func123,func124,func128,underlying142,Tryz.runUnderlying142,Tryz.sizeOf142,Tryz.isAgg142,Tryz.zeroValue142,underlying144,Tryz.runUnderlying144,Tryz.sizeOf144,Tryz.isAgg144,Tryz.zeroValue144,underlying146,Tryz.runUnderlying146,Tryz.sizeOf146,Tryz.isAgg146,Tryz.zeroValue146,underlying121,Tryz.runUnderlying121,Tryz.sizeOf121,Tryz.isAgg121,Tryz.zeroValue121,underlying118,Tryz.runUnderlying118,Tryz.sizeOf118,Tryz.isAgg118,Tryz.zeroValue118,underlying116,Tryz.runUnderlying116,Tryz.sizeOf116,Tryz.isAgg116,Tryz.zeroValue116,underlying150,Tryz.runUnderlying150,Tryz.sizeOf150,Tryz.isAgg150,Tryz.zeroValue150,underlying119,Tryz.runUnderlying119,Tryz.sizeOf119,Tryz.isAgg119,Tryz.zeroValue119,underlying151,Tryz.runUnderlying151,Tryz.sizeOf151,Tryz.isAgg151,Tryz.zeroValue151,underlying176,Tryz.runUnderlying176,Tryz.sizeOf176,Tryz.isAgg176,Tryz.zeroValue176,underlying178,Tryz.runUnderlying178,Tryz.sizeOf178,Tryz.isAgg178,Tryz.zeroValue178,underlying0,Tryz.runUnderlying0,Tryz.sizeOf0,Tryz.isAgg0,Tryz.zeroValue0,underlying3,Tryz.runUnderlying3,Tryz.sizeOf3,Tryz.isAgg3,Tryz.zeroValue3,underlying4,Tryz.runUnderlying4,Tryz.sizeOf4,Tryz.isAgg4,Tryz.zeroValue4,underlying9,Tryz.runUnderlying9,Tryz.sizeOf9,Tryz.isAgg9,Tryz.zeroValue9,underlying20,Tryz.runUnderlying20,Tryz.sizeOf20,Tryz.isAgg20,Tryz.zeroValue20,underlying21,Tryz.runUnderlying21,Tryz.sizeOf21,Tryz.isAgg21,Tryz.zeroValue21,(by kernel_rfl),(by kernel_rfl)⟩
end
section
open Go Go.Conc Go.ConcN Go.RowKit Go.Conc.Lib Go.ConcR.Gen Go.ConcN.Gen
open Go.ConcR (KK wgBlock WgAt stA smA rd wr mk Payload Aside2 DC0)
section
variable (P:Program) (R:World->World->Prop) (ty:TypeId) (Wg:Nat)
def om(e:Mark)(m:Nat)(S:Goroutine->World->Prop)(g:Goroutine)(w:World):Prop:=
 g.status=.running/\∃a,stepG P true g w=.go a w #[mk e]/\Goes P true R DC0 S m a w
def ajr(S:Goroutine->World->Prop)(g:Goroutine)(w:World):Prop:=
 g.status=.running/\∀v:Nat,v<2147483647->WgAt ty Wg w (v*KK) 0->
  ∃a,stepG P true g w=.go a (w.setCell (stA Wg) (.int .u64 ((v+1)*KK))) #[rd (stA Wg),wr (stA Wg)]/\
   (v=0->Goes P true R DC0 (om P R (.read ⟨Wg,1,none⟩) 120 (om P R .enable 3 S)) 120 a (w.setCell (stA Wg) (.int .u64 ((v+1)*KK))))/\
   (v≠0->Goes P true R DC0 (om P R .enable 3 S) 120 a (w.setCell (stA Wg) (.int .u64 ((v+1)*KK))))
end
section
variable {P:Program} {L:WgLink} {R:World->World->Prop} {Wg:Nat} {S:Goroutine->World->Prop}
 {b₀:Frame} {a₀:Act} {ops₀:Array Oper} {i₀:Nat} {rest₀:List Nat} {k₀:List Item} {cs:List Frame}
def ar4 (H:WgLib P L) (b:∀w d,WgLive L.tWg Wg w->R w d->WgLive L.tWg Wg d)
  (l:∀w,WgLive L.tWg Wg w->S (G (b₀.at (a₀.put ((ops₀[i₀]?).bind (·.dst)) (.tuple #[])) (.inRegion ops₀ rest₀::k₀)) cs) w)
  (w:World) (a:WgLive L.tWg Wg w) :
  Goes P true R DC0 (om P R .disable 60 (ajr P R L.tWg Wg S)) 30
   (G ((base L.add).at ⟨#[.pointer (some ⟨Wg,0,none⟩),.int .i64 1,undef,undef,undef,undef,undef,undef,undef,undef,undef,undef,undef,undef,undef,undef,undef,undef,undef,undef,undef,undef,undef,undef,undef,undef,undef,undef,undef,undef,undef,undef,undef,undef,undef,undef,undef,undef,undef,undef,undef,undef,undef,undef,undef,undef,undef,undef,undef,undef,undef,undef,undef,undef,undef,undef,undef,undef,undef,undef,undef,undef,undef,undef,undef,undef,undef,undef,undef,undef,undef,undef,undef,undef,undef,undef,undef,undef,undef,undef,undef,undef,undef,undef,undef,undef,undef,undef,undef,undef,undef,undef,undef,undef,undef,undef,undef,undef,undef,undef,undef,undef,undef,undef,undef,undef,undef,undef,undef,undef,undef,undef,undef,undef,undef,undef,undef],[]⟩ [.code (body_add L)]) (b₀.at a₀ (.inRegion ops₀ (i₀::rest₀)::k₀)::cs)) w:=by
 lib_facts
 simp only[body_add,addFn,qo]
 u_c lw (b _ _) a
 u_cond true (b _ _) a
 u_c lw (b _ _) a
 u_c lw (b _ _) a
 u_reg (b _ _) a
 u_op (b _ _) a
 u_op (b _ _) a
 u_c eg (b _ _) a
 u_cond false (b _ _) a
 u_c rD (b _ _) a
 u_c lw (b _ _) a
 u_reg (b _ _) a
 refine qB (λd c=> ?_);replace a:=b _ _ a c;clear c;refine⟨rfl,_,uO .disable (by simp) rfl rfl (by k_ne) rfl H.f_disable (x_disable_n L) (x_disable_b L) (x_disable_x L) (x_disable_f L), ?_⟩
 walk_nrm
 u_c eg (b _ _) a
 u_reg (b _ _) a
 u_defer (b _ _) a
 u_c eg (b _ _) a
 u_c lw (b _ _) a
 u_reg (b _ _) a
 u_op (b _ _) a
 u_c eg (b _ _) a
 u_c lw (b _ _) a
 u_c lw (b _ _) a
 u_reg (b _ _) a
 u_bub (b _ _) a
 u_c eg (b _ _) a
 u_cond false (b _ _) a
 u_c rD (b _ _) a
 u_c lw (b _ _) a
 u_reg (b _ _) a
 u_op (b _ _) a
 u_op (b _ _) a
 u_op (b _ _) a
 u_op (b _ _) a
 u_op (b _ _) a
 u_op (b _ _) a
 u_call H.f_uAdd (nm_uAdd L) uAddFn (b _ _) a
 u_c lw (b _ _) a
 u_reg (b _ _) a
 u_op (b _ _) a
 u_c eg (b _ _) a
 u_c lw (b _ _) a
 u_reg (b _ _) a
 u_op (b _ _) a
 u_op (b _ _) a
 u_op (b _ _) a
 u_op (b _ _) a
 refine qB (λd c=> ?_);replace a:=b _ _ a c;clear c;refine⟨rfl,λv B g=> ?_⟩;rcases qa v with rfl|o
 .replace g:WgAt L.tWg Wg d 0 0:=by simpa using g
  have z:(((0:Nat):Int)+1)*KK=KK:=by simp
  rw[z];have m:IntKind.u64.wrap (0+4294967296)=KK:=by decide
  refine⟨_,(stepG_add_atomic rfl rfl (by k_ne) rfl H.f_addU64 (x_addU64_n L) (x_addU64_b L) (x_addU64_x L) .u64 (x_addU64_f L) rfl rfl g.cellSt (g.thaw 0)).trans (by rw[m];rfl),λ_=> ?_,λh=>absurd rfl h⟩;replace a:WgLive L.tWg Wg (d.setCell (stA Wg) (.int .u64 KK)):=⟨_,_,g.setSt _⟩;clear g;simp only[KK] at a ⊢
  walk_nrm
  u_op (b _ _) a
  u_c eg (b _ _) a
  u_c sx (b _ _) a
  u_leave1 H.f_uAdd (b _ _) a
  u_op (b _ _) a
  u_c eg (b _ _) a
  u_c lw (b _ _) a
  u_c lw (b _ _) a
  u_reg (b _ _) a
  u_op (b _ _) a
  u_op (b _ _) a
  u_op (b _ _) a
  u_op (b _ _) a
  u_skip (b _ _) a
  u_skip (b _ _) a
  u_op (b _ _) a
  u_c eg (b _ _) a
  u_cond false (b _ _) a
  u_c rD (b _ _) a
  u_c lw (b _ _) a
  u_reg (b _ _) a
  u_op (b _ _) a
  u_op (b _ _) a
  u_op (b _ _) a
  u_op (b _ _) a
  u_c eg (b _ _) a
  u_c lw (b _ _) a
  u_reg (b _ _) a
  u_op (b _ _) a
  u_op (b _ _) a
  u_op (b _ _) a
  u_op (b _ _) a
  u_c eg (b _ _) a
  u_c lw (b _ _) a
  u_c lw (b _ _) a
  u_reg (b _ _) a
  u_op (b _ _) a
  u_op (b _ _) a
  u_op (b _ _) a
  u_op (b _ _) a
  u_op (b _ _) a
  u_op (b _ _) a
  u_op (b _ _) a
  u_op (b _ _) a
  u_op (b _ _) a
  u_op (b _ _) a
  u_c eg (b _ _) a
  u_cond true (b _ _) a
  u_reg (b _ _) a
  u_op (b _ _) a
  u_op (b _ _) a
  u_op (b _ _) a
  u_conv H.underlying_tPU32 H.room_tU32 (WgLive.cell1 a).choose_spec (b _ _) a
  refine qB (λd c=> ?_);replace a:=b _ _ a c;clear c;refine⟨rfl,_,uC .read (by simp) rfl rfl (by k_ne) rfl H.f_raceRead (x_raceRead_n L) (x_raceRead_b L) (x_raceRead_x L) (x_raceRead_f L) (ad:=⟨Wg,1,none⟩) (by simp[Act.eval]), ?_⟩
  walk_nrm
  u_c eg (b _ _) a
  u_c lw (b _ _) a
  u_c lw (b _ _) a
  u_reg (b _ _) a
  u_op (b _ _) a
  u_op (b _ _) a
  u_c eg (b _ _) a
  u_cond false (b _ _) a
  u_c rD (b _ _) a
  u_c lw (b _ _) a
  u_c lw (b _ _) a
  u_reg (b _ _) a
  u_op (b _ _) a
  u_op (b _ _) a
  u_op (b _ _) a
  u_skip (b _ _) a
  u_skip (b _ _) a
  u_op (b _ _) a
  u_op (b _ _) a
  u_skip (b _ _) a
  u_skip (b _ _) a
  u_skip (b _ _) a
  u_skip (b _ _) a
  u_op (b _ _) a
  u_c eg (b _ _) a
  u_cond false (b _ _) a
  u_c rD (b _ _) a
  u_c lw (b _ _) a
  u_c lw (b _ _) a
  u_reg (b _ _) a
  u_op (b _ _) a
  u_op (b _ _) a
  u_op (b _ _) a
  u_skip (b _ _) a
  u_skip (b _ _) a
  u_op (b _ _) a
  u_c eg (b _ _) a
  u_cond true (b _ _) a
  u_c sx (b _ _) a
  refine qB (λd c=> ?_);replace a:=b _ _ a c;clear c;refine⟨rfl,_,stepG_unwind_entry (v:=.tuple #[]) (evs:=#[mk .enable]) rfl H.f_enable (x_enable_n L) (x_enable_b L) (x_enable_x L) (x_enable_f L) (by simp[Extern.Race.none_]) (by simp[mk]) (by simp[mk]), ?_⟩
  u_leave0 H.f_add (b _ _) a
  exact qB λi f=>l _ (b _ _ a f)
 .obtain⟨V,j⟩:∃V:Int,V=(v:Int)+1:=⟨_,rfl⟩;obtain⟨St,e⟩:∃St:Int,St=V*KK:=⟨_,rfl⟩;have k:IntKind.u64.wrap ((v:Int)*KK+4294967296)=St:=by rw[IntKind.wrap_u64,e,j];simp only[KK];omega
  rw[<-j,<-e];have C:St / 4294967296=V:=by rw[e];simp only[KK];omega
  have q:bits .and .u64 St 2147483648=0:=by rw[e,j];have:=st_flag (v+1) 0 (by omega) (by omega);simpa[KK] using this
  have A:bits .and .u64 St 2147483647=0:=by rw[e,j];have:=st_waiters (v+1) 0 (by omega) (by omega);simpa[KK] using this
  have u:IntKind.i32.wrap V=V:=by rw[IntKind.wrap_i32];omega
  have n:1<V:=by omega
  have p:V<2147483648:=by omega
  have s:(V ==1)=false:=by simp;omega
  have D:=da (show ¬(V=1) by omega);have t:=da (show ¬(V<0) by omega);have y:=dj (show 0<V by omega);have x:(V ==0)=false:=by simp;omega
  have r:=da (show ¬(V=0) by omega);refine⟨_,(stepG_add_atomic rfl rfl (by k_ne) rfl H.f_addU64 (x_addU64_n L) (x_addU64_b L) (x_addU64_x L) .u64 (x_addU64_f L) rfl rfl g.cellSt (g.thaw 0)).trans (by rw[k];rfl),λh=>absurd h (by omega),λ_=> ?_⟩;replace a:WgLive L.tWg Wg (d.setCell (stA Wg) (.int .u64 St)):=⟨_,_,g.setSt _⟩;clear g e j k
  walk_nrm
  u_op (b _ _) a
  u_c eg (b _ _) a
  u_c sx (b _ _) a
  u_leave1 H.f_uAdd (b _ _) a
  u_op (b _ _) a
  u_c eg (b _ _) a
  u_c lw (b _ _) a
  u_c lw (b _ _) a
  u_reg (b _ _) a
  u_op (b _ _) a
  u_op (b _ _) a
  u_op (b _ _) a
  u_op (b _ _) a
  u_skip (b _ _) a
  u_skip (b _ _) a
  u_op (b _ _) a
  u_c eg (b _ _) a
  u_cnd false (b _ _) a
  u_c rD (b _ _) a
  u_c lw (b _ _) a
  u_reg (b _ _) a
  u_op (b _ _) a
  u_op (b _ _) a
  u_op (b _ _) a
  u_op (b _ _) a
  u_c eg (b _ _) a
  u_c lw (b _ _) a
  u_reg (b _ _) a
  u_op (b _ _) a
  u_op (b _ _) a
  u_op (b _ _) a
  u_op (b _ _) a
  u_c eg (b _ _) a
  u_c lw (b _ _) a
  u_c lw (b _ _) a
  u_reg (b _ _) a
  u_op (b _ _) a
  u_op (b _ _) a
  u_op (b _ _) a
  u_op (b _ _) a
  u_op (b _ _) a
  u_op (b _ _) a
  u_op (b _ _) a
  u_op (b _ _) a
  u_op (b _ _) a
  u_op (b _ _) a
  u_c eg (b _ _) a
  u_cnd false (b _ _) a
  u_c rD (b _ _) a
  u_c lw (b _ _) a
  u_c lw (b _ _) a
  u_reg (b _ _) a
  u_op (b _ _) a
  u_op (b _ _) a
  u_c eg (b _ _) a
  u_cnd false (b _ _) a
  u_c rD (b _ _) a
  u_c lw (b _ _) a
  u_c lw (b _ _) a
  u_reg (b _ _) a
  u_op (b _ _) a
  u_op (b _ _) a
  u_op (b _ _) a
  u_skip (b _ _) a
  u_skip (b _ _) a
  u_op (b _ _) a
  u_op (b _ _) a
  u_skip (b _ _) a
  u_skip (b _ _) a
  u_skip (b _ _) a
  u_skip (b _ _) a
  u_op (b _ _) a
  u_c eg (b _ _) a
  u_cnd false (b _ _) a
  u_c rD (b _ _) a
  u_c lw (b _ _) a
  u_c lw (b _ _) a
  u_reg (b _ _) a
  u_op (b _ _) a
  u_op (b _ _) a
  u_op (b _ _) a
  u_skip (b _ _) a
  u_skip (b _ _) a
  u_op (b _ _) a
  u_c eg (b _ _) a
  u_cnd true (b _ _) a
  u_c sx (b _ _) a
  refine qB (λd c=> ?_);replace a:=b _ _ a c;clear c;refine⟨rfl,_,stepG_unwind_entry (v:=.tuple #[]) (evs:=#[mk .enable]) rfl H.f_enable (x_enable_n L) (x_enable_b L) (x_enable_x L) (x_enable_f L) (by simp[Extern.Race.none_]) (by simp[mk]) (by simp[mk]), ?_⟩
  u_leave0 H.f_add (b _ _) a
  exact qB λi f=>l _ (b _ _ a f)
end
end
section
open Go Go.Conc Go.ConcN Go.RowKit Go.Conc.Lib Go.ConcR.Gen Go.ConcN.Gen
open Go.ConcR (KK wgBlock WgAt stA smA rd wr mk Aside2 DC0)
section
variable (P:Program) (R:World->World->Prop) (ty:TypeId) (Wg:Nat) (alT S:Goroutine->World->Prop)
abbrev WKe:Goroutine->World->Prop:=om P R .enable 12 (om P R (.acquire (stA Wg)) 20 S)
def WW4(g:Goroutine)(w:World):Prop:=g.status=.running/\(WgAt ty Wg w 0 0->∃a,stepG P true g w=.go a w #[rd (stA Wg)]/\Goes P true R DC0 (WKe P R Wg S) 40 a w)
def WW3(g:Goroutine)(w:World):Prop:=g.status=.running/\g.offers=none/\
  ((∃b,WgAt ty Wg w b 0)->stepG P true g w=.go {g with status:=.blocked} w #[])/\
  (WgAt ty Wg w 0 1->∃a,stepG P true g w=.go a (w.setCell (smA Wg) (.int .u32 0)) (semEvents (smA Wg))/\Goes P true R DC0 (WW4 P R ty Wg S) 40 a (w.setCell (smA Wg) (.int .u32 0)))
def WW2(vs:Nat)(g:Goroutine)(w:World):Prop:=g.status=.running/\∀v:Nat,v<2147483648->WgAt ty Wg w (v*KK) 0->
  (v=vs->∃a,stepG P true g w=.go a (w.setCell (stA Wg) (.int .u64 (v*KK+1))) #[rd (stA Wg),wr (stA Wg)]/\Goes P true R DC0 (om P R (.write ⟨Wg,1,none⟩) 60 (WW3 P R ty Wg S)) 120 a (w.setCell (stA Wg) (.int .u64 (v*KK+1))))/\
  (v≠vs->∃a,stepG P true g w=.go a w #[rd (stA Wg)]/\Goes P true R DC0 alT 60 a w)
def WW1(g:Goroutine)(w:World):Prop:=g.status=.running/\∀v:Nat,v<2147483648->WgAt ty Wg w (v*KK) 0->∃a,stepG P true g w=.go a w #[rd (stA Wg)]/\
  (v=0->Goes P true R DC0 (WKe P R Wg S) 60 a w)/\(v≠0->Goes P true R DC0 (WW2 P R ty Wg alT S v) 120 a w)
end
def ajs(L:WgLink)(Wg:Nat)(c:Frame)(cs:List Frame)(g:Goroutine)(w:World):Prop:=
 ∃T:Array Value,g=G ((base L.wait).at ⟨T,[]⟩ [.code (L7 L),.inLoop (L7 L),.inBlock 0]) (c::cs)/\T.size=84/\T[0]?=some (.pointer (some ⟨Wg,0,none⟩))/\WgLive L.tWg Wg w
section
variable {P:Program} {L:WgLink} {R:World->World->Prop} {Wg:Nat} {S:Goroutine->World->Prop}
 {b₀:Frame} {a₀:Act} {ops₀:Array Oper} {i₀:Nat} {rest₀:List Nat} {k₀:List Item} {cs:List Frame}
def alU(H:WgLib P L)(c:∀w a,WgLive L.tWg Wg w->R w a->WgLive L.tWg Wg a)(w:World)(b:WgLive L.tWg Wg w) :
  Goes P true R DC0 (om P R .disable 3 (ajs L Wg (b₀.at a₀ (.inRegion ops₀ (i₀::rest₀)::k₀)) cs)) 3
   (G ((base L.wait).at ⟨#[.pointer (some ⟨Wg,0,none⟩)]++(List.replicate 83 undef).toArray,[]⟩ [.code (body_wait L)]) (b₀.at a₀ (.inRegion ops₀ (i₀::rest₀)::k₀)::cs)) w:=by
 lib_facts
 simp only[body_wait,waitFn,qo]
 u_c lw (c _ _) b
 u_cond true (c _ _) b
 u_reg (c _ _) b
 refine qB (λa d=> ?_);replace b:=c _ _ b d;refine⟨rfl,_,uO .disable (by simp) rfl rfl (by k_ne) rfl H.f_disable (x_disable_n L) (x_disable_b L) (x_disable_x L) (x_disable_f L), ?_⟩
 walk_nrm
 u_c eg (c _ _) b
 u_c stepG_block (c _ _) b
 u_c stepG_loop (c _ _) b
 exact qB (λf e=>⟨_,rfl,by simp,by simp,c _ _ b e⟩)
def alV (H:WgLib P L) (b:∀w c,WgLive L.tWg Wg w->R w c->WgLive L.tWg Wg c)
  (x:∀w,WgLive L.tWg Wg w->S (G (b₀.at (a₀.put ((ops₀[i₀]?).bind (·.dst)) (.tuple #[])) (.inRegion ops₀ rest₀::k₀)) cs) w)
  (g:Goroutine) (w:World) (h:ajs L Wg (b₀.at a₀ (.inRegion ops₀ (i₀::rest₀)::k₀)) cs g w) :
  Goes P true R DC0 (WW1 P R L.tWg Wg (ajs L Wg (b₀.at a₀ (.inRegion ops₀ (i₀::rest₀)::k₀)) cs) S) 30 g w:=by
 lib_facts
 obtain⟨T,rfl,p,t,a⟩:=h;obtain⟨v0,v1,v2,v3,v4,v5,v6,v7,v8,v9,aT,O,bl,z,b9,C,K,ao,bS,a8,a2,A,bL,c0,J,bw,bh,a4,bz,aa,Y,aZ,y,bR,a0,N,bU,bO,bf,X,U,W,bp,a7,aX,Q,D,bo,b8,bb,aL,bk,aI,af,E,b5,bi,b4,a5,bG,a3,bT,ay,b3,b6,B,I,M,ba,b7,bx,aY,br,bY,a6,aG,c2,a9,F,b0,bn,an,al,Z,rfl⟩:=array84 T p;simp only[vP,ud,mt] at t;subst t;simp only[L7,body_wait,waitFn,qo]
 u_c stepG_block (b _ _) a
 u_c lw (b _ _) a
 u_reg (b _ _) a
 u_op (b _ _) a
 u_op (b _ _) a
 u_op (b _ _) a
 u_call H.f_uLoad (nm_uLoad L) uLoadFn (b _ _) a
 u_c lw (b _ _) a
 u_reg (b _ _) a
 u_op (b _ _) a
 u_c eg (b _ _) a
 u_c lw (b _ _) a
 u_reg (b _ _) a
 u_op (b _ _) a
 u_op (b _ _) a
 u_op (b _ _) a
 refine qB (λc d=> ?_);replace a:=b _ _ a d;refine⟨rfl,λv hv j=> ?_⟩;rcases qa v with rfl|ax
 .replace j:WgAt L.tWg Wg c 0 0:=by simpa using j
  refine⟨_,stepG_load_atomic (v:=0) rfl rfl (by k_ne) rfl H.f_loadU64 (x_loadU64_n L) (x_loadU64_b L) (x_loadU64_x L) .u64 (x_loadU64_f L) rfl j.cellSt,λ_=> ?_,λh=>absurd rfl h⟩
  walk_nrm
  u_op (b _ _) a
  u_c eg (b _ _) a
  u_c sx (b _ _) a
  u_leave1 H.f_uLoad (b _ _) a
  u_op (b _ _) a
  u_c eg (b _ _) a
  u_c lw (b _ _) a
  u_reg (b _ _) a
  u_op (b _ _) a
  u_op (b _ _) a
  u_op (b _ _) a
  u_op (b _ _) a
  u_c eg (b _ _) a
  u_c lw (b _ _) a
  u_reg (b _ _) a
  u_op (b _ _) a
  u_op (b _ _) a
  u_op (b _ _) a
  u_op (b _ _) a
  u_c eg (b _ _) a
  u_c lw (b _ _) a
  u_c lw (b _ _) a
  u_reg (b _ _) a
  u_op (b _ _) a
  u_op (b _ _) a
  u_c eg (b _ _) a
  u_cond true (b _ _) a
  u_c lw (b _ _) a
  u_cond true (b _ _) a
  u_c lw (b _ _) a
  u_reg (b _ _) a
  refine qB (λc d=> ?_);replace a:=b _ _ a d;refine⟨rfl,_,uO .enable (by simp) rfl rfl (by k_ne) rfl H.f_enable (x_enable_n L) (x_enable_b L) (x_enable_x L) (x_enable_f L), ?_⟩
  walk_nrm
  u_c eg (b _ _) a
  u_reg (b _ _) a
  u_op (b _ _) a
  u_conv H.underlying_tWgP H.room_tWg (WgLive.cell0 a).choose_spec (b _ _) a
  refine qB (λc d=> ?_);replace a:=b _ _ a d;refine⟨rfl,_,uC .acquire (by simp) rfl rfl (by k_ne) rfl H.f_acquire (x_acquire_n L) (x_acquire_b L) (x_acquire_x L) (x_acquire_f L) (by simp[Act.eval,stA]), ?_⟩
  walk_nrm
  u_c eg (b _ _) a
  u_c lw (b _ _) a
  u_c lw (b _ _) a
  u_reg (b _ _) a
  u_op (b _ _) a
  u_op (b _ _) a
  u_op (b _ _) a
  u_op (b _ _) a
  u_op (b _ _) a
  u_op (b _ _) a
  u_op (b _ _) a
  u_op (b _ _) a
  u_skip (b _ _) a
  u_skip (b _ _) a
  u_op (b _ _) a
  u_c eg (b _ _) a
  u_cond false (b _ _) a
  u_c rD (b _ _) a
  u_c sx (b _ _) a
  u_leave0 H.f_wait (b _ _) a
  exact qB λk f=>x _ (b _ _ a f)
 .obtain⟨V,o⟩:∃V:Int,(v:Int)*KK=V:=⟨_,rfl⟩;have a1:V / 4294967296=(v:Int):=by rw[<-o];simp only[KK];omega
  have b1:bits .and .u64 V 2147483648=0:=by rw[<-o];have:=st_flag v 0 (by omega) (by omega);simpa[KK] using this
  have b2:bits .and .u64 V 2147483647=0:=by rw[<-o];have:=st_waiters v 0 (by omega) (by omega);simpa[KK] using this
  have c1:IntKind.i32.wrap (v:Int)=(v:Int):=by rw[IntKind.wrap_i32];omega
  have w1:IntKind.u64.wrap (V+1)=V+1:=by rw[IntKind.wrap_u64,<-o];simp only[KK];omega
  have q3:=da (show ¬((v:Int)<0) by omega);have q4:=dj (show 0<(v:Int) by omega);have q5:((v:Int) ==0)=false:=by simp;omega
  have q6:=da (show ¬((v:Int)=0) by omega);rw[o] at j;refine⟨_,stepG_load_atomic (v:=V) rfl rfl (by k_ne) rfl H.f_loadU64 (x_loadU64_n L) (x_loadU64_b L) (x_loadU64_x L) .u64 (x_loadU64_f L) rfl j.cellSt,λh0=>absurd h0 (by omega),λ_=> ?_⟩
  walk_nrm
  u_op (b _ _) a
  u_c eg (b _ _) a
  u_c sx (b _ _) a
  u_leave1 H.f_uLoad (b _ _) a
  u_op (b _ _) a
  u_c eg (b _ _) a
  u_c lw (b _ _) a
  u_reg (b _ _) a
  u_op (b _ _) a
  u_op (b _ _) a
  u_op (b _ _) a
  u_op (b _ _) a
  u_c eg (b _ _) a
  u_c lw (b _ _) a
  u_reg (b _ _) a
  u_op (b _ _) a
  u_op (b _ _) a
  u_op (b _ _) a
  u_op (b _ _) a
  u_c eg (b _ _) a
  u_c lw (b _ _) a
  u_c lw (b _ _) a
  u_reg (b _ _) a
  u_op (b _ _) a
  u_op (b _ _) a
  u_c eg (b _ _) a
  u_cnd false (b _ _) a
  u_c rD (b _ _) a
  u_c lw (b _ _) a
  u_reg (b _ _) a
  u_op (b _ _) a
  u_op (b _ _) a
  u_op (b _ _) a
  u_op (b _ _) a
  u_op (b _ _) a
  u_op (b _ _) a
  u_call H.f_uCas (nm_uCas L) uCasFn (b _ _) a
  u_c lw (b _ _) a
  u_reg (b _ _) a
  u_op (b _ _) a
  u_c eg (b _ _) a
  u_c lw (b _ _) a
  u_reg (b _ _) a
  u_op (b _ _) a
  u_op (b _ _) a
  u_op (b _ _) a
  u_op (b _ _) a
  u_op (b _ _) a
  refine qB (λk f=> ?_);replace a:=b _ _ a f;refine⟨rfl,λv' bt j=>⟨λe=> ?_,λe=> ?_⟩⟩
  .subst e;rw[o] at j ⊢;refine⟨_,stepG_cas_hit (v:=V) (n:=V+1) rfl rfl (by k_ne) rfl H.f_casU64 (x_casU64_n L) (x_casU64_b L) (x_casU64_x L) .u64 (x_casU64_f L) rfl rfl rfl j.cellSt (j.thaw 0), ?_⟩;replace a:WgLive L.tWg Wg (k.setCell (stA Wg) (.int .u64 (V+1))):=⟨_,_,j.setSt _⟩
   walk_nrm
   u_op (b _ _) a
   u_c eg (b _ _) a
   u_c sx (b _ _) a
   u_leave1 H.f_uCas (b _ _) a
   u_c eg (b _ _) a
   u_cond true (b _ _) a
   u_c lw (b _ _) a
   u_c lw (b _ _) a
   u_reg (b _ _) a
   u_op (b _ _) a
   u_op (b _ _) a
   u_op (b _ _) a
   u_op (b _ _) a
   u_c eg (b _ _) a
   u_cond true (b _ _) a
   u_reg (b _ _) a
   u_op (b _ _) a
   u_op (b _ _) a
   u_op (b _ _) a
   u_conv H.underlying_tPU32 H.room_tU32 (WgLive.cell1 a).choose_spec (b _ _) a
   refine qB (λm i=> ?_);replace a:=b _ _ a i;refine⟨rfl,_,uC .write (by simp) rfl rfl (by k_ne) rfl H.f_raceWrite (x_raceWrite_n L) (x_raceWrite_b L) (x_raceWrite_x L) (x_raceWrite_f L) (ad:=⟨Wg,1,none⟩) (by simp[Act.eval]), ?_⟩
   walk_nrm
   u_c eg (b _ _) a
   u_c lw (b _ _) a
   u_reg (b _ _) a
   u_op (b _ _) a
   u_c eg (b _ _) a
   u_c lw (b _ _) a
   u_c lw (b _ _) a
   u_reg (b _ _) a
   u_op (b _ _) a
   u_op (b _ _) a
   u_op (b _ _) a
   u_op (b _ _) a
   u_skip (b _ _) a
   u_op (b _ _) a
   u_c eg (b _ _) a
   u_cond false (b _ _) a
   u_c rD (b _ _) a
   u_c lw (b _ _) a
   u_reg (b _ _) a
   u_op (b _ _) a
   u_op (b _ _) a
   u_op (b _ _) a
   u_op (b _ _) a
   refine qB (λm i=> ?_);replace a:=b _ _ a i;refine⟨rfl,rfl,λ⟨st,j⟩=>stepG_semacquire_wait rfl rfl rfl H.f_semacquire (x_semacquire_n L) (x_semacquire_b L) (x_semacquire_x L) (x_semacquire_f L) (by simp[Act.eval,smA]) j.cellSm,λs=> ?_⟩;refine⟨_,(stepG_semacquire (n:=1) rfl rfl (by k_ne) rfl H.f_semacquire (x_semacquire_n L) (x_semacquire_b L) (x_semacquire_x L) (x_semacquire_f L) (by simp[Act.eval,smA]) s.cellSm (by decide) (s.thaw 1)).trans rfl, ?_⟩;replace a:WgLive L.tWg Wg (m.setCell (smA Wg) (.int .u32 0)):=⟨_,_,s.setSm 0⟩
   walk_nrm
   u_c eg (b _ _) a
   u_c lw (b _ _) a
   u_reg (b _ _) a
   u_op (b _ _) a
   u_op (b _ _) a
   u_op (b _ _) a
   u_call H.f_uLoad (nm_uLoad L) uLoadFn (b _ _) a
   u_c lw (b _ _) a
   u_reg (b _ _) a
   u_op (b _ _) a
   u_c eg (b _ _) a
   u_c lw (b _ _) a
   u_reg (b _ _) a
   u_op (b _ _) a
   u_op (b _ _) a
   u_op (b _ _) a
   refine qB (λu r=> ?_);replace a:=b _ _ a r;refine⟨rfl,λj=>⟨_,stepG_load_atomic (v:=0) rfl rfl (by k_ne) rfl H.f_loadU64 (x_loadU64_n L) (x_loadU64_b L) (x_loadU64_x L) .u64 (x_loadU64_f L) rfl j.cellSt, ?_⟩⟩
   walk_nrm
   u_op (b _ _) a
   u_c eg (b _ _) a
   u_c sx (b _ _) a
   u_leave1 H.f_uLoad (b _ _) a
   u_op (b _ _) a
   u_op (b _ _) a
   u_c eg (b _ _) a
   u_c lw (b _ _) a
   u_cond true (b _ _) a
   u_c lw (b _ _) a
   u_reg (b _ _) a
   refine qB (λq l=> ?_);replace a:=b _ _ a l;refine⟨rfl,_,uO .enable (by simp) rfl rfl (by k_ne) rfl H.f_enable (x_enable_n L) (x_enable_b L) (x_enable_x L) (x_enable_f L), ?_⟩
   walk_nrm
   u_c eg (b _ _) a
   u_reg (b _ _) a
   u_op (b _ _) a
   u_conv H.underlying_tWgP H.room_tWg (WgLive.cell0 a).choose_spec (b _ _) a
   refine qB (λq l=> ?_);replace a:=b _ _ a l;refine⟨rfl,_,uC .acquire (by simp) rfl rfl (by k_ne) rfl H.f_acquire (x_acquire_n L) (x_acquire_b L) (x_acquire_x L) (x_acquire_f L) (by simp[Act.eval,stA]), ?_⟩
   walk_nrm
   u_c eg (b _ _) a
   u_c lw (b _ _) a
   u_c lw (b _ _) a
   u_reg (b _ _) a
   u_op (b _ _) a
   u_c eg (b _ _) a
   u_cond false (b _ _) a
   u_c rD (b _ _) a
   u_c sx (b _ _) a
   u_leave0 H.f_wait (b _ _) a
   exact qB λk f=>x _ (b _ _ a f)
  .refine⟨_,stepG_cas_miss (v:=(v':Int)*KK) (old:=V) (n:=V+1) rfl rfl (by k_ne) rfl H.f_casU64 (x_casU64_n L) (x_casU64_b L) (x_casU64_x L) .u64 (x_casU64_f L) rfl rfl rfl j.cellSt (j.thaw 0) (by rw[<-o];simp only[KK];omega), ?_⟩
   walk_nrm
   u_op (b _ _) a
   u_c eg (b _ _) a
   u_c sx (b _ _) a
   u_leave1 H.f_uCas (b _ _) a
   u_c eg (b _ _) a
   u_cond false (b _ _) a
   u_c rD (b _ _) a
   u_c stepG_inBlock (b _ _) a
   u_c stepG_inLoop (b _ _) a
   exact qB λm i=>⟨_,rfl,by simp,by simp,b _ _ a i⟩
end
end
section
open Go Go.Conc Go.ConcN Go.RowKit Go.Conc.Lib Go.ConcR.Gen Go.ConcN.Gen
open Go.ConcR (KK wgBlock WgAt stA smA rd wr mk Payload DC0)
section
variable {P:Program} {R:World->World->Prop} {Wg:Nat}
def aoV:aaV Wg (mk (.read ⟨Wg,1,none⟩)):=⟨_,rfl,.inl rfl⟩
def alW:aaV Wg (mk (.write ⟨Wg,1,none⟩)):=⟨_,rfl,.inr rfl⟩
def nN{D i:World->World->Array Event->Prop}{St c:Goroutine->World->Prop}{main:Bool}(k:∀w d e,D w d e->i w d e)(f:∀g w,St g w->c g w) :
  ∀{n:Nat} {g:Goroutine} {w:World},Goes P main R D St n g w->Goes P main R i c n g w
 |0,_,_,h=>λa b=>f _ _ (h a b)
 |n+1,g,w,h=>by
  rcases h with h|⟨l,h⟩
  .exact .inl λa b=>f _ _ (h a b)
  .refine .inr ⟨l,λa b=> ?_⟩;have:=h a b;cases j:stepG P main g a with
   |go m d e=>
    rw[j,tz] at this;rw[tz];exact⟨k _ _ _ this.1,nN k f this.2⟩
   |_=>rw[j] at this;exact this.elim
def auP{D:World->World->Array Event->Prop}(b:n<=W)(h:Goes P main R D St n g w):Goes P main R D St W g w:=by
 induction b with
 |refl=>exact h
 |step _ a=>exact a.more
def dsd(h:DC0 w w' es):DSd Wg w w' es:=⟨h.1,by rw[h.2];simp⟩
def agd{e:Mark}(q:aaV Wg (mk e))(s:∀g w,St g w->Y g w)(k:∀w,R w w)(l:∀a b c,R a b->R b c->R a c) :
  ∀{n:Nat} {g:Goroutine} {w:World},Goes P true R DC0 (om P R e m St) n g w->Goes P true R (DSd Wg) Y (n+(m+1)) g w:=by
 have stop:∀{g:Goroutine} {w:World},(∀d,R w d->om P R e m St g d)->Goes P true R (DSd Wg) Y (m+1) g w:=λ{g w} h=>by
  refine .inr ⟨(h w (k w)).1,λd i=> ?_⟩;obtain⟨-,p,f,j⟩:=h d i;rw[f,tz];exact⟨⟨rfl,by simp;exact q⟩,nN (λ_ _ _ x=>dsd x) s j⟩
 intro n
 induction n with
 |zero=>intro g w h;rw[mc];exact stop h
 |succ n r=>
  intro g w h;rcases h with h|⟨o,h⟩
  .exact auP (by omega) (stop h)
  .rw[Nat.succ_add];refine .inr ⟨o,λd i=> ?_⟩;have:=h d i;cases f:stepG P true g d with
   |go p t u=>
    rw[f,tz] at this;rw[tz];exact⟨dsd this.1,r this.2⟩
   |_=>rw[f] at this;exact this.elim
end
section
variable [Payload] {P:Program} {ty:TypeId} {Wg C n:Nat} {R S:au}
def aau(a:∀g w,St g w->Y g w)(h:Goes P true (RM ty Wg C n R S) DC0 St m g w):GP P ty Wg C n R S Y m g w:=nN (λ_ _ _ x=>dsd x) a h
def ax4{F:au->au->Goroutine->World->Prop}(a:∀g w,Goes P true (RM ty Wg C n R S) DC0 St m g w->F R S g w)(h:om P (RM ty Wg C n R S) (.acquire (stA Wg)) m St g w):aw0 P Wg R S F g w:=
 ⟨h.1,let⟨b,e,k⟩:=h.2;⟨b,e,a _ _ k⟩⟩
section
variable {St:Goroutine->World->Prop} {F A:au->au->Goroutine->World->Prop} {alT:Goroutine->World->Prop} (hF:∀g w,Goes P true (RM ty Wg C n R S) DC0 St 20 g w->F R S g w) (hA:∀g w,alT g w->A R S g w)
include hF in
theorem av9(h:WKe P (RM ty Wg C n R S) Wg St g w):MKe P ty Wg C n R S F g w:=
 ⟨h.1,let⟨a,e,k⟩:=h.2;⟨a,e,_,aau (λ_ _ x=>ax4 hF x) k⟩⟩
include hF in
theorem aAN(h:WW4 P (RM ty Wg C n R S) ty Wg St g w):MW4 P ty Wg C n R S F g w:=
 ⟨h.1,λa=>let⟨b,e,k⟩:=h.2 a;⟨b,e,_,aau (λ_ _ x=>av9 hF x) k⟩⟩
include hF in
theorem aAO(h:WW3 P (RM ty Wg C n R S) ty Wg St g w):MW3 P ty Wg C n R S F g w:=
 ⟨h.1,h.2.1,h.2.2.1,λa=>let⟨b,e,k⟩:=h.2.2.2 a;⟨b,e,_,aau (λ_ _ x=>aAN hF x) k⟩⟩
include hF hA in
theorem aAP{v:Nat}(h:WW2 P (RM ty Wg C n R S) ty Wg alT St v g w):MW2 P ty Wg C n R S A F v g w:=
 ⟨h.1,λd f c=>⟨λe=>let⟨b,a,k⟩:=(h.2 d f c).1 e;⟨b,a,_,agd alW (λ_ _ x=>aAO hF x) (jB.refl _ _ _) (λ_ _ _=>jB.trans) k⟩,
  λe=>let⟨b,a,k⟩:=(h.2 d f c).2 e;⟨b,a,_,aau hA k⟩⟩⟩
include hF hA in
theorem aAQ(h:WW1 P (RM ty Wg C n R S) ty Wg alT St g w):MW1 P ty Wg C n R S A F g w:=
 ⟨h.1,λv c b=>let⟨f,e,d,a⟩:=h.2 v c b;⟨f,e,λe=>⟨_,aau (λ_ _ x=>av9 hF x) (d e)⟩,λe=>⟨_,aau (λ_ _ x=>aAP hF hA x) (a e)⟩⟩⟩
include hA in
theorem aAR(h:om P (RM ty Wg C n R S) .disable m alT g w):MKd P ty Wg C n R S A g w:=
 ⟨h.1,let⟨a,e,k⟩:=h.2;⟨a,e,_,aau hA k⟩⟩
end
section
variable {val:Nat->Value} {j:Nat} {Next:au->Goroutine->World->Prop} {St:Goroutine->World->Prop}
def ar5(a:∀g w,Goes P true (RM ty Wg C n R S) DC0 St m g w->∃T,GM P ty Wg C n R (MGo P ty Wg C n val j Next R) T S g w)(h:om P (RM ty Wg C n R S) .enable m St g w):aw1 P ty Wg C n val j Next R S g w:=
 ⟨h.1,let⟨b,e,k⟩:=h.2;⟨b,e,a _ _ k⟩⟩
def aAS(b:∀g w,Goes P true (RM ty Wg C n R S) DC0 St 3 g w->∃T,GM P ty Wg C n R (MGo P ty Wg C n val j Next R) T S g w)(h:ajr P (RM ty Wg C n R S) ty Wg St g w):MA1 P ty Wg C n val j Next R S g w:=
 ⟨h.1,λv f d=>by
  obtain⟨k,e,i,c⟩:=h.2 v f d;refine⟨k,e, ?_⟩;by_cases a:v=0
  .exact⟨_,agd aoV (λ_ _ x=>ar5 b x) (jB.refl _ _ _) (λ_ _ _=>jB.trans) (i a)⟩
  .exact⟨_,aau (λ_ _ x=>ar5 b x) (c a)⟩⟩
def ax5(a:∀g w,Goes P true (RM ty Wg C n R S) DC0 St 3 g w->∃T,GM P ty Wg C n R (MGo P ty Wg C n val j Next R) T S g w)(h:om P (RM ty Wg C n R S) .disable m (ajr P (RM ty Wg C n R S) ty Wg St) g w):aqo P ty Wg C n val j Next R S g w:=
 ⟨h.1,let⟨b,e,k⟩:=h.2;⟨b,e,_,aau (λ_ _ x=>aAS a x) k⟩⟩
end
end
end
section
open Go Go.Conc Go.ConcN Go.RowKit Go.Conc.Lib Go.ConcR.Gen Go.ConcN.Gen
open Go.ConcR (KK wgBlock WgAt stA smA rd wr mk Payload Aside2 DC0)
section
variable (P:Program) (R:World->World->Prop) (Wg:Nat)
def ar6(g:Goroutine)(w:World):Prop:=∃a,stepG P false g w=.go a w #[mk .disable]
def ax6(m:Nat)(g:Goroutine)(w:World):Prop:=∃a,stepG P false g w=.go a w #[mk (.releaseMerge (stA Wg))]/\Goes P false R DC0 (ar6 P) m a w
end
section
variable {P:Program} {L:WgLink} {R:World->World->Prop} {Wg:Nat} {c:Frame} {cs:List Frame}
def aoW(H:WgLib P L)(b:∀w d,WgLive L.tWg Wg w->R w d->WgLive L.tWg Wg d)(w:World)(a:WgLive L.tWg Wg w) :
  Goes P false R DC0 (ax6 P R Wg 10) 23 (G ((baseD L.done).at ⟨#[.pointer (some ⟨Wg,0,none⟩),undef,undef,undef],[]⟩ [.code (body_done L)]) (c::cs)) w:=by
 lib_facts
 simp only[body_done,body_add,doneFn,addFn,qo]
 u_reg (b _ _) a
 u_op (b _ _) a
 u_in (b _ _) a
 refine goes_call rfl rfl (by k_ne) rfl H.f_add (nm_add L) rfl ⟨by u_nil, ?_⟩
 walk_nrmf addFn
 u_c lw (b _ _) a
 u_cond true (b _ _) a
 u_c lw (b _ _) a
 u_c lw (b _ _) a
 u_reg (b _ _) a
 u_op (b _ _) a
 u_op (b _ _) a
 u_c eg (b _ _) a
 u_cond true (b _ _) a
 u_reg (b _ _) a
 u_op (b _ _) a
 u_conv H.underlying_tWgP H.room_tWg (WgLive.cell0 a).choose_spec (b _ _) a
 refine qB (λd e=> ?_);replace a:=b _ _ a e;refine⟨_,uC .releaseMerge (by simp) rfl rfl (by k_ne) rfl H.f_relMerge (x_relMerge_n L) (x_relMerge_b L) (x_relMerge_x L) (x_relMerge_f L) (by simp[Act.eval,stA]), ?_⟩
 walk_nrm
 u_c eg (b _ _) a
 u_c lw (b _ _) a
 u_reg (b _ _) a
 refine qB (λd e=> ?_);replace a:=b _ _ a e;exact⟨_,uO .disable (by simp) rfl rfl (by k_ne) rfl H.f_disable (x_disable_n L) (x_disable_b L) (x_disable_x L) (x_disable_f L)⟩
end
section
variable [Payload] {P:Program} {ty:TypeId} {Wg C n k:Nat} {R:World->World->Prop} {v:Value}
def ar7(c:∀w,R w w)(q:∀g w,St g w->∃p,stepG P false g w=.go p w #[mk (.releaseMerge (stA Wg))]) :
  ∀{m f:Nat} {g:Goroutine} {w:World},Goes P false R DC0 (ar6 P) m g w->¬Goes P false R (DWs Wg FF FF C n k) St f g w:=by
 have i:∀{f:Nat} {g:Goroutine} {w:World},(∀a,R w a->ar6 P g a)->¬Goes P false R (DWs Wg FF FF C n k) St f g w:=λ{f g w} d b=>by
  obtain⟨p,e⟩:=d w (c w);have l:¬ ∀a,R w a->St g a:=λh=>by
   obtain⟨s,o⟩:=q _ _ (h w (c w));rw[e] at o;cases o
  cases f with
  |zero=>exact l b
  |succ f=>
   rcases b with b|⟨-,b⟩
   .exact l b
   .have:=b w (c w);rw[e,tz] at this;exact(this.1.2 (mk .disable) (by simp)).2.1 rfl
 intro m
 induction m with
 |zero=>intro f g w d b;exact i d b
 |succ m t=>
  intro f g w d b;rcases d with d|⟨-,d⟩
  .exact i d b
  .have d:=d w (c w);obtain⟨p,j,u,e,⟨rfl,rfl⟩,r⟩:=goes_elim d;have l:¬ ∀a,R j a->St g a:=λh=>by
    obtain⟨s,o⟩:=q _ _ (h j (c j));rw[e] at o;cases o
   cases f with
   |zero=>exact l b
   |succ f=>
    rcases b with b|⟨-,b⟩
    .exact l b
    .have:=b j (c j);rw[e,tz] at this;exact t r this.2
def alX(j:∀w,R w w)(r:∀a b c,R a b->R b c->R a c)(y:∀g w,St g w->∃t,stepG P false g w=.go t w #[mk (.releaseMerge (stA Wg))]) :
  ∀{m o i:Nat} {g:Goroutine} {w:World},Goes P false R DC0 (ax6 P R Wg o) m g w->Goes P false R (DWs Wg FF FF C n k) St i g w->Goes P false R DC0 St m g w:=by
 have p:∀{m o i:Nat} {g:Goroutine} {w:World},(∀d,R w d->ax6 P R Wg o g d)->Goes P false R (DWs Wg FF FF C n k) St i g w->Goes P false R DC0 St m g w:=λ{m o i g w} l f=>by
  refine qB λd q=> ?_;have f:=tl r f q;cases i with
  |zero=>exact f d (j _)
  |succ i=>
   rcases f with f|⟨-,f⟩
   .exact f d (j _)
   .obtain⟨t,e,s⟩:=l d q;have:=f d (j _);rw[e,tz] at this;exact absurd this.2 (ar7 j y s)
 intro m
 induction m with
 |zero=>intro o i g w l f;exact p l f
 |succ m x=>
  intro o i g w l f;rcases l with l|⟨u,l⟩
  .exact p l f
  .cases i with
   |zero=>exact .inl f
   |succ i=>
    rcases f with f|⟨-,f⟩
    .exact .inl f
    .refine .inr ⟨u,λd q=> ?_⟩;obtain⟨t,z,A,e,hd,v⟩:=goes_elim (l d q);have:=f d q;rw[e,tz] at this ⊢;exact⟨hd,x v this.2⟩
end
section
variable [Payload] {P:Program} {L:WgLink} {Wg C n κ:Nat} {val:Nat->Value} {R S:au} {c:Frame} {cs:List Frame} {qt:Nat}
def aoX(H:WgLib P L)(q:c.mode=.returning)(D:QuitsD P qt 0 (G c cs))(w:World)(v:WgLive L.tWg Wg w)(B:Has C (2*κ) (val (2*κ)) w)(o:Has C (2*κ+1) (val (2*κ+1)) w) :
  bI P false (jB L.tWg Wg C (2*n) R (dR κ)) (Gua Wg C (2*n) R (dR κ)) (af0 P L.tWg Wg C n val κ) S (G ((baseD L.done).at ⟨#[.pointer (some ⟨Wg,0,none⟩),undef,undef,undef],[]⟩ [.code (body_done L)]) (c::cs)) w:=by
 have J:=doneN H (Own:=FF) (Rd:=FF) (Wg:=Wg) (C:=C) (n:=2*n) (Low:=0) (k:=2*κ+1) (val:=val (2*κ)) q D w ⟨v,B⟩;have K:=aoW (Wg:=Wg) (R:=RW L.tWg Wg C (2*n) 0 (2*κ+1-1)) (c:=c) (cs:=cs) H (λ_ _ h r=>r.live h) w v;have E:=alX (St:=AtR0 P L.tWg Wg C (2*n) 0 (2*κ+1) (val (2*κ))) (λw=>⟨λ_ _ _ _=>rfl,id,id,rfl⟩) (λa b c x y=>⟨λb o u z=>(y.low b o u z).trans (x.low b o u z),y.live∘x.live,y.pay∘x.pay,y.cell.trans x.cell⟩)
  (λg w h=>let⟨_,_,s,e,_⟩:=h;⟨s,e⟩) K J
 have t:∀{m:Nat} {g:Goroutine} {w:World},Has C (2*κ+1) (val (2*κ+1)) w->Goes P false (RW L.tWg Wg C (2*n) 0 (2*κ+1-1)) DC0 (AtR0 P L.tWg Wg C (2*n) 0 (2*κ+1) (val (2*κ))) m g w->
   bI P false (jB L.tWg Wg C (2*n) R (dR κ)) (Gua Wg C (2*n) R (dR κ)) (af0 P L.tWg Wg C n val κ) S g w:=by
  have j:∀{w d:World},jB L.tWg Wg C (2*n) R (dR κ) S w d->RW L.tWg Wg C (2*n) 0 (2*κ+1-1) w d:=λf=>jB.rw (i:=2*κ) f (by show 2*κ / 2=κ;omega);have l:∀{w d:World},Has C (2*κ+1) (val (2*κ+1)) w->jB L.tWg Wg C (2*n) R (dR κ) S w d->Has C (2*κ+1) (val (2*κ+1)) d:=λh f=>(f.cell (2*κ+1) (by show(2*κ+1) / 2=κ;omega)).trans h;intro m
  induction m with
  |zero=>intro g w p h;exact .stop λd f=>⟨h d (j f),l p f⟩
  |succ m M=>
   intro g w p h;rcases h with h|⟨F,h⟩
   .exact .stop λd f=>⟨h d (j f),l p f⟩
   .refine .step F λd f=> ?_;obtain⟨s,A,N,e,⟨rfl,rfl⟩,I⟩:=goes_elim (h d (j f));exact⟨s,A,#[],S,e,⟨λ_ _ _ _=>rfl,am _,rfl,id,λ_ _=>rfl,λ_ h=>h,λ_ h=>.inl h,by simp⟩,M (l p f) I⟩
 exact t o E
end
end
section
open Go Go.Conc Go.ConcN Go.RowKit
open Go.ConcR (KK wgBlock WgAt stA smA rd wr mk Payload DC0)
instance aEi:Payload:=⟨124⟩
structure Wx where
 w0:World
 Wg:Nat
 C:Nat
 n2:Nat
 κ:Nat
 R:au
 Rg:Nat->Prop
 key:Int
 A:Option Addr
 n:Nat
 c:Nat
 l:List iD
 nm:Int
 bk:Nat
 bp:Nat
 bn:Nat
 ba:Nat
 bi:Nat
 tWg:TypeId
structure Wx.Ok (X:Wx):Prop where
 hN:gN<=X.w0.heap.size
 gl:∀g∈gL,X.Rg g
 gr:∀g∈gL,et X.w0 g
 k1:1<=X.key
 k2:X.key<=99
 hl:X.l.length=X.n
 hc:X.n<=X.c
 hcm:(X.c:Int)<=9223372036854775807
 rd:RdP X.w0 X.A 0 X.l
 rgp:RgP X.Rg X.w0 X.A X.l
 al:∀a,X.A=some a->X.Rg a.block
 nm:In_ X.nm
 kn:X.κ<X.n2
 rows:∀b,X.Rg b->X.R b
 rk:X.R X.bk/\X.w0.cell? ⟨X.bk,0,none⟩=some (.int .i64 X.key)
 rp:X.R X.bp/\X.w0.cell? ⟨X.bp,0,none⟩=some (.slice X.A X.n X.c)
 rn:X.R X.bn/\X.w0.cell? ⟨X.bn,0,none⟩=some (.int .i64 X.nm)
 ra:X.R X.ba/\X.w0.cell? ⟨X.ba,0,none⟩=some (.slice (some ⟨X.C,0,none⟩) X.n2 X.n2)
 ri:X.R X.bi/\X.w0.cell? ⟨X.bi,0,none⟩=some (.int .i64 X.κ)
 rlt:∀b,X.R b->b<X.w0.heap.size
 rC:¬X.R X.C
 rW:¬X.R X.Wg
 cW:X.C≠X.Wg
abbrev Wx.Rl(X:Wx):au->World->World->Prop:=jB X.tWg X.Wg X.C (2*X.n2) X.R (dR X.κ)
abbrev Wx.Gr(X:Wx):au->au->World->World->Array Event->Prop:=Gua X.Wg X.C (2*X.n2) X.R (dR X.κ)
def Wx.mG(X:Wx):oJ X.Rl X.R:=⟨λS w=>jB.refl _ _ _ _,λ_ _ _ _=>jB.trans,λ_ _ _ h=>⟨h.keep,h.size,h.os⟩⟩
structure Wx.Inv (X:Wx) (S:au) (w:World):Prop where
 r:∀b,X.R b->w.heap[b]?=X.w0.heap[b]?
 s:∀b,S b->¬X.R b/\b≠X.C/\b≠X.Wg
 c:X.C<w.heap.size
 wg:X.Wg<w.heap.size
 sz:X.w0.heap.size<=w.heap.size
 live:WgLive X.tWg X.Wg w
 pay:PayAt X.C (2*X.n2) w
 os:w.ou=X.w0.ou
section
variable {X:Wx} {S S':au} {w w' w1:World} {es:Array Event}
def Wx.Inv.rely(h:X.Inv S w)(a:X.Rl S w w1):X.Inv S w1:=
 ⟨λb c=>(a.keep b (.inr c)).trans (h.r b c),h.s,bd h.c a.size,bd h.wg a.size,ap h.sz a.size,a.live h.live,a.pay h.pay,a.os.trans h.os⟩
def Wx.step(s:X.Ok)(h:X.Inv S w)(g:oK X.R S S' w w' es):X.Gr S S' w w' es/\X.Inv S' w':=by
 obtain⟨l,k,q,rfl,B⟩:=g;have m:w'.heap[X.C]?=w.heap[X.C]?:=l _ h.c λd=>(h.s _ d).2.1 rfl;have r:w'.heap[X.Wg]?=w.heap[X.Wg]?:=l _ h.wg λd=>(h.s _ d).2.2 rfl;refine⟨⟨λb c A _=>l b c A,k,q,λ⟨n,a,b⟩=>⟨n,m.trans a,b⟩,λi _=>un m i,λb c=>.inl c,λb c=>c,λe E=> ?_⟩, ?_⟩
 .obtain⟨C,o,D⟩:=B e E;refine⟨λx v=>(C x v).elim .inl λy=>.inr (.inr y),λj=> ?_,λj=> ?_,λj=> ?_,D⟩
  .rcases o _ j with⟨f,e⟩|e<;>cases e
  .rcases o _ j with⟨f,e⟩|e<;>cases e
  .rcases o _ j with⟨f,e⟩|e<;>cases e
 .have p:∀b,X.R b->b<w.heap.size:=λb c=>bd (s.rlt b c) h.sz;refine⟨λb c=>(l b (p b c) λd=>(h.s b d).1 c).trans (h.r b c),λb c=> ?_,bd h.c k,bd h.wg k,ap h.sz k, ?_, ?_,q.trans h.os⟩
  .rcases c with c|⟨c,_⟩
   .exact h.s b c
   .refine⟨λu=> ?_,λe=> ?_,λe=> ?_⟩
    .have:=p b u;omega
    .have:=h.c;omega
    .have:=h.wg;omega
  .obtain⟨z,sm,t⟩:=h.live;exact⟨z,sm,r.trans t⟩
  .obtain⟨n,a,b⟩:=h.pay;exact⟨n,m.trans a,b⟩
def Wx.lift(c:X.Ok)(h:bI prog false X.Rl (oK X.R) Stop S g w)(hi:X.Inv S w):bI prog false X.Rl X.Gr (λS g w=>Stop S g w/\X.Inv S w) S g w:=
 bI.inv (Rl:=X.Rl) (Gr:=oK X.R) (Gr2:=X.Gr) (Stop:=Stop) (Inv:=X.Inv) (λ_ _ _ a b=>a.rely b) (λ_ _ _ _ _ a b=>Wx.step c a b) (λ_ _ _ a b=>⟨a,b⟩) h hi
def Wx.Inv.cell(h:X.Inv S w)(a:X.R b)(c:X.w0.cell? ⟨b,i,none⟩=some v):w.cell? ⟨b,i,none⟩=some v:=(un (h.r b a) i).trans c
end
end
section
open Go Go.Conc Go.ConcN Go.RowKit
open Go.ConcR (KK wgBlock WgAt stA smA rd wr mk Payload DC0)
abbrev nCl:FuncId:=67
def lA:Code->Code
 |.seq a _=>a
 |c=>c
def um:Code->Array Oper
 |.region _ o _=>o
 |_=>#[]
noncomputable def am8:Code:=f67.body.getD .skip
noncomputable def nX:Array Oper:=um (lA am8)
noncomputable def aW:Array Oper:=um (bW am8)
def ar8:am8=.seq (.region 0 nX false) (.region 1 aW true):=rfl
def am9:aW.size=8:=rfl
def aAT:∃p,aW[0]?=some ⟨some 6,.load 111 (.tmp 4),111,p,#[],none⟩:=⟨_,rfl⟩
def aAU:∃p,aW[1]?=some ⟨some 7,.load 3 (.tmp 5),3,p,#[],none⟩:=⟨_,rfl⟩
def aAV:∃p,aW[2]?=some ⟨some 8,.load 3 (.tmp 1),3,p,#[],none⟩:=⟨_,rfl⟩
def aAW:∃p,aW[3]?=some ⟨some 9,.load 23 (.tmp 2),23,p,#[],none⟩:=⟨_,rfl⟩
def aAX:∃p,aW[4]?=some ⟨some 10,.load 3 (.tmp 3),3,p,#[],none⟩:=⟨_,rfl⟩
def aAY:∃p,aW[5]?=some ⟨some 11,.call ⟨.value (.func 69),#[.tmp 8,.tmp 9,.tmp 10],#[3,23,3]⟩,124,p,#[⟨2,.data⟩,⟨3,.data⟩,⟨4,.data⟩],none⟩:=⟨_,rfl⟩
def aAZ:∃p,aW[6]?=some ⟨some 12,.indexAddr 111 (.tmp 6) (.tmp 7),0,p,#[⟨0,.data⟩,⟨1,.data⟩,⟨0,.phase⟩,⟨1,.phase⟩,⟨2,.phase⟩,⟨3,.phase⟩,⟨4,.phase⟩,⟨5,.phase⟩],none⟩:=⟨_,rfl⟩
def aA0:∃p,aW[7]?=some ⟨none,.store 124 (.tmp 12) (.tmp 11),0,p,#[⟨6,.data⟩,⟨5,.data⟩,⟨5,.chain⟩,⟨0,.phase⟩,⟨1,.phase⟩,⟨2,.phase⟩,⟨3,.phase⟩,⟨4,.phase⟩,⟨5,.phase⟩],none⟩:=⟨_,rfl⟩
def jN(L:Nat->Bool):Nat->Bool
 |5=>L 2&&L 3&&L 4
 |6=>L 0&&L 1&&L 2&&L 3&&L 4&&L 5
 |7=>L 6&&L 5&&L 0&&L 1&&L 2&&L 3&&L 4
 |_=>true
def ana(L:Nat->Bool)(hi:i<8):((aW[i]?).map (λo:Oper=>o.after.all λe=>!Region.binds .any e||L e.on)).getD false=jN L i:=by
 have:i=0\/i=1\/i=2\/i=3\/i=4\/i=5\/i=6\/i=7:=by omega
 rcases this with rfl|rfl|rfl|rfl|rfl|rfl|rfl|rfl
 .obtain⟨p,e⟩:=aAT;rw[e];simp[jN]
 .obtain⟨p,e⟩:=aAU;rw[e];simp[jN]
 .obtain⟨p,e⟩:=aAV;rw[e];simp[jN]
 .obtain⟨p,e⟩:=aAW;rw[e];simp[jN]
 .obtain⟨p,e⟩:=aAX;rw[e];simp[jN]
 .obtain⟨p,e⟩:=aAY;rw[e];simp[Region.binds,jN,vT]
 .obtain⟨p,e⟩:=aAZ;rw[e];simp[Region.binds,jN];cases L 0<;>cases L 1<;>simp[vT]
 .obtain⟨p,e⟩:=aA0;rw[e];simp[Region.binds,jN];cases L 5<;>cases L 6<;>simp[vT]
def ae6(d:listed.size=8) :i∈Region.ready .any aW listed↔i<8/\listed.getD i false=false/\jN (λj=>listed.getD j false) i=true:=by
 unfold Region.ready;rw[sG,qr,am9];constructor
 .rintro⟨b,a⟩;rw[ana (λj=>listed.getD j false) b] at a;simp only[ff,vk] at a;refine⟨b, ?_,a.2⟩;have:=a.1;rw[gE,fi (by omega)] at this ⊢;exact this
 .rintro⟨b,a,c⟩;refine⟨b, ?_⟩;rw[ana (λj=>listed.getD j false) b,c];rw[gE,fi (by omega)] at a ⊢;simp only[qo] at a ⊢;rw[a];rfl
def unW(listed:Array Bool):Nat:=(List.range 8).countP λi=>!listed.getD i false
def age{p q:Nat->Bool}:∀{l:List Nat} {x:Nat},(∀y,q y=true->p y=true)->x∈l->p x=true->q x=false->l.countP q<l.countP p
 |[],x,_,b,_,_=>by cases b
 |a::l,x,h,b,hp,hq=>by
  rw[List.countP_cons,List.countP_cons];have e:l.countP q<=l.countP p:=List.countP_mono_left λy _=>h y;rcases oE.1 b with rfl|b
  .rw[hp,hq];simp;omega
  .have:=age h b hp hq;have f:=h a;cases d:q a<;>cases c:p a<;>simp_all<;>omega
def iC(hi:i<listed.size):(listed.setIfInBounds i true).getD j false=if j=i then true else listed.getD j false:=by
 rw[gE,gE,mT];by_cases e:i=j
 .subst e;simp[hi]
 .rw[bv e,bv (λx=>e x.symm)]
def auQ(b:listed.size=8)(hi:i<8)(h:listed.getD i false=false):unW (listed.setIfInBounds i true)<unW listed:=by
 refine age (x:=i) (λy a=> ?_) (qr.2 hi) (by rw[h];rfl) (by rw[iC (by omega)];simp);rw[iC (by omega)] at a;by_cases e:y=i
 .simp[e] at a
 .simpa[e] using a
def aA1(m:listed.size=8)(h:Region.ready .any aW listed=[]\/unW listed=0):∀i,i<8->listed.getD i false=true:=by
 rcases h with h|h
 .have a:∀i,i<8->jN (λj=>listed.getD j false) i=true->listed.getD i false=true:=λi b hd=>by
   cases e:listed.getD i false with
   |true=>rfl
   |false=>
    have:i∈Region.ready .any aW listed:=(ae6 m).2 ⟨b,e,hd⟩;rw[h] at this;cases this
  have g:=a 0 (by omega) rfl;have k:=a 1 (by omega) rfl;have c:=a 2 (by omega) rfl;have d:=a 3 (by omega) rfl;have f:=a 4 (by omega) rfl;have l:=a 5 (by omega) (by simp only[jN,c,d,f];rfl);have n:=a 6 (by omega) (by simp only[jN,g,k,c,d,f,l];rfl);have o:=a 7 (by omega) (by simp only[jN,g,k,c,d,f,l,n];rfl);intro i b;have:i=0\/i=1\/i=2\/i=3\/i=4\/i=5\/i=6\/i=7:=by omega
  rcases this with rfl|rfl|rfl|rfl|rfl|rfl|rfl|rfl<;>assumption
 .intro i b;have:=List.countP_eq_zero.1 h i (qr.2 b);simpa using this
end
section
open Go Go.Conc Go.ConcN Go.RowKit
open Go.ConcR (KK wgBlock WgAt stA smA rd wr mk Payload DC0)
def Wx.cap(X:Wx):Nat->Value
 |1=>.pointer (some ⟨X.bk,0,none⟩)
 |2=>.pointer (some ⟨X.bp,0,none⟩)
 |3=>.pointer (some ⟨X.bn,0,none⟩)
 |4=>.pointer (some ⟨X.ba,0,none⟩)
 |_=>.pointer (some ⟨X.bi,0,none⟩)
def Wx.val(X:Wx)(v:ByteArray×Bool):Nat->Value
 |0=>.slice (some ⟨X.C,0,none⟩) X.n2 X.n2
 |1=>.int .i64 X.κ
 |2=>.int .i64 X.key
 |3=>.slice X.A X.n X.c
 |4=>.int .i64 X.nm
 |5=>.agg #[.string v.1,.bool v.2]
 |_=>.pointer (some ⟨X.C,2*X.κ,none⟩)
abbrev FW(dd:Deferred)(T:Array Value)(k:List Item):Frame:=⟨nCl,T,k,[dd],.run,.deferred,none⟩
structure RI (X:Wx) (v:ByteArray×Bool) (listed:Array Bool) (T:Array Value) (S:au) (w:World):Prop where
 sz:T.size=13
 cap:∀t,1<=t->t<=5->T.getD t undef=X.cap t
 done:∀j,j<7->listed.getD j false=true->T.getD (6+j) undef=X.val v j
 st:listed.getD 7 false=true->Has X.C (2*X.κ) (.string v.1) w/\Has X.C (2*X.κ+1) (.bool v.2) w
 ord:listed.getD 7 false=true->∀j,j<7->listed.getD j false=true
 inv:X.Inv S w
section
variable {P:Program} {m:Bool} {fr:Frame} {xs base:List Frame} {ops:Array Oper} {i:Nat} {rest:List Nat} {k:List Item} {o:Oper} {w w2:World} {es:Array Event} {v:Value}
def ar9 (f:fr.mode=.run) (g:(fr.kind ==.early)=false) (b:fr.roundOf=none) (e:fr.todo=.inRegion ops (i::rest)::k) (n:ops[i]?=some o) (q:o.guard=none)
  (p:(execOp fr.eval o).runT P w #[]=(.ok (.value v) w2,es)):stepG P m (Gl (fr::xs) base) w=.go (Gl (fr.finish v::xs) base) w2 (seen P fr.fn es):=by
 obtain⟨fn,a,j,d,t,c,s⟩:=fr;dsimp only at f g b e;subst f b e;have l:∀y,Region.wanted o y=true:=λy=>by unfold Region.wanted;rw[q]
 have r:stepG P m (Gl (⟨fn,a,.inRegion ops (i::rest)::k,d,.run,c,none⟩::xs) base) w =
   stepG.apply P true ⟨fn,a,.inRegion ops (i::rest)::k,d,.run,c,none⟩ (xs++base) none (execOp (Frame.eval ⟨fn,a,.inRegion ops (i::rest)::k,d,.run,c,none⟩) o) w:=by
  simp[Gl,stepG,stepG.exec,stepG.oper,Frame.oper?,n,l]
 rw[r];unfold stepG.apply;simp only[p,pr];simp[GStep.after,g,Gl]
def ajt (f:fr.mode=.run) (g:(fr.kind ==.early)=false) (b:fr.roundOf=none) (e:fr.todo=.inRegion ops (i::rest)::k) (n:ops[i]?=some o) (q:o.guard=none)
  (p:(execOp fr.eval o).runT P w #[]=(.ok .skip w2,es)):stepG P m (Gl (fr::xs) base) w=.go (Gl (fr.finish undef::xs) base) w2 (seen P fr.fn es):=by
 obtain⟨fn,a,j,d,t,c,s⟩:=fr;dsimp only at f g b e;subst f b e;have l:∀y,Region.wanted o y=true:=λy=>by unfold Region.wanted;rw[q]
 have r:stepG P m (Gl (⟨fn,a,.inRegion ops (i::rest)::k,d,.run,c,none⟩::xs) base) w =
   stepG.apply P true ⟨fn,a,.inRegion ops (i::rest)::k,d,.run,c,none⟩ (xs++base) none (execOp (Frame.eval ⟨fn,a,.inRegion ops (i::rest)::k,d,.run,c,none⟩) o) w:=by
  simp[Gl,stepG,stepG.exec,stepG.oper,Frame.oper?,n,l]
 rw[r];unfold stepG.apply;simp only[p,pr];simp[GStep.after,g,Gl]
end
noncomputable def eY:Frame:={(default:Frame) with fn:=prog.funcs.size,defers:=[],mode:=.panicking [goexitEntry]}
section
variable {X:Wx} {v:ByteArray×Bool} {listed:Array Bool} {T T':Array Value} {S:au} {w w1:World} {dd:Deferred} {k:List Item} {rest:List Nat}
def acg(h:Has X.C (2*X.κ) (.string v.1) w/\Has X.C (2*X.κ+1) (.bool v.2) w)(a:X.Rl S w w1):Has X.C (2*X.κ) (.string v.1) w1/\Has X.C (2*X.κ+1) (.bool v.2) w1:=
 ⟨(a.cell (2*X.κ) (by show 2*X.κ / 2=X.κ;omega)).trans h.1,(a.cell (2*X.κ+1) (by show(2*X.κ+1) / 2=X.κ;omega)).trans h.2⟩
def RI.rely(h:RI X v listed T S w)(a:X.Rl S w w1):RI X v listed T S w1:=⟨h.sz,h.cap,h.done,λe=>acg (h.st e) a,h.ord,h.inv.rely a⟩
def RI.put(h:RI X v listed T S w)(k:listed.size=8)(hi:i<7)(b:Tm [6+i] T T')(d:T'.getD (6+i) undef=X.val v i):RI X v (listed.setIfInBounds i true) T' S w:=by
 refine⟨b.size.trans h.sz,λt f g=>(b.same t (by simp;omega)).trans (h.cap t f g),λj c e=> ?_,λe=> ?_,λe j c=> ?_,h.inv⟩
 .by_cases a:j=i
  .subst a;exact d
  .rw[iC (by omega),bv a] at e;exact(b.same (6+j) (by simp;omega)).trans (h.done j c e)
 .rw[iC (by omega),bv (by omega)] at e;exact h.st e
 .rw[iC (by omega),bv (by omega)] at e;rw[iC (by omega)];by_cases a:j=i
  .rw[dq a]
  .rw[bv a];exact h.ord e j c
def asa(hi:X.Inv S w)(g:X.Ok)(c:X.R b):X.Gr S S w w (seen prog f #[⟨.cell ⟨b,0,none⟩,false,false⟩]):=by
 refine⟨λ_ _ _ _=>rfl,am _,rfl,id,λ_ _=>rfl,λ_ h=>h,λ_ h=>.inl h,λe i=> ?_⟩;have a:=sT i;simp only[so,oE,rz,tQ] at a;subst a;refine⟨λx d=>.inr (.inr ?_),(λe=>by cases e),(λe=>by cases e),(λe=>by cases e), ?_⟩
 .simp[MemAct.ofEvent,MemAct.touch?] at d;rw[<-d];exact⟨c,rfl⟩
 .exact bd (g.rlt b c) hi.sz
def aju :X.Gr S S w w (seen prog f #[]):=
 ⟨λ_ _ _ _=>rfl,am _,rfl,id,λ_ _=>rfl,λ_ h=>h,λ_ h=>.inl h,λe a=>by cases(by simpa using sT a:False)⟩
def ajv{x:Operand}{d:TypeDesc}{A:Addr}{dst:Option Tmp}{pos:String}(b:P.underlying t=some d)(a:aiF d=true)(c:e x=.pointer (some A))(f:w.cell? A=some u) :
  (execOp e ⟨dst,.load t x,ty,pos,af,gd⟩).runT P w #[]=(.ok (.value u) w,#[⟨.cell A,false,false⟩]):=by
 cases d<;>first|(cases a;done)|simp[execOp,c,Instr.loadAt,Instr.sureAddr,loadVar,isAgg,me b,f]
def ach (n:X.Ok) (h:RI X v listed T S w) {t ty : Nat} {d:TypeDesc} (hi:i<5) (a:∃p,aW[i]?=some ⟨some (6+i),.load ty (.tmp t),ty,p,#[],none⟩) (q:prog.underlying ty=some d) (l:aiF d=true)
  (c:T.getD t undef=.pointer (some ⟨b,0,none⟩)) (e:X.R b/\X.w0.cell? ⟨b,0,none⟩=some (X.val v i))
  (K:∀T' g,RI X v listed T S g->Tm [6+i] T T'->T'.getD (6+i) undef=X.val v i->bI prog false X.Rl X.Gr Stop S (Gl [FW dd T' (.inRegion aW rest::k)] [eY]) g) :
  bI prog false X.Rl X.Gr Stop S (Gl [FW dd T (.inRegion aW (i::rest)::k)] [eY]) w:=by
 obtain⟨p,a⟩:=a;refine .step rfl λw1 o=> ?_;have f:=h.rely o;refine⟨_,w1,_,S,ar9 (xs:=[]) (base:=[eY]) rfl rfl rfl rfl a rfl (ajv q l (x:=.tmp t) (A:=⟨b,0,none⟩) c (f.inv.cell e.1 e.2)),asa f.inv n e.1, ?_⟩;have m:Frame.finish (FW dd T (.inRegion aW (i::rest)::k)) (X.val v i)=FW dd (T.setIfInBounds (6+i) (X.val v i)) (.inRegion aW rest::k):=by
  simp only[Frame.finish,a,qG]
 rw[m];have j:6+i<T.size:=by rw[h.sz];omega
 exact K _ w1 f (.one (by simp) λt c=>by rw[aH j,bv c]) (by rw[aH j,dq rfl])
def asb(F:FaT P){x : Operand}{a:Addr}{dst:Option Tmp}{pos:String}(f:e x=.slice (some a) n c)(b:e y=.int .i64 j)(g:j<n) :
  (execOp e ⟨dst,.indexAddr 111 x y,ty,pos,af,gd⟩).runT P w #[]=(.ok (.value (.pointer (some (a.add (j*2))))) w,#[]):=by
 obtain⟨i,d,k, -⟩:=F.adw;simp[execOp,f,b,Instr.indexAt,asIntOf,me F.ag5,g,sizeOf,typeInfo,d,k]
def ase (e:X.Ok) (h:RI X v listed T S w) (g:listed.getD 0 false=true) (l:listed.getD 1 false=true)
  (K:∀T' b,RI X v listed T S b->Tm [6+6] T T'->T'.getD (6+6) undef=X.val v 6->bI prog false X.Rl X.Gr Stop S (Gl [FW dd T' (.inRegion aW rest::k)] [eY]) b) :
  bI prog false X.Rl X.Gr Stop S (Gl [FW dd T (.inRegion aW (6::rest)::k)] [eY]) w:=by
 obtain⟨p,a⟩:=aAZ;refine .step rfl λw1 f=> ?_;refine⟨_,w1,_,S,ar9 (xs:=[]) (base:=[eY]) rfl rfl rfl rfl a rfl (asb faT (x:=.tmp 6) (y:=.tmp 7) (h.done 0 (by omega) g) (h.done 1 (by omega) l) e.kn),aju, ?_⟩;have j:(⟨X.C,0,none⟩:Addr).add (X.κ*2)=⟨X.C,2*X.κ,none⟩:=by rw[iT,mc,tC]
 rw[j];have d:Frame.finish (FW dd T (.inRegion aW (6::rest)::k)) (X.val v 6)=FW dd (T.setIfInBounds 12 (X.val v 6)) (.inRegion aW rest::k):=by
  simp only[Frame.finish,a,qG]
 have c:12<T.size:=by rw[h.sz];omega
 have:=K (T.setIfInBounds 12 (X.val v 6)) w1 (h.rely f) (.one (by simp) λt i=>by rw[aH c,bv i]) (by rw[aH c,dq rfl]);rw[<-d] at this;exact this
end
end
section
open Go Go.Conc Go.ConcN Go.RowKit
open Go.ConcR (KK wgBlock WgAt stA smA rd wr mk Payload DC0)
def ahx{args:Array Value} :(callFunc 69 args).runT prog w #[]=(.ok (.enter 69 args) w,#[]):=by
 have a:=cB func69;have c:¬f69.name= "runtime.NumGoroutine" :=by simpa using a
 have b:¬f69.body=none:=λe=>by have:=ae4;rw[e] at this;cases this
 unfold callFunc;simp[func69,c,b]
def ajw {m:Bool} {base : List Frame}     {w2 : World}  {args:Array Value} (j:fr.mode=.run) (l:(fr.kind ==.early)=false) (b:fr.roundOf=none) (g:fr.todo=.inRegion X (i::rest)::k) (p:X[i]?=some o) (r:o.guard=none)
  (q:(execOp fr.eval o).runT P w #[]=(.ok (.enter f args) w2,es)):stepG P m (Gl (fr::xs) base) w=.go (Gl (Frame.enter P f args .normal::fr::xs) base) w2 (seen P fr.fn es):=by
 obtain⟨fn,a,e,d,u,c,t⟩:=fr;dsimp only at j l b g;subst j b g;have n:∀y,Region.wanted o y=true:=λy=>by unfold Region.wanted;rw[r]
 have s:stepG P m (Gl (⟨fn,a,.inRegion X (i::rest)::k,d,.run,c,none⟩::xs) base) w =
   stepG.apply P true ⟨fn,a,.inRegion X (i::rest)::k,d,.run,c,none⟩ (xs++base) none (execOp (Frame.eval ⟨fn,a,.inRegion X (i::rest)::k,d,.run,c,none⟩) o) w:=by
  simp[Gl,stepG,stepG.exec,stepG.oper,Frame.oper?,p,n]
 rw[s];unfold stepG.apply;simp only[q,pr];simp[GStep.after,l,Gl]
section
variable {X:Wx} {v:ByteArray×Bool} {listed:Array Bool} {T T':Array Value} {S:au} {w w1:World} {dd:Deferred} {k:List Item} {rest:List Nat}
def auR(a:X.Ok)(q:eF Z)(j:∀d nm,Z d [] nm=(⟨#[]⟩,false))(hi:X.Inv S w) :
  bI prog false X.Rl X.Gr (λn g w1=>g=⟨cfr.finish (.agg #[.string (Z X.key X.l X.nm).1,.bool (Z X.key X.l X.nm).2]),[eY],.running,none,none⟩/\X.Inv n w1) S
   (Gl (Frame.enter prog 69 #[.int .i64 X.key,.slice X.A X.n X.c,.int .i64 X.nm] .normal::[]) [cfr,eY]) w:=by
 by_cases k:X.n=0
 .have l:X.l=[]:=by have:=a.hl;rw[k] at this;exact qT.1 this
  rw[l,j,k];exact Wx.lift a (auO X.mG) hi
 .have m:∀(A:Addr) (u:Value),X.w0.cell? A=some u->X.Rg A.block->plV (λb=>X.Rg b/\et X.w0 b) u->w.cell? A=some u:=λA u o p _=>(fY (hi.r _ (a.rows _ p))).trans o;exact Wx.lift a (arZ (Rg:=X.Rg) q (ap a.hN hi.sz) (λg i=>by
   obtain⟨c,t,z,e⟩:=a.gr g i;exact⟨a.gl g i,c,t,z,(hi.r g (a.rows g (a.gl g i))).trans e⟩) a.k1 a.k2 a.hl a.hc a.hcm (a.rd.mask a.rgp a.al m) (a.rgp.move a.al λb f=>hi.r b (a.rows b f)) a.al (by omega) a.nm X.mG (λb f=>a.rows b f.1)) hi
def asf (B:X.Ok) (x:eF Z) (a:∀b nm,Z b [] nm=(⟨#[]⟩,false)) (h:RI X (Z X.key X.l X.nm) listed T S w) (f:listed.getD 5 false=false) (n:listed.getD 2 false=true) (D:listed.getD 3 false=true) (q:listed.getD 4 false=true)
  (K:∀T' l d,RI X (Z X.key X.l X.nm) listed T l d->Tm [6+5] T T'->T'.getD (6+5) undef=X.val (Z X.key X.l X.nm) 5->bI prog false X.Rl X.Gr Stop l (Gl [FW dd T' (.inRegion aW rest::k)] [eY]) d) :
  bI prog false X.Rl X.Gr Stop S (Gl [FW dd T (.inRegion aW (5::rest)::k)] [eY]) w:=by
 obtain⟨p,j⟩:=aAY;refine .step rfl λw1 C=> ?_;have r:=h.rely C;have m:∀w,(execOp (Frame.eval (FW dd T (.inRegion aW (5::rest)::k))) ⟨some 11,.call ⟨.value (.func 69),#[.tmp 8,.tmp 9,.tmp 10],#[3,23,3]⟩,124,p,#[⟨2,.data⟩,⟨3,.data⟩,⟨4,.data⟩],none⟩).runT prog w #[]=(.ok (.enter 69 #[.int .i64 X.key,.slice X.A X.n X.c,.int .i64 X.nm]) w,#[]):=λw=>by
  have E:Array.map (Frame.eval (FW dd T (.inRegion aW (5::rest)::k))) #[.tmp 8,.tmp 9,.tmp 10]=#[.int .i64 X.key,.slice X.A X.n X.c,.int .i64 X.nm]:=by
   have G:T.getD 8 undef=.int .i64 X.key:=h.done 2 (by omega) n;have v:T.getD 9 undef=.slice X.A X.n X.c:=h.done 3 (by omega) D;have y:T.getD 10 undef=.int .i64 X.nm:=h.done 4 (by omega) q;rw[<-G,<-v,<-y];simp[Frame.eval]
  have F:execOp (Frame.eval (FW dd T (.inRegion aW (5::rest)::k))) ⟨some 11,.call ⟨.value (.func 69),#[.tmp 8,.tmp 9,.tmp 10],#[3,23,3]⟩,124,p,#[⟨2,.data⟩,⟨3,.data⟩,⟨4,.data⟩],none⟩=callFunc 69 #[.int .i64 X.key,.slice X.A X.n X.c,.int .i64 X.nm]:=by
   simp only[execOp,resolve];rw[E];simp[Deferred.ofValue,invoke,Frame.eval];try rfl
  exact(jn (λs=>Sem.runT prog s w #[]) F).trans ahx
 refine⟨_,w1,_,S,ajw (xs:=[]) (base:=[eY]) rfl rfl rfl rfl j rfl (m w1),aju, ?_⟩;refine bI.bind X.mG.fK X.mG.tr (auR B x a r.inv (cfr:=FW dd T (.inRegion aW (5::rest)::k))) λz g H ⟨hg,ji⟩=> ?_;subst hg;have i:11<T.size:=by rw[h.sz];omega
 have A:Frame.finish (FW dd T (.inRegion aW (5::rest)::k)) (X.val (Z X.key X.l X.nm) 5)=FW dd (T.setIfInBounds 11 (X.val (Z X.key X.l X.nm) 5)) (.inRegion aW rest::k):=by
  simp only[Frame.finish,j,qG]
 have u:listed.getD 7 false=false:=by
  cases e:listed.getD 7 false with
  |false=>rfl
  |true=>rw[h.ord e 5 (by omega)] at f;cases f
 have:=K (T.setIfInBounds 11 (X.val (Z X.key X.l X.nm) 5)) z H ⟨h.sz,h.cap,h.done,λe=>(by rw[u] at e;cases e),h.ord,ji⟩ (.one (by simp) λt o=>by rw[aH i,bv o]) (by rw[aH i,dq rfl]);rw[<-A] at this;exact this
end
end
section
open Go Go.Conc Go.ConcN Go.RowKit
open Go.ConcR (KK wgBlock WgAt stA smA rd wr mk Payload DC0)
section
variable {X:Wx} {v:ByteArray×Bool} {listed:Array Bool} {T T':Array Value} {S:au} {w w1:World} {dd:Deferred} {k:List Item} {rest:List Nat}
def aoY (B:X.Ok) (h:RI X v listed T S w) (M:listed.getD 5 false=true) (U:listed.getD 6 false=true)
  (K:∀s,X.Inv S s->(Has X.C (2*X.κ) (.string v.1) s/\Has X.C (2*X.κ+1) (.bool v.2) s)->bI prog false X.Rl X.Gr Stop S (Gl [FW dd T (.inRegion aW rest::k)] [eY]) s) :
  bI prog false X.Rl X.Gr Stop S (Gl [FW dd T (.inRegion aW (7::rest)::k)] [eY]) w:=by
 obtain⟨p,F⟩:=aA0;refine .step rfl λw1 Q=> ?_;have E:=h.rely Q;obtain⟨t,g,H⟩:=E.inv.pay;have g:w1.heap[X.C]?=some (.cells t 124 (0,0)):=g;have L:=B.kn;obtain⟨u0,C⟩:∃u,t[2*X.κ]?=some u:=⟨_,fi (by omega)⟩;obtain⟨u1,z⟩:∃u,t[2*X.κ+1]?=some u:=⟨_,fi (by omega)⟩;have D:(⟨X.C,2*X.κ,none⟩:Addr).add 1=⟨X.C,2*X.κ+1,none⟩:=iT _ _ _;have q:=agc faT (w:=w1) (e:=Frame.eval (FW dd T (.inRegion aW (7::rest)::k))) (x:=.tmp 12) (y:=.tmp 11) (dst:=none) (ty:=0) (pos:=p) (af:=#[⟨6,.data⟩,⟨5,.data⟩,⟨5,.chain⟩,⟨0,.phase⟩,⟨1,.phase⟩,⟨2,.phase⟩,⟨3,.phase⟩,⟨4,.phase⟩,⟨5,.phase⟩]) (gd:=none) (A:=⟨X.C,2*X.κ,none⟩) (u0:=.string v.1) (u1:=.bool v.2) rfl rfl
  (h.done 6 (by omega) U) (h.done 5 (by omega) M) ((eO g).trans C) (im g) (by rw[D];exact(eO g).trans z) (by rw[D];exact im g)
 rw[D] at q;have a:((w1.setCell ⟨X.C,2*X.κ,none⟩ (.string v.1)).setCell ⟨X.C,2*X.κ+1,none⟩ (.bool v.2)).heap[X.C]?=some (.cells ((t.setIfInBounds (2*X.κ) (.string v.1)).setIfInBounds (2*X.κ+1) (.bool v.2)) 124 (0,0)):=setRow (setRow g);have c:((w1.setCell ⟨X.C,2*X.κ,none⟩ (.string v.1)).setCell ⟨X.C,2*X.κ+1,none⟩ (.bool v.2)).heap.size=w1.heap.size:=by rw[be,be]
 have d:∀b,b≠X.C->((w1.setCell ⟨X.C,2*X.κ,none⟩ (.string v.1)).setCell ⟨X.C,2*X.κ+1,none⟩ (.bool v.2)).heap[b]?=w1.heap[b]?:=λb j=>by
  rw[bj _ _ _ (λe=>j e.symm),bj _ _ _ (λe=>j e.symm)]
 have n:((w1.setCell ⟨X.C,2*X.κ,none⟩ (.string v.1)).setCell ⟨X.C,2*X.κ+1,none⟩ (.bool v.2)).ou=w1.ou:=rfl;have l:=ajt (m:=false) (xs:=[]) (base:=[eY]) (k:=k) (fr:=FW dd T (.inRegion aW (7::rest)::k)) rfl rfl rfl rfl F rfl q;generalize ((w1.setCell ⟨X.C,2*X.κ,none⟩ (.string v.1)).setCell ⟨X.C,2*X.κ+1,none⟩ (.bool v.2))=w2 at a c d n l;have O:Frame.finish (FW dd T (.inRegion aW (7::rest)::k)) undef=FW dd T (.inRegion aW rest::k):=by
  simp only[Frame.finish,F,qG]
 rw[O] at l;have f:=E.inv;have o:X.Inv S w2:=by
  refine⟨λb j=>(d b (λe=>B.rC (e▸j))).trans (f.r b j),f.s,by rw[c];exact f.c,by rw[c];exact f.wg,by rw[c];exact f.sz, ?_,⟨_,a,by simpa using H⟩,n.trans f.os⟩;obtain⟨R,sm,P⟩:=f.live;exact⟨R,sm,(d X.Wg (λe=>B.cW e.symm)).trans P⟩
 refine⟨_,w2,_,S,l,⟨λb _ _ j=>d b j,oS c.symm,n,λ_=>⟨_,a,by simpa using H⟩,λi I=> ?_,λ_ h=>h,λ_ h=>.inl h,λe V=> ?_⟩,K w2 o ⟨?_, ?_⟩⟩
 .have N:i≠2*X.κ:=λe=>I (by show i / 2=X.κ;omega);have W:i≠2*X.κ+1:=λe=>I (by show i / 2=X.κ;omega);rw[eO a,eO g,jp (λe=>W e.symm),jp (λe=>N e.symm)]
 .have G:=sT V;simp only[so,oE,rz,tQ] at G;have J:X.C<w2.heap.size:=by rw[c];exact f.c
  rcases G with rfl|rfl
  .refine⟨λx r=>.inr (.inl ⟨⟨X.C,2*X.κ,none⟩, ?_,rfl, ?_⟩),(λe=>by cases e),(λe=>by cases e),(λe=>by cases e),J⟩
   .simp[MemAct.ofEvent,MemAct.touch?] at r;rw[<-r]
   .show 2*X.κ / 2=X.κ;omega
  .refine⟨λx r=>.inr (.inl ⟨⟨X.C,2*X.κ+1,none⟩, ?_,rfl, ?_⟩),(λe=>by cases e),(λe=>by cases e),(λe=>by cases e),J⟩
   .simp[MemAct.ofEvent,MemAct.touch?] at r;rw[<-r]
   .show(2*X.κ+1) / 2=X.κ;omega
 .show w2.cell? ⟨X.C,2*X.κ,none⟩=_;rw[eO a,jp (by omega),qb (by omega)]
 .show w2.cell? ⟨X.C,2*X.κ+1,none⟩=_;rw[eO a,qb (by simp;omega)]
def awa(X:Wx)(v:ByteArray×Bool)(dd:Deferred)(k:List Item):au->Goroutine->World->Prop:=λS g w=>∃T,g=Gl [FW dd T (.inRegion aW []::k)] [eY]/\T.size=13/\X.Inv S w/\Has X.C (2*X.κ) (.string v.1) w/\Has X.C (2*X.κ+1) (.bool v.2) w
def agf(c:X.Ok){o:Int->List iD->Int->ByteArray×Bool}(B:eF o)(p:∀v nm,o v [] nm=(⟨#[]⟩,false)):∀(fuel t:Nat) (listed:Array Bool) (T:Array Value) (S:au) (w:World),listed.size=8->unW listed<=fuel->RI X (o X.key X.l X.nm) listed T S w->
  bI prog false X.Rl X.Gr (awa X (o X.key X.l X.nm) dd k) S (Gl [FW dd T (.inRegion aW (Region.linearise.go .any aW fuel t listed [])::k)] [eY]) w
 |0,t,listed,T,S,w,d,hf,h=>by
  have l:=aA1 d (.inr (by omega));exact .stop λw1 m=>⟨T,rfl,h.sz,h.inv.rely m,acg (h.st (l 7 (by omega))) m⟩
 |fuel+1,t,listed,T,S,w,d,hf,h=>by
  simp only[Region.linearise.go];change bI _ _ _ _ _ S (Gl [FW dd T (.inRegion aW (match(Region.ready .any aW listed)[t % (Region.ready .any aW listed).length]? with
   |some i=>Region.linearise.go .any aW fuel (t / (Region.ready .any aW listed).length) (listed.setIfInBounds i true) [i]
   |none=>[].reverse)::k)] [eY]) w
  cases A:(Region.ready .any aW listed)[t % (Region.ready .any aW listed).length]? with
  |none=>
   have q:Region.ready .any aW listed=[]:=by
    cases m:Region.ready .any aW listed with
    |nil=>rfl
    |cons x D=>
     rw[m] at A;have r:t % (x::D).length<(x::D).length:=tI _ (by simp);simp at A;simp at r;omega
   have l:=aA1 d (.inl q);exact .stop λw1 m=>⟨T,rfl,h.sz,h.inv.rely m,acg (h.st (l 7 (by omega))) m⟩
  |some i=>
   simp only[];rw[linearise_go_acc,List.reverse_singleton,List.singleton_append];obtain⟨z,C,hd⟩:=(ae6 d).1 (db A);have F:=auQ d z C;have s:(listed.setIfInBounds i true).size=8:=by simpa using d
   have next:∀T' n a,RI X (o X.key X.l X.nm) (listed.setIfInBounds i true) T' n a->bI prog false X.Rl X.Gr (awa X (o X.key X.l X.nm) dd k) n (Gl [FW dd T' (.inRegion aW (Region.linearise.go .any aW fuel (t / (Region.ready .any aW listed).length) (listed.setIfInBounds i true) [])::k)] [eY]) a:=
    λT' n a b=>agf c B p fuel _ _ T' n a s (by omega) b
   generalize Region.linearise.go .any aW fuel (t / (Region.ready .any aW listed).length) (listed.setIfInBounds i true) []=rest at next ⊢
   have:i=0\/i=1\/i=2\/i=3\/i=4\/i=5\/i=6\/i=7:=by omega
   rcases this with rfl|rfl|rfl|rfl|rfl|rfl|rfl|rfl
   .exact ach c h (by omega) aAT faT.ag5 rfl (h.cap 4 (by omega) (by omega)) c.ra λT' a b f g=>next T' S a (b.put d (by omega) f g)
   .exact ach c h (by omega) aAU faT.u3 rfl (h.cap 5 (by omega) (by omega)) c.ri λT' a b f g=>next T' S a (b.put d (by omega) f g)
   .exact ach c h (by omega) aAV faT.u3 rfl (h.cap 1 (by omega) (by omega)) c.rk λT' a b f g=>next T' S a (b.put d (by omega) f g)
   .exact ach c h (by omega) aAW faT.u23 rfl (h.cap 2 (by omega) (by omega)) c.rp λT' a b f g=>next T' S a (b.put d (by omega) f g)
   .exact ach c h (by omega) aAX faT.u3 rfl (h.cap 3 (by omega) (by omega)) c.rn λT' a b f g=>next T' S a (b.put d (by omega) f g)
   .simp only[jN,ff] at hd;exact asf c B p h C hd.1.1 hd.1.2 hd.2 λT' n a b f g=>next T' n a (b.put d (by omega) f g)
   .simp only[jN,ff] at hd;exact ase c h hd.1.1.1.1.1 hd.1.1.1.1.2 λT' a b f g=>next T' S a (b.put d (by omega) f g)
   .simp only[jN,ff] at hd;refine aoY c h hd.1.1.1.1.1.2 hd.1.1.1.1.1.1 λa u y=>next T S a ⟨h.sz,h.cap,λj E e=> ?_,λ_=>y,λ_ j E=> ?_,u⟩
    .rw[iC (by omega),bv (by omega)] at e;exact h.done j E e
    .rw[iC (by omega),bv (by omega)];have:j=0\/j=1\/j=2\/j=3\/j=4\/j=5\/j=6:=by omega
     rcases this with rfl|rfl|rfl|rfl|rfl|rfl|rfl
     .exact hd.1.1.1.1.2
     .exact hd.1.1.1.2
     .exact hd.1.1.2
     .exact hd.1.2
     .exact hd.2
     .exact hd.1.1.1.1.1.2
     .exact hd.1.1.1.1.1.1
end
end
section
open Go Go.Conc Go.ConcN Go.RowKit Go.Conc.Lib Go.ConcR.Gen Go.ConcN.Gen
open Go.ConcR (KK wgBlock WgAt stA smA rd wr mk Payload DC0)
section
variable {X:Wx} {v:ByteArray×Bool} {T:Array Value} {S:au} {w w1:World} {dd:Deferred} {k:List Item} {Stop:au->Goroutine->World->Prop}
def aci {fr2 : Frame} {es:World->Array Event} {g:World->World} (hi:X.Inv S w) (p:∀w,X.Inv S w->stepG prog false (Gl [fr] [eY]) w=.go (Gl [fr2] [eY]) (g w) (es w)) (q:∀w,(g w).heap=w.heap/\(g w).ou=w.ou) (s:∀w,X.Inv S w->∀e∈es w,False)
  (K:∀k,X.Inv S k->bI prog false X.Rl X.Gr Stop S (Gl [fr2] [eY]) k):bI prog false X.Rl X.Gr Stop S (Gl [fr] [eY]) w:=by
 refine .step rfl λw1 n=> ?_;have d:=hi.rely n;obtain⟨c,l⟩:=q w1;have f:∀a,(g w1).cell? a=w1.cell? a:=λa=>by unfold World.cell?;rw[c]
 refine⟨_,g w1,_,S,p w1 d,⟨λb _ _ _=>by rw[c],oS (by rw[c]),l,λ⟨j,a,b⟩=>⟨j,by rw[c];exact a,b⟩,λi _=>f _,λ_ h=>h,λ_ h=>.inl h,λe h=>(s w1 d e h).elim⟩,K _ ⟨λb o=>by rw[c];exact d.r b o,d.s,by rw[c];exact d.c,by rw[c];exact d.wg,by rw[c];exact d.sz, ?_, ?_,l.trans d.os⟩⟩
 .obtain⟨r,sm,m⟩:=d.live;exact⟨r,sm,by unfold WgAt;rw[c];exact m⟩
 .obtain⟨j,a,b⟩:=d.pay;exact⟨j,by rw[c];exact a,b⟩
abbrev ddW(Wg:Nat):Deferred:=⟨.fn (.func eE.done) #[],#[.pointer (some ⟨Wg,0,none⟩)]⟩
def aCS:∃p,nX[0]?=some ⟨none,.defer ⟨.value (.func eE.done),#[.tmp 0],#[121]⟩,0,p,#[],none⟩:=⟨_,rfl⟩
def auS(T:Array Value):QuitsD prog 2 0 (G ⟨nCl,T,[],[],.returning,.deferred,none⟩ [eY]):=by
 refine QuitsD.ctl (g':=G eY []) rfl (λw=> ?_) ?_
 .have a:(results f67 T).runT prog w #[]=(.ok (.tuple #[]) w,#[]):=by
   have:f67.results=#[]:=rfl;simp[results,this]
  simp only[G,stepG,unwind,func67,a];simp[doReturn,GStep.after,seen,eY,goexitEntry]
 refine QuitsD.ctl (g':={G eY [] with status:=.finished}) rfl (λw=> ?_) ⟨rfl,rfl⟩;simp[G,stepG,unwind,eY,goexitEntry,Frame.catches];rfl
def acT {fr2 : Frame} {cs2 : List Frame} (hi:X.Inv S w) (c:Has X.C (2*X.κ) (.string v.1) w/\Has X.C (2*X.κ+1) (.bool v.2) w) {es:World->Array Event} (f:∀w,stepG prog false (G fr cs) w=.go (G fr2 cs2) w (es w)) (d:∀w,∀e∈es w,False)
  (K:∀a,X.Inv S a->Has X.C (2*X.κ) (.string v.1) a/\Has X.C (2*X.κ+1) (.bool v.2) a->bI prog false X.Rl X.Gr Stop S (G fr2 cs2) a):bI prog false X.Rl X.Gr Stop S (G fr cs) w:=by
 refine .step rfl λw1 b=> ?_;exact⟨_,w1,_,S,f w1,⟨λ_ _ _ _=>rfl,am _,rfl,id,λ_ _=>rfl,λ_ h=>h,λ_ h=>.inl h,λe h=>(d w1 e h).elim⟩,K w1 (hi.rely b) (acg c b)⟩
def abw  :∀e∈seen P f #[],False:=λe h=>by simpa using sT h
def ajx{args:Array Value} :(callFunc eE.done args).runT prog w #[]=(.ok (.enter eE.done args) w,#[]):=by
 have h:=aat.f_done;have b:¬(doneFn eE).name= "runtime.NumGoroutine" :=by decide
 have a:¬(doneFn eE).body=none:=λe=>by cases e
 unfold callFunc;simp[h,b,a]
def ax7(r:X.Ok)(k:X.tWg=eE.tWg){val:Nat->Value}(q:val (2*X.κ)=.string v.1)(p:val (2*X.κ+1)=.bool v.2)(hi:X.Inv S w)(o:Has X.C (2*X.κ) (.string v.1) w/\Has X.C (2*X.κ+1) (.bool v.2) w) :
  bI prog false X.Rl X.Gr (af0 prog X.tWg X.Wg X.C X.n2 val X.κ) S (G (FW (ddW X.Wg) T [.inRegion aW []]) [eY]) w:=by
 refine acT (fr2:=FW (ddW X.Wg) T []) (cs2:=[eY]) hi o (es:=λ_=>#[]) (λw=>by simp[G,stepG,stepG.exec]) (λ_ e h=>by simpa using h) λt m f=> ?_;refine acT (fr2:=⟨nCl,T,[],[ddW X.Wg],.returning,.deferred,none⟩) (cs2:=[eY]) m f (es:=λ_=>#[]) (λw=>by simp[G,stepG,stepG.exec]) (λ_ e h=>by simpa using h) λs g d=> ?_;have j:Frame.enter prog eE.done #[.pointer (some ⟨X.Wg,0,none⟩)] .deferred=(baseD eE.done).at ⟨#[.pointer (some ⟨X.Wg,0,none⟩),undef,undef,undef],[]⟩ [.code (body_done eE)]:=by
  unfold Frame.enter;rw[aat.f_done];rfl
 refine acT (fr2:=(baseD eE.done).at ⟨#[.pointer (some ⟨X.Wg,0,none⟩),undef,undef,undef],[]⟩ [.code (body_done eE)]) (cs2:=[⟨nCl,T,[],[],.returning,.deferred,none⟩,eY]) g d (es:=λw=>seen prog nCl #[]) (λw=> ?_) (λ_=>abw) λl i b=> ?_
 .have a:(invoke (ddW X.Wg).target (ddW X.Wg).args).runT prog w #[]=(.ok (.enter eE.done #[.pointer (some ⟨X.Wg,0,none⟩)]) w,#[]):=ajx;simp only[G,stepG,unwind,callDeferred,a,j];simp[GStep.after]
 .have:=aoX (κ:=X.κ) (n:=X.n2) (R:=X.R) (S:=S) (val:=val) (c:=⟨nCl,T,[],[],.returning,.deferred,none⟩) (cs:=[eY]) aat rfl (auS T) l (k▸i.live) (by rw[q];exact b.1) (by rw[p];exact b.2);rw[<-k] at this;exact this
end
end
section
open Go Go.Conc Go.ConcN Go.RowKit Go.Conc.Lib Go.ConcR.Gen Go.ConcN.Gen
open Go.ConcR (KK wgBlock WgAt stA smA rd wr mk Payload DC0)
abbrev Wx.dE(X:Wx):Array Value:=#[.pointer (some ⟨X.Wg,0,none⟩),.pointer (some ⟨X.bk,0,none⟩),.pointer (some ⟨X.bp,0,none⟩),.pointer (some ⟨X.bn,0,none⟩),.pointer (some ⟨X.ba,0,none⟩),.pointer (some ⟨X.bi,0,none⟩)]
abbrev FD(T:Array Value)(k:List Item):Frame:=⟨nCl,T,k,[],.run,.deferred,none⟩
def auT :Frame.enter prog nCl a .deferred=FD (a++Array.replicate (13-a.size) undef) [.code am8]:=by
 unfold Frame.enter;rw[func67];rfl
def ax8:prog.follows .mixedOrders=true:=by kernel_rfl
section
variable {X:Wx} {S:au} {w:World}
def ajy(ok:X.Ok)(hF:eF Z)(u:∀D nm,Z D [] nm=(⟨#[]⟩,false))(M:X.tWg=eE.tWg){val:Nat->Value}(v0:val (2*X.κ)=.string (Z X.key X.l X.nm).1)(P:val (2*X.κ+1)=.bool (Z X.key X.l X.nm).2)(hi:X.Inv S w) :
  bI prog false X.Rl X.Gr (af0 prog X.tWg X.Wg X.C X.n2 val X.κ) S (G (Frame.enter prog nCl X.dE .deferred) [eY]) w:=by
 rw[auT];obtain⟨T,hT,Q,g0,z⟩:∃T:Array Value,T=X.dE++Array.replicate (13-X.dE.size) undef/\T.size=13/\T.getD 0 undef=.pointer (some ⟨X.Wg,0,none⟩)/\∀t,1<=t->t<=5->T.getD t undef=X.cap t:=by
  refine⟨_,rfl,by simp, ?_,λt K m=> ?_⟩
  .rw[gE,rN (by simp)];rfl
  .rw[gE,rN (by simp;omega)];have:t=1\/t=2\/t=3\/t=4\/t=5:=by omega
   rcases this with rfl|rfl|rfl|rfl|rfl<;>rfl
 rw[<-hT];rw[ar8];refine aci (fr:=FD T [.code (.seq (.region 0 nX false) (.region 1 aW true))]) (fr2:=FD T [.code (.region 0 nX false),.code (.region 1 aW true)]) (g:=id) (es:=λ_=>#[]) hi (λw _=>by simp[Gl,stepG,stepG.exec]) (λ_=>⟨rfl,rfl⟩) (λ_ _ e h=>by simpa using h) λw1 K=> ?_;have x:List.range nX.size=[0]:=rfl;refine aci (fr2:=FD T [.inRegion nX [0],.code (.region 1 aW true)]) (g:=id) (es:=λ_=>#[]) K (λw _=>by simp[Gl,stepG,stepG.exec,x]) (λ_=>⟨rfl,rfl⟩) (λ_ _ e h=>by simpa using h) λw2 L=> ?_;obtain⟨p,I⟩:=aCS;refine aci (fr2:=FW (ddW X.Wg) T [.inRegion nX [],.code (.region 1 aW true)]) (g:=id) (es:=λ_=>seen prog nCl #[]) L (λw _=> ?_) (λ_=>⟨rfl,rfl⟩) (λ_ _=>abw) λw3 V=> ?_
 .have F:(execOp (Frame.eval (FD T [.inRegion nX [0],.code (.region 1 aW true)])) ⟨none,.defer ⟨.value (.func eE.done),#[.tmp 0],#[121]⟩,0,p,#[],none⟩).runT prog w #[]=(.ok (.defer (ddW X.Wg)) w,#[]):=by
   have hm:Array.map (Frame.eval (FD T [.inRegion nX [0],.code (.region 1 aW true)])) #[.tmp 0]=#[.pointer (some ⟨X.Wg,0,none⟩)]:=by
    rw[<-g0];simp[Frame.eval]
   simp only[execOp,resolve];rw[hm];simp[Deferred.ofValue,Frame.eval]
  have R:∀y,Region.wanted ⟨none,.defer ⟨.value (.func eE.done),#[.tmp 0],#[121]⟩,0,p,#[],none⟩ y=true:=λy=>rfl;have Y:stepG prog false (Gl [FD T [.inRegion nX [0],.code (.region 1 aW true)]] [eY]) w =
    stepG.apply prog true (FD T [.inRegion nX [0],.code (.region 1 aW true)]) [eY] none (execOp (Frame.eval (FD T [.inRegion nX [0],.code (.region 1 aW true)])) ⟨none,.defer ⟨.value (.func eE.done),#[.tmp 0],#[121]⟩,0,p,#[],none⟩) w:=by
   simp[Gl,stepG,stepG.exec,stepG.oper,Frame.oper?,I,R]
  rw[Y];unfold stepG.apply;simp only[F,pr];have B:(CallKind.deferred ==CallKind.early)=false:=rfl;simp[GStep.after,B,Gl,Frame.finish,I]
 refine aci (fr2:=FW (ddW X.Wg) T [.code (.region 1 aW true)]) (g:=id) (es:=λ_=>#[]) V (λw _=>by simp[Gl,stepG,stepG.exec]) (λ_=>⟨rfl,rfl⟩) (λ_ _ e h=>by simpa using h) λw4 O=> ?_;refine .step rfl λr s=> ?_;have m:=O.rely s;have A:∃(t:Nat) (f:World),f.heap=r.heap/\f.ou=r.ou/\stepG prog false (Gl [FW (ddW X.Wg) T [.code (.region 1 aW true)]] [eY]) r=.go (Gl [FW (ddW X.Wg) T [.inRegion aW (Region.linearise.go .any aW 8 t (Array.replicate 8 false) [])]] [eY]) f #[]:=by
  have H:∀t,Region.schedule (prog.follows .mixedOrders) aW t=Region.linearise.go .any aW 8 t (Array.replicate 8 false) []:=λt=>by
   simp only[Region.schedule,ax8,Bool.true_or,pr,Region.linearise,am9]
  simp only[Gl,stepG,stepG.exec,H,uZ,kw,qF];cases d:(choose (.order nCl 1)).run prog r with
  |ok t f=>
   refine⟨t,f, ?_⟩;have:f.heap=r.heap/\f.ou=r.ou:=by
    unfold choose at d;rw[Sem.run] at d;split at d
    .cases d;exact⟨rfl,rfl⟩
    .cases d;exact⟨rfl,rfl⟩
   exact⟨this.1,this.2,rfl⟩
  |halt q f=>
   exfalso;unfold choose at d;rw[Sem.run] at d;split at d<;>cases d
 obtain⟨t,f,l,J,E⟩:=A;have o:∀a,f.cell? a=r.cell? a:=λa=>by unfold World.cell?;rw[l]
 have h6:X.Inv S f:=by
  refine⟨λb N=>by rw[l];exact m.r b N,m.s,by rw[l];exact m.c,by rw[l];exact m.wg,by rw[l];exact m.sz, ?_, ?_,J.trans m.os⟩
  .obtain⟨W,sm,U⟩:=m.live;exact⟨W,sm,by unfold WgAt;rw[l];exact U⟩
  .obtain⟨v,a,b⟩:=m.pay;exact⟨v,by rw[l];exact a,b⟩
 have n:∀j,(Array.replicate 8 false).getD j false=false:=λj=>by
  rw[gE,tT];split<;>rfl
 refine⟨_,f,_,S,E,⟨λb _ _ _=>by rw[l],oS (by rw[l]),J,λ⟨v,a,b⟩=>⟨v,by rw[l];exact a,b⟩,λi _=>o _,λ_ h=>h,λ_ h=>.inl h,λe h=>by simp at h⟩, ?_⟩;have C:=agf (dd:=ddW X.Wg) (k:=[]) ok hF u 8 t (Array.replicate 8 false) T S f (by simp) (List.countP_le_length) ⟨Q,z,λj _ e=>(by rw[n] at e;cases e),λe=>(by rw[n] at e;cases e),λe=>(by rw[n] at e;cases e),h6⟩;refine bI.bind X.mG.fK X.mG.tr C λS2 g w7 ⟨T2,hg,_,hi7,hv0,hv1⟩=> ?_;subst hg;exact ax7 ok M v0 P hi7 ⟨hv0,hv1⟩
def aoZ{args:Array Value} :(callFunc nCl args).runT prog w #[]=(.ok (.enter nCl args) w,#[]):=by
 have a:=cB func67;have c:¬f67.name= "runtime.NumGoroutine" :=by simpa using a
 have b:¬f67.body=none:=λe=>by cases e
 unfold callFunc;simp[func67,c,b]
def ajz(i:X.Ok)(n:eF Z)(g:∀d nm,Z d [] nm=(⟨#[]⟩,false))(k:X.tWg=eE.tWg){val:Nat->Value}(m:val (2*X.κ)=.string (Z X.key X.l X.nm).1)(l:val (2*X.κ+1)=.bool (Z X.key X.l X.nm).2)(hi:X.Inv S w) :
  bI prog false X.Rl X.Gr (af0 prog X.tWg X.Wg X.C X.n2 val X.κ) S (born prog ⟨.fn (.func nCl) X.dE,#[]⟩) w:=by
 refine .step rfl λa j=> ?_;have b:(invoke (Target.fn (.func nCl) X.dE) #[]).runT prog a #[]=(.ok (.enter nCl X.dE) a,#[]):=aoZ;have f:stepG prog false (born prog ⟨.fn (.func nCl) X.dE,#[]⟩) a=.go (G (Frame.enter prog nCl X.dE .deferred) [eY]) a (seen prog prog.funcs.size #[]):=by
  simp only[born,stepG,unwind,callDeferred,b];simp[GStep.after,G,eY]
 exact⟨_,a,_,S,f,⟨λ_ _ _ _=>rfl,am _,rfl,id,λ_ _=>rfl,λ_ h=>h,λ_ h=>.inl h,λe h=>(abw e h).elim⟩,ajy i n g k m l (hi.rely j)⟩
end
end
section
open Go Go.Conc Go.ConcN Go.RowKit Go.Conc.Lib Go.ConcR.Gen Go.ConcN.Gen
open Go.ConcR (KK wgBlock WgAt stA smA rd wr mk Payload DC0)
section
variable {P:Program} {R:World->World->Prop} {Q:World->Prop} {St:Goroutine->World->Prop}
def eP{main:Bool}(c:∀w d,Q w->R w d->Q d) :
  ∀{n:Nat} {g:Goroutine} {w:World},Q w->Goes P main R DC0 St n g w->Goes P main R DC0 (λg w=>St g w/\Q w) n g w
 |0,_,_,hq,h=>λa b=>⟨h a b,c _ _ hq b⟩
 |n+1,g,w,hq,h=>by
  rcases h with h|⟨f,h⟩
  .exact .inl λa b=>⟨h a b,c _ _ hq b⟩
  .refine .inr ⟨f,λa b=> ?_⟩;have:=h a b;cases e:stepG P main g a with
   |go k i j=>
    rw[e,tz] at this;rw[tz];exact⟨this.1,eP c (this.1.1▸c _ _ hq b) this.2⟩
   |_=>rw[e] at this;exact this.elim
def fB(a:∀g w,St g w->Y g w)(h:Goes P main R DC0 St n g w):Goes P main R DC0 Y n g w:=nN (λ_ _ _ x=>x) a h
def jO(c:∀w a,Q w->R w a->Q a){e:Mark}(b:Q w)(h:om P R e m St g w):om P R e m (λg w=>St g w/\Q w) g w:=
 ⟨h.1,let⟨f,d,k⟩:=h.2;⟨f,d,eP c b k⟩⟩
def acj(b:∀g w,St g w->Y g w){e:Mark}(h:om P R e m St g w):om P R e m Y g w:=
 ⟨h.1,let⟨c,a,k⟩:=h.2;⟨c,a,fB b k⟩⟩
def ao0{Wg:Nat}(a:∀w d,Q w->R w d->Q d)(k:∀w v i,Q w->WgAt ty Wg w v 0->Q (w.setCell (stA Wg) (.int .u64 i)))(l:Q w)(h:ajr P R ty Wg St g w):ajr P R ty Wg (λg w=>St g w/\Q w) g w:=
 ⟨h.1,λv m c=>by
  obtain⟨p,e,n,f⟩:=h.2 v m c;have b:=k w _ ((v+1)*KK) l c;exact⟨p,e,λj=>fB (λg w x=>acj (λg w x=>jO a x.2 x.1) (jO a x.2 x.1)) (eP a b (n j)),λo=>fB (λg w x=>jO a x.2 x.1) (eP a b (f o))⟩⟩
end
section
variable [Payload] {P:Program} {L:WgLink} {Wg C n:Nat} {R S:au}
 {b₀:Frame} {a₀:Act} {ops₀:Array Oper} {i₀:Nat} {rest₀:List Nat} {k₀:List Item} {cs:List Frame}
def aya(h:DC0 w w' es):Gua Wg C n R Rr S S w w' es:=by
 obtain⟨rfl,rfl⟩:=h;exact⟨λ_ _ _ _=>rfl,am _,rfl,id,λ_ _=>rfl,λ_ h=>h,λ_ h=>.inl h,by simp⟩
omit [Payload] in
def ao1:(#[.pointer (some ⟨Wg,0,none⟩),.int .i64 1]:Array Value)++(List.replicate 115 undef).toArray=#[.pointer (some ⟨Wg,0,none⟩),.int .i64 1,undef,undef,undef,undef,undef,undef,undef,undef,undef,undef,undef,undef,undef,undef,undef,undef,undef,undef,undef,undef,undef,undef,undef,undef,undef,undef,undef,undef,undef,undef,undef,undef,undef,undef,undef,undef,undef,undef,undef,undef,undef,undef,undef,undef,undef,undef,undef,undef,undef,undef,undef,undef,undef,undef,undef,undef,undef,undef,undef,undef,undef,undef,undef,undef,undef,undef,undef,undef,undef,undef,undef,undef,undef,undef,undef,undef,undef,undef,undef,undef,undef,undef,undef,undef,undef,undef,undef,undef,undef,undef,undef,undef,undef,undef,undef,undef,undef,undef,undef,undef,undef,undef,undef,undef,undef,undef,undef,undef,undef,undef,undef,undef,undef,undef,undef]:=by
 simp[List.replicate]
def ao2 (H:WgLib P L) {val:Nat->Value} {d:au->Goroutine->World->Prop} {Q:World->Prop} (e:∀w i,Q w->RM L.tWg Wg C n R S w i->Q i) (q:∀w v l,Q w->WgAt L.tWg Wg w v 0->Q (w.setCell (stA Wg) (.int .u64 l)))
  (s:∀w,WgLive L.tWg Wg w->Q w->bI P true (jB L.tWg Wg C (2*n) R noC) (Gua Wg C (2*n) R noC) (MGo P L.tWg Wg C n val j d R) S (G (b₀.at (a₀.put ((ops₀[i₀]?).bind (·.dst)) (.tuple #[])) (.inRegion ops₀ rest₀::k₀)) cs) w)
  (w:World) (u:WgLive L.tWg Wg w) (f:Q w) :
  bI P true (jB L.tWg Wg C (2*n) R noC) (Gua Wg C (2*n) R noC) (λS g w=>aqo P L.tWg Wg C n val j d R S g w) S
   (G ((base L.add).at ⟨#[.pointer (some ⟨Wg,0,none⟩),.int .i64 1]++(List.replicate 115 undef).toArray,[]⟩ [.code (body_add L)]) (b₀.at a₀ (.inRegion ops₀ (i₀::rest₀)::k₀)::cs)) w:=by
 rw[ao1];have t:=ar4 (b₀:=b₀) (a₀:=a₀) (ops₀:=ops₀) (i₀:=i₀) (rest₀:=rest₀) (k₀:=k₀) (cs:=cs) (R:=RM L.tWg Wg C n R S) (S:=λg w=>g=G (b₀.at (a₀.put ((ops₀[i₀]?).bind (·.dst)) (.tuple #[])) (.inRegion ops₀ rest₀::k₀)) cs/\WgLive L.tWg Wg w) H (λ_ _ h r=>r.live h) (λ_ h=>⟨rfl,h⟩) w u;have m:=fB (λg w x=>acj (λg w x=>ao0 e q x.2 x.1) (jO e x.2 x.1)) (eP (Q:=Q) e f t);refine bI.abv (R:=RM L.tWg Wg C n R S) (λ_ _ h=>h) (λ_ _ _ h=>aya h) (λ_ _ h=>ax5 (λg w p=> ?_) h) m;refine bI.bind (λS w=>jB.refl R noC S w) (λS a b c=>jB.trans) (bI.abv (S:=S) (R:=RM L.tWg Wg C n R S) (Stop:=λk g w=>k=S/\(g=G (b₀.at (a₀.put ((ops₀[i₀]?).bind (·.dst)) (.tuple #[])) (.inRegion ops₀ rest₀::k₀)) cs/\WgLive L.tWg Wg w)/\Q w) (λ_ _ h=>h) (λ_ _ _ h=>aya h) (λ_ _ h=>⟨rfl,h⟩) p) ?_;rintro k g w ⟨rfl,⟨rfl,o⟩,f⟩;exact s w o f
end
end
section
open Go Go.Conc Go.ConcN Go.RowKit
open Go.ConcR (KK wgBlock WgAt stA smA rd wr mk Payload DC0)
noncomputable def abt:Code:=f48.body.getD .skip
noncomputable def agh:Array Oper:=um (lA abt)
noncomputable def adk:Array Oper:=um (lA (bW abt))
noncomputable def nP:Array Oper:=um (lA (bW (bW abt)))
noncomputable def awb:Code:=lA (bW (bW (bW abt)))
noncomputable def agi:Array Oper:=um (lA awb)
def ayb:Code->Code
 |.block _ (.loop c)=>c
 |c=>c
def auU:Code->Code
 |.block _ c=>c
 |c=>c
noncomputable def jf:Code:=ayb (bW awb)
noncomputable def asg:Array Oper:=um (lA jf)
noncomputable def alY:Code:=auU (lA (bW (bW jf)))
noncomputable def ack:Array Oper:=um (lA alY)
noncomputable def aav:Array Oper:=um (lA (bW alY))
noncomputable def lY:Array Oper:=um (bW (bW alY))
noncomputable def ajA:Array Oper:=um (bW (bW (bW jf)))
noncomputable def jA:Array Oper:=um (lA (bW (bW (bW (bW abt)))))
def ash:abt=.seq (.region 0 agh false) (.seq (.region 1 adk false) (.seq (.region 2 nP false) (.seq (.seq (.region 3 agi false) (.block 0 (.loop jf))) (.seq (.region 9 jA false) cJ)))):=rfl
def agj:jf=.seq (.region 4 asg false) (.seq (.cond (.tmp 21) .skip (.exit 0)) (.seq (.block 1 (.seq (.region 5 ack false) (.seq (.region 6 aav false) (.region 7 lY false)))) (.region 8 ajA false))):=rfl
def aCV:∃p a,agh[0]?=some ⟨some 3,.box 3 (.tmp 0),0,p,a,none⟩:=⟨_,_,rfl⟩
def aCW:∃p a,agh[1]?=some ⟨some 4,.box 23 (.tmp 1),0,p,a,none⟩:=⟨_,_,rfl⟩
def aCX:∃p a,agh[2]?=some ⟨some 6,.assign (.const (.slice none 0 0)),78,p,a,none⟩:=⟨_,_,rfl⟩
def aCY:∃p a,agh[3]?=some ⟨some 7,.assign (.const (.bool false)),4,p,a,none⟩:=⟨_,_,rfl⟩
def aCZ:∃p a,adk[0]?=some ⟨some 15,.move (.tmp 2),87,p,a,none⟩:=⟨_,_,rfl⟩
def aC0:∃p a,adk[1]?=some ⟨some 16,.call ⟨.builtin .len,#[.tmp 15],#[87]⟩,3,p,a,none⟩:=⟨_,_,rfl⟩
def aC1:∃p a,adk[2]?=some ⟨some 17,.makeSlice 111 (.tmp 16) (.tmp 16),111,p,a,none⟩:=⟨_,_,rfl⟩
def aC2:∃p a,adk[3]?=some ⟨some 8,.alloc 111,0,p,a,none⟩:=⟨_,_,rfl⟩
def aC3:∃p a,adk[4]?=some ⟨none,.store 111 (.tmp 8) (.tmp 17),0,p,a,none⟩:=⟨_,_,rfl⟩
def aBe:∃p a,nP[0]?=some ⟨some 9,.alloc eE.tWg,0,p,a,none⟩:=⟨_,_,rfl⟩
def aC4:∃p a,agi[0]?=some ⟨some 18,.move (.tmp 2),87,p,a,none⟩:=⟨_,_,rfl⟩
def aC5:∃p a,agi[1]?=some ⟨some 19,.call ⟨.builtin .len,#[.tmp 18],#[87]⟩,3,p,a,none⟩:=⟨_,_,rfl⟩
def aC6:∃p a,agi[2]?=some ⟨some 20,.move (.const (.int .i64 0)),3,p,a,none⟩:=⟨_,_,rfl⟩
def aC7:∃p a,asg[0]?=some ⟨some 21,.binOp .lss 3 (.tmp 20) (.tmp 19) 3,0,p,a,none⟩:=⟨_,_,rfl⟩
def aC8:∃p a,ack[0]?=some ⟨some 22,.move (.tmp 20),3,p,a,none⟩:=⟨_,_,rfl⟩
def aC9:∃p a,ack[1]?=some ⟨some 23,.indexAddr 87 (.tmp 18) (.tmp 20),0,p,a,none⟩:=⟨_,_,rfl⟩
def aDa:∃p a,ack[2]?=some ⟨some 24,.load 3 (.tmp 23),3,p,a,none⟩:=⟨_,_,rfl⟩
def aDb:∃p a,ack[3]?=some ⟨some 10,.alloc 3,0,p,a,none⟩:=⟨_,_,rfl⟩
def aDc:∃p a,ack[4]?=some ⟨some 11,.alloc 3,0,p,a,none⟩:=⟨_,_,rfl⟩
def aDd:∃p a,ack[5]?=some ⟨none,.store 3 (.tmp 10) (.tmp 22),0,p,a,none⟩:=⟨_,_,rfl⟩
def aDe:∃p a,ack[6]?=some ⟨none,.store 3 (.tmp 11) (.tmp 24),0,p,a,none⟩:=⟨_,_,rfl⟩
def aA3:∃p a,aav[0]?=some ⟨some 25,.call ⟨.value (.func eE.add),#[.tmp 9,.const (.int .i64 1)],#[eE.tWg,3]⟩,0,p,a,none⟩:=⟨_,_,rfl⟩
def aDf:∃p a,lY[0]?=some ⟨some 26,.makeFunc (.func nCl) #[] #[.tmp 9,.tmp 3,.tmp 4,.tmp 11,.tmp 8,.tmp 10],1,p,a,none⟩:=⟨_,_,rfl⟩
def aDg:∃p a,lY[1]?=some ⟨none,.go ⟨.value (.tmp 26),#[],#[]⟩,0,p,a,none⟩:=⟨_,_,rfl⟩
def aDh:∃p a,ajA[0]?=some ⟨some 27,.binOp .add 3 (.tmp 20) (.const (.int .i64 1)) 3,3,p,a,none⟩:=⟨_,_,rfl⟩
def aDi:∃p a,ajA[1]?=some ⟨some 20,.move (.tmp 27),3,p,a,none⟩:=⟨_,_,rfl⟩
def aA4:∃p a,jA[0]?=some ⟨some 28,.call ⟨.value (.func eE.wait),#[.tmp 9],#[eE.tWg]⟩,0,p,a,none⟩:=⟨_,_,rfl⟩
def wF  :seen P f #[]=#[]:=by
 rw[Array.eq_empty_iff_size_eq_zero];rcases h:(seen P f #[]).size with _|n
 .rfl
 .exact(abw _ (Array.getElem_mem (xs:=seen P f #[]) (i:=0) (by omega))).elim
def auV{base : List Frame}(h:T.getD 26 undef=.func (.func nCl) #[] U) :
  stepG prog true (Gl (FQ cf T (.inRegion lY [1]::k)::xs) base) w=.spawn (Gl (FQ cf T (.inRegion lY []::k)::xs) base) (born prog ⟨.fn (.func nCl) U,#[]⟩) w #[]:=by
 obtain⟨p,a,e⟩:=aDg;have b:(execOp (Frame.eval (FQ cf T (.inRegion lY [1]::k))) ⟨none,.go ⟨.value (.tmp 26),#[],#[]⟩,0,p,a,none⟩).runT prog w #[]=(.ok (.spawn ⟨.fn (.func nCl) U,#[]⟩) w,#[]):=by
  have i:Frame.eval (FQ cf T (.inRegion lY [1]::k)) (.tmp 26)=.func (.func nCl) #[] U:=h;simp only[execOp,resolve,i];simp[Deferred.ofValue]
 have f:∀y,Region.wanted ⟨none,.go ⟨.value (.tmp 26),#[],#[]⟩,0,p,a,none⟩ y=true:=λy=>rfl;have g:stepG prog true (Gl (FQ cf T (.inRegion lY [1]::k)::xs) base) w =
   stepG.apply prog true (FQ cf T (.inRegion lY [1]::k)) (xs++base) none (execOp (Frame.eval (FQ cf T (.inRegion lY [1]::k))) ⟨none,.go ⟨.value (.tmp 26),#[],#[]⟩,0,p,a,none⟩) w:=by
  simp[Gl,stepG,stepG.exec,stepG.oper,Frame.oper?,e,f]
 rw[g];unfold stepG.apply;simp only[b,pr];have d:(CallKind.normal ==CallKind.early)=false:=rfl;simp[GStep.after,d,Gl,Frame.finish,e,born,wF]
end
section
open Go Go.Conc Go.ConcN Go.RowKit
open Go.ConcR (KK wgBlock WgAt stA smA rd wr mk Payload DC0)
section
variable {P:Program} {w:World} {e:Operand->Value} {x y:Operand} {v:Value} {dst:Option Tmp} {t ty:TypeId} {pos:String} {af:Array Edge} {gd:Option (Nat×Bool)}
def asi(h:e x=v)(a:v.cells=#[v]):(execOp e ⟨dst,.box t x,ty,pos,af,gd⟩).runT P w #[]=(.ok (.value (.pointer (some ⟨w.heap.size,0,none⟩))) (w.alloc (.cells #[v] t)),#[]):=by
 simp[execOp,Instr.box,newVar,newRow,h,a]
def agk(h:e x=v):(execOp e ⟨dst,.assign x,ty,pos,af,gd⟩).runT P w #[]=(.ok (.value v) w,#[]):=by
 simp[execOp,h]
def pK{i:TypeInfo}(hi:P.info? t=some i)(a:i.zero=some v):(execOp e ⟨dst,.alloc t,ty,pos,af,gd⟩).runT P w #[]=(.ok (.value (.pointer (some ⟨w.heap.size,0,none⟩))) (w.alloc (.cells v.cells t)),#[]):=by
 simp[execOp,Instr.alloc,zeroValue,typeInfo,hi,a,newVar,newRow]
def agl{i:TypeInfo}{A:Addr}(hi:P.info? t=some i)(n:i.size=1)(k:ak1 v=true)(a:v.cells=#[v])(m:e x=.pointer (some A))(j:e y=v)(l:w.cell? A=some u)(d:w.frozen? A=false) :
  (execOp e ⟨dst,.store t x y,ty,pos,af,gd⟩).runT P w #[]=(.ok .skip (w.setCell A v),#[⟨.cell A,true,false⟩]):=by
 have b:(storeCells A [v] 0).runT P w #[]=(.ok () (w.setCell A v),#[⟨.cell A,true,false⟩]):=by
  show(Sem.store .plain (A.add 0) v (Sem.pure ())).runT P w #[]=_;have f:A.add 0=A:=by unfold Addr.add;simp
  rw[f,abd k l d];rfl
 have c:(storeCells A [v] 0).run P w=.ok () (w.setCell A v):=by
  rw[<-rj _ _ _ #[]];exact jn Prod.fst b
 have g:(storeCells A [v] 0).events P w #[]=#[⟨.cell A,true,false⟩]:=jn Prod.snd b;simp[execOp,m,j,Instr.storeAt,Instr.sureAddr,storeVar,sizeOf,typeInfo,hi,n,a,c,g]
def ajB(F:FaT P){s:Tmp}(h:e (.tmp s)=.slice A n c):(execOp e ⟨dst,.call ⟨.builtin .len,#[.tmp s],#[87]⟩,ty,pos,af,gd⟩).runT P w #[]=(.ok (.value (.int .i64 n)) w,#[]):=by
 rw[po (s:=λv=>Builtin.len_ #[87] ty #[v]) λ_ v=>rfl,h];change Sem.runT P (Builtin.len_ #[87] ty #[.slice A n c] >>=λu=>pure (Next.value u)) w #[]=_;simp[Builtin.len_,me F.u31,goInt]
def ajC{fn:Fn}{a:Array Operand}(h:a.map e=U):(execOp e ⟨dst,.makeFunc fn #[] a,ty,pos,af,gd⟩).runT P w #[]=(.ok (.value (.func fn #[] U)) w,#[]):=by
 simp[execOp,Instr.makeFunc,h]
def auW(F:FaT P)(m:(n:Int)<=2147483647)(b:e x=.int .i64 n):∃c:Array Value,c.size=2*n/\(execOp e ⟨dst,.makeSlice 111 x x,ty,pos,af,gd⟩).runT P w #[]=(.ok (.value (.slice (some ⟨w.heap.size,0,none⟩) n n)) (w.alloc (.cells c 124)),#[]):=by
 obtain⟨c,k,g⟩:=amS F (w:=w) (dst:=dst) (ty:=ty) (pos:=pos) (af:=af) (gd:=gd) m b;refine⟨c,k,Prod.ext ((rj _ _ _ _).trans g) ?_⟩;obtain⟨i,l,o,a,f⟩:=F.adw;have d:=events_make w 111 124 i _ F.ag5 l f .i64 .i64 n n (by omega) (uP _) (by rw[a];omega) (by omega) (by rw[a];omega) #[];show(execOp e ⟨dst,.makeSlice 111 x x,ty,pos,af,gd⟩).events P w #[]=#[];have j:execOp e ⟨dst,.makeSlice 111 x x,ty,pos,af,gd⟩=(Instr.makeSlice 111 (e x) (e x)).bind λv=>Sem.pure (.value v):=rfl;rw[j,b,Sem.events_bind',d];cases(Instr.makeSlice 111 (.int .i64 n) (.int .i64 n)).run P w<;>rfl
def auX{a:Int}(d:e x=.int .i64 a)(c:e y=.int .i64 1)(g:0<=a)(f:a<2147483647):(execOp e ⟨dst,.binOp .add 3 x y 3,ty,pos,af,gd⟩).runT P w #[]=(.ok (.value (.int .i64 (a+1))) w,#[]):=by
 have:execOp e ⟨dst,.binOp .add 3 x y 3,ty,pos,af,gd⟩=(binOp .add 3 (e x) (e y)).bind λv=>Sem.pure (.value v):=rfl;rw[this,d,c];have b:IntKind.i64.wrap (a+1)=a+1:=by rw[uw];omega
 show(Result.ok (Next.value (.int .i64 (IntKind.i64.wrap (a+1)))) w,#[])=_;rw[b]
end
end
section
open Go Go.Conc Go.ConcN Go.RowKit
section
variable {Rl:au->World->World->Prop} {St:au->Goroutine->World->Prop} {S Rr:au} {w0:World} {T:Array Value} {k:List Item} {xs base:List Frame}
structure Kp (S Rr:au) (w0:World) (S':au) (w':World):Prop where
 keep:∀b,b<w0.heap.size->S b\/Rr b->w'.heap[b]?=w0.heap[b]?
 size:w0.heap.size<=w'.heap.size
 os:w'.ou=w0.ou
 mono:∀b,S b->S' b
 new:∀b,S' b->S b\/(w0.heap.size<=b/\b<w'.heap.size)
def Kp.rl(H:oJ Rl Rr)(h:Rl S w0 V):Kp S Rr w0 S V:=let⟨a,b,c⟩:=H.rl _ _ _ h;⟨λx _ d=>a x d,b,c,λ_ h=>h,λ_ h=>.inl h⟩
def Kp.alloc(S Rr:au)(w:World)(ob:Obj):Kp S Rr w (SN S w (w.alloc ob)) (w.alloc ob):=
 ⟨λb a _=>su w _ b a,by rw[oR];omega,rfl,λ_ h=>.inl h,λ_ h=>h⟩
def Kp.trans{d c:au}{w2 : World}(a:Kp S Rr w0 d V)(b:Kp d Rr V c w2):Kp S Rr w0 c w2:=
 ⟨λx e h=>(b.keep x (bd e a.size) (h.imp (a.mono x) id)).trans (a.keep x e h),ap a.size b.size,b.os.trans a.os,λx h=>b.mono x (a.mono x h),λx h=>(b.new x h).elim (λh=>(a.new x h).imp id λh=>⟨h.1,bd h.2 b.size⟩) λh=>.inr ⟨ap a.size h.1,h.2⟩⟩
def kL(w:World)(ob:Obj):(w.alloc ob).heap[w.heap.size]?=some ob:=by
 show(w.heap.push _)[_]?=_;rw[qR]
def lB(S:au)(w:World)(ob:Obj):SN S w (w.alloc ob) w.heap.size:=.inr ⟨am _,by rw[oR];omega⟩
def auY (H:oJ Rl Rr) (hZ:45<=W) (hz:T.size=W)   (N:T.getD 0 undef=.int .i64 key) (P:T.getD 1 undef=.slice A n c)
  (K:∀(T':Array Value) (i:au) (e:World) (f g:Nat),T'.size=W->(∀t,t≠3->t≠4->t≠6->t≠7->T'.getD t undef=T.getD t undef)->T'.getD 3 undef=.pointer (some ⟨f,0,none⟩)->T'.getD 4 undef=.pointer (some ⟨g,0,none⟩)->
   T'.getD 6 undef=.slice none 0 0->T'.getD 7 undef=.bool false->Kp S Rr w0 i e->i f->i g->w0.heap.size<=f->f<g->e.heap[f]?=some (.cells #[.int .i64 key] 3)->e.heap[g]?=some (.cells #[.slice A n c] 23)->bI prog true Rl (oK Rr) St i (Gl (FQ cf T' k::xs) base) e) :
  bI prog true Rl (oK Rr) St S (Gl (FQ cf T (.inRegion agh [0,1,2,3]::k)::xs) base) w0:=by
 obtain⟨p0,a0,y⟩:=aCV;obtain⟨p1,a1,G⟩:=aCW;obtain⟨Y,a2,D⟩:=aCX;obtain⟨X,a3,V⟩:=aCY;refine mU H (d:=3) (ob:=.cells #[.int .i64 key] 3) (by show(3:Nat)<_;omega) y rfl rfl (λw=>asi (x:=.tmp 0) N rfl) (λa I T1 z1 B s=> ?_) w0 (H.fK _ _);refine mU H (d:=4) (ob:=.cells #[.slice A n c] 23) (by show(4:Nat)<_;omega) G rfl rfl (λw=>asi (x:=.tmp 1) ((s 1 (by decide)).trans P) rfl) (λb z T2 z2 F u=> ?_);refine bK H.cmp (d:=6) (v:=.slice none 0 0) (es:=#[]) (by show(6:Nat)<_;omega) D rfl rfl (λw _=>agk rfl) (λw _=>bA _) (λT3 z3 M l=> ?_);refine bK H.cmp (d:=7) (v:=.bool false) (es:=#[]) (by show(7:Nat)<_;omega) V rfl rfl (λw _=>agk rfl) (λw _=>bA _) (λE Z U j=> ?_);refine ig H.cmp λe m=> ?_;have r:=Kp.rl H I;have J:=Kp.alloc S Rr a (.cells #[.int .i64 key] 3);have q:=Kp.rl H z;have p:=Kp.alloc (SN S a (a.alloc (.cells #[.int .i64 key] 3))) Rr b (.cells #[.slice A n c] 23);have o:=Kp.rl H m;have s1:(a.alloc (.cells #[.int .i64 key] 3)).heap.size=a.heap.size+1:=oR _ _;have s2:(b.alloc (.cells #[.slice A n c] 23)).heap.size=b.heap.size+1:=oR _ _;have Q:=r.size;have g2:=q.size;refine K E _ e a.heap.size b.heap.size (by omega) (λt O L C R=> ?_) ?_ ?_ ?_ U ((((r.trans J).trans q).trans p).trans o) (p.mono _ (lB S a _)) (lB _ b _) Q (by omega) ?_ ?_
 .rw[j t R,l t C,u t L,s t O]
 .rw[j 3 (by decide),l 3 (by decide),u 3 (by decide),B]
 .rw[j 4 (by decide),l 4 (by decide),F]
 .rw[j 6 (by decide),M]
 .rw[((q.trans p).trans o).keep a.heap.size (by omega) (.inl (lB S a _)),kL]
 .rw[o.keep b.heap.size (by omega) (.inl (lB _ b _)),kL]
end
end
section
open Go Go.Conc Go.ConcN Go.RowKit
section
variable {P:Program} {main:Bool} {Rl:au->World->World->Prop} {St:au->Goroutine->World->Prop} {S Rr:au} {w0:World} {f:FuncId} {T:Array Value} {k:List Item} {xs base:List Frame}
def ayc (H:oJ Rl Rr)     {Q:Value->Obj->World->Prop} (l:d<T.size) (m:X[i]?=some o) (u:o.guard=none) (g:o.dst=some d)
  (q:∀w,∃v ob,Q v ob w/\(execOp (FQ f T (.inRegion X (i::rest)::k)).eval o).runT P w #[]=(.ok (.value v) (w.alloc ob),#[]))
  (x:∀w,Rl S w0 w->∀v ob,Q v ob w->∀T':Array Value,T'.size=T.size->T'.getD d undef=v->(∀t,t≠d->T'.getD t undef=T.getD t undef)->∀a,Rl (SN S w (w.alloc ob)) (w.alloc ob) a->bI P main Rl (oK Rr) St (SN S w (w.alloc ob)) (Gl (FQ f T' (.inRegion X rest::k)::xs) base) a) :
  ∀w,Rl S w0 w->bI P main Rl (oK Rr) St S (Gl (FQ f T (.inRegion X (i::rest)::k)::xs) base) w:=λw n=>by
 refine .step rfl λa j=> ?_;have p:=H.tr _ _ _ _ n j;obtain⟨v,ob,y,c⟩:=q a;refine⟨_,_,_,_,amb rfl rfl rfl rfl m u c,⟨λb s _=>su a _ b s,by rw[oR];omega,rfl,rfl,λe z=>by cases(by simpa using sT z:False)⟩, ?_⟩;have:Frame.finish (FQ f T (.inRegion X (i::rest)::k)) v=FQ f (T.setIfInBounds d v) (.inRegion X rest::k):=by
  simp only[Frame.finish,m,qG,g]
 rw[this];exact x a p _ _ y _ (by simp) (by rw[aH l,dq rfl]) (λt r=>by rw[aH l,bv r]) _ (H.fK _ _)
end
section
variable {w:World} {b:Nat} {u v:Value} {t:TypeId}
def tG(h:w.heap[b]?=some (.cells #[u] t)):w.cell? ⟨b,0,none⟩=some u/\w.frozen? ⟨b,0,none⟩=false:=by
 constructor
 .simp[World.cell?,h]
 .simp[World.frozen?,h]
def wC(h:w.heap[b]?=some (.cells #[u] t)):(w.setCell ⟨b,0,none⟩ v).heap[b]?=some (.cells #[v] t):=by
 simp[World.setCell,ph,h]
end
section
variable {Rl:au->World->World->Prop} {St:au->Goroutine->World->Prop} {S Rr:au} {w0:World} {T:Array Value} {k:List Item} {xs base:List Frame}
def auZ (H:oJ Rl Rr) (hZ:45<=W) (hz:T.size=W)  (hn:(n:Int)<=2147483647) (Z:T.getD 2 undef=.slice A n c)
  (K:∀(T':Array Value) (q:au) (m:World) (C D:Nat) (g:Array Value),T'.size=W->(∀t,t≠15->t≠16->t≠17->t≠8->T'.getD t undef=T.getD t undef)->T'.getD 8 undef=.pointer (some ⟨D,0,none⟩)->T'.getD 17 undef=.slice (some ⟨C,0,none⟩) n n->
   Kp S Rr w0 q m->q C->q D->w0.heap.size<=C->C<D->g.size=2*n->m.heap[C]?=some (.cells g 124)->m.heap[D]?=some (.cells #[.slice (some ⟨C,0,none⟩) n n] 111)->bI prog true Rl (oK Rr) St q (Gl (FQ cf T' k::xs) base) m) :
  bI prog true Rl (oK Rr) St S (Gl (FQ cf T (.inRegion adk [0,1,2,3,4]::k)::xs) base) w0:=by
 obtain⟨p0,a0,X⟩:=aCZ;obtain⟨p1,a1,e1⟩:=aC0;obtain⟨p2,a2,e2⟩:=aC1;obtain⟨p3,a3,e3⟩:=aC2;obtain⟨p4,a4,e4⟩:=aC3;obtain⟨a5,R,G,M⟩:=faT.akW;refine bK H.cmp (d:=15) (v:=.slice A n c) (es:=#[]) (by show(15:Nat)<_;omega) X rfl rfl (λw _=>fp (x:=.tmp 2) Z) (λw _=>bA _) (λT1 z1 v1 r1=> ?_) w0 (H.fK _ _);refine bK H.cmp (d:=16) (v:=.int .i64 n) (es:=#[]) (by show(16:Nat)<_;omega) e1 rfl rfl (λw _=>ajB faT (s:=15) v1) (λw _=>bA _) (λT2 z2 v2 r2=> ?_);refine ayc H (d:=17) (Q:=λv ob w=>v=.slice (some ⟨w.heap.size,0,none⟩) n n/\∃g:Array Value,g.size=2*n/\ob=.cells g 124) (by show(17:Nat)<_;omega) e2 rfl rfl (λw=> ?_) (λa ha vv ob hq T3 z3 v3 Y=> ?_)
 .obtain⟨g,r,hr⟩:=auW faT (w:=w) (x:=.tmp 16) (e:=Frame.eval (FQ cf T2 (.inRegion adk [2,3,4]::k))) hn v2;exact⟨_,_,⟨rfl,g,r,rfl⟩,hr⟩
 obtain⟨rfl,g,L,rfl⟩:=hq;refine mU H (d:=8) (ob:=.cells #[.slice none 0 0] 111) (by show(8:Nat)<_;omega) e3 rfl rfl (λw=>pK R M) (λf E P z4 V U=> ?_);have p:P.getD 17 undef=.slice (some ⟨a.heap.size,0,none⟩) n n:=by rw[U 17 (by decide),v3]
 have s1:(a.alloc (.cells g 124)).heap.size=a.heap.size+1:=oR _ _;have s2:(f.alloc (.cells #[.slice none 0 0] 111)).heap.size=f.heap.size+1:=oR _ _;have O:=Kp.rl H ha;have kb:=Kp.alloc S Rr a (.cells g 124);have N:=Kp.rl H E;have z:=Kp.alloc (SN S a (a.alloc (.cells g 124))) Rr f (.cells #[.slice none 0 0] 111);have g1:=O.size;have g2:=N.size;have i:=lB (SN S a (a.alloc (.cells g 124))) f (.cells #[.slice none 0 0] 111);have J:∀{w},Rl (SN (SN S a (a.alloc (.cells g 124))) f (f.alloc (.cells #[.slice none 0 0] 111))) (f.alloc (.cells #[.slice none 0 0] 111)) w->w.heap[f.heap.size]?=some (.cells #[.slice none 0 0] 111):=λ{w} h=>by
  rw[(Kp.rl H h).keep f.heap.size (by omega) (.inl i),kL]
 refine aeJ H.cmp (A:=⟨f.heap.size,0,none⟩) (u:=.slice (some ⟨a.heap.size,0,none⟩) n n) e4 rfl rfl (λw h=>agl (x:=.tmp 8) (y:=.tmp 17) R G rfl rfl V p (tG (J h)).1 (tG (J h)).2) i (λw h=>abX i (by have:=(Kp.rl H h).size;show f.heap.size<_;omega)) (λB r w1 cE=> ?_);refine ig H.cmp (λm F=> ?_) w1 cE;have I:=Kp.rl H r;have o:=Kp.rl H F;have g3:=I.size;have a6:(B.setCell ⟨f.heap.size,0,none⟩ (.slice (some ⟨a.heap.size,0,none⟩) n n)).heap.size=B.heap.size:=be _ _ _;have j:∀b,b≠f.heap.size->(B.setCell ⟨f.heap.size,0,none⟩ (.slice (some ⟨a.heap.size,0,none⟩) n n)).heap[b]?=B.heap[b]?:=λb h=>bj _ _ _ (λe=>h e.symm);have l:=((O.trans kb).trans N).trans (z.trans I);have g4:=o.size;refine K P _ m a.heap.size f.heap.size g (by omega) (λt q1 q2 q3 q4=> ?_) V p ⟨λb E h=> ?_,by have:=l.size;omega, ?_,l.mono,λb h=>(l.new b h).imp id λh=>⟨h.1,by omega⟩⟩ (z.mono _ (lB S a _)) i g1 (by omega) L ?_ ?_
 .rw[U t q4,Y t q3,r2 t q2,r1 t q1]
 .exact(o.keep b (by have:=l.size;omega) (h.imp (l.mono b) id)).trans ((j b (by omega)).trans (l.keep b E h))
 .exact o.os.trans l.os
 .exact(o.keep a.heap.size (by omega) (.inl (z.mono _ (lB S a _)))).trans ((j _ (by omega)).trans (((N.trans (z.trans I)).keep a.heap.size (by omega) (.inl (lB S a _))).trans (kL a _)))
 .exact(o.keep f.heap.size (by omega) (.inl i)).trans (wC (J r))
end
end
section
open Go Go.Conc Go.ConcN Go.RowKit
open Go.ConcR (KK wgBlock WgAt stA smA rd wr mk Payload DC0)
def asj:(prog.info? eE.tWg).map (λi=>i.zero.map (·.cells))=some (some #[.int .u64 0,.int .u32 0]):=by kernel_rfl
def asE:∃i z,prog.info? eE.tWg=some i/\i.zero=some z/\z.cells=#[.int .u64 0,.int .u32 0]:=by
 have h:=asj;cases b:prog.info? eE.tWg with
 |none=>rw[b] at h;cases h
 |some i=>
  rw[b] at h;cases a:i.zero with
  |none=>simp[a] at h
  |some z=>
   simp only[qk,a,mt] at h;exact⟨i,z,rfl,a,h⟩
end
section
open Go Go.Conc Go.ConcN Go.RowKit
open Go.ConcR (KK wgBlock WgAt stA smA rd wr mk Payload DC0)
def jg{o:Obj}(h:w.heap[b]?=some o):b<w.heap.size:=(dl.1 h).1
noncomputable def gD:Code:=.seq (.seq (.region 3 agi false) (.block 0 (.loop jf))) (.seq (.region 9 jA false) cJ)
section
variable {Rl:au->World->World->Prop} {St:au->Goroutine->World->Prop} {S Rr:au} {w0:World} {T:Array Value} {k:List Item} {xs base:List Frame}
def ajW (H:oJ Rl Rr) (E:45<=W) (O:T.size=W) {A2 : Option Addr} (hn:(b:Int)<=2147483647) (h0:T.getD 0 undef=.int .i64 key) (h1:T.getD 1 undef=.slice A n c) (F:T.getD 2 undef=.slice A2 b i)
  (K:∀(T':Array Value) (x:au) (g:World) (e d C j:Nat) (o:Array Value),T'.size=W->(∀t,(t<3\/aaj t=true)->T'.getD t undef=T.getD t undef)->
   T'.getD 3 undef=.pointer (some ⟨e,0,none⟩)/\T'.getD 4 undef=.pointer (some ⟨d,0,none⟩)/\T'.getD 6 undef=.slice none 0 0/\T'.getD 7 undef=.bool false/\T'.getD 8 undef=.pointer (some ⟨j,0,none⟩)/\T'.getD 17 undef=.slice (some ⟨C,0,none⟩) b b->
   Kp S Rr w0 x g->w0.heap.size<=e/\e<d/\d<C/\C<j->g.heap[e]?=some (.cells #[.int .i64 key] 3)->g.heap[d]?=some (.cells #[.slice A n c] 23)->o.size=2*b->g.heap[C]?=some (.cells o 124)->g.heap[j]?=some (.cells #[.slice (some ⟨C,0,none⟩) b b] 111)->
   bI prog true Rl (oK Rr) St x (Gl (FQ cf T' (.code (.region 2 nP false) :: .code gD::k)::xs) base) g) :
  bI prog true Rl (oK Rr) St S (Gl (FQ cf T (.code abt::k)::xs) base) w0:=by
 rw[ash];refine ep H.cmp (fN H.cmp (l:=[0,1,2,3]) rfl λwa R=>auY H E O h0 h1 λT1 S1 w1 e d M B t3 G J I k1 L sp lk N ck y=> ?_) w0 (H.fK _ _);refine ep H.cmp (fN H.cmp (l:=[0,1,2,3,4]) rfl λwb w=>auZ H E M hn ((B 2 (by decide) (by decide) (by decide) (by decide)).trans F) λZ S2 w2 C j o z2 m t8 q P U Q lC la u X D=> ?_) w1 (H.fK _ _);refine ep H.cmp (λwc Y=> ?_) w2 (H.fK _ _);have z:=Kp.rl H R;have s:=(Kp.rl H w).trans P;have f:=Kp.rl H Y;have a1:=jg y;have a0:=jg D;have g1:=z.size;have g2:=(Kp.rl H w).size;have g3:=f.size;refine K Z S2 wc e d C j o z2 (λt a=> ?_) ⟨?_, ?_, ?_, ?_,t8,q⟩ (((z.trans k1).trans s).trans f) ⟨by omega,N,by omega,la⟩ ?_ ?_ u ?_ ?_
 .have p:t≠15:=by rintro rfl;exact absurd a (by decide)
  have r:t≠16:=by rintro rfl;exact absurd a (by decide)
  have v:t≠17:=by rintro rfl;exact absurd a (by decide)
  have e8:t≠8:=by rintro rfl;exact absurd a (by decide)
  have e3:t≠3:=by rintro rfl;exact absurd a (by decide)
  have V:t≠4:=by rintro rfl;exact absurd a (by decide)
  have e6:t≠6:=by rintro rfl;exact absurd a (by decide)
  have e7:t≠7:=by rintro rfl;exact absurd a (by decide)
  rw[m t p r v e8,B t e3 V e6 e7]
 .rw[m 3 (by decide) (by decide) (by decide) (by decide),t3]
 .rw[m 4 (by decide) (by decide) (by decide) (by decide),G]
 .rw[m 6 (by decide) (by decide) (by decide) (by decide),J]
 .rw[m 7 (by decide) (by decide) (by decide) (by decide),I]
 .rw[(s.trans f).keep e (by omega) (.inl L),ck]
 .rw[(s.trans f).keep d (by omega) (.inl sp),y]
 .rw[f.keep C (by omega) (.inl U),X]
 .rw[f.keep j (by omega) (.inl Q),D]
end
end
section
open Go Go.Conc Go.ConcN Go.RowKit
section
variable {Rl:au->World->World->Prop} {St:au->Goroutine->World->Prop} {S Rr:au} {w0:World} {T:Array Value} {k:List Item} {xs base:List Frame}
def asF (H:oJ Rl Rr) (G:45<=W) (E:T.size=W)  (i:T.getD 2 undef=.slice A n c)
  (K:∀T':Array Value,T'.size=W->(∀t,t≠18->t≠19->t≠20->T'.getD t undef=T.getD t undef)->T'.getD 18 undef=.slice A n c->T'.getD 19 undef=.int .i64 n->T'.getD 20 undef=.int .i64 0->
   ∀b,Rl S w0 b->bI prog true Rl (oK Rr) St S (Gl (FQ cf T' k::xs) base) b) :
  bI prog true Rl (oK Rr) St S (Gl (FQ cf T (.inRegion agi [0,1,2]::k)::xs) base) w0:=by
 obtain⟨L,J,g⟩:=aC4;obtain⟨F,M,u⟩:=aC5;obtain⟨z,N,q⟩:=aC6;refine bK H.cmp (d:=18) (v:=.slice A n c) (es:=#[]) (by show(18:Nat)<_;omega) g rfl rfl (λw _=>fp (x:=.tmp 2) i) (λw _=>bA _) (λB D e j=> ?_) w0 (H.fK _ _);refine bK H.cmp (d:=19) (v:=.int .i64 n) (es:=#[]) (by show(19:Nat)<_;omega) u rfl rfl (λw _=>ajB faT (s:=18) e) (λw _=>bA _) (λO C r f=> ?_);refine bK H.cmp (d:=20) (v:=.int .i64 0) (es:=#[]) (by show(20:Nat)<_;omega) q rfl rfl (λw _=>fp rfl) (λw _=>bA _) (λm I l a=> ?_);refine ig H.cmp (K m (by omega) (λt o y p=>by rw[a t p,f t y,j t o]) (by rw[a 18 (by decide),f 18 (by decide),e]) (by rw[a 19 (by decide),r]) l)
def anb (H:oJ Rl Rr) (l:45<=W) (q:T.size=W) (a:T.getD 20 undef=.int .i64 i) (b:T.getD 19 undef=.int .i64 n)
  (K:∀T':Array Value,T'.size=W->(∀t,t≠21->T'.getD t undef=T.getD t undef)->T'.getD 21 undef=.bool (decide (i<n))->
   ∀c,Rl S w0 c->bI prog true Rl (oK Rr) St S (Gl (FQ cf T' k::xs) base) c) :
  bI prog true Rl (oK Rr) St S (Gl (FQ cf T (.inRegion asg [0]::k)::xs) base) w0:=by
 obtain⟨o,m,e⟩:=aC7;refine bK H.cmp (d:=21) (v:=.bool (decide ((i:Int)<n))) (es:=#[]) (by show(21:Nat)<_;omega) e rfl rfl (λw _=>ar1 (x:=.tmp 20) (y:=.tmp 19) a b) (λw _=>bA _) (λg p j f=> ?_) w0 (H.fK _ _);exact ig H.cmp (K g (by omega) f (by rw[j];congr 1;exact ut.2 (by omega)))
end
end
section
open Go Go.Conc Go.ConcN Go.RowKit
def ao3:(prog.info? 3).map (λi=>(i.size,i.zero))=some (1,some (.int .i64 0)):=by kernel_rfl
def ajD:∃i,prog.info? 3=some i/\i.size=1/\i.zero=some (.int .i64 0):=by
 have h:=ao3;cases a:prog.info? 3 with
 |none=>rw[a] at h;cases h
 |some i=>
  rw[a] at h;simp only[qk,mt,uT] at h;exact⟨i,rfl,h⟩
section
variable {P:Program} {w:World} {e:Operand->Value} {x y:Operand} {dst:Option Tmp} {ty:TypeId} {pos:String} {af:Array Edge} {gd:Option (Nat×Bool)}
def alZ{i:TypeInfo}(g:P.underlying 87=some (.slice 3))(hi:P.info? 3=some i)(f:i.size=1){a:Addr}(k:e x=.slice (some a) n c)(d:e y=.int .i64 j)(b:j<n) :
  (execOp e ⟨dst,.indexAddr 87 x y,ty,pos,af,gd⟩).runT P w #[]=(.ok (.value (.pointer (some (a.add j)))) w,#[]):=by
 simp[execOp,k,d,Instr.indexAt,asIntOf,me g,b,sizeOf,typeInfo,hi,f]
end
end
section
open Go Go.Conc Go.ConcN Go.RowKit
section
variable {Rl:au->World->World->Prop} {St:au->Goroutine->World->Prop} {S Rr:au} {w0:World} {T:Array Value} {k:List Item} {xs base:List Frame}
def asl (H:oJ Rl Rr)   {p:String} {s : Tmp} {u v:Int} (G:X[i]?=some ⟨none,.store 3 (.tmp d) (.tmp s),0,p,af,none⟩) (z:T.getD d undef=.pointer (some ⟨b,0,none⟩)) (I:T.getD s undef=.int .i64 v)
  (o:S b) (r:w0.heap[b]?=some (.cells #[.int .i64 u] 3))
  (K:∀c,Kp S Rr (w0.setCell ⟨b,0,none⟩ (.int .i64 v)) S c->(∀x,x≠b->S x\/Rr x->c.heap[x]?=w0.heap[x]?)->w0.heap.size<=c.heap.size->c.ou=w0.ou->c.heap[b]?=some (.cells #[.int .i64 v] 3)->bI prog true Rl (oK Rr) St S (Gl (FQ cf T (.inRegion X rest::k)::xs) base) c) :
  bI prog true Rl (oK Rr) St S (Gl (FQ cf T (.inRegion X (i::rest)::k)::xs) base) w0:=by
 obtain⟨N,J,E, -⟩:=ajD;have B:=jg r;have m:∀{w},Rl S w0 w->w.heap[b]?=some (.cells #[.int .i64 u] 3):=λ{w} h=>by rw[(Kp.rl H h).keep b B (.inl o),r]
 refine aeJ H.cmp (A:=⟨b,0,none⟩) (u:=.int .i64 v) G rfl rfl (λw h=>agl (x:=.tmp d) (y:=.tmp s) J E rfl rfl z I (tG (m h)).1 (tG (m h)).2) o (λw h=>abX o (jg (m h))) (λl g q F=> ?_) w0 (H.fK _ _);have j:=H.rl _ _ _ g;have f:=H.rl _ _ _ F;have C:(l.setCell ⟨b,0,none⟩ (.int .i64 v)).heap.size=l.heap.size:=be _ _ _;have a:∀x,x≠b->(l.setCell ⟨b,0,none⟩ (.int .i64 v)).heap[x]?=l.heap[x]?:=λx h=>bj _ _ _ (λe=>h e.symm);have t:q.heap[b]?=some (.cells #[.int .i64 v] 3):=(f.1 b (.inl o)).trans (wC (m g));have same:∀x,x≠b->S x\/Rr x->q.heap[x]?=w0.heap[x]?:=λx h n=>(f.1 x n).trans ((a x h).trans (j.1 x n));have D:(w0.setCell ⟨b,0,none⟩ (.int .i64 v)).heap.size=w0.heap.size:=be _ _ _;have M:=j.2.1;have L:=f.2.1;refine K q ⟨λx _ n=> ?_,by omega,(f.2.2.trans j.2.2),λ_ h=>h,λ_ h=>.inl h⟩ same (by omega) (f.2.2.trans j.2.2) t;by_cases e:x=b
 .rw[e,t,wC r]
 .rw[same x e n,bj _ _ _ (λh=>e h.symm)]
end
section
variable {P:Program} {S Rr:au}
def au0{A:Addr}{B:Nat}(d:Rr A.block)(g:A.block<B):∀e∈seen P f #[⟨.cell A,false,false⟩],mP S Rr B e:=λe c=>by
 have h:=sT c;simp only[so,oE,rz,tQ] at h;subst h;refine⟨λx a=>.inr ?_,λm b=>(by cases b),g⟩;simp[MemAct.ofEvent,MemAct.touch?] at a;rw[<-a];exact⟨d,rfl⟩
end
end
section
open Go Go.Conc Go.ConcN Go.RowKit
section
variable {Rl:au->World->World->Prop} {St:au->Goroutine->World->Prop} {S Rr:au} {w0:World} {T:Array Value} {k:List Item} {xs base:List Frame}
def au1 (H:oJ Rl Rr) (hZ:45<=W) (hz:T.size=W)  {nm:Int} (V:T.getD 18 undef=.slice A n c) (B:T.getD 20 undef=.int .i64 j) (hj:j<n) (U:aiK w0 A j nm) (hR:∀a,A=some a->Rr a.block)
  (K:∀(T':Array Value) (F:au) (G:World) (u E:Nat),T'.size=W->(∀t,t≠22->t≠23->t≠24->t≠10->t≠11->T'.getD t undef=T.getD t undef)->T'.getD 10 undef=.pointer (some ⟨u,0,none⟩)->T'.getD 11 undef=.pointer (some ⟨E,0,none⟩)->
   Kp S Rr w0 F G->F u->F E->w0.heap.size<=u->u<E->G.heap[u]?=some (.cells #[.int .i64 j] 3)->G.heap[E]?=some (.cells #[.int .i64 nm] 3)->bI prog true Rl (oK Rr) St F (Gl (FQ cf T' k::xs) base) G) :
  bI prog true Rl (oK Rr) St S (Gl (FQ cf T (.inRegion ack [0,1,2,3,4,5,6]::k)::xs) base) w0:=by
 obtain⟨p0,a0,e0⟩:=aC8;obtain⟨p1,a1,e1⟩:=aC9;obtain⟨p2,a2,e2⟩:=aDa;obtain⟨p3,a3,e3⟩:=aDb;obtain⟨p4,a4,e4⟩:=aDc;obtain⟨p5,a5,e5⟩:=aDd;obtain⟨p6,a6,e6⟩:=aDe;obtain⟨a,rfl,g,jZ⟩:=U;obtain⟨i3,o,Q,s⟩:=ajD;have C:=hR a rfl;have m:(a.add j).block=a.block:=rr a j;have a8:=eG g;have iZ:∀{w},Rl S w0 w->w.cell? (a.add j)=some (.int .i64 nm):=λ{w} h=>(fY (by rw[m];exact(H.rl _ _ _ h).1 a.block (.inr C))).trans g
 refine bK H.cmp (d:=22) (v:=.int .i64 j) (es:=#[]) (by show(22:Nat)<_;omega) e0 rfl rfl (λw _=>fp (x:=.tmp 20) B) (λw _=>bA _) (λT1 z1 v1 r1=> ?_) w0 (H.fK _ _);refine bK H.cmp (d:=23) (v:=.pointer (some (a.add j))) (es:=#[]) (by show(23:Nat)<_;omega) e1 rfl rfl (λw _=>alZ faT.u31 o Q (x:=.tmp 18) (y:=.tmp 20) ((r1 18 (by decide)).trans V) ((r1 20 (by decide)).trans B) hj) (λw _=>bA _) (λT2 z2 v2 r2=> ?_);refine bK H.cmp (d:=24) (v:=.int .i64 nm) (es:=#[⟨.cell (a.add j),false,false⟩]) (by show(24:Nat)<_;omega) e2 rfl rfl (λw P=>ajv underlying3 rfl (x:=.tmp 23) v2 (iZ P)) (λw P=>au0 (by rw[m];exact C) (bd a8 (H.rl _ _ _ P).2.1)) (λT3 z3 v3 r3=> ?_);refine mU H (d:=10) (ob:=.cells #[.int .i64 0] 3) (by show(10:Nat)<_;omega) e3 rfl rfl (λw=>pK o s) (λe ha T4 z4 v4 r4=> ?_);refine mU H (d:=11) (ob:=.cells #[.int .i64 0] 3) (by show(11:Nat)<_;omega) e4 rfl rfl (λw=>pK o s) (λl hb J z5 v5 L w1 cE=> ?_);have s1:(e.alloc (.cells #[.int .i64 0] 3)).heap.size=e.heap.size+1:=oR _ _;have s2:(l.alloc (.cells #[.int .i64 0] 3)).heap.size=l.heap.size+1:=oR _ _;have ka:=(Kp.rl H ha).trans (Kp.alloc S Rr e (.cells #[.int .i64 0] 3));have X:=Kp.rl H hb;have kc:=Kp.alloc (SN S e (e.alloc (.cells #[.int .i64 0] 3))) Rr l (.cells #[.int .i64 0] 3);have I:=Kp.rl H cE;have g0:=(Kp.rl H ha).size;have g1:=X.size;have g2:=I.size;have i:=kc.mono _ (lB S e (.cells #[.int .i64 0] 3));have f:=lB (SN S e (e.alloc (.cells #[.int .i64 0] 3))) l (.cells #[.int .i64 0] 3);have ci:w1.heap[e.heap.size]?=some (.cells #[.int .i64 0] 3):=by
  rw[((X.trans kc).trans I).keep e.heap.size (by omega) (.inl (lB S e _)),kL]
 have cn:w1.heap[l.heap.size]?=some (.cells #[.int .i64 0] 3):=by
  rw[I.keep l.heap.size (by omega) (.inl f),kL]
 have D:J.getD 10 undef=.pointer (some ⟨e.heap.size,0,none⟩):=by rw[L 10 (by decide),v4]
 have M:J.getD 22 undef=.int .i64 j:=by rw[L 22 (by decide),r4 22 (by decide),r3 22 (by decide),r2 22 (by decide),v1]
 have R:J.getD 24 undef=.int .i64 nm:=by rw[L 24 (by decide),r4 24 (by decide),v3]
 refine asl H e5 D M i ci (λw2 _ z z6 o6 Z=> ?_);have a7:w2.heap[l.heap.size]?=some (.cells #[.int .i64 0] 3):=(z _ (by omega) (.inl f)).trans cn;refine asl H e6 v5 R f a7 (λw3 _ r z7 o7 Y=> ?_);refine ig H.cmp (λw4 N=> ?_) w3 (H.fK _ _);have q:=Kp.rl H N;have p:=((ka.trans X).trans kc).trans I;have aa:=p.size;refine K J _ w4 e.heap.size l.heap.size (by omega) (λt q1 q2 q3 q4 q5=> ?_) D v5 ⟨λb a9 h=> ?_, ?_, ?_,p.mono,λb h=>(p.new b h).imp id λh=>⟨h.1, ?_⟩⟩ i f g0 (by omega) ?_ ?_
 .rw[L t q5,r4 t q4,r3 t q3,r2 t q2,r1 t q1]
 .have O:=h.imp (p.mono b) id;rw[q.keep b (by omega) O,r b (by omega) O,z b (by omega) O,p.keep b a9 h]
 .have:=q.size;omega
 .rw[q.os,o7,o6,p.os]
 .have:=q.size;omega
 .rw[q.keep _ (by omega) (.inl i),r _ (by omega) (.inl i),Z]
 .rw[q.keep _ (by omega) (.inl f),Y]
end
end
section
open Go Go.Conc Go.ConcN Go.RowKit
open Go.ConcR (KK wgBlock WgAt stA smA rd wr mk Payload DC0)
structure Mx where
 wE:World
 Wg:Nat
 C:Nat
 n2:Nat
 Rg:Nat->Prop
 key:Int
 A:Option Addr
 n:Nat
 c:Nat
 l:List iD
 A2:Option Addr
 c2:Nat
 dA:List Int
 bk:Nat
 bp:Nat
 ba:Nat
 sv:Nat->Value
 Z:Nat
 V:au
structure Mx.Ok (X:Mx):Prop where
 hN:gN<=X.wE.heap.size
 gl:∀g∈gL,X.Rg g
 k1:1<=X.key
 k2:X.key<=99
 hl:X.l.length=X.n
 hc:X.n<=X.c
 hcm:(X.c:Int)<=9223372036854775807
 gr:∀g∈gL,et X.wE g
 rd:RdP X.wE X.A 0 X.l
 rgp:RgP X.Rg X.wE X.A X.l
 al:∀a,X.A=some a->X.Rg a.block
 al2:∀a,X.A2=some a->X.Rg a.block
 nm:∀i nm,X.dA[i]?=some nm->aiK X.wE X.A2 i nm
 nn:X.dA.length=X.n2
 n2m:(X.n2:Int)<=2147483647
 cW:X.C≠X.Wg
 vr:∀b,X.Rg b->X.V b
structure Mx.At (X:Mx) (R:au) (w:World):Prop where
 keep:∀b,X.V b->w.heap[b]?=X.wE.heap[b]?
 sz:X.wE.heap.size<=w.heap.size
 os:w.ou=X.wE.ou
 rows:∀b,X.V b->R b
 rk:R X.bk/\w.heap[X.bk]?=some (.cells #[.int .i64 X.key] 3)
 rp:R X.bp/\w.heap[X.bp]?=some (.cells #[.slice X.A X.n X.c] 23)
 ra:R X.ba/\w.heap[X.ba]?=some (.cells #[.slice (some ⟨X.C,0,none⟩) X.n2 X.n2] 111)
 rlt:∀b,R b->b<w.heap.size
 rC:¬R X.C
 rW:¬R X.Wg
 ltC:X.C<w.heap.size
 ltW:X.Wg<w.heap.size
section
variable {X:Mx} {R S S':au} {w w':World} {es:Array Event}
def Mx.At.move(h:X.At R w)(a:∀b,R b->w'.heap[b]?=w.heap[b]?)(d:w.heap.size<=w'.heap.size)(e:w'.ou=w.ou):X.At R w':=
 ⟨λb c=>(a b (h.rows b c)).trans (h.keep b c),ap h.sz d,e.trans h.os,h.rows,⟨h.rk.1,(a _ h.rk.1).trans h.rk.2⟩,⟨h.rp.1,(a _ h.rp.1).trans h.rp.2⟩,⟨h.ra.1,(a _ h.ra.1).trans h.ra.2⟩,
  λb c=>bd (h.rlt b c) d,h.rC,h.rW,bd h.ltC d,bd h.ltW d⟩
def Mx.At.grow(h:X.At R w)(c:∀b,S b->b<w.heap.size/\b≠X.C/\b≠X.Wg):X.At (λb=>S b\/R b) w:=
 ⟨h.keep,h.sz,h.os,λb a=>.inr (h.rows b a),⟨.inr h.rk.1,h.rk.2⟩,⟨.inr h.rp.1,h.rp.2⟩,⟨.inr h.ra.1,h.ra.2⟩,λb a=>a.elim (λx=>(c b x).1) (h.rlt b),
  λa=>a.elim (λx=>(c _ x).2.1 rfl) h.rC,λa=>a.elim (λx=>(c _ x).2.2 rfl) h.rW,h.ltC,h.ltW⟩
def Mx.At.rgp(a:X.Ok)(h:X.At R w):RgP X.Rg w X.A X.l:=a.rgp.move a.al λb c=>h.keep b (a.vr b c)
def Mx.At.gr(a:X.Ok)(h:X.At R w):∀g∈gL,et w g:=λg b=>by
 obtain⟨c,t,z,e⟩:=a.gr g b;exact⟨c,t,z,(h.keep g (a.vr g (a.gl g b))).trans e⟩
def Mx.At.rd(a:X.Ok)(h:X.At R w):RdP w X.A 0 X.l:=a.rd.mask a.rgp a.al λ_ _ c b _=>(fY (h.keep _ (a.vr _ b))).trans c
def Mx.At.nm(b:X.Ok)(h:X.At R w){nm:Int}(hi:X.dA[i]?=some nm):aiK w X.A2 i nm:=by
 obtain⟨a,e,d,c⟩:=b.nm i nm hi;exact⟨a,e,(fY (by rw[rr];exact h.keep _ (b.vr _ (b.al2 a e)))).trans d,c⟩
abbrev Mx.Rl(X:Mx)(R:au):au->World->World->Prop:=jB eE.tWg X.Wg X.C (2*X.n2) R noC
abbrev Mx.Gr(X:Mx)(R:au):au->au->World->World->Array Event->Prop:=Gua X.Wg X.C (2*X.n2) R noC
def Mx.mG(X:Mx)(R:au):oJ (X.Rl R) R:=⟨λS w=>jB.refl _ _ _ _,λ_ _ _ _=>jB.trans,λ_ _ _ h=>⟨h.keep,h.size,h.os⟩⟩
structure Mx.Inv (X:Mx) (R S:au) (w:World):Prop where
 s:∀b,S b->b<w.heap.size/\b≠X.C/\b≠X.Wg
 at_:X.At R w
 live:WgLive eE.tWg X.Wg w
 sr:∀b,R b->¬S b
def Mx.Inv.rely(h:X.Inv R S w)(a:X.Rl R S w w'):X.Inv R S w':=
 ⟨λb c=>⟨bd (h.s b c).1 a.size,(h.s b c).2⟩,h.at_.move (λb c=>a.keep b (.inr c)) a.size a.os,a.live h.live,h.sr⟩
def Mx.step(h:X.Inv R S w)(g:oK R S S' w w' es):X.Gr R S S' w w' es/\X.Inv R S' w':=by
 obtain⟨k,l,p,rfl,z⟩:=g;have o:w'.heap[X.C]?=w.heap[X.C]?:=k _ h.at_.ltC λd=>(h.s _ d).2.1 rfl;have q:w'.heap[X.Wg]?=w.heap[X.Wg]?:=k _ h.at_.ltW λd=>(h.s _ d).2.2 rfl;refine⟨⟨λb c v _=>k b c v,l,p,λ⟨r,a,b⟩=>⟨r,o.trans a,b⟩,λi _=>un o i,λb c=>.inl c,λb c=>c,λe C=> ?_⟩, ?_⟩
 .obtain⟨A,m,B⟩:=z e C;refine⟨λx t=>(A x t).elim .inl λy=>.inr (.inr y),λj=> ?_,λj=> ?_,λj=> ?_,B⟩
  .rcases m _ j with⟨f,e⟩|e<;>cases e
  .rcases m _ j with⟨f,e⟩|e<;>cases e
  .rcases m _ j with⟨f,e⟩|e<;>cases e
 .refine⟨λb c=> ?_,h.at_.move (λb c=>k b (h.at_.rlt b c) (h.sr b c)) l p, ?_,λb c d=> ?_⟩
  .rcases c with c|⟨c,n⟩
   .exact⟨bd (h.s b c).1 l,(h.s b c).2⟩
   .have E:=h.at_.ltC;have D:=h.at_.ltW;exact⟨n,by omega,by omega⟩
  .obtain⟨u,sm,s⟩:=h.live;exact⟨u,sm,q.trans s⟩
  .rcases d with d|⟨d,_⟩
   .exact h.sr b c d
   .have:=h.at_.rlt b c;omega
def Mx.lift(h:bI prog true (X.Rl R) (oK R) Stop S g w)(hi:X.Inv R S w):bI prog true (X.Rl R) (X.Gr R) (λS g w=>Stop S g w/\X.Inv R S w) S g w:=
 bI.inv (Rl:=X.Rl R) (Gr:=oK R) (Gr2:=X.Gr R) (Stop:=Stop) (Inv:=X.Inv R) (λ_ _ _ a b=>a.rely b) (λ_ _ _ _ _ a b=>Mx.step a b) (λ_ _ _ a b=>⟨a,b⟩) h hi
def ajX(t:Nat):Bool:=t ==0||t ==1||t ==2||t ==6||t ==7||t ==17||aaj t
structure Mx.Sl (X:Mx) (T:Array Value) (j:Nat):Prop where
 z:T.size=X.Z
 zz:45<=X.Z
 s3:T.getD 3 undef=.pointer (some ⟨X.bk,0,none⟩)
 s4:T.getD 4 undef=.pointer (some ⟨X.bp,0,none⟩)
 s8:T.getD 8 undef=.pointer (some ⟨X.ba,0,none⟩)
 s9:T.getD 9 undef=.pointer (some ⟨X.Wg,0,none⟩)
 s18:T.getD 18 undef=.slice X.A2 X.n2 X.c2
 s19:T.getD 19 undef=.int .i64 X.n2
 ij:T.getD 20 undef=.int .i64 j
 sv:∀t,ajX t=true->T.getD t undef=X.sv t
def wrM(t:Nat):Bool:=t ==10||t ==11||(21<=t&&t<=28)
def ayd{t:Nat}(h:ajX t=true):wrM t=false:=by
 simp only[ajX,aaj,qV,nF,qS] at h;simp only[wrM,wh,de,sI,sY];omega
def Mx.Sl.keep{T' : Array Value}(h:X.Sl T j)(c:T'.size=X.Z)(a:∀t,wrM t=false->T'.getD t undef=T.getD t undef):X.Sl T' j:=
 ⟨c,h.zz,(a 3 rfl).trans h.s3,(a 4 rfl).trans h.s4,(a 8 rfl).trans h.s8,(a 9 rfl).trans h.s9,(a 18 rfl).trans h.s18,(a 19 rfl).trans h.s19,(a 20 rfl).trans h.ij,λt b=>(a t (ayd b)).trans (h.sv t b)⟩
end
end
section
open Go Go.Conc Go.ConcN Go.RowKit
open Go.ConcR (KK wgBlock WgAt stA smA rd wr mk Payload DC0)
section
variable {P:Program} {main:Bool} {Rl:au->World->World->Prop} {Gr:au->au->World->World->Array Event->Prop} {St:au->Goroutine->World->Prop} {S Rr:au} {w0:World} {f h:FuncId} {T:Array Value} {k:List Item} {xs bs:List Frame}
def ajE (C:Cmp Rl Gr Rr)    {args:Array Value} (a:X[i]?=some o) (c:o.guard=none)
  (b:∀w,(execOp (FQ f T (.inRegion X (i::rest)::k)).eval o).runT P w #[]=(.ok (.enter h args) w,#[]))
  (d:∀w,Rl S w0 w->bI P main Rl Gr St S (Gl (Frame.enter P h args .normal::FQ f T (.inRegion X (i::rest)::k)::xs) bs) w):∀w,Rl S w0 w->bI P main Rl Gr St S (Gl (FQ f T (.inRegion X (i::rest)::k)::xs) bs) w:=
 bI.still C (l2:=Frame.enter P h args .normal::FQ f T (.inRegion X (i::rest)::k)::xs) (es:=λ_=>seen P f #[]) (λw _=>ajw rfl rfl rfl rfl a c (b w)) (λw _=>bA _) d
end
def al0{args:Array Value} :(callFunc eE.add args).runT prog w #[]=(.ok (.enter eE.add args) w,#[]):=by
 have h:=aat.f_add;have b:¬(Go.Conc.Lib.addFn eE).name= "runtime.NumGoroutine" :=by decide
 have a:¬(Go.Conc.Lib.addFn eE).body=none:=λe=>by cases e
 unfold callFunc;simp[h,b,a]
def ajF{args:Array Value} :(callFunc eE.wait args).runT prog w #[]=(.ok (.enter eE.wait args) w,#[]):=by
 have h:=aat.f_wait;have b:¬(Go.Conc.Lib.waitFn eE).name= "runtime.NumGoroutine" :=by decide
 have a:¬(Go.Conc.Lib.waitFn eE).body=none:=λe=>by cases e
 unfold callFunc;simp[h,b,a]
noncomputable abbrev kM:List Item:=[.code (.seq (.region 9 jA false) cJ)]
noncomputable abbrev kB:List Item:=.inLoop jf :: .inBlock 0::kM
noncomputable abbrev kA:List Item:=.code (.region 7 lY false) :: .inBlock 1 :: .code (.region 8 ajA false)::kB
section
variable {X:Mx} {R:au} {w:World} {T:Array Value} {j:Nat} {xs bs:List Frame}
def StA(X:Mx)(j:Nat)(xs bs:List Frame)(S:au)(g:Goroutine)(w:World):Prop:=
 ∃(T':Array Value) (b a:Nat) (nm:Int),X.dA[j]?=some nm/\X.Sl T' j/\T'.getD 10 undef=.pointer (some ⟨b,0,none⟩)/\T'.getD 11 undef=.pointer (some ⟨a,0,none⟩)/\S b/\S a/\w.heap[b]?=some (.cells #[.int .i64 j] 3)/\w.heap[a]?=some (.cells #[.int .i64 nm] 3)/\
  g=Gl (Frame.enter prog eE.add #[.pointer (some ⟨X.Wg,0,none⟩),.int .i64 1] .normal::FQ cf T' (.inRegion aav [0]::kA)::xs) bs
def StW(X:Mx)(xs bs:List Frame)(S:au)(g:Goroutine)(_:World):Prop:=
 ∃T':Array Value,X.Sl T' X.n2/\S=(λ_=>False)/\g=Gl (Frame.enter prog eE.wait #[.pointer (some ⟨X.Wg,0,none⟩)] .normal::FQ cf T' (.inRegion jA [0]::[.code cJ])::xs) bs
def ao4(n:X.Ok)(g:X.Sl T j)(v:j<X.n2)(r:X.At R w):bI prog true (X.Rl R) (oK R) (StA X j xs bs) (λ_=>False) (Gl (FQ cf T (.code jf::kB)::xs) bs) w:=by
 have H:=X.mG R;obtain⟨nm,m⟩:∃nm,X.dA[j]?=some nm:=⟨_,iS (by rw[n.nn];exact v)⟩;rw[agj];refine ep H.cmp (fN H.cmp (l:=[0]) rfl λwa x=>anb H g.zz g.z g.ij g.s19 λM D K i=> ?_) w (H.fK _ _);rw[dj v] at i;refine ep H.cmp (abW H.cmp i (amQ H.cmp (ep H.cmp (aec H.cmp (ep H.cmp (fN H.cmp (l:=[0,1,2,3,4,5,6]) rfl λP q=> ?_))))));have e:X.Sl M j:=g.keep D λt d=>K t (by rintro rfl;cases d);have I:X.At R P:=(r.move (λb f=>x.keep b (.inr f)) x.size x.os).move (λb f=>q.keep b (.inr f)) q.size q.os;refine au1 H g.zz D e.s18 e.ij v (I.nm n m) (λa A=>I.rows _ (n.vr _ (n.al2 a A))) λo S2 Z G B N V z u kp C F lb J S Q=> ?_;have k:X.Sl o j:=e.keep N λt d=>V t (by rintro rfl;cases d) (by rintro rfl;cases d) (by rintro rfl;cases d) (by rintro rfl;cases d) (by rintro rfl;cases d);obtain⟨L,U,O⟩:=aA3;refine ep H.cmp (fN H.cmp (l:=[0]) rfl (ajE H.cmp (h:=eE.add) (args:=#[.pointer (some ⟨X.Wg,0,none⟩),.int .i64 1]) O rfl (λw=> ?_) λw5 y=>.stop λw6 p=> ?_)) Z (H.fK _ _)
 .have W:Array.map (Frame.eval (FQ cf o (.inRegion aav [0]::kA))) #[.tmp 9,.const (.int .i64 1)]=#[.pointer (some ⟨X.Wg,0,none⟩),.int .i64 1]:=by
   rw[<-k.s9];simp[Frame.eval]
  have Y:execOp (Frame.eval (FQ cf o (.inRegion aav [0]::kA))) ⟨some 25,.call ⟨.value (.func eE.add),#[.tmp 9,.const (.int .i64 1)],#[eE.tWg,3]⟩,0,L,U,none⟩=callFunc eE.add #[.pointer (some ⟨X.Wg,0,none⟩),.int .i64 1]:=by
   simp only[execOp,resolve];rw[W];simp[Deferred.ofValue,invoke,Frame.eval];try rfl
  exact(jn (λs=>Sem.runT prog s w #[]) Y).trans al0
 .have E:=H.tr _ _ _ _ y p;exact⟨o,G,B,nm,m,k,z,u,C,F,(E.keep G (.inl C)).trans S,(E.keep B (.inl F)).trans Q,rfl⟩
def ao6(d:X.Sl T X.n2):bI prog true (X.Rl R) (oK R) (StW X xs bs) (λ_=>False) (Gl (FQ cf T (.code jf::kB)::xs) bs) w:=by
 have H:=X.mG R;rw[agj];refine ep H.cmp (fN H.cmp (l:=[0]) rfl λv u=>anb H d.zz d.z d.ij d.s19 λe p f b=> ?_) w (H.fK _ _);rw[da (Nat.lt_irrefl _)] at b;have a:X.Sl e X.n2:=d.keep p λt j=>f t (by rintro rfl;cases j);obtain⟨n,i,k⟩:=aA4;refine ep H.cmp (abW H.cmp b (amR H.cmp (k2:=kM) rfl (ep H.cmp (fN H.cmp (l:=[0]) rfl (ajE H.cmp (h:=eE.wait) (args:=#[.pointer (some ⟨X.Wg,0,none⟩)]) k rfl (λw=> ?_) λx q=>.stop λr g=>⟨e,a,rfl,rfl⟩)))));have m:Array.map (Frame.eval (FQ cf e (.inRegion jA [0]::[.code cJ]))) #[.tmp 9]=#[.pointer (some ⟨X.Wg,0,none⟩)]:=by
  rw[<-a.s9];simp[Frame.eval]
 have o:execOp (Frame.eval (FQ cf e (.inRegion jA [0]::[.code cJ]))) ⟨some 28,.call ⟨.value (.func eE.wait),#[.tmp 9],#[eE.tWg]⟩,0,n,i,none⟩=callFunc eE.wait #[.pointer (some ⟨X.Wg,0,none⟩)]:=by
  simp only[execOp,resolve];rw[m];simp[Deferred.ofValue,invoke,Frame.eval];try rfl
 exact(jn (λs=>Sem.runT prog s w #[]) o).trans ajF
end
end
section
open Go Go.Conc Go.ConcN Go.RowKit Go.Conc.Lib Go.ConcR.Gen Go.ConcN.Gen
open Go.ConcR (KK wgBlock WgAt stA smA rd wr mk Payload DC0)
section
variable {P:Program} {R:World->World->Prop} {Q:World->Prop} {St A:Goroutine->World->Prop} {ty:TypeId} {Wg:Nat}
 (hQ:∀w w1,Q w->R w w1->Q w1) (hW:∀(w:World) (a:Addr) v,a.block=Wg->Q w->Q (w.setCell a v))
include hQ
theorem anc(a:Q w)(h:WKe P R Wg St g w):WKe P R Wg (λg w=>St g w/\Q w) g w:=acj (λ_ _ x=>jO hQ x.2 x.1) (jO hQ a h)
theorem au2(b:Q w)(h:WW4 P R ty Wg St g w):WW4 P R ty Wg (λg w=>St g w/\Q w) g w:=
 ⟨h.1,λa=>let⟨c,e,k⟩:=h.2 a;⟨c,e,fB (λ_ _ x=>anc hQ x.2 x.1) (eP hQ b k)⟩⟩
include hW
theorem au3(b:Q w)(h:WW3 P R ty Wg St g w):WW3 P R ty Wg (λg w=>St g w/\Q w) g w:=
 ⟨h.1,h.2.1,h.2.2.1,λa=>let⟨c,e,k⟩:=h.2.2.2 a;⟨c,e,fB (λ_ _ x=>au2 hQ x.2 x.1) (eP hQ (hW _ _ _ rfl b) k)⟩⟩
theorem au4{v:Nat}(d:Q w)(h:WW2 P R ty Wg A St v g w):WW2 P R ty Wg (λg w=>A g w/\Q w) (λg w=>St g w/\Q w) v g w:=
 ⟨h.1,λf i c=>⟨λe=>let⟨b,a,k⟩:=(h.2 f i c).1 e;⟨b,a,fB (λ_ _ x=>acj (λ_ _ x=>au3 hQ hW x.2 x.1) (jO hQ x.2 x.1)) (eP hQ (hW _ _ _ rfl d) k)⟩,
  λe=>let⟨b,a,k⟩:=(h.2 f i c).2 e;⟨b,a,eP hQ d k⟩⟩⟩
theorem au5(a:Q w)(h:WW1 P R ty Wg A St g w):WW1 P R ty Wg (λg w=>A g w/\Q w) (λg w=>St g w/\Q w) g w:=
 ⟨h.1,λv d c=>let⟨i,e,f,b⟩:=h.2 v d c;⟨i,e,λe=>fB (λ_ _ x=>anc hQ x.2 x.1) (eP hQ a (f e)),λe=>fB (λ_ _ x=>au4 hQ hW x.2 x.1) (eP hQ a (b e))⟩⟩
end
section
variable (X:Mx) (xs bs:List Frame)
noncomputable abbrev frW(T:Array Value):Frame:=(FQ cf #[] []).at ⟨T,[]⟩ (.inRegion jA [0]::[.code cJ])
def acX(R _S:au)(g:Goroutine)(w:World):Prop:=X.At R w/\∃T,X.Sl T X.n2/\ajs eE X.Wg (frW T) (xs++bs) g w
def ayu(R S:au)(g:Goroutine)(w:World):Prop:=
 ∃T,X.Sl T X.n2/\Goes prog true (RM eE.tWg X.Wg X.C X.n2 R S) DC0 (λg w=>(g=Gl (FQ cf T (.inRegion jA []::[.code cJ])::xs) bs/\WgLive eE.tWg X.Wg w)/\X.At R w) 20 g w
end
section
variable {X:Mx} {xs bs:List Frame} {R S:au} {w w1:World} {T:Array Value}
def Mx.At.rely(h:X.At R w)(a:jB eE.tWg X.Wg X.C (2*X.n2) R noC S w w1):X.At R w1:=h.move (λb c=>a.keep b (.inr c)) a.size a.os
def Mx.At.wg(h:X.At R w)(a:Addr)(v:Value)(d:a.block=X.Wg):X.At R (w.setCell a v):=
 h.move (λb c=>bj _ _ _ (λe=>h.rW (by rw[<-d,e];exact c))) (oS (be _ _ _).symm) rfl
def au6(a:X.Sl T X.n2):∃T',X.Sl T' X.n2/\G ((FQ cf #[] []).at ((⟨T,[]⟩:Act).put ((jA[0]?).bind (·.dst)) (.tuple #[])) (.inRegion jA []::[.code cJ])) (xs++bs)=Gl (FQ cf T' (.inRegion jA []::[.code cJ])::xs) bs:=by
 obtain⟨d,e,c⟩:=aA4;refine⟨T.setIfInBounds 28 (.tuple #[]),a.keep (by simpa using a.z) λt b=> ?_,by rw[c];rfl⟩;rw[aH (by rw[a.z];exact bd (by decide) a.zz),bv (by rintro rfl;cases b)]
def asH(h:acX X xs bs R S g w):∃m,GP prog eE.tWg X.Wg X.C X.n2 R S (MW1 prog eE.tWg X.Wg X.C X.n2 R S (acX X xs bs) (ayu X xs bs)) m g w:=by
 obtain⟨c,T,d,i⟩:=h;have j:=alV (R:=RM eE.tWg X.Wg X.C X.n2 R S) (S:=λg w=>g=G ((FQ cf #[] []).at ((⟨T,[]⟩:Act).put ((jA[0]?).bind (·.dst)) (.tuple #[])) (.inRegion jA []::[.code cJ])) (xs++bs)/\WgLive eE.tWg X.Wg w) aat (λ_ _ h r=>r.live h) (λ_ h=>⟨rfl,h⟩) g w i;have f:=fB (λg w x=>au5 (Q:=X.At R) (λ_ _ h r=>h.rely r) (λ_ a v e h=>h.wg a v e) x.2 x.1) (eP (Q:=X.At R) (λ_ _ h r=>h.rely r) c j);obtain⟨T',b,k⟩:=au6 (xs:=xs) (bs:=bs) d;refine⟨30,aau (λ_ _ x=>aAQ (λg w y=>⟨T',b,fB (λg w z=>⟨⟨z.1.1.trans k,z.1.2⟩,z.2⟩) y⟩) (λg w y=>⟨y.2,T,d,y.1⟩) x) f⟩
def al1:Frame.enter prog eE.wait #[.pointer (some ⟨X.Wg,0,none⟩)] .normal=(base eE.wait).at ⟨#[.pointer (some ⟨X.Wg,0,none⟩)]++(List.replicate 83 undef).toArray,[]⟩ [.code (body_wait eE)]:=by
 rw[vJ];have h:=enter_at (c:=body_wait eE) #[.pointer (some ⟨X.Wg,0,none⟩)] aat.f_wait rfl;have e:(Go.Conc.Lib.waitFn eE).ntmps-(#[.pointer (some ⟨X.Wg,0,none⟩)]:Array Value).size=83:=rfl;rw[e] at h;exact h
def ao7:Frame.enter prog eE.add #[.pointer (some ⟨X.Wg,0,none⟩),.int .i64 1] .normal=(base eE.add).at ⟨#[.pointer (some ⟨X.Wg,0,none⟩),.int .i64 1]++(List.replicate 115 undef).toArray,[]⟩ [.code (body_add eE)]:=by
 rw[vJ];have h:=enter_at (c:=body_add eE) #[.pointer (some ⟨X.Wg,0,none⟩),.int .i64 1] aat.f_add rfl;have e:(Go.Conc.Lib.addFn eE).ntmps-(#[.pointer (some ⟨X.Wg,0,none⟩),.int .i64 1]:Array Value).size=115:=rfl;rw[e] at h;exact h
def ahy(d:X.Sl T X.n2)(hi:X.Inv R S w) :
  bI prog true (X.Rl R) (X.Gr R) (λS g w=>MKd prog eE.tWg X.Wg X.C X.n2 R S (acX X xs bs) g w) S (Gl (Frame.enter prog eE.wait #[.pointer (some ⟨X.Wg,0,none⟩)] .normal::FQ cf T (.inRegion jA [0]::[.code cJ])::xs) bs) w:=by
 rw[al1];have c:=alU (b₀:=FQ cf #[] []) (a₀:=⟨T,[]⟩) (ops₀:=jA) (i₀:=0) (rest₀:=[]) (k₀:=[.code cJ]) (cs:=xs++bs) (R:=RM eE.tWg X.Wg X.C X.n2 R S) aat (λ_ _ h r=>r.live h) w hi.live;have b:=fB (λg w x=>jO (Q:=X.At R) (λ_ _ h r=>h.rely r) x.2 x.1) (eP (Q:=X.At R) (λ_ _ h r=>h.rely r) hi.at_ c);have a:∀g w,(ajs eE X.Wg (frW T) (xs++bs) g w/\X.At R w)->acX X xs bs R S g w:=λg w y=>⟨y.2,T,d,y.1⟩;exact bI.abv (R:=RM eE.tWg X.Wg X.C X.n2 R S) (λ_ _ h=>h) (λ_ _ _ h=>aya h) (λ_ _ h=>aAR a h) b
end
end
section
open Go Go.Conc Go.ConcN Go.RowKit
open Go.ConcR (KK wgBlock WgAt stA smA rd wr mk Payload DC0)
section
variable {X:Mx} {R S:au} {w:World} {T:Array Value} {j:Nat} {xs bs:List Frame} {bi bn:Nat} {nm:Int}
noncomputable abbrev kG:List Item:=.inBlock 1 :: .code (.region 8 ajA false)::kB
abbrev Mx.dE(X:Mx)(bi bn:Nat):Array Value:=#[.pointer (some ⟨X.Wg,0,none⟩),.pointer (some ⟨X.bk,0,none⟩),.pointer (some ⟨X.bp,0,none⟩),.pointer (some ⟨bn,0,none⟩),.pointer (some ⟨X.ba,0,none⟩),.pointer (some ⟨bi,0,none⟩)]
def ao8(b:X.Sl T j)(k:T.getD 10 undef=.pointer (some ⟨bi,0,none⟩))(m:T.getD 11 undef=.pointer (some ⟨bn,0,none⟩))(z:S bi)(q:S bn)(u:w.heap[bi]?=some (.cells #[.int .i64 j] 3))(o:w.heap[bn]?=some (.cells #[.int .i64 nm] 3)) :
  bI prog true (X.Rl R) (oK R) (λA g f=>A=S/\f.heap[bi]?=some (.cells #[.int .i64 j] 3)/\f.heap[bn]?=some (.cells #[.int .i64 nm] 3)/\∃T',X.Sl T' j/\T'.getD 26 undef=.func (.func nCl) #[] (X.dE bi bn)/\g=Gl (FQ cf T' (.inRegion lY [1]::kG)::xs) bs) S
   (Gl (FQ cf T (.inRegion aav []::kA)::xs) bs) w:=by
 have H:=X.mG R;obtain⟨p,a,e⟩:=aDf;refine ig H.cmp (fN H.cmp (l:=[0,1]) rfl (bK H.cmp (d:=26) (v:=.func (.func nCl) #[] (X.dE bi bn)) (es:=#[]) (by rw[b.z];exact bd (by decide) b.zz) e rfl rfl (λw _=>ajC ?_) (λw _=>bA _) λy B C s f r=>.stop λD i=> ?_)) w (H.fK _ _)
 .have:∀T:Array Value,Array.map (Frame.eval (FQ cf T (.inRegion lY [0,1]::kG))) #[.tmp 9,.tmp 3,.tmp 4,.tmp 11,.tmp 8,.tmp 10]=#[T.getD 9 undef,T.getD 3 undef,T.getD 4 undef,T.getD 11 undef,T.getD 8 undef,T.getD 10 undef]:=λT=>by simp[Frame.eval]
  rw[this,b.s9,b.s3,b.s4,b.s8,k,m]
 .have n:=H.tr _ _ _ _ r i;exact⟨rfl,(n.keep bi (.inl z)).trans u,(n.keep bn (.inl q)).trans o,y,b.keep (B.trans b.z) λt x=>s t (by rintro rfl;cases x),C,rfl⟩
def ao9(k:X.Ok)(b:X.Sl T j)(F:j<X.n2) :
  bI prog true (X.Rl R) (oK R) (λu g _=>u=S/\∃T',X.Sl T' (j+1)/\g=Gl (FQ cf T' (.code jf::kB)::xs) bs) S
   (Gl (FQ cf T (.inRegion lY []::kG)::xs) bs) w:=by
 have H:=X.mG R;obtain⟨E,D,i⟩:=aDh;obtain⟨B,G,s⟩:=aDi;have p:=k.n2m;refine ig H.cmp (aiE H.cmp (fN H.cmp (l:=[0,1]) rfl (bK H.cmp (d:=27) (v:=.int .i64 ((j:Int)+1)) (es:=#[]) (by rw[b.z];exact bd (by decide) b.zz) i rfl rfl (λw _=>auX (x:=.tmp 20) b.ij rfl (by omega) (by omega)) (λw _=>bA _) λo f y m=>
  bK H.cmp (d:=20) (v:=.int .i64 ((j:Int)+1)) (es:=#[]) (by rw[f,b.z];exact bd (by decide) b.zz) s rfl rfl (λw _=>fp (x:=.tmp 27) y) (λw _=>bA _) λz r n c=>
   ig H.cmp (aqF H.cmp λA C=>.stop λI q=>⟨rfl,z, ?_,rfl⟩)))) w (H.fK _ _)
 have a:=b.keep (T':=o) (f.trans b.z) λt e=>m t (by rintro rfl;cases e);refine⟨r.trans a.z,a.zz,(c 3 (by decide)).trans a.s3,(c 4 (by decide)).trans a.s4,(c 8 (by decide)).trans a.s8,(c 9 (by decide)).trans a.s9,(c 18 (by decide)).trans a.s18,(c 19 (by decide)).trans a.s19,by rw[n];rfl,λt e=>(c t (by rintro rfl;cases e)).trans (a.sv t e)⟩
def aed{val:Nat->Value}{A:au->au->Goroutine->World->Prop}{r:Nat}(h:bI prog true (X.Rl R) (X.Gr R) (λS g w=>(S=λ_=>False)/\tK prog eE.tWg X.Wg X.C X.n2 val A r R g w) (λ_=>False) g w):tK prog eE.tWg X.Wg X.C X.n2 val A r R g w:=by
 cases r with
 |zero=>exact bI.bind (X.mG _).fK (X.mG _).tr h λS g w ⟨hS,h⟩=>by subst hS;exact h
 |succ r=>exact bI.bind (X.mG _).fK (X.mG _).tr h λS g w ⟨hS,h⟩=>by subst hS;exact h
def acY(f:X.Ok){x:Int->List iD->Int->ByteArray×Bool}(N:eF x)(u:∀k nm,x k [] nm=(⟨#[]⟩,false)){val:Nat->Value}(i:∀B nm,X.dA[B]?=some nm->val (2*B)=.string (x X.key X.l nm).1/\val (2*B+1)=.bool (x X.key X.l nm).2) :
  ∀(r j:Nat) (R:au) (T:Array Value) (w:World),j+r=X.n2->X.At R w->WgLive eE.tWg X.Wg w->X.Sl T j->tK prog eE.tWg X.Wg X.C X.n2 val (acX X xs bs) r R (Gl (FQ cf T (.code jf::kB)::xs) bs) w
 |0,j,R,T,w,hj,hat,o,hs=>by
  obtain rfl:j=X.n2:=hj;have M:X.Inv R (λ_=>False) w:=⟨λb h=>h.elim,hat,o,λb _ h=>h⟩;exact bI.bind (X.mG R).fK (X.mG R).tr (Mx.lift (ao6 hs) M) λS g w ⟨⟨T',c,hS,hg⟩,d⟩=>by
   rw[hg];exact ahy c d
 |r+1,j,R,T,w,hj,hat,o,hs=>by
  have l:j<X.n2:=by omega
  have M:X.Inv R (λ_=>False) w:=⟨λb h=>h.elim,hat,o,λb _ h=>h⟩;have F:X.n2-(r+1)=j:=by omega
  show bI prog true (X.Rl R) (X.Gr R) (λS g w=>aqo prog eE.tWg X.Wg X.C X.n2 val (X.n2-(r+1)) (tK prog eE.tWg X.Wg X.C X.n2 val (acX X xs bs) r) R S g w) (λ_=>False) _ w;rw[F];refine bI.bind (X.mG R).fK (X.mG R).tr (Mx.lift (ao4 f hs l hat) M) λS g w ⟨⟨T',bi,bn,nm,hnm,c,d10,d11,si,sn,ci,cn,hg⟩,d⟩=> ?_;rw[hg,ao7];have hI:=d.at_.nm f hnm;obtain⟨-, -, -,U⟩:=hI;refine ao2 (b₀:=FQ cf #[] []) (a₀:=⟨T',[]⟩) (ops₀:=aav) (i₀:=0) (rest₀:=[]) (k₀:=kA) (cs:=xs++bs) aat (Q:=λw=>X.Inv R S w/\w.heap[bi]?=some (.cells #[.int .i64 j] 3)/\w.heap[bn]?=some (.cells #[.int .i64 nm] 3))
   (λw q h I=>⟨h.1.rely I,(I.keep bi (.inl si)).trans h.2.1,(I.keep bn (.inl sn)).trans h.2.2⟩) (λw v z h Z=> ?_) (λw o h=> ?_) w d.live ⟨d,ci,cn⟩
  .have s:∀b,S b->(w.setCell (stA X.Wg) (.int .u64 z)).heap[b]?=w.heap[b]?:=λb n=>bj _ _ _ λe=>(h.1.s b n).2.2 e.symm;refine⟨⟨λb n=>⟨by rw[be];exact(h.1.s b n).1,(h.1.s b n).2⟩,h.1.at_.wg _ _ rfl, ?_,h.1.sr⟩,(s bi si).trans h.2.1,(s bn sn).trans h.2.2⟩;exact⟨z,0,Z.setSt z⟩
  .obtain⟨p6,a6,V⟩:=aA3;have P:G ((FQ cf #[] []).at ((⟨T',[]⟩:Act).put ((aav[0]?).bind (·.dst)) (.tuple #[])) (.inRegion aav []::kA)) (xs++bs)=Gl (FQ cf (T'.setIfInBounds 25 (.tuple #[])) (.inRegion aav []::kA)::xs) bs:=by rw[V];rfl
   rw[P];have m:∀t,t≠25->(T'.setIfInBounds 25 (.tuple #[])).getD t undef=T'.getD t undef:=λt A=>by rw[aH (by rw[c.z];exact bd (by decide) c.zz),bv A]
   have J:X.Sl (T'.setIfInBounds 25 (.tuple #[])) j:=c.keep (by simpa using c.z) λt A=>m t (by rintro rfl;cases A);refine bI.weak (λ_ _ _ h=>h) (λ_ _ _ _ _ h=>h) (λp g q h=> ?_) (Mx.lift (ao8 (nm:=nm) J ((m 10 (by decide)).trans d10) ((m 11 (by decide)).trans d11) si sn h.2.1 h.2.2) h.1);obtain⟨⟨rfl,E,K,T2,y,H,rfl⟩,C⟩:=h;have a:X.At (λb=>p b\/R b) q:=C.at_.grow C.s;refine⟨rfl,_,_,λb=>p b\/R b,auV H,λ_ h=>h,λhp o=> ?_, ?_⟩
   .obtain⟨v0,W⟩:=i j nm hnm
    let Y:Wx:=⟨q,X.Wg,X.C,X.n2,j,λb=>p b\/R b,X.Rg,X.key,X.A,X.n,X.c,X.l,nm,X.bk,X.bp,bn,X.ba,bi,eE.tWg⟩
    have D:Y.Ok:=⟨ap f.hN a.sz,f.gl,a.gr f,f.k1,f.k2,f.hl,f.hc,f.hcm,a.rd f,a.rgp f,f.al,U,l,λb n=>a.rows b (f.vr b n),⟨a.rk.1,(tG a.rk.2).1⟩,⟨a.rp.1,(tG a.rp.2).1⟩,⟨.inl sn,(tG K).1⟩,⟨a.ra.1,(tG a.ra.2).1⟩,⟨.inl si,(tG E).1⟩,a.rlt,a.rC,a.rW,f.cW⟩;have L:Y.Inv (λ_=>False) q:=⟨λ_ _=>rfl,λb h=>h.elim,a.ltC,a.ltW,am _,o,hp,rfl⟩;exact ajz (X:=Y) D N u rfl v0 W L
   .-- the rounds that are left
    have O:X.Inv (λb=>p b\/R b) (λ_=>False) q:=⟨λb h=>h.elim,a,C.live,λb _ h=>h⟩;have hx:=Mx.lift (ao9 (S:=λ_=>False) (xs:=xs) (bs:=bs) f y l) O;have k:∀(g:Goroutine) (w:World) (S:au),((S=λ_=>False)/\∃T',X.Sl T' (j+1)/\g=Gl (FQ cf T' (.code jf::kB)::xs) bs)/\X.Inv (λb=>p b\/R b) S w->S=(λ_=>False)/\tK prog eE.tWg X.Wg X.C X.n2 val (acX X xs bs) r (λb=>p b\/R b) g w:=by
     rintro g w S ⟨⟨rfl,T',c,rfl⟩,d⟩;exact⟨rfl,acY f N u i r (j+1) _ T' w (by omega) d.at_ d.live c⟩
    exact aed (bI.weak (λ_ _ _ h=>h) (λ_ _ _ _ _ h=>h) (λS g w h=>k g w S h) hx)
end
end
end Go.Proofs.YtbeafkpaghapeaaGreatDoor