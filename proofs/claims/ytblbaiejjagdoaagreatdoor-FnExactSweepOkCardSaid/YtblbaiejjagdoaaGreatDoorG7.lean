/- A part. -/
import Derived.Test.YtblbaiejjagdoaaGreatDoorG6
import Derived.Laws.Cover1
set_option maxRecDepth 100000
set_option maxHeartbeats 8000000
set_option linter.all false
open Go Go.RowKit Go.Proofs.Tryz Go.Proofs.YtblbaiejjagdoaaGreatDoor
variable {x:It} {Z Y W c g j k n:Nat} {key:Int} {X:Type} {U T S:Value} {w w':World} {xs:List It} {s:ByteArray} {V cs:List Value} {A:Option Addr} {f:X→Nat}
namespace Go.Proofs.YtblbaiejjagdoaaGreatDoor
def ff:=@Go.wpQuiet_nil
def pv:=@List.pairwise_iff_getElem
def pT:=@List.length_nil
def qy:=@Nat.min_eq_left
def qG:=@List.getD_cons_zero
def qH:=@List.getD_cons_succ
def qL:=@UInt8.lt_iff_toNat_lt
def qR:=@Go.RowKit.Below.alloc
def qT:=@List.getElem?_of_mem
def rm:=@List.length_singleton
def rD:=@List.sum_cons
def rJ:=@List.getElem?_set_self
def rV:=@List.pairwise_append
def rX:=@List.getElem?_set_ne
def su:=@List.pairwise_singleton
def tC:=@Bool.false_and
def tQ:=@Bool.true_and
def ue:=@List.sum_append
def vx:=@List.mem_of_mem_drop
section
variable {β:Bool}
open Go.RowKit
section
variable {α:Type} {E:fq α} {T:List TypeId} {sz:Nat} {e:TypeId}
def Els(E:fq α)(sz:Nat)(w:World)(lo hi:Nat)(xs:List α)(cells:List Value):Prop:=
 cells.length=xs.length*sz/\(∀u∈cells,u.oneCell'=true)/\∃m:Nat->Nat,(∀i,m i<=m (i+1))/\lo<=m 0/\m xs.length<=hi/\
  ∀i x,xs[i]?=some x->∃a:List Value,a.length=sz/\E w (m i) (m (i+1)) x a/\∀j u,a[j]?=some u->cells[i*sz+j]?=some u
def dW{m:Nat->Nat}(h:∀i,m i<=m (i+1)){i:Nat}:∀{j:Nat},i<=j->m i<=m j
 |0,hj=>by obtain rfl:i=0:=by omega
           exact am _
 |j+1,hj=>by
  by_cases a:i=j+1
  .rw[a];exact am _
  .exact ap (dW h (show i<=j by omega)) (h j)
def Els.nil(h:Z<=Y):Els E sz w Z Y [] []:=⟨by simp,λ_ h=>(by cases h),λ_=>Z,λ_=>am _,am _,h,λi x h=>by simp at h⟩
def Els.go(g:gG E T){px hi' : Nat}{xs:List α}(h:Els E sz w Z Y xs V)(k:∀b,Z<=b->b<Y->vq w T b->w'.heap[b]?=w.heap[b]?)(t:px<=Z)(r:Y<=hi'):Els E sz w' px hi' xs V:=by
 obtain⟨a,b,m,c,q,s,o⟩:=h;refine⟨a,b,m,c,by omega,by omega,λi x Y=> ?_⟩;obtain⟨j,l,f,n⟩:=o i x Y;have d:=aI Y;have v:=dW c (du i);have y:=dW c (show i+1<=xs.length by omega);exact⟨j,l,g.go (λb p u e=>k b (by omega) (by omega) e) (am _) (am _) f,n⟩
def Els.snoc{xs:List α}(h:Els E sz w Z Y xs V){y:α}{es:List Value}(n:es.length=sz)(A:∀u∈es,u.oneCell'=true)(H:Y<=W)(C:E w Y W y es)(B:∀a b,a<=Y->E w Y W y es->E w a b y es->True:=λ_ _ _ _ _=>trivial):Lcy E->Els E sz w Z W (xs++[y]) (V++es):=by
 intro g;clear B;obtain⟨a,b,m,o,q,r,G⟩:=h;refine⟨by rw[ge,ge,a,n,rm,Nat.add_mul,Nat.one_mul],λu d=> ?_,λi=>if i<=xs.length then m i else W,λi=> ?_, ?_, ?_,λi x c=> ?_⟩
 .rcases gt.1 d with d|d
  .exact b u d
  .exact A u d
 .show(if i<=xs.length then m i else W)<=(if i+1<=xs.length then m (i+1) else W);by_cases p:i+1<=xs.length
  .rw[dl p,dl (by omega)];exact o i
  .rw[bd p];by_cases k:i<=xs.length
   .rw[dl k];have:=dW o k;omega
   .rw[bd k];exact am _
 .show Z<=(if 0<=xs.length then m 0 else W);rw[dl (du _)];exact q
 .show(if(xs++[y]).length<=xs.length then _ else W)<=W;rw[bd (by rw[ge,rm];omega)];exact am _
 .rcases nf i xs.length with f|D
  .rw[qa f] at c;obtain⟨l,z,v,F⟩:=G i x c;refine⟨l,z, ?_,λj u d=> ?_⟩
   .show E w (if i<=xs.length then m i else W) (if i+1<=xs.length then m (i+1) else W) x l;rw[dl (by omega),dl (by omega)];exact v
   .have I:=aI d;have t:(i+1)*sz<=xs.length*sz:=rq _ f;rw[so] at t;rw[qa (by omega)];exact F j u d
  .rw[pL D] at c;have s:i-xs.length=0:=by have:=aI c;simp at this;omega
   rw[s] at c;simp at c;subst c;have e:i=xs.length:=by omega
   refine⟨es,n, ?_,λj u d=> ?_⟩
   .show E w (if i<=xs.length then m i else W) (if i+1<=xs.length then m (i+1) else W) y es;rw[dl (by omega),bd (by omega),e];exact g.wide C r (am _)
   .rw[e,pL (by omega),a,rE];exact d
def Els.at_(K:gG E T){xs:List α}(h:Els E sz w Z Y xs V){i:Nat}{x:α}(v:xs[i]?=some x) :
  ∃m l g,Z<=m/\m<=l/\l<=Y/\g.length=sz/\E w m l x g/\(∀j u,g[j]?=some u->V[i*sz+j]?=some u)/\
   ∀(n:World) (y:α) (d:List Value),d.length=sz->(∀u∈d,u.oneCell'=true)->(∀b,Z<=b->b<Y->vq w T b->¬(m<=b/\b<l)->n.heap[b]?=w.heap[b]?)->E n m l y d->
    ∀c:List Value,c.length=V.length->(∀k,¬(i*sz<=k/\k<i*sz+sz)->c[k]?=V[k]?)->(∀j u,d[j]?=some u->c[i*sz+j]?=some u)->(∀u∈c,u.oneCell'=true)->Els E sz n Z Y (xs.set i y) c:=by
 obtain⟨a,b,m,e,B,C,A⟩:=h;have p:=aI v;obtain⟨g,Q,J,R⟩:=A i x v;have l1:=dW e (du i);have l2:=dW e (show i+1<=xs.length by omega);refine⟨m i,m (i+1),g,by omega,e i,by omega,Q,J,R,λn y d L X O M c N r q s=>⟨by rw[N,a,qZ],s,m,e,B,by rw[qZ];exact C,λk z f=> ?_⟩⟩;by_cases o:i=k
 .subst o;rw[rJ p] at f;cases f;exact⟨d,L,M,q⟩
 .rw[rX o] at f;obtain⟨G,I,H,P⟩:=A k z f;have D:=aI f;have S:=dW e (du k);have k2:=dW e (show k+1<=xs.length by omega);refine⟨G,I,K.go (λb U b2 F=>O b (by omega) (by omega) F λW=> ?_) (am _) (am _) H,λj u t=> ?_⟩
  .rcases Nat.lt_or_gt_of_ne o with h|h
   .have:=dW e (show i+1<=k by omega);omega
   .have:=dW e (show k+1<=i by omega);omega
  .rw[r _ (by
    have hj:=aI t;rcases Nat.lt_or_gt_of_ne o with h|h
    .have:(i+1)*sz<=k*sz:=rq _ h;rw[so] at this;omega
    .have:(k+1)*sz<=i*sz:=rq _ h;rw[so] at this;omega)]
   exact P j u t
def fh(e:TypeId)(E:fq α)(sz:Nat):fq (List α):=λw b c a d=>
 ∃(v:Value) (cells:List Value),d=[v]/\w.ownsRow b e sz v a.length cells/\(∀g,v.ownBlock=some g->g<c)/\Els E sz w b c a cells
def fh.form{v:Value}{xs:List α}(h:fh e E sz w Z Y xs [v]):∃A c,v=.slice A xs.length c:=by
 obtain⟨b,cells,a,h,_⟩:=h;cases a;exact lY h
def fh.aK(o:gG E T):gG (fh e E sz) (e::T):=by
 refine⟨?_⟩;intro w x B z u s y A l n j h;obtain⟨v,cells,rfl,i,m,f⟩:=h;refine⟨v,cells,rfl,⟨i.1, ?_⟩,λg a=>aE (m g a) j,f.go o (λb p q ⟨t,ht,hd⟩=>l b p q ⟨t,qk _ ht,hd⟩) n j⟩;rcases i.2 with r|⟨g,cap,c,rfl,k,a,d⟩
 .exact .inl r
 .refine .inr ⟨g,cap,c,rfl,ap n k, ?_,d⟩;rw[l g k (m g rfl) ⟨e,qA,c,a⟩];exact a
def fh.sl{k:fq α}(d:Lcy k)(H:∀{w:World} {Z Y:Nat} {x:α} {b:List Value},E w Z Y x b->k w Z Y x b){xs:List α}(h:fh e E sz w Z Y xs cs):aY k sz w Z Y xs cs:=by
 obtain⟨v,cells,rfl,z,y,a,_,m,o,J,K,I⟩:=h;obtain⟨_,q⟩:=z;rcases q with⟨rfl,r⟩|⟨g,cap,l,rfl,t,B,n,f,D,s⟩
 .exact⟨none,0,by rw[r],by omega,by unfold maxLen;omega,λL=>by omega⟩
 .refine⟨_,cap,rfl,n,f,λ_=>⟨g,0,rfl,t,y g rfl,λi x Y=> ?_⟩⟩;obtain⟨b,F,A,G⟩:=I i x Y;have p:=aI Y;have M:=dW o (du i);have N:=dW o (show i+1<=xs.length by omega);refine⟨b,F,d.wide (H A) (by omega) (by omega),λj u C=> ?_⟩;have c:=G j u C;rw[<-s,qB] at c;split at c
  .rw[cell_of_row w g (0+i*sz+j) l _ (0,0) B,ph];simpa using c
  .cases c
def fh.slT{f:fq α}(a:Lcy f)(o:∀{w:World} {Z Y:Nat} {x:α} {i:List Value},E w Z Y x i->f w Z Y x i){xs:List α}(h:fh e E sz w Z Y xs cs):lZ e f sz w Z Y xs cs:=by
 refine⟨h.sl a o,λq b l n c j=> ?_⟩;obtain⟨v,cells,rfl,p,r,_⟩:=h;simp only[qz,qh] at j;subst j;rcases p.2 with⟨d,_⟩|⟨g,cap,k,d,_,m,_⟩
 .cases d
 .cases d;exact⟨_,m⟩
def fh.put(Q:gG E T)(L:e∉T){xs:List α}(h:fh e E sz w Z Y xs [.slice (some ⟨g,0,none⟩) n c]){i : Nat}{x y:α}{u:Value}(N:xs[i]?=some x)(hj:j<sz)(U:u.oneCell'=true)(W:∀(O:World) (Z Y:Nat) (z:List Value),E O Z Y x z->E O Z Y y (z.set j u)) :
  fh e E sz (w.setCell ⟨g,i*sz+j,none⟩ u) Z Y (xs.set i y) [.slice (some ⟨g,0,none⟩) n c]:=by
 obtain⟨v',cells,F,D,V,o⟩:=h;cases F;obtain⟨A,c',C⟩:=lY D;cases C;have G:=aI N;have J:=(D.stored (i*sz+j) u).1;obtain⟨m,m',z,l1,l2,l3,F,C,X,K⟩:=o.at_ Q N;have I:¬vq w T g:=λ⟨t,l,ds,hd⟩=>by
  rcases D.2 with⟨H,_⟩|⟨g',cap,S,H,_,P,_⟩
  .cases H
  .cases H;exact L (abS P hd▸l)
 have q:∀b,vq w T b->(w.setCell ⟨g,i*sz+j,none⟩ u).heap[b]?=w.heap[b]?:=λb l=>mc _ _ _ _ (by rintro rfl;exact I l);have d:∀v∈cells.set (i*sz+j) u,v.oneCell'=true:=λv r=>by
  rcases List.mem_or_eq_of_mem_set r with r|rfl
  .exact o.2.1 v r
  .exact U
 have p:∀f B,(z.set j u)[f]?=some B->(cells.set (i*sz+j) u)[i*sz+f]?=some B:=λf B a=>by
  by_cases s:j=f
  .subst s;rw[rJ (by omega)] at a;rw[rJ (by
    have R:(i+1)*sz<=xs.length*sz:=rq _ G;rw[so] at R;rw[o.1];omega)]
   exact a
  .rw[rX s] at a;rw[rX (by omega)];exact X f B a
 refine⟨_,cells.set (i*sz+j) u,rfl,by rw[qZ];exact J,V,K _ y (z.set j u) (by rw[qZ];exact F) (λv r=> ?_) (λb b1 b2 l _=>q b l) (W _ _ _ _ (Q.go (λb _ _ l=>q b l) (am _) (am _) C)) _ (by rw[qZ]) (λk P=> ?_) p d⟩
 .obtain⟨f,M⟩:=qT r;exact d v (be (p f v M))
 .rw[rX (by omega)]
def eY(e:TypeId)(E:fq α)(sz N:Nat)(w:World)(lo g hi:Nat)(xs:List α):Prop:=∃cells,Pre w g e N cells/\lo<=g/\g<hi/\Els E sz w lo hi xs cells
def eY.own{xs:List α}(h:eY e E sz (xs.length*sz) w Z g Y xs)(l:xs.length<=maxLen):fh e E sz w Z Y xs [.slice (some ⟨g,0,none⟩) xs.length xs.length]:=by
 obtain⟨cells,⟨n,m,k,p⟩,o,f,a⟩:=h;refine⟨_,cells,rfl,⟨a.1,.inr ⟨g,xs.length,n,rfl,o,m,am _,l,k, ?_⟩⟩,λb i=>by cases i;exact f,a⟩;apply tJ;intro j;rw[qB];have q:=a.1;by_cases d:j<xs.length*sz
 .rw[dl d];have c:j<cells.length:=by omega
  rw[jn c,<-p j _ (jn c)];simp
 .rw[bd d,qN (by omega)]
def eY.ajH(l:gG E T)(k:e∉T){xs:List α}(h:eY e E 2 Z w Y g W xs){y:α}{u0 u1:Value}(A:u0.oneCell'=true)(C:u1.oneCell'=true)(v:W<=c)(s:E w W c y [u0,u1])(G:xs.length*2+2<=Z) :
  eY e E 2 Z ((w.setCell ⟨g,xs.length*2,none⟩ u0).setCell ⟨g,xs.length*2+1,none⟩ u1) Y g c (xs++[y]):=by
 obtain⟨cells,m,z,F,i⟩:=h;have r:=i.1;have x:=m.push u0 (by omega);have n:=x.push u1 (by rw[ge,rm];omega);rw[ge,rm,r] at n;have j:¬vq w T g:=λ⟨t,a,D,hd⟩=>by
  obtain⟨B,p,_⟩:=m;exact k (abS p hd▸a)
 have f:∀b,vq w T b->((w.setCell ⟨g,xs.length*2,none⟩ u0).setCell ⟨g,xs.length*2+1,none⟩ u1).heap[b]?=w.heap[b]?:=λb a=>by
  have d:b≠g:=by rintro rfl;exact j a
  rw[mc _ _ _ _ d,mc _ _ _ _ d]
 refine⟨cells++[u0,u1], ?_,z,by omega, ?_⟩
 .rw[show cells++[u0,u1]=cells++[u0]++[u1] by simp];exact n
 .have q:=Els.snoc (E:=E) (i.go (px:=Y) (hi':=W) l (λb _ _ a=>f b a) (am _) (am _)) (y:=y) (es:=[u0,u1]) rfl (λu o=>by simp at o;rcases o with rfl|rfl<;>assumption) v (l.go (λb _ _ a=>f b a) (am _) (am _) s);exact q l.loc
def eY.chg(d:gG E T){xs:List α}(h:eY e E sz Z w Y g W xs)(c:Below w.heap.size w w')(k:W<=w.heap.size):eY e E sz Z w' Y g W xs:=by
 obtain⟨cells,f,i,j,a⟩:=h;exact⟨cells,f.chg (gq.aeq (S:=λ_=>False) c) (λh=>h),i,j,a.go d (λb _ l _=>c.block b (by omega)) (am _) (am _)⟩
def eY.frozen{xs:List α}(h:eY e E sz Z w Y g W xs)(j:Nat):w.frozen? ⟨g,j,none⟩=false:=by
 obtain⟨cells,a,_⟩:=h;exact a.frozen j
def eY.there{xs:List α}(h:eY e E sz Z w Y g W xs)(b:j<Z):∃u,w.cell? ⟨g,j,none⟩=some u:=by
 obtain⟨cells,a,_⟩:=h;exact a.there b
def eY.new(e:TypeId)(E:fq α)(sz:Nat)(w:World)(cs:Array Value):eY e E sz cs.size (w.alloc (.cells cs e)) w.heap.size w.heap.size (w.alloc (.cells cs e)).heap.size []:=
 ⟨[],Pre.new _ _ _,am _,by simp,Els.nil (by simp)⟩
end
def aS.aBG{F:Flat X}{e:TypeId}{base : Nat}{v:Value}{xs:List X}(h:aS F e w base v xs)(b:∀x∈xs,F.good x)(c:base<=Z)(a:∀g,v.ownBlock=some g->g<Z):fh e (cD F) F.sz w base Z xs [v]:=
 ⟨v,dB F xs,rfl,h,a,eT F xs,acA F xs,λ_=>base,λ_=>am _,am _,c,λi x Z=>⟨F.cells x,F.len x,⟨rfl,b x (be Z)⟩,λ_ _ d=>gU F xs i _ x _ Z d⟩⟩
end
section
variable {β:Bool}
open Go.RowKit
structure Ls where
 p:ByteArray
 ns:List Int
structure Sn where
 no:Int
 all:List Ls
structure Hd where
 b:Int
 s:Int
structure ib where
 pk:List Pk
 sn:List Sn
 lg:List Hd
def FHd:Flat Hd:=⟨2,λx=>[.int .i64 x.b,.int .i64 x.s],λx=>dJ x.b/\dJ x.s,λ_=>rfl,λx u a=>by simp at a;rcases a with rfl|rfl<;>rfl,by decide⟩
abbrev dy:fq (List It):=aY (cD FIt) 2
def apb:fq Pk:=λw a b x c=>∃v,c=[.int .i64 x.no,v]/\dJ x.no/\dy w a b x.its [v]
abbrev cK:fq (List Pk):=aY apb 2
def apc:fq Ls:=λw a b x c=>∃v,c=[.string x.p,v]/\x.p.size<=maxLen/\aY bz 1 w a b x.ns [v]
abbrev bA:fq (List Ls):=aY apc 2
def apd:fq Sn:=λw a b x c=>∃v,c=[.int .i64 x.no,v]/\dJ x.no/\bA w a b x.all [v]
abbrev cZ:fq (List Sn):=aY apd 2
abbrev dU:fq (List Hd):=aY (cD FHd) 2
def dy.loc:Lcy dy:=aY.loc (cD.loc FIt)
def apb.loc:Lcy apb:=⟨λh a b ⟨v,e,i,hr⟩=>⟨v,e,i,dy.loc.go h a b hr⟩⟩
def cK.loc:Lcy cK:=aY.loc apb.loc
def jB.loc:Lcy (aY bz 1):=aY.loc bz.loc
def apc.loc:Lcy apc:=⟨λh a b ⟨v,e,i,hr⟩=>⟨v,e,i,jB.loc.go h a b hr⟩⟩
def bA.loc:Lcy bA:=aY.loc apc.loc
def apd.loc:Lcy apd:=⟨λh a b ⟨v,e,i,hr⟩=>⟨v,e,i,bA.loc.go h a b hr⟩⟩
def cZ.loc:Lcy cZ:=aY.loc apd.loc
def dU.loc:Lcy dU:=aY.loc (cD.loc FHd)
abbrev adE:fq (List It):=fh 83 (cD FIt) 2
def OPk:fq Pk:=λw a b x c=>∃v,c=[.int .i64 x.no,v]/\dJ x.no/\adE w a b x.its [v]
abbrev mF:fq (List Pk):=fh 56 OPk 2
abbrev abU:fq (List Int):=fh 3 (cD fW) 1
def adE.aK:gG adE [83]:=fh.aK (cD.aK FIt)
def OPk.aK:gG OPk [83]:=⟨λh a b ⟨v,e,i,hr⟩=>⟨v,e,i,adE.aK.go h a b hr⟩⟩
def mF.aK:gG mF [56,83]:=fh.aK OPk.aK
def abU.aK:gG abU [3]:=fh.aK (cD.aK fW)
def adE.l{x:List It}(h:adE w Z Y x cs):dy w Z Y x cs:=fh.sl (cD.loc FIt) (λh=>h) h
def adE.t{x:List It}(h:adE w Z Y x cs):iB w Z Y x cs:=fh.slT (cD.loc FIt) (λh=>h) h
def OPk.l{x:Pk}(h:OPk w Z Y x cs):apb w Z Y x cs:=by
 obtain⟨v,e,i,a⟩:=h;exact⟨v,e,i,adE.l a⟩
def OPk.t{x:Pk}(h:OPk w Z Y x cs):RPk w Z Y x cs:=by
 obtain⟨v,e,i,a⟩:=h;exact⟨v,e,i,adE.t a⟩
def mF.l{x:List Pk}(h:mF w Z Y x cs):cK w Z Y x cs:=fh.sl apb.loc OPk.l h
def mF.t{x:List Pk}(h:mF w Z Y x cs):eE w Z Y x cs:=fh.slT RPk.aK.loc OPk.t h
def abU.l{x:List Int}(h:abU w Z Y x cs):aY bz 1 w Z Y x cs:=fh.sl bz.loc (λh=>h) h
def OLs:fq Ls:=λw a b x c=>∃v,c=[.string x.p,v]/\x.p.size<=maxLen/\abU w a b x.ns [v]
abbrev ahO:fq (List Ls):=fh 75 OLs 2
def OSn:fq Sn:=λw a b x c=>∃v,c=[.int .i64 x.no,v]/\dJ x.no/\ahO w a b x.all [v]
abbrev adF:fq (List Sn):=fh 48 OSn 2
abbrev ahP:fq (List Hd):=fh 125 (cD FHd) 2
def OLs.aK:gG OLs [3]:=⟨λh a b ⟨v,e,i,hr⟩=>⟨v,e,i,abU.aK.go h a b hr⟩⟩
def ahO.aK:gG ahO [75,3]:=fh.aK OLs.aK
def OSn.aK:gG OSn [75,3]:=⟨λh a b ⟨v,e,i,hr⟩=>⟨v,e,i,ahO.aK.go h a b hr⟩⟩
def adF.aK:gG adF [48,75,3]:=fh.aK OSn.aK
def ahP.aK:gG ahP [125]:=fh.aK (cD.aK FHd)
def OLs.l{x:Ls}(h:OLs w Z Y x cs):apc w Z Y x cs:=by
 obtain⟨v,e,i,a⟩:=h;exact⟨v,e,i,abU.l a⟩
def ahO.l{x:List Ls}(h:ahO w Z Y x cs):bA w Z Y x cs:=fh.sl apc.loc OLs.l h
def OSn.l{x:Sn}(h:OSn w Z Y x cs):apd w Z Y x cs:=by
 obtain⟨v,e,i,a⟩:=h;exact⟨v,e,i,ahO.l a⟩
def adF.l{x:List Sn}(h:adF w Z Y x cs):cZ w Z Y x cs:=fh.sl apd.loc OSn.l h
def ahP.l{x:List Hd}(h:ahP w Z Y x cs):dU w Z Y x cs:=fh.sl (cD.loc FHd) (λh=>h) h
def jC(k:Int)(b:Nat):Int:=if k-b<0 then -1 else k-b
def aX{α:Type}(f:α->Nat)(l:List α):Nat:=l.length+(l.map f).sum
def eA{α:Type}(f:α->Nat)(l:List α)(j:Nat):Nat:=l.length+((l.take j).map f).sum
def eG(f:X->Nat)(l:List X):eA f l 0=l.length:=rfl
def kX{l:List X}{x:X}(h:l[j]?=some x):eA f l (j+1)=eA f l j+f x:=by
 unfold eA;rw[gn h,oR,ue];simp only[pK,ug,rD,List.sum_nil];omega
def mG(f:X->Nat)(l:List X):eA f l l.length=aX f l:=by unfold eA aX;rw[dk]
def oV{l:List X} :eA f l j<=aX f l:=by
 unfold eA aX;have h:l.map f=(l.take j).map f++(l.drop j).map f:=by rw[<-oR,pJ]
 rw[h,ue];omega
def oW{a:Type}{f:a->Nat}:∀{l:List a} {x:a},x∈l->f x<=aX f l
 |[],_,h=>by cases h
 |y::l,x,h=>by
  have e:aX f (y::l)=aX f l+1+f y:=by unfold aX;simp only[mp,pK,rD];omega
  rcases lE.1 h with rfl|h
  .omega
  .have:=oW (f:=f) h;omega
def fJ{l:List X}:l.length<=aX f l:=by unfold aX;omega
def bF{k:Int}{b:Nat}(h:k-b<0):jC k b=-1:=dl h
def cP{k:Int}{b:Nat}(h:0<=k-b):jC k b=k-b:=bd (by omega)
def bIt(x:It):Nat:=x.b.size
def bPk(x:Pk):Nat:=aX bIt x.its
def oX(x:Ls):Nat:=x.p.size+x.ns.length
def bSn(x:Sn):Nat:=aX oX x.all
def kY{α:Type}(n:α->Nat)(l:List α)(j:Nat):Nat:=((l.take j).map n).sum
def fK{α:Type}(n:α->Nat)(l:List α):Nat:=(l.map n).sum
def kv{n:X->Nat}{l:List X}{x:X}(h:l[j]?=some x):kY n l (j+1)=kY n l j+n x:=by
 unfold kY;rw[gn h,oR,ue];simp
def acE(n:X->Nat)(l:List X):kY n l l.length=fK n l:=by unfold kY fK;rw[dk]
def kx{n:X->Nat}{l:List X} :kY n l j<=fK n l:=by
 unfold kY fK;have h:l.map n=(l.take j).map n++(l.drop j).map n:=by rw[<-oR,pJ]
 rw[h,ue];omega
def abV{c:Type}:∀(l:List c) (j:Nat) (a b:c),(l.set j a).set j b=l.set j b
 |[],_,_,_=>rfl
 |_::_,0,_,_=>rfl
 |x::l,j+1,a,b=>by show x::(l.set j a).set j b=x::l.set j b;rw[abV l j a b]
end
section
variable {β:Bool}
open Go.RowKit
def alJ(x:It)(k:Int)(w:World)(b:x.b.size<=maxLen)(c:0<=k)(d:k<=1048576):Calls (ah β) 135 #[.agg #[.int .i64 x.n,.string x.b],.int .i64 k] w λe a=>e=.returned (.int .i64 (jC k (bIt x)))/\Below w.heap.size w a:=by
 unfold maxLen at b;by_cases h:k-(x.b.size:Int)<0
 .rw[bF (show k-((bIt x:Nat):Int)<0 from h)];go_enter wS,ntmps135;go_wp2;go_ret;exact⟨rfl,aJ _ _⟩
 .rw[cP (show(0:Int)<=k-(bIt x:Int) by unfold bIt;omega)];unfold bIt;go_enter wS,ntmps135;go_wp2;go_ret;exact⟨rfl,aJ _ _⟩
def ade(xs:List It)(v:Value)(k:Int)(w:World)(V M:Nat)(h:dy w V M xs [v])(P:M<=w.heap.size)(hk:0<=k)(oJ:k<=1048576) :
  Calls (ah β) 102 #[v,.int .i64 k] w λe N=>e=.returned (.int .i64 (jC k (aX bIt xs)))/\Below w.heap.size w N:=by
 obtain⟨A,c,rfl⟩:=h.form;obtain⟨_,hc,S⟩:=h.len_;unfold maxLen at S;by_cases T:k-(xs.length:Int)<0
 .rw[bF (show k-((aX bIt xs:Nat):Int)<0 by have:=fJ (f:=bIt) (l:=xs);omega)];go_enter wY,ntmps102;go_wp2;go_ret;exact⟨rfl,db _ _⟩
 generalize D:jC k (aX bIt xs)=q;replace D:=ab D;go_enter wY,ntmps102;go_wp2;go_loopw [1,5] (λQ I wr=>∃j:Nat,j<=xs.length/\I=.int .i64 j/\Q=.int .i64 (k-(eA bIt xs j:Nat))/\0<=k-((eA bIt xs j:Nat):Int)/\Below w.heap.size w wr) (λ_ I _=>xs.length-(intOf I).toNat)
 case atStart=>exact⟨0,du _,rfl,by rw[eG],by rw[eG];omega,db _ _⟩
 case round=>
  obtain⟨j,hj,rfl,rfl,o,g⟩:=hrel;by_cases F:j<xs.length
  .obtain⟨x,C⟩:=aq F;have a:=kX (f:=bIt) C;have n:=oV (f:=bIt) (l:=xs) (j:=j+1);replace a:=ab a;replace n:=ab n;obtain⟨b,s,es,rfl,_,Z,_,⟨rfl,E⟩,i⟩:=(dy.loc.below h g P).at_ C;have O:wr.cell? ⟨b,s+j*2,none⟩=some (.int .i64 x.n):=by simpa using i 0 _ rfl
   have W:wr.cell? ⟨b,s+j*2+1,none⟩=some (.string x.b):=by simpa using i 1 _ rfl
   clear i;replace C:=ab C;have d:∃z:Int,z=k-((eA bIt xs j:Nat):Int)/\0<=z/\z<=1048576:=⟨_,rfl,o,by omega⟩;obtain⟨z,d,p,r⟩:=d;rw[<-d];have H:=ab d;clear d o;go_wp2;refine(alJ x _ _ E.2 p r).mono ?_;rintro e X ⟨rfl,B⟩;by_cases G:z-((bIt x:Nat):Int)<0
   .rw[bF G];have u:(-1:Int)=q:=by rw[<-D.out,bF (show k-((aX bIt xs:Nat):Int)<0 by have J:=a.out;have Y:=n.out;have L:=H.out;omega)]
    have m:=ab u;clear u G;go_wp2;go_ret;exact⟨eJ m.out,ae g B⟩
   .rw[cP (show 0<=z-((bIt x:Nat):Int) by omega)];have t:∃y:Int,y=z-((bIt x:Nat):Int)/\0<=y:=⟨_,rfl,by omega⟩;obtain⟨y,t,U⟩:=t;rw[<-t];have K:=ab t;clear t G;go_wp2;go_roundw
    case rel=>exact⟨j+1,by omega,by go_num,by have J:=a.out;have L:=H.out;have R:=K.out;exact fa (Value.int .i64) (by omega),by have J:=a.out;have L:=H.out;have R:=K.out;omega,ae g B⟩
    simp[intOf];omega
  .obtain rfl:j=xs.length:=by omega
   rw[mG] at o ⊢;have d:∃z:Int,z=k-((aX bIt xs:Nat):Int)/\0<=z/\z<=1048576:=⟨_,rfl,o,by omega⟩;obtain⟨z,d,p,r⟩:=d;rw[<-d];have u:z=q:=by rw[<-D.out,cP o];exact d
   have m:=ab u;clear d o u;go_wp2;go_ret;exact⟨eJ m.out,g⟩
def alK(x:It)(w:World):Calls (ah β) 142 #[.agg #[.int .i64 x.n,.string x.b]] w λe a=>e=.returned (.agg #[.int .i64 x.n,.string x.b])/\Below w.heap.size w a:=by
 go_enter yH,ntmps142;go_wp2;exact pN (v:=.agg #[.int .i64 x.n,.string x.b]) (by simp[results,results142,go_sem]) rfl ⟨rfl,by repeat(first|exact db _ _|refine Below.setCell ?_ (by first|(simp;done)|(simp;omega)) _|refine qR ?_ (by first|(simp;done)|(simp;omega)) _)⟩
def alL:((ah β).info? 83).map (λi=>(i.zero,i.size,i.bytes))=some (some (.agg #[.int .i64 0,.string ⟨#[]⟩]),2,24):=by kernel_rfl
def ar0(w:World)(xs:List It)(e:Ending)(w':World):Prop:=∃v,e=.returned v/\adE w' w.heap.size w'.heap.size xs [v]/\Below w.heap.size w w'
def ajI(xs:List It)(v:Value)(w:World)(K u:Nat)(h:dy w K u xs [v])(D:u<=w.heap.size)(F:aX bIt xs<=1048576) :
  Calls (ah β) 108 #[v] w (ar0 w xs):=by
 obtain⟨A,c,rfl⟩:=h.form;have E:xs.length<=1048576:=ap fJ F;have I:=jS (P:=(ah β)) 54 83 (.agg #[.int .i64 0,.string ⟨#[]⟩]) 2 24 yZ alL xs.length (by omega) (by omega) w;go_enter yT,ntmps108;go_wp2;go_loopw [4] (λi wr=>∃k:Nat,k<=xs.length/\i=.int .i64 k/\eY 83 (cD FIt) 2 (xs.length*2) wr w.heap.size w.heap.size wr.heap.size (xs.take k)/\Below w.heap.size w wr) (λi _=>xs.length-(intOf i).toNat)
 case atStart=>
  refine⟨0,du _,rfl, ?_,(db _ _).alloc (am _) _⟩;have:=eY.new 83 (cD FIt) 2 w (madeCells #[.int .i64 0,.string ⟨#[]⟩] (xs.length*2));rw[rj] at this;exact this
 case round=>
  obtain⟨k,C,rfl,r,m⟩:=hrel;by_cases q:k<xs.length
  .obtain⟨x,n⟩:=aq q;obtain⟨b,l,O,rfl,_,N,_,⟨rfl,p⟩,d⟩:=(dy.loc.below h m D).at_ n;have B:wr.cell? ⟨b,l+k*2,none⟩=some (.int .i64 x.n):=by simpa using d 0 _ rfl
   have L:wr.cell? ⟨b,l+k*2+1,none⟩=some (.string x.b):=by simpa using d 1 _ rfl
   clear d;have s:=gn n;replace n:=ab n;replace s:=ab s;go_wp2;refine(alK x _).mono ?_;rintro e t ⟨rfl,f⟩;have G:(cD FIt) t wr.heap.size t.heap.size x [.int .i64 x.n,.string x.b]:=⟨rfl,p⟩;have g:=r.chg (cD.aK FIt) f (am _);have a:(xs.take k).length=k:=by rw[lc,qy C]
   obtain⟨u0,H⟩:=g.there (j:=k*2) (by omega);obtain⟨u1,M⟩:=g.there (j:=k*2+1) (by omega);have J:=g.frozen (k*2);have z:=g.frozen (k*2+1);have o:=g.ajH (cD.aK FIt) (by decide) (y:=x) (u0:=.int .i64 x.n) (u1:=.string x.b) rfl rfl f.size G (by rw[a];omega);rw[a,<-s.out] at o;replace o:=ab o;replace a:=ab a;go_wp2;go_roundw
   case rel=>exact⟨k+1,by omega,by go_num,by simp only[gE];exact o.out,((m.trans (f.mono m.size)).setCell (am _) _).setCell (am _) _⟩
   simp[intOf];omega
  .obtain rfl:k=xs.length:=by omega
   rw[dk] at r;go_wp2;go_ret;exact⟨_,rfl,r.own (by unfold maxLen;omega),m⟩
def ae0(x y:It)(w:World)(b:Bool)(d:b=true↔x=y):Calls (ah β) 159 #[.agg #[.int .i64 x.n,.string x.b],.agg #[.int .i64 y.n,.string y.b]] w λe k=>e=.returned (.bool b)/\Below w.heap.size w k:=by
 replace d:=ab d;by_cases a:x.n=y.n
 .have l:(x.n !=y.n)=false:=by rw[pu];exact a
  replace a:=ab a;by_cases c:x.b=y.b
  .have j:(x.b.toList ==y.b.toList)=true:=by rw[c,mx]
   replace c:=ab c;have g:b=true:=d.out.2 (by cases x;cases y;simp only[It.mk.injEq];exact⟨a.out,c.out⟩);have i:=ab g;clear g;go_enter wj,ntmps159;go_wp2;go_ret;exact⟨ak i.out.symm,by repeat(first|exact db _ _|refine qR ?_ (by simp) _)⟩
  .have j:(x.b.toList ==y.b.toList)=false:=nS c;have f:b=false:=by rw[<-bv,d.out];rintro rfl;exact c rfl
   have i:=ab f;clear f c;go_enter wj,ntmps159;go_wp2;go_ret;exact⟨ak i.out.symm,by repeat(first|exact db _ _|refine qR ?_ (by simp) _)⟩
 .have l:(x.n !=y.n)=true:=by rw[qx];exact a
  have f:b=false:=by rw[<-bv,d.out];rintro rfl;exact a rfl
  have i:=ab f;clear f a;go_enter wj,ntmps159;go_wp2;go_ret;exact⟨ak i.out.symm,by repeat(first|exact db _ _|refine qR ?_ (by simp) _)⟩
def adf(xs m:List It)(P Q:Value)(w:World)(lo S px hi':Nat)(I:dy w lo S xs [P])(N:dy w px hi' m [Q])(J:S<=w.heap.size)(W:hi'<=w.heap.size)(b:Bool)(r:b=true↔xs=m) :
  Calls (ah β) 116 #[P,Q] w λe U=>e=.returned (.bool b)/\Below w.heap.size w U:=by
 replace r:=ab r;obtain⟨A,c,rfl⟩:=I.form;obtain⟨B,d,rfl⟩:=N.form;obtain⟨_,hc,hx⟩:=I.len_;unfold maxLen at hx;by_cases a:xs.length=m.length
 .have t1:((xs.length:Int) !=m.length)=false:=by rw[pu];omega
  replace a:=ab a;go_enter wW,ntmps116;go_wp2;go_loopw [5] (λi wr=>∃k:Nat,k<=xs.length/\i=.int .i64 k/\xs.take k=m.take k/\Below w.heap.size w wr) (λi _=>xs.length-(intOf i).toNat)
  case atStart=>exact⟨0,du _,rfl,rfl,db _ _⟩
  case round=>
   obtain⟨k,hk,rfl,z,f⟩:=hrel;replace z:=ab z;by_cases F:k<xs.length
   .obtain⟨x,n⟩:=aq F;obtain⟨y,o⟩:=aq (l:=m) (k:=k) (by have:=a.out;omega);obtain⟨M,v,es,rfl,_,V,_,⟨rfl,Y⟩,g⟩:=(dy.loc.below I f J).at_ n;have q:wr.cell? ⟨M,v+k*2,none⟩=some (.int .i64 x.n):=by simpa using g 0 _ rfl
    have D:wr.cell? ⟨M,v+k*2+1,none⟩=some (.string x.b):=by simpa using g 1 _ rfl
    clear g;obtain⟨R,T,es,rfl,_,V,_,⟨rfl,Z⟩,g⟩:=(dy.loc.below N f W).at_ o;have C:wr.cell? ⟨R,T+k*2,none⟩=some (.int .i64 y.n):=by simpa using g 0 _ rfl
    have t:wr.cell? ⟨R,T+k*2+1,none⟩=some (.string y.b):=by simpa using g 1 _ rfl
    clear g;have a0:(k:Int)<(m.length:Int):=by have:=a.out;omega
    replace n:=ab n;replace o:=ab o;by_cases j:x=y
    .replace j:=ab j;go_wp2;have G:=ag q;have L:=ag D;have K:=ag C;have H:=ag t;refine az (by kernel_rfl) (by kernel_rfl) ?_;repeat(go_big_quiet_step (first|(go_at_call 159;refine aL (ae0 x y _ true ?_);(simp only[qj];exact j.out))))
     refine ff ?_;intro X p;have E:=aF p;clear p G L K H;go_wp2;go_roundw
     case rel=>first|exact⟨k+1,by omega,by go_num,by rw[gn n.out,gn o.out,z.out,j.out],f.trans (E.mono f.size)⟩|((repeat apply Exists.intro);refine⟨?_,rfl⟩;exact⟨k+1,by omega,by go_num,by rw[gn n.out,gn o.out,z.out,j.out],f.trans (E.mono f.size)⟩)
     simp[intOf];omega
    .have u:b=false:=by
      rw[<-bv,r.out];rintro rfl;exact j (dj (n.out.symm.trans o.out))
     have s:=ab u;clear u;replace j:=ab j;go_wp2;have G:=ag q;have L:=ag D;have K:=ag C;have H:=ag t;refine az (by kernel_rfl) (by kernel_rfl) ?_;repeat(go_big_quiet_step (first|(go_at_call 159;refine aL (ae0 x y _ false ?_);(simp only[fd,qO];exact j.out))))
     refine ff ?_;intro X p;have E:=aF p;clear p G L K H;go_wp2;go_ret;exact⟨ak s.out.symm,f.trans (E.mono f.size)⟩
   .obtain rfl:k=xs.length:=by omega
    have O:b=true:=by
     rw[r.out];have:=z.out
     rwa [dk,nq (by have:=a.out;omega)] at this
    have s:=ab O;clear O;go_wp2;go_ret;exact⟨ak s.out.symm,f⟩
 .have t1:((xs.length:Int) !=m.length)=true:=by rw[qx];omega
  have u:b=false:=by
   rw[<-bv,r.out];rintro rfl;exact a rfl
  have s:=ab u;clear u;replace a:=ab a;go_enter wW,ntmps116;go_wp2;go_ret;exact⟨ak s.out.symm,db _ _⟩
end
section
variable {β:Bool}
open Go.RowKit
def alM(x:Pk)(v:Value)(k:Int)(w:World)(n f:Nat)(h:dy w n f x.its [v])(g:f<=w.heap.size)(p:0<=k)(q:k<=1048576):Calls (ah β) 64 #[.agg #[.int .i64 x.no,v],.int .i64 k] w λe o=>e=.returned (.int .i64 (jC k (bPk x)))/\Below w.heap.size w o:=by
 obtain⟨A,c,rfl⟩:=aY.form h;show Calls _ _ _ _ λe o=>e=.returned (.int .i64 (jC k (aX bIt x.its)))/\_;by_cases j:k-((aX bIt x.its:Nat):Int)<0
 .rw[bF j];have i:=bF j;have m:=ab i;clear i j;go_enter xo,ntmps64;go_wp2;have a:=aJ w (.cells #[.int .i64 x.no,.slice A x.its.length c] 115);refine(ade x.its _ k _ n f (dy.loc.below h a g) (ap g a.size) p q).mono ?_;rintro e r ⟨rfl,l⟩;rw[m.out];go_wp2;go_ret;exact⟨rfl,ae a l⟩
 .have i:=cP (k:=k) (b:=aX bIt x.its) (by omega);have d:∃z:Int,jC k (aX bIt x.its)=z/\0<=z/\z<=1048576:=⟨_,rfl,by omega,by omega⟩;obtain⟨z,d,s,t⟩:=d;rw[d];have m:=ab d;clear i j d;go_enter xo,ntmps64;go_wp2;have a:=aJ w (.cells #[.int .i64 x.no,.slice A x.its.length c] 115);refine(ade x.its _ k _ n f (dy.loc.below h a g) (ap g a.size) p q).mono ?_;rintro e r ⟨rfl,l⟩;rw[m.out];go_wp2;go_ret;exact⟨rfl,ae a l⟩
def kZ(xs:List Pk)(v:Value)(k:Int)(w:World)(Y N:Nat)(h:cK w Y N xs [v])(I:N<=w.heap.size)(hk:0<=k)(oJ:k<=1048576) :
  Calls (ah β) 33 #[v,.int .i64 k] w λe P=>e=.returned (.int .i64 (jC k (aX bPk xs)))/\Below w.heap.size w P:=by
 obtain⟨A,c,rfl⟩:=h.form;obtain⟨_,hc,U⟩:=h.len_;unfold maxLen at U;by_cases V:k-(xs.length:Int)<0
 .rw[bF (show k-((aX bPk xs:Nat):Int)<0 by have:=fJ (f:=bPk) (l:=xs);omega)];go_enter xz,ntmps33;go_wp2;go_ret;exact⟨rfl,db _ _⟩
 generalize D:jC k (aX bPk xs)=q;replace D:=ab D;go_enter xz,ntmps33;go_wp2;go_loopw [1,5] (λR H wr=>∃j:Nat,j<=xs.length/\H=.int .i64 j/\R=.int .i64 (k-(eA bPk xs j:Nat))/\0<=k-((eA bPk xs j:Nat):Int)/\Below w.heap.size w wr) (λ_ H _=>xs.length-(intOf H).toNat)
 case atStart=>exact⟨0,du _,rfl,by rw[eG],by rw[eG];omega,db _ _⟩
 case round=>
  obtain⟨j,hj,rfl,rfl,o,g⟩:=hrel;by_cases E:j<xs.length
  .obtain⟨x,C⟩:=aq E;have a:=kX (f:=bPk) C;have n:=oV (f:=bPk) (l:=xs) (j:=j+1);replace a:=ab a;replace n:=ab n;obtain⟨b,s,es,rfl,_,fp,_,⟨v2,rfl,O,L⟩,i⟩:=(cK.loc.below h g I).at_ C;obtain⟨W,T,rfl⟩:=aY.form L;have Q:wr.cell? ⟨b,s+j*2,none⟩=some (.int .i64 x.no):=by simpa using i 0 _ rfl
   have Z:wr.cell? ⟨b,s+j*2+1,none⟩=some (.slice W x.its.length T):=by simpa using i 1 _ rfl
   clear i;replace C:=ab C;have d:∃z:Int,z=k-((eA bPk xs j:Nat):Int)/\0<=z/\z<=1048576:=⟨_,rfl,o,by omega⟩;obtain⟨z,d,p,r⟩:=d;rw[<-d];have G:=ab d;clear d o;go_wp2;refine(alM x _ _ _ _ _ L (ap I g.size) p r).mono ?_;rintro e w1 ⟨rfl,B⟩;by_cases F:z-((bPk x:Nat):Int)<0
   .rw[bF F];have u:(-1:Int)=q:=by rw[<-D.out,bF (show k-((aX bPk xs:Nat):Int)<0 by have J:=a.out;have h2:=n.out;have M:=G.out;omega)]
    have m:=ab u;clear u F;go_wp2;go_ret;exact⟨eJ m.out,ae g B⟩
   .rw[cP (show 0<=z-((bPk x:Nat):Int) by omega)];have t:∃y:Int,y=z-((bPk x:Nat):Int)/\0<=y:=⟨_,rfl,by omega⟩;obtain⟨y,t,X⟩:=t;rw[<-t];have K:=ab t;clear t F;go_wp2;go_roundw
    case rel=>exact⟨j+1,by omega,by go_num,by have J:=a.out;have M:=G.out;have S:=K.out;exact fa (Value.int .i64) (by omega),by have J:=a.out;have M:=G.out;have S:=K.out;omega,ae g B⟩
    simp[intOf];omega
  .obtain rfl:j=xs.length:=by omega
   rw[mG] at o ⊢;have d:∃z:Int,z=k-((aX bPk xs:Nat):Int)/\0<=z/\z<=1048576:=⟨_,rfl,o,by omega⟩;obtain⟨z,d,p,r⟩:=d;rw[<-d];have u:z=q:=by rw[<-D.out,cP o];exact d
   have m:=ab u;clear d o u;go_wp2;go_ret;exact⟨eJ m.out,g⟩
def alN(x:Pk)(v:Value)(w:World)(C r:Nat)(h:dy w C r x.its [v])(u:dJ x.no)(q:r<=w.heap.size)(z:aX bIt x.its<=1048576) :
  Calls (ah β) 69 #[.agg #[.int .i64 x.no,v]] w λe k=>∃o,e=.returned (.agg #[.int .i64 x.no,o])/\OPk k w.heap.size k.heap.size x [.int .i64 x.no,o]/\Below w.heap.size w k:=by
 obtain⟨A,c,rfl⟩:=aY.form h;go_enter zp,ntmps69;go_wp2;generalize s:((w.alloc (.cells #[.int .i64 x.no,.slice A x.its.length c] 115)).alloc (.cells #[.int .i64 0,.slice none 0 0] 56)).alloc (.cells #[.int .i64 x.no,.slice none 0 0] 56)=w0 at *;obtain⟨i,E,f,t,y,d,p,B,j,n,l⟩:=arP s;clear s;have m:=ap q i.size;refine(ajI x.its _ _ _ _ (dy.loc.below h i q) m z).mono ?_;rintro e D ⟨I,rfl,g,a⟩;replace f:=ar f a;replace t:=f.cell;replace y:=f.frozen;replace d:=ar d a;replace p:=d.cell;replace B:=d.frozen;replace j:=ar j a;replace n:=j.cell;replace l:=j.frozen;obtain⟨G,J,rfl⟩:=g.form;have H:=a.size;replace g:=ab g;go_wp2;exact pN (v:=.agg #[_,_]) (by simp[results,results69,go_sem,p]) rfl ⟨_,rfl,⟨_,rfl,u,adE.aK.go (λb F _ _=>by rw[mc _ _ _ _ (by dsimp only;omega),mc _ _ _ _ (by dsimp only;omega),mc _ _ _ _ (by dsimp only;omega)]) (by omega) (by simp only[gE];exact am _) g.out⟩,
  (((i.trans (a.mono i.size)).setCell (by dsimp only;omega) _).setCell (by dsimp only;omega) _).setCell (by dsimp only;omega) _⟩
def alO:((ah β).info? 56).map (λi=>(i.zero,i.size,i.bytes))=some (some (.agg #[.int .i64 0,.slice none 0 0]),2,32):=by kernel_rfl
def ar2(w:World)(xs:List Pk)(e:Ending)(w':World):Prop:=∃v,e=.returned v/\mF w' w.heap.size w'.heap.size xs [v]/\Below w.heap.size w w'
def ajJ(xs:List Pk)(v:Value)(w:World)(T D:Nat)(h:cK w T D xs [v])(u:D<=w.heap.size)(z:aX bPk xs<=1048576) :
  Calls (ah β) 43 #[v] w (ar2 w xs):=by
 obtain⟨A,c,rfl⟩:=h.form;have I:xs.length<=1048576:=ap fJ z;have N:=jS (P:=(ah β)) 32 56 (.agg #[.int .i64 0,.slice none 0 0]) 2 32 zf alO xs.length (by omega) (by omega) w;go_enter zE,ntmps43;go_wp2;go_loopw [4] (λi wr=>∃k:Nat,k<=xs.length/\i=.int .i64 k/\eY 56 OPk 2 (xs.length*2) wr w.heap.size w.heap.size wr.heap.size (xs.take k)/\Below w.heap.size w wr) (λi _=>xs.length-(intOf i).toNat)
 case atStart=>
  refine⟨0,du _,rfl, ?_,(db _ _).alloc (am _) _⟩;have:=eY.new 56 OPk 2 w (madeCells #[.int .i64 0,.slice none 0 0] (xs.length*2));rw[rj] at this;exact this
 case round=>
  obtain⟨k,H,rfl,s,l⟩:=hrel;by_cases r:k<xs.length
  .obtain⟨x,m⟩:=aq r;obtain⟨b,o,Z,rfl,_,X,_,⟨Y,rfl,q,C⟩,d⟩:=(cK.loc.below h l u).at_ m;obtain⟨Q,K,rfl⟩:=aY.form C;have F:wr.cell? ⟨b,o+k*2,none⟩=some (.int .i64 x.no):=by simpa using d 0 _ rfl
   have U:wr.cell? ⟨b,o+k*2+1,none⟩=some (.slice Q x.its.length K):=by simpa using d 1 _ rfl
   clear d;have t:=gn m;replace m:=ab m;replace t:=ab t;go_wp2;refine(alN x _ _ _ _ C q (ap u l.size) (ap ((oW (f:=bPk) (be m.out))) z)).mono ?_;rintro e W ⟨G,rfl,B,g⟩;obtain⟨O,L,rfl⟩:∃A c,G=.slice A x.its.length c:=by
    obtain⟨v4,R,_,J⟩:=B;cases R;exact fh.form J
   have n:=s.chg OPk.aK g (am _);have a:(xs.take k).length=k:=by rw[lc,qy H]
   obtain⟨u0,M⟩:=n.there (j:=k*2) (by omega);obtain⟨u1,V⟩:=n.there (j:=k*2+1) (by omega);have S:=n.frozen (k*2);have E:=n.frozen (k*2+1);have p:=n.ajH OPk.aK (by decide) (y:=x) (u0:=.int .i64 x.no) (u1:=.slice O x.its.length L) rfl rfl g.size B (by rw[a];omega);rw[a,<-t.out] at p;replace p:=ab p;replace a:=ab a;go_wp2;go_roundw
   case rel=>exact⟨k+1,by omega,by go_num,by simp only[gE];exact p.out,((l.trans (g.mono l.size)).setCell (am _) _).setCell (am _) _⟩
   simp[intOf];omega
  .obtain rfl:k=xs.length:=by omega
   rw[dk] at s;go_wp2;go_ret;exact⟨_,rfl,s.own (by unfold maxLen;omega),l⟩
def ae1(x y:Pk)(v B:Value)(w:World)(s o i n:Nat)(t:dy w s o x.its [v])(r:dy w i n y.its [B])(m:o<=w.heap.size)(p:n<=w.heap.size)(b:Bool)(j:b=true↔x=y) :
  Calls (ah β) 78 #[.agg #[.int .i64 x.no,v],.agg #[.int .i64 y.no,B]] w λe E=>e=.returned (.bool b)/\Below w.heap.size w E:=by
 replace j:=ab j;obtain⟨A,c,rfl⟩:=aY.form t;obtain⟨C,z,rfl⟩:=aY.form r;by_cases g:x.no=y.no
 .have K:(x.no !=y.no)=false:=by rw[pu];exact g
  replace g:=ab g;by_cases f:x.its=y.its
  .have a:b=true:=j.out.2 (by cases x;cases y;simp only[Pk.mk.injEq];exact⟨g.out,f⟩);have l:=ab a;clear a;replace f:=ab f;go_enter wH,ntmps78;go_wp2;generalize k:(w.alloc (.cells #[.int .i64 x.no,.slice A x.its.length c] 56)).alloc (.cells #[.int .i64 y.no,.slice C y.its.length z] 56)=w0 at *;obtain⟨d,F,I,G,J,D,H,L⟩:=nh k;clear k;refine(adf x.its y.its _ _ _ s o i n (dy.loc.below t d m) (dy.loc.below r d p) (ap m d.size) (ap p d.size) true (by simp only[qj];exact f.out)).mono ?_;rintro e M ⟨rfl,q⟩;go_wp2;go_ret;exact⟨ak l.out.symm,ae d q⟩
  .have a:b=false:=by rw[<-bv,j.out];rintro rfl;exact f rfl
   have l:=ab a;clear a;replace f:=ab f;go_enter wH,ntmps78;go_wp2;generalize k:(w.alloc (.cells #[.int .i64 x.no,.slice A x.its.length c] 56)).alloc (.cells #[.int .i64 y.no,.slice C y.its.length z] 56)=w0 at *;obtain⟨d,F,I,G,J,D,H,L⟩:=nh k;clear k;refine(adf x.its y.its _ _ _ s o i n (dy.loc.below t d m) (dy.loc.below r d p) (ap m d.size) (ap p d.size) false (by simp only[fd,qO];exact f.out)).mono ?_;rintro e M ⟨rfl,q⟩;go_wp2;go_ret;exact⟨ak l.out.symm,ae d q⟩
 .have K:(x.no !=y.no)=true:=by rw[qx];exact g
  have u:b=false:=by rw[<-bv,j.out];rintro rfl;exact g rfl
  have l:=ab u;clear u g;go_enter wH,ntmps78;go_wp2;go_ret;exact⟨ak l.out.symm,by repeat(first|exact db _ _|refine qR ?_ (by simp) _)⟩
def ld(xs q:List Pk)(T J:Value)(w:World)(lo U px hi':Nat)(Q:cK w lo U xs [T])(R:cK w px hi' q [J])(n:U<=w.heap.size)(z:hi'<=w.heap.size)(b:Bool)(v:b=true↔xs=q) :
  Calls (ah β) 53 #[T,J] w λe w'=>e=.returned (.bool b)/\Below w.heap.size w w':=by
 replace v:=ab v;obtain⟨A,c,rfl⟩:=Q.form;obtain⟨B,d,rfl⟩:=R.form;obtain⟨_,hc,hx⟩:=Q.len_;unfold maxLen at hx;by_cases a:xs.length=q.length
 .have t1:((xs.length:Int) !=q.length)=false:=by rw[pu];omega
  replace a:=ab a;go_enter xr,ntmps53;go_wp2;go_loopw [5] (λi wr=>∃k:Nat,k<=xs.length/\i=.int .i64 k/\xs.take k=q.take k/\Below w.heap.size w wr) (λi _=>xs.length-(intOf i).toNat)
  case atStart=>exact⟨0,du _,rfl,rfl,db _ _⟩
  case round=>
   obtain⟨k,hk,rfl,D,f⟩:=hrel;replace D:=ab D;by_cases O:k<xs.length
   .obtain⟨x,s⟩:=aq O;obtain⟨y,r⟩:=aq (l:=q) (k:=k) (by have:=a.out;omega);obtain⟨W,H,es,rfl,_,fp,_,⟨J,rfl,a1,o⟩,j⟩:=(cK.loc.below Q f n).at_ s;obtain⟨A2,Z,rfl⟩:=aY.form o;have u:wr.cell? ⟨W,H+k*2,none⟩=some (.int .i64 x.no):=by simpa using j 0 _ rfl
    have I:wr.cell? ⟨W,H+k*2+1,none⟩=some (.slice A2 x.its.length Z):=by simpa using j 1 _ rfl
    clear j;obtain⟨X,V,es,rfl,_,fp,_,⟨J,rfl,a2,m⟩,j⟩:=(cK.loc.below R f z).at_ r;obtain⟨A3,c3,rfl⟩:=aY.form m;have E:wr.cell? ⟨X,V+k*2,none⟩=some (.int .i64 y.no):=by simpa using j 0 _ rfl
    have C:wr.cell? ⟨X,V+k*2+1,none⟩=some (.slice A3 y.its.length c3):=by simpa using j 1 _ rfl
    clear j;have a0:(k:Int)<(q.length:Int):=by have:=a.out;omega
    replace s:=ab s;replace r:=ab r;replace o:=ab o;replace m:=ab m;have g:=ab f.size;by_cases p:x=y
    .replace p:=ab p;go_wp2;have L:=ag u;have N:=ag I;have M:=ag E;have P:=ag C;refine az (by kernel_rfl) (by kernel_rfl) ?_;repeat(go_big_quiet_step (first|(go_at_call 78;refine aL (ae1 x y _ _ _ _ _ _ _ (dy.loc.below o.out (dA.ok _) (ap n g.out)) (dy.loc.below m.out (dA.ok _) (ap z g.out)) (ap n (ap g.out (dA.ok _).size)) (ap z (ap g.out (dA.ok _).size)) true ?_);(simp only[qj];exact p.out))))
     refine ff ?_;intro Y t;have K:=aF t;clear t L N M P;go_wp2;go_roundw
     case rel=>first|exact⟨k+1,by omega,by go_num,by rw[gn s.out,gn r.out,D.out,p.out],f.trans (K.mono f.size)⟩|((repeat apply Exists.intro);refine⟨?_,rfl⟩;exact⟨k+1,by omega,by go_num,by rw[gn s.out,gn r.out,D.out,p.out],f.trans (K.mono f.size)⟩)
     simp[intOf];omega
    .have G:b=false:=by
      rw[<-bv,v.out];rintro rfl;exact p (dj (s.out.symm.trans r.out))
     have F:=ab G;clear G;replace p:=ab p;go_wp2;have L:=ag u;have N:=ag I;have M:=ag E;have P:=ag C;refine az (by kernel_rfl) (by kernel_rfl) ?_;repeat(go_big_quiet_step (first|(go_at_call 78;refine aL (ae1 x y _ _ _ _ _ _ _ (dy.loc.below o.out (dA.ok _) (ap n g.out)) (dy.loc.below m.out (dA.ok _) (ap z g.out)) (ap n (ap g.out (dA.ok _).size)) (ap z (ap g.out (dA.ok _).size)) false ?_);(simp only[fd,qO];exact p.out))))
     refine ff ?_;intro Y t;have K:=aF t;clear t L N M P;go_wp2;go_ret;exact⟨ak F.out.symm,f.trans (K.mono f.size)⟩
   .obtain rfl:k=xs.length:=by omega
    have S:b=true:=by
     rw[v.out];have:=D.out
     rwa [dk,nq (by have:=a.out;omega)] at this
    have F:=ab S;clear S;go_wp2;go_ret;exact⟨ak F.out.symm,f⟩
 .have t1:((xs.length:Int) !=q.length)=true:=by rw[qx];omega
  have G:b=false:=by
   rw[<-bv,v.out];rintro rfl;exact a rfl
  have F:=ab G;clear G;replace a:=ab a;go_enter xr,ntmps53;go_wp2;go_ret;exact⟨ak F.out.symm,db _ _⟩
end
section
variable {β:Bool}
open Go.RowKit
def marks(k:Int):Nat->List Int
 |0=>[]
 |n+1=>marks k n++[k+n]
end
section
variable {β:Bool}
open Go.RowKit
def alP(xs:List Int)(v:Value)(w:World)(t m:Nat)(h:aY bz 1 w t m xs [v])(C:m<=w.heap.size)(y:xs.length<=1048576) :
  Calls (ah β) 18 #[v] w (auC fW 3 w xs):=by
 obtain⟨A,c,rfl⟩:=h.form;have r:=Go.run_make_row' (P:=(ah β)) 27 3 (.int .i64 0) 8 vO ajE rfl .i64 .i64 xs.length (by omega) (by omega) w;go_enter xD,ntmps18;go_wp2;go_loopw [4] (λi wr=>∃k:Nat,k<=xs.length/\i=.int .i64 k/\Pre wr w.heap.size 3 xs.length ((xs.take k).map (Value.int .i64))/\Below w.heap.size w wr) (λi _=>xs.length-(intOf i).toNat)
 case atStart=>
  refine⟨0,du _,rfl, ?_,(db _ _).alloc (am _) _⟩;have:=Pre.new w 3 (madeCells #[.int .i64 0] xs.length);rw[rj] at this;exact this
 case round=>
  obtain⟨k,B,rfl,d,j⟩:=hrel;by_cases e:k<xs.length
  .obtain⟨x,g⟩:=aq e;obtain⟨b,f,rfl,_,z,_,q⟩:=h.ints_at g;have l:wr.cell? ⟨b,f+k,none⟩=some (.int .i64 x):=(j.cell (p:=⟨b,f+k,none⟩) (by show b<_;omega)).trans q;obtain⟨u,o⟩:=d.there e;have s:=d.frozen k;have n:=d.push (.int .i64 x) (by simp;omega);have a:((xs.take k).map (Value.int .i64)).length=k:=by simp;omega
   rw[a,<-List.map_singleton,<-oR,<-gn g] at n;replace g:=ab g;replace a:=ab a;clear q;go_wp2;go_roundw
   case rel=>exact⟨k+1,by omega,by go_num,n,j.setCell (am _) _⟩
   simp[intOf];omega
  .obtain rfl:k=xs.length:=by omega
   rw[dk,<-jR] at d;go_wp2;go_ret;exact⟨_,rfl,Pre.own (F:=fW) (by show Pre _ _ _ (xs.length*1) _;rw[sO];exact d) (am _) (by unfold maxLen;omega),j⟩
def iP(m c:Nat)(A:Option Addr)(k:Int)(w:World)(d:m<=9223372036854775807)(f:0<=k)(g:k<=1048576)(q:Int)(a:(k-m<0/\q=-1)\/(0<=k-m/\q=k-m)) :
  Calls (ah β) 13 #[.slice A m c,.int .i64 k] w λe b=>e=.returned (.int .i64 q)/\w=b:=by
 rcases a with⟨h,rfl⟩|⟨h,rfl⟩
 .go_enter xE,ntmps13;go_wp2;go_ret;exact⟨rfl,rfl⟩
 .go_enter xE,ntmps13;go_wp2;go_ret;exact⟨rfl,rfl⟩
def auL(w:World)(xs:List Int)(e:Ending)(w':World):Prop:=∃v,e=.returned v/\abU w' w.heap.size w'.heap.size xs [v]/\Below w.heap.size w w'
def ar3(xs:List Int)(v:Value)(w:World)(c a:Nat)(h:aY bz 1 w c a xs [v])(f:a<=w.heap.size)(i:xs.length<=1048576) :
  Calls (ah β) 18 #[v] w (auL w xs):=by
 refine(alP xs v w c a h f i).mono ?_;rintro e l ⟨m,rfl,d,b⟩;exact⟨_,rfl,d.aBG (λx k=>h.afB x k) b.size λg j=>(d.at_ j).2,b⟩
end
section
variable {β:Bool}
open Go.RowKit
def ahQ(x:Ls)(v:Value)(k:Int)(w:World)(l b:Nat)(i:x.p.size<=maxLen)(h:aY bz 1 w l b x.ns [v])(m:b<=w.heap.size)(n:0<=k)(o:k<=1048576):Calls (ah β) 136 #[.agg #[.string x.p,v],.int .i64 k] w λe f=>e=.returned (.int .i64 (jC k (oX x)))/\Below w.heap.size w f:=by
 obtain⟨A,c,rfl⟩:=h.form;obtain⟨_,q,a⟩:=h.len_;unfold maxLen at i a;by_cases p:k-(x.p.size:Int)<0
 .rw[bF (show k-((oX x:Nat):Int)<0 by unfold oX;omega)];go_enter wm,ntmps136;go_wp2;go_ret;exact⟨rfl,aJ _ _⟩
 .by_cases g:k-(x.p.size:Int)-(x.ns.length:Int)<0
  .rw[bF (show k-((oX x:Nat):Int)<0 by unfold oX;omega)];go_enter wm,ntmps136;go_wp2;refine(iP x.ns.length c A (k-(x.p.size:Int)) _ (by omega) (by omega) (by omega) (-1) (.inl ⟨by omega,rfl⟩)).mono ?_;rintro e d ⟨rfl,rfl⟩;go_wp2;go_ret;exact⟨rfl,aJ _ _⟩
  .rw[cP (show(0:Int)<=k-(oX x:Int) by unfold oX;omega)];have e:k-((oX x:Nat):Int)=k-(x.p.size:Int)-(x.ns.length:Int):=by unfold oX;omega
   rw[e];have j:=ab g;clear e;go_enter wm,ntmps136;go_wp2;refine(iP x.ns.length c A (k-(x.p.size:Int)) _ (by omega) (by omega) (by omega) _ (.inr ⟨by have:=j.out;omega,rfl⟩)).mono ?_;rintro e d ⟨rfl,rfl⟩;go_wp2;go_ret;exact⟨rfl,aJ _ _⟩
def aar(xs:List Ls)(v:Value)(k:Int)(w:World)(Y O:Nat)(h:bA w Y O xs [v])(J:O<=w.heap.size)(hk:0<=k)(oJ:k<=1048576) :
  Calls (ah β) 103 #[v,.int .i64 k] w λe P=>e=.returned (.int .i64 (jC k (aX oX xs)))/\Below w.heap.size w P:=by
 obtain⟨A,c,rfl⟩:=h.form;obtain⟨_,hc,U⟩:=h.len_;unfold maxLen at U;by_cases V:k-(xs.length:Int)<0
 .rw[bF (show k-((aX oX xs:Nat):Int)<0 by have:=fJ (f:=oX) (l:=xs);omega)];go_enter wX,ntmps103;go_wp2;go_ret;exact⟨rfl,db _ _⟩
 generalize D:jC k (aX oX xs)=q;replace D:=ab D;go_enter wX,ntmps103;go_wp2;go_loopw [1,5] (λR I wr=>∃j:Nat,j<=xs.length/\I=.int .i64 j/\R=.int .i64 (k-(eA oX xs j:Nat))/\0<=k-((eA oX xs j:Nat):Int)/\Below w.heap.size w wr) (λ_ I _=>xs.length-(intOf I).toNat)
 case atStart=>exact⟨0,du _,rfl,by rw[eG],by rw[eG];omega,db _ _⟩
 case round=>
  obtain⟨j,hj,rfl,rfl,o,g⟩:=hrel;by_cases F:j<xs.length
  .obtain⟨x,C⟩:=aq F;have a:=kX (f:=oX) C;have n:=oV (f:=oX) (l:=xs) (j:=j+1);replace a:=ab a;replace n:=ab n;obtain⟨b,s,es,rfl,_,fp,_,⟨v2,rfl,E,M⟩,i⟩:=(bA.loc.below h g J).at_ C;obtain⟨W,T,rfl⟩:=aY.form M;have Q:wr.cell? ⟨b,s+j*2,none⟩=some (.string x.p):=by simpa using i 0 _ rfl
   have Z:wr.cell? ⟨b,s+j*2+1,none⟩=some (.slice W x.ns.length T):=by simpa using i 1 _ rfl
   clear i;replace C:=ab C;have d:∃z:Int,z=k-((eA oX xs j:Nat):Int)/\0<=z/\z<=1048576:=⟨_,rfl,o,by omega⟩;obtain⟨z,d,p,r⟩:=d;rw[<-d];have H:=ab d;clear d o;go_wp2;refine(ahQ x _ _ _ _ _ E M (ap J g.size) p r).mono ?_;rintro e w1 ⟨rfl,B⟩;by_cases G:z-((oX x:Nat):Int)<0
   .rw[bF G];have u:(-1:Int)=q:=by rw[<-D.out,bF (show k-((aX oX xs:Nat):Int)<0 by have K:=a.out;have h2:=n.out;have N:=H.out;omega)]
    have m:=ab u;clear u G;go_wp2;go_ret;exact⟨eJ m.out,ae g B⟩
   .rw[cP (show 0<=z-((oX x:Nat):Int) by omega)];have t:∃y:Int,y=z-((oX x:Nat):Int)/\0<=y:=⟨_,rfl,by omega⟩;obtain⟨y,t,X⟩:=t;rw[<-t];have L:=ab t;clear t G;go_wp2;go_roundw
    case rel=>exact⟨j+1,by omega,by go_num,by have K:=a.out;have N:=H.out;have S:=L.out;exact fa (Value.int .i64) (by omega),by have K:=a.out;have N:=H.out;have S:=L.out;omega,ae g B⟩
    simp[intOf];omega
  .obtain rfl:j=xs.length:=by omega
   rw[mG] at o ⊢;have d:∃z:Int,z=k-((aX oX xs:Nat):Int)/\0<=z/\z<=1048576:=⟨_,rfl,o,by omega⟩;obtain⟨z,d,p,r⟩:=d;rw[<-d];have u:z=q:=by rw[<-D.out,cP o];exact d
   have m:=ab u;clear d o u;go_wp2;go_ret;exact⟨eJ m.out,g⟩
def ahR(x:Ls)(v:Value)(w:World)(C r:Nat)(h:aY bz 1 w C r x.ns [v])(u:x.p.size<=maxLen)(q:r<=w.heap.size)(z:List.length x.ns<=1048576) :
  Calls (ah β) 143 #[.agg #[.string x.p,v]] w λe k=>∃o,e=.returned (.agg #[.string x.p,o])/\OLs k w.heap.size k.heap.size x [.string x.p,o]/\Below w.heap.size w k:=by
 obtain⟨A,c,rfl⟩:=aY.form h;go_enter yG,ntmps143;go_wp2;generalize s:((w.alloc (.cells #[.string x.p,.slice A x.ns.length c] 196)).alloc (.cells #[.string ⟨#[]⟩,.slice none 0 0] 75)).alloc (.cells #[.string x.p,.slice none 0 0] 75)=w0 at *;obtain⟨i,E,f,t,y,d,p,B,j,n,l⟩:=arP s;clear s;have m:=ap q i.size;refine(ar3 x.ns _ _ _ _ (jB.loc.below h i q) m z).mono ?_;rintro e D ⟨I,rfl,g,a⟩;replace f:=ar f a;replace t:=f.cell;replace y:=f.frozen;replace d:=ar d a;replace p:=d.cell;replace B:=d.frozen;replace j:=ar j a;replace n:=j.cell;replace l:=j.frozen;obtain⟨G,J,rfl⟩:=g.form;have H:=a.size;replace g:=ab g;go_wp2;exact pN (v:=.agg #[_,_]) (by simp[results,results143,go_sem,p]) rfl ⟨_,rfl,⟨_,rfl,u,abU.aK.go (λb F _ _=>by rw[mc _ _ _ _ (by dsimp only;omega),mc _ _ _ _ (by dsimp only;omega),mc _ _ _ _ (by dsimp only;omega)]) (by omega) (by simp only[gE];exact am _) g.out⟩,
  (((i.trans (a.mono i.size)).setCell (by dsimp only;omega) _).setCell (by dsimp only;omega) _).setCell (by dsimp only;omega) _⟩
def ahS:((ah β).info? 75).map (λi=>(i.zero,i.size,i.bytes))=some (some (.agg #[.string ⟨#[]⟩,.slice none 0 0]),2,40):=by kernel_rfl
def alQ(w:World)(xs:List Ls)(e:Ending)(w':World):Prop:=∃v,e=.returned v/\ahO w' w.heap.size w'.heap.size xs [v]/\Below w.heap.size w w'
def afL(xs:List Ls)(v:Value)(w:World)(T D:Nat)(h:bA w T D xs [v])(u:D<=w.heap.size)(z:aX oX xs<=1048576) :
  Calls (ah β) 109 #[v] w (alQ w xs):=by
 obtain⟨A,c,rfl⟩:=h.form;have I:xs.length<=1048576:=ap fJ z;have N:=jS (P:=(ah β)) 46 75 (.agg #[.string ⟨#[]⟩,.slice none 0 0]) 2 40 zb ahS xs.length (by omega) (by omega) w;go_enter yS,ntmps109;go_wp2;go_loopw [4] (λi wr=>∃k:Nat,k<=xs.length/\i=.int .i64 k/\eY 75 OLs 2 (xs.length*2) wr w.heap.size w.heap.size wr.heap.size (xs.take k)/\Below w.heap.size w wr) (λi _=>xs.length-(intOf i).toNat)
 case atStart=>
  refine⟨0,du _,rfl, ?_,(db _ _).alloc (am _) _⟩;have:=eY.new 75 OLs 2 w (madeCells #[.string ⟨#[]⟩,.slice none 0 0] (xs.length*2));rw[rj] at this;exact this
 case round=>
  obtain⟨k,H,rfl,s,l⟩:=hrel;by_cases r:k<xs.length
  .obtain⟨x,m⟩:=aq r;obtain⟨b,o,Z,rfl,_,X,_,⟨Y,rfl,q,C⟩,d⟩:=(bA.loc.below h l u).at_ m;obtain⟨Q,K,rfl⟩:=aY.form C;have F:wr.cell? ⟨b,o+k*2,none⟩=some (.string x.p):=by simpa using d 0 _ rfl
   have U:wr.cell? ⟨b,o+k*2+1,none⟩=some (.slice Q x.ns.length K):=by simpa using d 1 _ rfl
   clear d;have t:=gn m;replace m:=ab m;replace t:=ab t;go_wp2;refine(ahR x _ _ _ _ C q (ap u l.size) (ap (ap (Nat.le_add_left _ _) (oW (f:=oX) (be m.out))) z)).mono ?_;rintro e W ⟨G,rfl,B,g⟩;obtain⟨O,L,rfl⟩:∃A c,G=.slice A x.ns.length c:=by
    obtain⟨v4,R,_,J⟩:=B;cases R;exact fh.form J
   have n:=s.chg OLs.aK g (am _);have a:(xs.take k).length=k:=by rw[lc,qy H]
   obtain⟨u0,M⟩:=n.there (j:=k*2) (by omega);obtain⟨u1,V⟩:=n.there (j:=k*2+1) (by omega);have S:=n.frozen (k*2);have E:=n.frozen (k*2+1);have p:=n.ajH OLs.aK (by decide) (y:=x) (u0:=.string x.p) (u1:=.slice O x.ns.length L) rfl rfl g.size B (by rw[a];omega);rw[a,<-t.out] at p;replace p:=ab p;replace a:=ab a;go_wp2;go_roundw
   case rel=>exact⟨k+1,by omega,by go_num,by simp only[gE];exact p.out,((l.trans (g.mono l.size)).setCell (am _) _).setCell (am _) _⟩
   simp[intOf];omega
  .obtain rfl:k=xs.length:=by omega
   rw[dk] at s;go_wp2;go_ret;exact⟨_,rfl,s.own (by unfold maxLen;omega),l⟩
def abW(x y:Ls)(v B:Value)(w:World)(q n i m:Nat)(r:aY bz 1 w q n x.ns [v])(p:aY bz 1 w i m y.ns [B])(t:n<=w.heap.size)(D:m<=w.heap.size)(b:Bool)(j:b=true↔x=y) :
  Calls (ah β) 160 #[.agg #[.string x.p,v],.agg #[.string y.p,B]] w λe F=>e=.returned (.bool b)/\Below w.heap.size w F:=by
 replace j:=ab j;obtain⟨A,c,rfl⟩:=aY.form r;obtain⟨C,z,rfl⟩:=aY.form p;by_cases f:x.p=y.p
 .have L:(x.p.toList ==y.p.toList)=true:=by rw[f,mx]
  replace f:=ab f;by_cases d:x.ns=y.ns
  .have a:b=true:=j.out.2 (by cases x;cases y;simp only[Ls.mk.injEq];exact⟨f.out,d⟩);have l:=ab a;clear a;replace d:=ab d;go_enter wh,ntmps160;go_wp2;generalize k:(w.alloc (.cells #[.string x.p,.slice A x.ns.length c] 75)).alloc (.cells #[.string y.p,.slice C y.ns.length z] 75)=w0 at *;obtain⟨g,G,J,H,K,E,I,M⟩:=nh k;clear k;refine(mE x.ns y.ns _ _ _ q n i m (jB.loc.below r g t) (jB.loc.below p g D)).mono ?_;rintro e N ⟨rfl,s,rfl⟩;rw[dq d.out];have o:=sN (db w0.heap.size w0) s;go_wp2;go_ret;exact⟨ak l.out.symm,ae g o⟩
  .have a:b=false:=by rw[<-bv,j.out];rintro rfl;exact d rfl
   have l:=ab a;clear a;replace d:=ab d;go_enter wh,ntmps160;go_wp2;generalize k:(w.alloc (.cells #[.string x.p,.slice A x.ns.length c] 75)).alloc (.cells #[.string y.p,.slice C y.ns.length z] 75)=w0 at *;obtain⟨g,G,J,H,K,E,I,M⟩:=nh k;clear k;refine(mE x.ns y.ns _ _ _ q n i m (jB.loc.below r g t) (jB.loc.below p g D)).mono ?_;rintro e N ⟨rfl,s,rfl⟩;rw[da d.out];have o:=sN (db w0.heap.size w0) s;go_wp2;go_ret;exact⟨ak l.out.symm,ae g o⟩
 .have L:(x.p.toList ==y.p.toList)=false:=nS f;have u:b=false:=by rw[<-bv,j.out];rintro rfl;exact f rfl
  have l:=ab u;clear u f;go_enter wh,ntmps160;go_wp2;go_ret;exact⟨ak l.out.symm,by repeat(first|exact db _ _|refine qR ?_ (by simp) _)⟩
def aas(xs q:List Ls)(T J:Value)(w:World)(lo U px hi':Nat)(Q:bA w lo U xs [T])(R:bA w px hi' q [J])(n:U<=w.heap.size)(z:hi'<=w.heap.size)(b:Bool)(v:b=true↔xs=q) :
  Calls (ah β) 117 #[T,J] w λe w'=>e=.returned (.bool b)/\Below w.heap.size w w':=by
 replace v:=ab v;obtain⟨A,c,rfl⟩:=Q.form;obtain⟨B,d,rfl⟩:=R.form;obtain⟨_,hc,hx⟩:=Q.len_;unfold maxLen at hx;by_cases a:xs.length=q.length
 .have t1:((xs.length:Int) !=q.length)=false:=by rw[pu];omega
  replace a:=ab a;go_enter wV,ntmps117;go_wp2;go_loopw [5] (λi wr=>∃k:Nat,k<=xs.length/\i=.int .i64 k/\xs.take k=q.take k/\Below w.heap.size w wr) (λi _=>xs.length-(intOf i).toNat)
  case atStart=>exact⟨0,du _,rfl,rfl,db _ _⟩
  case round=>
   obtain⟨k,hk,rfl,D,f⟩:=hrel;replace D:=ab D;by_cases O:k<xs.length
   .obtain⟨x,s⟩:=aq O;obtain⟨y,r⟩:=aq (l:=q) (k:=k) (by have:=a.out;omega);obtain⟨W,H,es,rfl,_,fp,_,⟨J,rfl,a1,o⟩,j⟩:=(bA.loc.below Q f n).at_ s;obtain⟨A2,Z,rfl⟩:=aY.form o;have u:wr.cell? ⟨W,H+k*2,none⟩=some (.string x.p):=by simpa using j 0 _ rfl
    have I:wr.cell? ⟨W,H+k*2+1,none⟩=some (.slice A2 x.ns.length Z):=by simpa using j 1 _ rfl
    clear j;obtain⟨X,V,es,rfl,_,fp,_,⟨J,rfl,a2,m⟩,j⟩:=(bA.loc.below R f z).at_ r;obtain⟨A3,c3,rfl⟩:=aY.form m;have E:wr.cell? ⟨X,V+k*2,none⟩=some (.string y.p):=by simpa using j 0 _ rfl
    have C:wr.cell? ⟨X,V+k*2+1,none⟩=some (.slice A3 y.ns.length c3):=by simpa using j 1 _ rfl
    clear j;have a0:(k:Int)<(q.length:Int):=by have:=a.out;omega
    replace s:=ab s;replace r:=ab r;replace o:=ab o;replace m:=ab m;have g:=ab f.size;by_cases p:x=y
    .replace p:=ab p;go_wp2;have L:=ag u;have N:=ag I;have M:=ag E;have P:=ag C;refine az (by kernel_rfl) (by kernel_rfl) ?_;repeat(go_big_quiet_step (first|(go_at_call 160;refine aL (abW x y _ _ _ _ _ _ _ (jB.loc.below o.out (dA.ok _) (ap n g.out)) (jB.loc.below m.out (dA.ok _) (ap z g.out)) (ap n (ap g.out (dA.ok _).size)) (ap z (ap g.out (dA.ok _).size)) true ?_);(simp only[qj];exact p.out))))
     refine ff ?_;intro Y t;have K:=aF t;clear t L N M P;go_wp2;go_roundw
     case rel=>first|exact⟨k+1,by omega,by go_num,by rw[gn s.out,gn r.out,D.out,p.out],f.trans (K.mono f.size)⟩|((repeat apply Exists.intro);refine⟨?_,rfl⟩;exact⟨k+1,by omega,by go_num,by rw[gn s.out,gn r.out,D.out,p.out],f.trans (K.mono f.size)⟩)
     simp[intOf];omega
    .have G:b=false:=by
      rw[<-bv,v.out];rintro rfl;exact p (dj (s.out.symm.trans r.out))
     have F:=ab G;clear G;replace p:=ab p;go_wp2;have L:=ag u;have N:=ag I;have M:=ag E;have P:=ag C;refine az (by kernel_rfl) (by kernel_rfl) ?_;repeat(go_big_quiet_step (first|(go_at_call 160;refine aL (abW x y _ _ _ _ _ _ _ (jB.loc.below o.out (dA.ok _) (ap n g.out)) (jB.loc.below m.out (dA.ok _) (ap z g.out)) (ap n (ap g.out (dA.ok _).size)) (ap z (ap g.out (dA.ok _).size)) false ?_);(simp only[fd,qO];exact p.out))))
     refine ff ?_;intro Y t;have K:=aF t;clear t L N M P;go_wp2;go_ret;exact⟨ak F.out.symm,f.trans (K.mono f.size)⟩
   .obtain rfl:k=xs.length:=by omega
    have S:b=true:=by
     rw[v.out];have:=D.out
     rwa [dk,nq (by have:=a.out;omega)] at this
    have F:=ab S;clear S;go_wp2;go_ret;exact⟨ak F.out.symm,f⟩
 .have t1:((xs.length:Int) !=q.length)=true:=by rw[qx];omega
  have G:b=false:=by
   rw[<-bv,v.out];rintro rfl;exact a rfl
  have F:=ab G;clear G;replace a:=ab a;go_enter wV,ntmps117;go_wp2;go_ret;exact⟨ak F.out.symm,db _ _⟩
end
section
variable {β:Bool}
open Go.RowKit
def alR(x:Sn)(v:Value)(k:Int)(w:World)(n f:Nat)(h:bA w n f x.all [v])(g:f<=w.heap.size)(p:0<=k)(q:k<=1048576):Calls (ah β) 65 #[.agg #[.int .i64 x.no,v],.int .i64 k] w λe o=>e=.returned (.int .i64 (jC k (bSn x)))/\Below w.heap.size w o:=by
 obtain⟨A,c,rfl⟩:=aY.form h;show Calls _ _ _ _ λe o=>e=.returned (.int .i64 (jC k (aX oX x.all)))/\_;by_cases j:k-((aX oX x.all:Nat):Int)<0
 .rw[bF j];have i:=bF j;have m:=ab i;clear i j;go_enter xm,ntmps65;go_wp2;have a:=aJ w (.cells #[.int .i64 x.no,.slice A x.all.length c] 119);refine(aar x.all _ k _ n f (bA.loc.below h a g) (ap g a.size) p q).mono ?_;rintro e r ⟨rfl,l⟩;rw[m.out];go_wp2;go_ret;exact⟨rfl,ae a l⟩
 .have i:=cP (k:=k) (b:=aX oX x.all) (by omega);have d:∃z:Int,jC k (aX oX x.all)=z/\0<=z/\z<=1048576:=⟨_,rfl,by omega,by omega⟩;obtain⟨z,d,s,t⟩:=d;rw[d];have m:=ab d;clear i j d;go_enter xm,ntmps65;go_wp2;have a:=aJ w (.cells #[.int .i64 x.no,.slice A x.all.length c] 119);refine(aar x.all _ k _ n f (bA.loc.below h a g) (ap g a.size) p q).mono ?_;rintro e r ⟨rfl,l⟩;rw[m.out];go_wp2;go_ret;exact⟨rfl,ae a l⟩
def nV(xs:List Sn)(v:Value)(k:Int)(w:World)(Y N:Nat)(h:cZ w Y N xs [v])(I:N<=w.heap.size)(hk:0<=k)(oJ:k<=1048576) :
  Calls (ah β) 34 #[v,.int .i64 k] w λe P=>e=.returned (.int .i64 (jC k (aX bSn xs)))/\Below w.heap.size w P:=by
 obtain⟨A,c,rfl⟩:=h.form;obtain⟨_,hc,U⟩:=h.len_;unfold maxLen at U;by_cases V:k-(xs.length:Int)<0
 .rw[bF (show k-((aX bSn xs:Nat):Int)<0 by have:=fJ (f:=bSn) (l:=xs);omega)];go_enter xy,ntmps34;go_wp2;go_ret;exact⟨rfl,db _ _⟩
 generalize D:jC k (aX bSn xs)=q;replace D:=ab D;go_enter xy,ntmps34;go_wp2;go_loopw [1,5] (λR H wr=>∃j:Nat,j<=xs.length/\H=.int .i64 j/\R=.int .i64 (k-(eA bSn xs j:Nat))/\0<=k-((eA bSn xs j:Nat):Int)/\Below w.heap.size w wr) (λ_ H _=>xs.length-(intOf H).toNat)
 case atStart=>exact⟨0,du _,rfl,by rw[eG],by rw[eG];omega,db _ _⟩
 case round=>
  obtain⟨j,hj,rfl,rfl,o,g⟩:=hrel;by_cases E:j<xs.length
  .obtain⟨x,C⟩:=aq E;have a:=kX (f:=bSn) C;have n:=oV (f:=bSn) (l:=xs) (j:=j+1);replace a:=ab a;replace n:=ab n;obtain⟨b,s,es,rfl,_,fp,_,⟨v2,rfl,O,L⟩,i⟩:=(cZ.loc.below h g I).at_ C;obtain⟨W,T,rfl⟩:=aY.form L;have Q:wr.cell? ⟨b,s+j*2,none⟩=some (.int .i64 x.no):=by simpa using i 0 _ rfl
   have Z:wr.cell? ⟨b,s+j*2+1,none⟩=some (.slice W x.all.length T):=by simpa using i 1 _ rfl
   clear i;replace C:=ab C;have d:∃z:Int,z=k-((eA bSn xs j:Nat):Int)/\0<=z/\z<=1048576:=⟨_,rfl,o,by omega⟩;obtain⟨z,d,p,r⟩:=d;rw[<-d];have G:=ab d;clear d o;go_wp2;refine(alR x _ _ _ _ _ L (ap I g.size) p r).mono ?_;rintro e w1 ⟨rfl,B⟩;by_cases F:z-((bSn x:Nat):Int)<0
   .rw[bF F];have u:(-1:Int)=q:=by rw[<-D.out,bF (show k-((aX bSn xs:Nat):Int)<0 by have J:=a.out;have h2:=n.out;have M:=G.out;omega)]
    have m:=ab u;clear u F;go_wp2;go_ret;exact⟨eJ m.out,ae g B⟩
   .rw[cP (show 0<=z-((bSn x:Nat):Int) by omega)];have t:∃y:Int,y=z-((bSn x:Nat):Int)/\0<=y:=⟨_,rfl,by omega⟩;obtain⟨y,t,X⟩:=t;rw[<-t];have K:=ab t;clear t F;go_wp2;go_roundw
    case rel=>exact⟨j+1,by omega,by go_num,by have J:=a.out;have M:=G.out;have S:=K.out;exact fa (Value.int .i64) (by omega),by have J:=a.out;have M:=G.out;have S:=K.out;omega,ae g B⟩
    simp[intOf];omega
  .obtain rfl:j=xs.length:=by omega
   rw[mG] at o ⊢;have d:∃z:Int,z=k-((aX bSn xs:Nat):Int)/\0<=z/\z<=1048576:=⟨_,rfl,o,by omega⟩;obtain⟨z,d,p,r⟩:=d;rw[<-d];have u:z=q:=by rw[<-D.out,cP o];exact d
   have m:=ab u;clear d o u;go_wp2;go_ret;exact⟨eJ m.out,g⟩
def alS(x:Sn)(v:Value)(w:World)(C r:Nat)(h:bA w C r x.all [v])(u:dJ x.no)(q:r<=w.heap.size)(z:aX oX x.all<=1048576) :
  Calls (ah β) 70 #[.agg #[.int .i64 x.no,v]] w λe k=>∃o,e=.returned (.agg #[.int .i64 x.no,o])/\OSn k w.heap.size k.heap.size x [.int .i64 x.no,o]/\Below w.heap.size w k:=by
 obtain⟨A,c,rfl⟩:=aY.form h;go_enter zo,ntmps70;go_wp2;generalize s:((w.alloc (.cells #[.int .i64 x.no,.slice A x.all.length c] 119)).alloc (.cells #[.int .i64 0,.slice none 0 0] 48)).alloc (.cells #[.int .i64 x.no,.slice none 0 0] 48)=w0 at *;obtain⟨i,E,f,t,y,d,p,B,j,n,l⟩:=arP s;clear s;have m:=ap q i.size;refine(afL x.all _ _ _ _ (bA.loc.below h i q) m z).mono ?_;rintro e D ⟨I,rfl,g,a⟩;replace f:=ar f a;replace t:=f.cell;replace y:=f.frozen;replace d:=ar d a;replace p:=d.cell;replace B:=d.frozen;replace j:=ar j a;replace n:=j.cell;replace l:=j.frozen;obtain⟨G,J,rfl⟩:=g.form;have H:=a.size;replace g:=ab g;go_wp2;exact pN (v:=.agg #[_,_]) (by simp[results,results70,go_sem,p]) rfl ⟨_,rfl,⟨_,rfl,u,ahO.aK.go (λb F _ _=>by rw[mc _ _ _ _ (by dsimp only;omega),mc _ _ _ _ (by dsimp only;omega),mc _ _ _ _ (by dsimp only;omega)]) (by omega) (by simp only[gE];exact am _) g.out⟩,
  (((i.trans (a.mono i.size)).setCell (by dsimp only;omega) _).setCell (by dsimp only;omega) _).setCell (by dsimp only;omega) _⟩
def alT:((ah β).info? 48).map (λi=>(i.zero,i.size,i.bytes))=some (some (.agg #[.int .i64 0,.slice none 0 0]),2,32):=by kernel_rfl
def ar4(w:World)(xs:List Sn)(e:Ending)(w':World):Prop:=∃v,e=.returned v/\adF w' w.heap.size w'.heap.size xs [v]/\Below w.heap.size w w'
def ajK(xs:List Sn)(v:Value)(w:World)(T D:Nat)(h:cZ w T D xs [v])(u:D<=w.heap.size)(z:aX bSn xs<=1048576) :
  Calls (ah β) 44 #[v] w (ar4 w xs):=by
 obtain⟨A,c,rfl⟩:=h.form;have I:xs.length<=1048576:=ap fJ z;have N:=jS (P:=(ah β)) 33 48 (.agg #[.int .i64 0,.slice none 0 0]) 2 32 ze alT xs.length (by omega) (by omega) w;go_enter zD,ntmps44;go_wp2;go_loopw [4] (λi wr=>∃k:Nat,k<=xs.length/\i=.int .i64 k/\eY 48 OSn 2 (xs.length*2) wr w.heap.size w.heap.size wr.heap.size (xs.take k)/\Below w.heap.size w wr) (λi _=>xs.length-(intOf i).toNat)
 case atStart=>
  refine⟨0,du _,rfl, ?_,(db _ _).alloc (am _) _⟩;have:=eY.new 48 OSn 2 w (madeCells #[.int .i64 0,.slice none 0 0] (xs.length*2));rw[rj] at this;exact this
 case round=>
  obtain⟨k,H,rfl,s,l⟩:=hrel;by_cases r:k<xs.length
  .obtain⟨x,m⟩:=aq r;obtain⟨b,o,Z,rfl,_,X,_,⟨Y,rfl,q,C⟩,d⟩:=(cZ.loc.below h l u).at_ m;obtain⟨Q,K,rfl⟩:=aY.form C;have F:wr.cell? ⟨b,o+k*2,none⟩=some (.int .i64 x.no):=by simpa using d 0 _ rfl
   have U:wr.cell? ⟨b,o+k*2+1,none⟩=some (.slice Q x.all.length K):=by simpa using d 1 _ rfl
   clear d;have t:=gn m;replace m:=ab m;replace t:=ab t;go_wp2;refine(alS x _ _ _ _ C q (ap u l.size) (ap ((oW (f:=bSn) (be m.out))) z)).mono ?_;rintro e W ⟨G,rfl,B,g⟩;obtain⟨O,L,rfl⟩:∃A c,G=.slice A x.all.length c:=by
    obtain⟨v4,R,_,J⟩:=B;cases R;exact fh.form J
   have n:=s.chg OSn.aK g (am _);have a:(xs.take k).length=k:=by rw[lc,qy H]
   obtain⟨u0,M⟩:=n.there (j:=k*2) (by omega);obtain⟨u1,V⟩:=n.there (j:=k*2+1) (by omega);have S:=n.frozen (k*2);have E:=n.frozen (k*2+1);have p:=n.ajH OSn.aK (by decide) (y:=x) (u0:=.int .i64 x.no) (u1:=.slice O x.all.length L) rfl rfl g.size B (by rw[a];omega);rw[a,<-t.out] at p;replace p:=ab p;replace a:=ab a;go_wp2;go_roundw
   case rel=>exact⟨k+1,by omega,by go_num,by simp only[gE];exact p.out,((l.trans (g.mono l.size)).setCell (am _) _).setCell (am _) _⟩
   simp[intOf];omega
  .obtain rfl:k=xs.length:=by omega
   rw[dk] at s;go_wp2;go_ret;exact⟨_,rfl,s.own (by unfold maxLen;omega),l⟩
def ae2(x y:Sn)(v B:Value)(w:World)(s o i n:Nat)(t:bA w s o x.all [v])(r:bA w i n y.all [B])(m:o<=w.heap.size)(p:n<=w.heap.size)(b:Bool)(j:b=true↔x=y) :
  Calls (ah β) 79 #[.agg #[.int .i64 x.no,v],.agg #[.int .i64 y.no,B]] w λe E=>e=.returned (.bool b)/\Below w.heap.size w E:=by
 replace j:=ab j;obtain⟨A,c,rfl⟩:=aY.form t;obtain⟨C,z,rfl⟩:=aY.form r;by_cases g:x.no=y.no
 .have K:(x.no !=y.no)=false:=by rw[pu];exact g
  replace g:=ab g;by_cases f:x.all=y.all
  .have a:b=true:=j.out.2 (by cases x;cases y;simp only[Sn.mk.injEq];exact⟨g.out,f⟩);have l:=ab a;clear a;replace f:=ab f;go_enter wG,ntmps79;go_wp2;generalize k:(w.alloc (.cells #[.int .i64 x.no,.slice A x.all.length c] 48)).alloc (.cells #[.int .i64 y.no,.slice C y.all.length z] 48)=w0 at *;obtain⟨d,F,I,G,J,D,H,L⟩:=nh k;clear k;refine(aas x.all y.all _ _ _ s o i n (bA.loc.below t d m) (bA.loc.below r d p) (ap m d.size) (ap p d.size) true (by simp only[qj];exact f.out)).mono ?_;rintro e M ⟨rfl,q⟩;go_wp2;go_ret;exact⟨ak l.out.symm,ae d q⟩
  .have a:b=false:=by rw[<-bv,j.out];rintro rfl;exact f rfl
   have l:=ab a;clear a;replace f:=ab f;go_enter wG,ntmps79;go_wp2;generalize k:(w.alloc (.cells #[.int .i64 x.no,.slice A x.all.length c] 48)).alloc (.cells #[.int .i64 y.no,.slice C y.all.length z] 48)=w0 at *;obtain⟨d,F,I,G,J,D,H,L⟩:=nh k;clear k;refine(aas x.all y.all _ _ _ s o i n (bA.loc.below t d m) (bA.loc.below r d p) (ap m d.size) (ap p d.size) false (by simp only[fd,qO];exact f.out)).mono ?_;rintro e M ⟨rfl,q⟩;go_wp2;go_ret;exact⟨ak l.out.symm,ae d q⟩
 .have K:(x.no !=y.no)=true:=by rw[qx];exact g
  have u:b=false:=by rw[<-bv,j.out];rintro rfl;exact g rfl
  have l:=ab u;clear u g;go_enter wG,ntmps79;go_wp2;go_ret;exact⟨ak l.out.symm,by repeat(first|exact db _ _|refine qR ?_ (by simp) _)⟩
def nW(xs q:List Sn)(T J:Value)(w:World)(lo U px hi':Nat)(Q:cZ w lo U xs [T])(R:cZ w px hi' q [J])(n:U<=w.heap.size)(z:hi'<=w.heap.size)(b:Bool)(v:b=true↔xs=q) :
  Calls (ah β) 54 #[T,J] w λe w'=>e=.returned (.bool b)/\Below w.heap.size w w':=by
 replace v:=ab v;obtain⟨A,c,rfl⟩:=Q.form;obtain⟨B,d,rfl⟩:=R.form;obtain⟨_,hc,hx⟩:=Q.len_;unfold maxLen at hx;by_cases a:xs.length=q.length
 .have t1:((xs.length:Int) !=q.length)=false:=by rw[pu];omega
  replace a:=ab a;go_enter xq,ntmps54;go_wp2;go_loopw [5] (λi wr=>∃k:Nat,k<=xs.length/\i=.int .i64 k/\xs.take k=q.take k/\Below w.heap.size w wr) (λi _=>xs.length-(intOf i).toNat)
  case atStart=>exact⟨0,du _,rfl,rfl,db _ _⟩
  case round=>
   obtain⟨k,hk,rfl,D,f⟩:=hrel;replace D:=ab D;by_cases O:k<xs.length
   .obtain⟨x,s⟩:=aq O;obtain⟨y,r⟩:=aq (l:=q) (k:=k) (by have:=a.out;omega);obtain⟨W,H,es,rfl,_,fp,_,⟨J,rfl,a1,o⟩,j⟩:=(cZ.loc.below Q f n).at_ s;obtain⟨A2,Z,rfl⟩:=aY.form o;have u:wr.cell? ⟨W,H+k*2,none⟩=some (.int .i64 x.no):=by simpa using j 0 _ rfl
    have I:wr.cell? ⟨W,H+k*2+1,none⟩=some (.slice A2 x.all.length Z):=by simpa using j 1 _ rfl
    clear j;obtain⟨X,V,es,rfl,_,fp,_,⟨J,rfl,a2,m⟩,j⟩:=(cZ.loc.below R f z).at_ r;obtain⟨A3,c3,rfl⟩:=aY.form m;have E:wr.cell? ⟨X,V+k*2,none⟩=some (.int .i64 y.no):=by simpa using j 0 _ rfl
    have C:wr.cell? ⟨X,V+k*2+1,none⟩=some (.slice A3 y.all.length c3):=by simpa using j 1 _ rfl
    clear j;have a0:(k:Int)<(q.length:Int):=by have:=a.out;omega
    replace s:=ab s;replace r:=ab r;replace o:=ab o;replace m:=ab m;have g:=ab f.size;by_cases p:x=y
    .replace p:=ab p;go_wp2;have L:=ag u;have N:=ag I;have M:=ag E;have P:=ag C;refine az (by kernel_rfl) (by kernel_rfl) ?_;repeat(go_big_quiet_step (first|(go_at_call 79;refine aL (ae2 x y _ _ _ _ _ _ _ (bA.loc.below o.out (dA.ok _) (ap n g.out)) (bA.loc.below m.out (dA.ok _) (ap z g.out)) (ap n (ap g.out (dA.ok _).size)) (ap z (ap g.out (dA.ok _).size)) true ?_);(simp only[qj];exact p.out))))
     refine ff ?_;intro Y t;have K:=aF t;clear t L N M P;go_wp2;go_roundw
     case rel=>first|exact⟨k+1,by omega,by go_num,by rw[gn s.out,gn r.out,D.out,p.out],f.trans (K.mono f.size)⟩|((repeat apply Exists.intro);refine⟨?_,rfl⟩;exact⟨k+1,by omega,by go_num,by rw[gn s.out,gn r.out,D.out,p.out],f.trans (K.mono f.size)⟩)
     simp[intOf];omega
    .have G:b=false:=by
      rw[<-bv,v.out];rintro rfl;exact p (dj (s.out.symm.trans r.out))
     have F:=ab G;clear G;replace p:=ab p;go_wp2;have L:=ag u;have N:=ag I;have M:=ag E;have P:=ag C;refine az (by kernel_rfl) (by kernel_rfl) ?_;repeat(go_big_quiet_step (first|(go_at_call 79;refine aL (ae2 x y _ _ _ _ _ _ _ (bA.loc.below o.out (dA.ok _) (ap n g.out)) (bA.loc.below m.out (dA.ok _) (ap z g.out)) (ap n (ap g.out (dA.ok _).size)) (ap z (ap g.out (dA.ok _).size)) false ?_);(simp only[fd,qO];exact p.out))))
     refine ff ?_;intro Y t;have K:=aF t;clear t L N M P;go_wp2;go_ret;exact⟨ak F.out.symm,f.trans (K.mono f.size)⟩
   .obtain rfl:k=xs.length:=by omega
    have S:b=true:=by
     rw[v.out];have:=D.out
     rwa [dk,nq (by have:=a.out;omega)] at this
    have F:=ab S;clear S;go_wp2;go_ret;exact⟨ak F.out.symm,f⟩
 .have t1:((xs.length:Int) !=q.length)=true:=by rw[qx];omega
  have G:b=false:=by
   rw[<-bv,v.out];rintro rfl;exact a rfl
  have F:=ab G;clear G;replace a:=ab a;go_enter xq,ntmps54;go_wp2;go_ret;exact⟨ak F.out.symm,db _ _⟩
end
section
variable {β:Bool}
open Go.RowKit
def adg(m c:Nat)(A:Option Addr)(k:Int)(w:World)(b:m<=9223372036854775807)(d:0<=k)(f:k<=1048576) :
  Calls (ah β) 35 #[.slice A m c,.int .i64 k] w λe a=>e=.returned (.int .i64 (jC k m))/\w=a:=by
 by_cases h:k-(m:Int)<0
 .rw[bF h];go_enter xw,ntmps35;go_wp2;go_ret;exact⟨rfl,rfl⟩
 .rw[cP (show 0<=k-(m:Int) by omega)];go_enter xw,ntmps35;go_wp2;go_ret;exact⟨rfl,rfl⟩
def alU(x:Hd)(w:World):Calls (ah β) 71 #[.agg #[.int .i64 x.b,.int .i64 x.s]] w λe a=>e=.returned (.agg #[.int .i64 x.b,.int .i64 x.s])/\Below w.heap.size w a:=by
 go_enter zn,ntmps71;go_wp2;exact pN (v:=.agg #[.int .i64 x.b,.int .i64 x.s]) (by simp[results,results71,go_sem]) rfl ⟨rfl,by repeat(first|exact db _ _|refine Below.setCell ?_ (by first|(simp;done)|(simp;omega)) _|refine qR ?_ (by first|(simp;done)|(simp;omega)) _)⟩
def alV:((ah β).info? 125).map (λi=>(i.zero,i.size,i.bytes))=some (some (.agg #[.int .i64 0,.int .i64 0]),2,16):=by kernel_rfl
def ar5(w:World)(xs:List Hd)(e:Ending)(w':World):Prop:=∃v,e=.returned v/\ahP w' w.heap.size w'.heap.size xs [v]/\Below w.heap.size w w'
def ajL(xs:List Hd)(v:Value)(w:World)(K u:Nat)(h:dU w K u xs [v])(D:u<=w.heap.size)(F:xs.length<=1048576) :
  Calls (ah β) 45 #[v] w (ar5 w xs):=by
 obtain⟨A,c,rfl⟩:=h.form;have E:xs.length<=1048576:=F;have I:=jS (P:=(ah β)) 34 125 (.agg #[.int .i64 0,.int .i64 0]) 2 16 zd alV xs.length (by omega) (by omega) w;go_enter zC,ntmps45;go_wp2;go_loopw [4] (λi wr=>∃k:Nat,k<=xs.length/\i=.int .i64 k/\eY 125 (cD FHd) 2 (xs.length*2) wr w.heap.size w.heap.size wr.heap.size (xs.take k)/\Below w.heap.size w wr) (λi _=>xs.length-(intOf i).toNat)
 case atStart=>
  refine⟨0,du _,rfl, ?_,(db _ _).alloc (am _) _⟩;have:=eY.new 125 (cD FHd) 2 w (madeCells #[.int .i64 0,.int .i64 0] (xs.length*2));rw[rj] at this;exact this
 case round=>
  obtain⟨k,C,rfl,r,m⟩:=hrel;by_cases q:k<xs.length
  .obtain⟨x,n⟩:=aq q;obtain⟨b,l,O,rfl,_,N,_,⟨rfl,p⟩,d⟩:=(dU.loc.below h m D).at_ n;have B:wr.cell? ⟨b,l+k*2,none⟩=some (.int .i64 x.b):=by simpa using d 0 _ rfl
   have L:wr.cell? ⟨b,l+k*2+1,none⟩=some (.int .i64 x.s):=by simpa using d 1 _ rfl
   clear d;have s:=gn n;replace n:=ab n;replace s:=ab s;go_wp2;refine(alU x _).mono ?_;rintro e t ⟨rfl,f⟩;have G:(cD FHd) t wr.heap.size t.heap.size x [.int .i64 x.b,.int .i64 x.s]:=⟨rfl,p⟩;have g:=r.chg (cD.aK FHd) f (am _);have a:(xs.take k).length=k:=by rw[lc,qy C]
   obtain⟨u0,H⟩:=g.there (j:=k*2) (by omega);obtain⟨u1,M⟩:=g.there (j:=k*2+1) (by omega);have J:=g.frozen (k*2);have z:=g.frozen (k*2+1);have o:=g.ajH (cD.aK FHd) (by decide) (y:=x) (u0:=.int .i64 x.b) (u1:=.int .i64 x.s) rfl rfl f.size G (by rw[a];omega);rw[a,<-s.out] at o;replace o:=ab o;replace a:=ab a;go_wp2;go_roundw
   case rel=>exact⟨k+1,by omega,by go_num,by simp only[gE];exact o.out,((m.trans (f.mono m.size)).setCell (am _) _).setCell (am _) _⟩
   simp[intOf];omega
  .obtain rfl:k=xs.length:=by omega
   rw[dk] at r;go_wp2;go_ret;exact⟨_,rfl,r.own (by unfold maxLen;omega),m⟩
def ae3(x y:Hd)(w:World)(b:Bool)(d:b=true↔x=y):Calls (ah β) 80 #[.agg #[.int .i64 x.b,.int .i64 x.s],.agg #[.int .i64 y.b,.int .i64 y.s]] w λe k=>e=.returned (.bool b)/\Below w.heap.size w k:=by
 replace d:=ab d;by_cases a:x.b=y.b
 .have l:(x.b !=y.b)=false:=by rw[pu];exact a
  replace a:=ab a;by_cases c:x.s=y.s
  .have j:(x.s !=y.s)=false:=by rw[pu];exact c
   replace c:=ab c;have g:b=true:=d.out.2 (by cases x;cases y;simp only[Hd.mk.injEq];exact⟨a.out,c.out⟩);have i:=ab g;clear g;go_enter wF,ntmps80;go_wp2;go_ret;exact⟨ak i.out.symm,by repeat(first|exact db _ _|refine qR ?_ (by simp) _)⟩
  .have j:(x.s !=y.s)=true:=by rw[qx];exact c
   have f:b=false:=by rw[<-bv,d.out];rintro rfl;exact c rfl
   have i:=ab f;clear f c;go_enter wF,ntmps80;go_wp2;go_ret;exact⟨ak i.out.symm,by repeat(first|exact db _ _|refine qR ?_ (by simp) _)⟩
 .have l:(x.b !=y.b)=true:=by rw[qx];exact a
  have f:b=false:=by rw[<-bv,d.out];rintro rfl;exact a rfl
  have i:=ab f;clear f a;go_enter wF,ntmps80;go_wp2;go_ret;exact⟨ak i.out.symm,by repeat(first|exact db _ _|refine qR ?_ (by simp) _)⟩
def adh(xs m:List Hd)(P Q:Value)(w:World)(lo S px hi':Nat)(I:dU w lo S xs [P])(N:dU w px hi' m [Q])(J:S<=w.heap.size)(W:hi'<=w.heap.size)(b:Bool)(r:b=true↔xs=m) :
  Calls (ah β) 55 #[P,Q] w λe U=>e=.returned (.bool b)/\Below w.heap.size w U:=by
 replace r:=ab r;obtain⟨A,c,rfl⟩:=I.form;obtain⟨B,d,rfl⟩:=N.form;obtain⟨_,hc,hx⟩:=I.len_;unfold maxLen at hx;by_cases a:xs.length=m.length
 .have t1:((xs.length:Int) !=m.length)=false:=by rw[pu];omega
  replace a:=ab a;go_enter xp,ntmps55;go_wp2;go_loopw [5] (λi wr=>∃k:Nat,k<=xs.length/\i=.int .i64 k/\xs.take k=m.take k/\Below w.heap.size w wr) (λi _=>xs.length-(intOf i).toNat)
  case atStart=>exact⟨0,du _,rfl,rfl,db _ _⟩
  case round=>
   obtain⟨k,hk,rfl,z,f⟩:=hrel;replace z:=ab z;by_cases F:k<xs.length
   .obtain⟨x,n⟩:=aq F;obtain⟨y,o⟩:=aq (l:=m) (k:=k) (by have:=a.out;omega);obtain⟨M,v,es,rfl,_,V,_,⟨rfl,Y⟩,g⟩:=(dU.loc.below I f J).at_ n;have q:wr.cell? ⟨M,v+k*2,none⟩=some (.int .i64 x.b):=by simpa using g 0 _ rfl
    have D:wr.cell? ⟨M,v+k*2+1,none⟩=some (.int .i64 x.s):=by simpa using g 1 _ rfl
    clear g;obtain⟨R,T,es,rfl,_,V,_,⟨rfl,Z⟩,g⟩:=(dU.loc.below N f W).at_ o;have C:wr.cell? ⟨R,T+k*2,none⟩=some (.int .i64 y.b):=by simpa using g 0 _ rfl
    have t:wr.cell? ⟨R,T+k*2+1,none⟩=some (.int .i64 y.s):=by simpa using g 1 _ rfl
    clear g;have a0:(k:Int)<(m.length:Int):=by have:=a.out;omega
    replace n:=ab n;replace o:=ab o;by_cases j:x=y
    .replace j:=ab j;go_wp2;have G:=ag q;have L:=ag D;have K:=ag C;have H:=ag t;refine az (by kernel_rfl) (by kernel_rfl) ?_;repeat(go_big_quiet_step (first|(go_at_call 80;refine aL (ae3 x y _ true ?_);(simp only[qj];exact j.out))))
     refine ff ?_;intro X p;have E:=aF p;clear p G L K H;go_wp2;go_roundw
     case rel=>first|exact⟨k+1,by omega,by go_num,by rw[gn n.out,gn o.out,z.out,j.out],f.trans (E.mono f.size)⟩|((repeat apply Exists.intro);refine⟨?_,rfl⟩;exact⟨k+1,by omega,by go_num,by rw[gn n.out,gn o.out,z.out,j.out],f.trans (E.mono f.size)⟩)
     simp[intOf];omega
    .have u:b=false:=by
      rw[<-bv,r.out];rintro rfl;exact j (dj (n.out.symm.trans o.out))
     have s:=ab u;clear u;replace j:=ab j;go_wp2;have G:=ag q;have L:=ag D;have K:=ag C;have H:=ag t;refine az (by kernel_rfl) (by kernel_rfl) ?_;repeat(go_big_quiet_step (first|(go_at_call 80;refine aL (ae3 x y _ false ?_);(simp only[fd,qO];exact j.out))))
     refine ff ?_;intro X p;have E:=aF p;clear p G L K H;go_wp2;go_ret;exact⟨ak s.out.symm,f.trans (E.mono f.size)⟩
   .obtain rfl:k=xs.length:=by omega
    have O:b=true:=by
     rw[r.out];have:=z.out
     rwa [dk,nq (by have:=a.out;omega)] at this
    have s:=ab O;clear O;go_wp2;go_ret;exact⟨ak s.out.symm,f⟩
 .have t1:((xs.length:Int) !=m.length)=true:=by rw[qx];omega
  have u:b=false:=by
   rw[<-bv,r.out];rintro rfl;exact a rfl
  have s:=ab u;clear u;replace a:=ab a;go_enter xp,ntmps55;go_wp2;go_ret;exact⟨ak s.out.symm,db _ _⟩
end
section
variable {β:Bool}
open Go.RowKit
structure ky (w:World) (lo hi:Nat) (s:ib) (va vb vc:Value):Prop where
 pk:cK w lo hi s.pk [va]
 sn:cZ w lo hi s.sn [vb]
 lg:dU w lo hi s.lg [vc]
def ky.below{B : Nat}{s:ib}(h:ky w Z Y s U T S)(b:Below B w w')(a:Y<=B):ky w' Z Y s U T S:=⟨cK.loc.below h.pk b a,cZ.loc.below h.sn b a,dU.loc.below h.lg b a⟩
structure aaT (w:World) (lo hi:Nat) (s:ib) (va vb vc:Value):Prop where
 pk:mF w lo hi s.pk [va]
 sn:adF w lo hi s.sn [vb]
 lg:ahP w lo hi s.lg [vc]
def aaT.go{px hi' : Nat}{s:ib}(h:aaT w Z Y s U T S)(d:∀b,Z<=b->b<Y->w'.heap[b]?=w.heap[b]?)(c:px<=Z)(a:Y<=hi'):aaT w' px hi' s U T S:=
 ⟨mF.aK.loc.go d c a h.pk,adF.aK.loc.go d c a h.sn,ahP.aK.loc.go d c a h.lg⟩
def aaT.below{B : Nat}{s:ib}(h:aaT w Z Y s U T S)(a:Below B w w')(d:Y<=B):aaT w' Z Y s U T S:=h.go (λb _ c=>a.block b (by omega)) (am _) (am _)
def aaT.l{s:ib}(h:aaT w Z Y s U T S):ky w Z Y s U T S:=⟨mF.l h.pk,adF.l h.sn,ahP.l h.lg⟩
def adG(s:ib):Nat:=aX bPk s.pk+aX bSn s.sn+s.lg.length
def nX(s:ib)(Y X vc:Value)(k:Int)(w:World)(D t:Nat)(h:ky w D t s Y X vc)(g:t<=w.heap.size)(P:0<=k)(Q:k<=1048576) :
  Calls (ah β) 12 #[.agg #[Y,X,vc],.int .i64 k] w λe w'=>e=.returned (.int .i64 (jC k (adG s)))/\Below w.heap.size w w':=by
 obtain⟨L,O,Z⟩:=h;obtain⟨A,a,rfl⟩:=aY.form L;obtain⟨B,b,rfl⟩:=aY.form O;obtain⟨C,c,rfl⟩:=aY.form Z;obtain⟨_,hc,hx⟩:=Z.len_;unfold maxLen at hx;generalize p:jC k (adG s)=q;unfold adG at p;by_cases M:k-((aX bPk s.pk:Nat):Int)<0
 .have j:=bF M;have l:(-1:Int)=q:=by rw[<-p,bF (by omega)]
  have F:=ab l;have HS:=ab j;clear p l j M;go_enter wn,ntmps12;go_wp2;generalize n:w.alloc (.cells #[.slice A s.pk.length a,.slice B s.sn.length b,.slice C s.lg.length c] 26)=w0 at *;obtain⟨d,U,f,u,v⟩:=fA n;clear n;refine(kZ s.pk _ k _ D t (cK.loc.below L d g) (ap g d.size) P Q).mono ?_;rintro e T ⟨rfl,o⟩;rw[HS.out];go_wp2;go_ret;exact⟨eJ F.out,ae d o⟩
 .obtain⟨z,S⟩:∃z:Int,z=k-((aX bPk s.pk:Nat):Int):=⟨_,rfl⟩;have j:jC k (aX bPk s.pk)=z:=by rw[S];exact cP (by omega)
  have HS:=ab j;clear j;have E:0<=z:=by omega
  have G:z<=1048576:=by omega
  by_cases R:z-((aX bSn s.sn:Nat):Int)<0
  .have m:=bF R;have l:(-1:Int)=q:=by rw[<-p,bF (by omega)]
   have F:=ab l;have r:=ab m;clear p l m M R S;go_enter wn,ntmps12;go_wp2;generalize n:w.alloc (.cells #[.slice A s.pk.length a,.slice B s.sn.length b,.slice C s.lg.length c] 26)=w0 at *;obtain⟨d,U,f,u,v⟩:=fA n;clear n;refine(kZ s.pk _ k _ D t (cK.loc.below L d g) (ap g d.size) P Q).mono ?_;rintro e T ⟨rfl,o⟩;rw[HS.out];replace f:=ar f o;replace u:=f.cell;replace v:=f.frozen;replace d:=ae d o;go_wp2;refine(nV s.sn _ z _ D t (cZ.loc.below O d g) (ap g d.size) E G).mono ?_;rintro e w2 ⟨rfl,I⟩;rw[r.out];go_wp2;go_ret;exact⟨eJ F.out,ae d I⟩
  .obtain⟨y,V⟩:∃y:Int,y=z-((aX bSn s.sn:Nat):Int):=⟨_,rfl⟩;have m:jC z (aX bSn s.sn)=y:=by rw[V];exact cP (by omega)
   have r:=ab m;clear m;have N:0<=y:=by omega
   have K:y<=1048576:=by omega
   by_cases W:y-(s.lg.length:Int)<0
   .have i:=bF W;have l:(-1:Int)=q:=by rw[<-p,bF (by omega)]
    have F:=ab l;have H:=ab i;clear p l i M R S V W;go_enter wn,ntmps12;go_wp2;generalize n:w.alloc (.cells #[.slice A s.pk.length a,.slice B s.sn.length b,.slice C s.lg.length c] 26)=w0 at *;obtain⟨d,U,f,u,v⟩:=fA n;clear n;refine(kZ s.pk _ k _ D t (cK.loc.below L d g) (ap g d.size) P Q).mono ?_;rintro e T ⟨rfl,o⟩;rw[HS.out];replace f:=ar f o;replace u:=f.cell;replace v:=f.frozen;replace d:=ae d o;go_wp2;refine(nV s.sn _ z _ D t (cZ.loc.below O d g) (ap g d.size) E G).mono ?_;rintro e w2 ⟨rfl,I⟩;rw[r.out];replace f:=ar f I;replace u:=f.cell;replace v:=f.frozen;replace d:=ae d I;go_wp2;refine(adg s.lg.length c C y _ (by omega) N K).mono ?_;rintro e w3 ⟨rfl,rfl⟩;rw[H.out];go_wp2;go_ret;exact⟨eJ F.out,d⟩
   .obtain⟨x,J⟩:∃x:Int,x=y-(s.lg.length:Int):=⟨_,rfl⟩;have i:jC y s.lg.length=x:=by rw[J];exact cP (by omega)
    have l:x=q:=by rw[<-p,cP (by omega)];omega
    have a0:0<=x:=by omega
    have F:=ab l;have H:=ab i;clear p l i M R S V W J;go_enter wn,ntmps12;go_wp2;generalize n:w.alloc (.cells #[.slice A s.pk.length a,.slice B s.sn.length b,.slice C s.lg.length c] 26)=w0 at *;obtain⟨d,U,f,u,v⟩:=fA n;clear n;refine(kZ s.pk _ k _ D t (cK.loc.below L d g) (ap g d.size) P Q).mono ?_;rintro e T ⟨rfl,o⟩;rw[HS.out];replace f:=ar f o;replace u:=f.cell;replace v:=f.frozen;replace d:=ae d o;go_wp2;refine(nV s.sn _ z _ D t (cZ.loc.below O d g) (ap g d.size) E G).mono ?_;rintro e w2 ⟨rfl,I⟩;rw[r.out];replace f:=ar f I;replace u:=f.cell;replace v:=f.frozen;replace d:=ae d I;go_wp2;refine(adg s.lg.length c C y _ (by omega) N K).mono ?_;rintro e w3 ⟨rfl,rfl⟩;rw[H.out];go_wp2;go_ret;exact⟨eJ F.out,d⟩
def axv(w:World)(s:ib)(e:Ending)(w':World):Prop:=∃c a b,e=.returned (.agg #[c,a,b])/\aaT w' w.heap.size w'.heap.size s c a b/\Below w.heap.size w w'
def ajM(s:ib)(X vb vc:Value)(w:World)(R J:Nat)(h:ky w R J s X vb vc)(E:J<=w.heap.size)(hl:adG s<=1048576) :
  Calls (ah β) 17 #[.agg #[X,vb,vc]] w (axv w s):=by
 obtain⟨h1,U,Y⟩:=h;obtain⟨A,a,rfl⟩:=aY.form h1;obtain⟨B,b,rfl⟩:=aY.form U;obtain⟨C,c,rfl⟩:=aY.form Y;unfold adG at hl;go_enter zQ,ntmps17;go_wp2;generalize Z:((w.alloc (.cells #[.slice A s.pk.length a,.slice B s.sn.length b,.slice C s.lg.length c] 26)).alloc (.cells #[.slice none 0 0,.slice none 0 0,.slice none 0 0] 36)).alloc (.cells #[.slice none 0 0,.slice none 0 0,.slice none 0 0] 36)=w0 at *;obtain⟨m,dK,g,G,H,f,D,P,d,k,j⟩:=arP Z;clear Z;refine(ajJ s.pk _ _ R J (cK.loc.below h1 m E) (ap E m.size) (by omega)).mono ?_;rintro e F ⟨v1,rfl,O,L⟩;replace g:=ar g L;replace G:=g.cell;replace H:=g.frozen;replace f:=ar f L;replace D:=f.cell;replace P:=f.frozen;replace d:=ar d L;replace k:=d.cell;replace j:=d.frozen;obtain⟨n,q,rfl⟩:=O.form;have z1:=L.size;replace O:=ab O;go_wp2;replace m:=(ae m L).setCell (p:=⟨w.heap.size+1+1,0,none⟩) (by dsimp only;omega) (.slice n s.pk.length q);have K:=ab (λb (i:w0.heap.size<=b)=>mc F ⟨w.heap.size+1+1,0,none⟩ (.slice n s.pk.length q) b (by dsimp only;omega));replace d:=d.aer 0 (.slice n s.pk.length q);simp only[oS,pO,pV] at d;replace g:=ahJ g (p:=⟨w.heap.size+1+1,0,none⟩) (.slice n s.pk.length q) (by first|(dsimp only;omega)|(simp;done)|(simp;omega));replace f:=ahJ f (p:=⟨w.heap.size+1+1,0,none⟩) (.slice n s.pk.length q) (by first|(dsimp only;omega)|(simp;done)|(simp;omega));have S:F.heap.size<=(F.setCell ⟨w.heap.size+1+1,0,none⟩ (.slice n s.pk.length q)).heap.size:=by simp only[gE];exact am _
 generalize F.setCell ⟨w.heap.size+1+1,0,none⟩ (.slice n s.pk.length q)=w2 at *;replace k:=d.cell;replace j:=d.frozen;replace G:=g.cell;replace H:=g.frozen;replace D:=f.cell;replace P:=f.frozen;have l:Hid (mF w2 w0.heap.size F.heap.size s.pk [.slice n s.pk.length q]):=ab (mF.aK.loc.go (λb i _=>K.out b i) (am _) (am _) O.out);clear O K;refine(ajK s.sn _ _ R J (cZ.loc.below U m E) (ap E m.size) (by omega)).mono ?_;rintro e M ⟨v3,rfl,I,z⟩;replace g:=ar g z;replace G:=g.cell;replace H:=g.frozen;replace f:=ar f z;replace D:=f.cell;replace P:=f.frozen;replace d:=ar d z;replace k:=d.cell;replace j:=d.frozen;obtain⟨r,t,rfl⟩:=I.form;have z3:=z.size;replace I:=ab I;have o:=ab (mF.aK.below l.out z S);clear l;go_wp2;replace m:=(ae m z).setCell (p:=⟨w.heap.size+1+1,1,none⟩) (by dsimp only;omega) (.slice r s.sn.length t);have u:=ab (λb (i:w0.heap.size<=b)=>mc M ⟨w.heap.size+1+1,1,none⟩ (.slice r s.sn.length t) b (by dsimp only;omega));replace d:=d.aer 1 (.slice r s.sn.length t);simp only[oS,pO,pV] at d;replace g:=ahJ g (p:=⟨w.heap.size+1+1,1,none⟩) (.slice r s.sn.length t) (by first|(dsimp only;omega)|(simp;done)|(simp;omega));replace f:=ahJ f (p:=⟨w.heap.size+1+1,1,none⟩) (.slice r s.sn.length t) (by first|(dsimp only;omega)|(simp;done)|(simp;omega));have a0:M.heap.size<=(M.setCell ⟨w.heap.size+1+1,1,none⟩ (.slice r s.sn.length t)).heap.size:=by simp only[gE];exact am _
 generalize M.setCell ⟨w.heap.size+1+1,1,none⟩ (.slice r s.sn.length t)=w4 at *;replace k:=d.cell;replace j:=d.frozen;replace G:=g.cell;replace H:=g.frozen;replace D:=f.cell;replace P:=f.frozen;have l:Hid (mF w4 w0.heap.size F.heap.size s.pk [.slice n s.pk.length q]):=ab (mF.aK.loc.go (λb i _=>u.out b i) (am _) (am _) o.out);have N:Hid (adF w4 w2.heap.size M.heap.size s.sn [.slice r s.sn.length t]):=ab (adF.aK.loc.go (λb i _=>u.out b (by omega)) (am _) (am _) I.out);clear I u o;refine(ajL s.lg _ _ R J (dU.loc.below Y m E) (ap E m.size) (by omega)).mono ?_;rintro e w5 ⟨v5,rfl,Q,x⟩;replace g:=ar g x;replace G:=g.cell;replace H:=g.frozen;replace f:=ar f x;replace D:=f.cell;replace P:=f.frozen;replace d:=ar d x;replace k:=d.cell;replace j:=d.frozen;obtain⟨A5,a5,rfl⟩:=Q.form;have z5:=x.size;replace Q:=ab Q;have o:=ab (mF.aK.below l.out x (by omega));have T:=ab (adF.aK.below N.out x (by omega));clear l N;go_wp2;have y:∀(u0 W u2 V:Value) (b:Nat),w0.heap.size<=b->((((w5.setCell ⟨w.heap.size+1+1,2,none⟩ u0).setCell ⟨w.heap.size+1,0,none⟩ W).setCell ⟨w.heap.size+1,1,none⟩ u2).setCell ⟨w.heap.size+1,2,none⟩ V).heap[b]?=w5.heap[b]?:=λu0 W u2 V b i=>by
  rw[mc _ _ _ _ (by dsimp only;omega),mc _ _ _ _ (by dsimp only;omega),mc _ _ _ _ (by dsimp only;omega),mc _ _ _ _ (by dsimp only;omega)]
 exact pN (v:=.agg #[_,_,_]) (by simp[results,results17,go_sem,D]) rfl ⟨_,_,_,rfl,
  ⟨mF.aK.loc.go (λb i _=>y _ _ _ _ b i) (by omega) (by simp only[gE];omega) o.out,adF.aK.loc.go (λb i _=>y _ _ _ _ b (by omega)) (by omega) (by simp only[gE];omega) T.out,ahP.aK.loc.go (λb i _=>y _ _ _ _ b (by omega)) (by omega) (by simp only[gE];exact am _) Q.out⟩,
  ((((ae m x).setCell (by dsimp only;omega) _).setCell (by dsimp only;omega) _).setCell (by dsimp only;omega) _).setCell (by dsimp only;omega) _⟩
def ajN(s t:ib)(Z Y vc vd ve X:Value)(w:World)(z o i n:Nat)(hs:ky w z o s Z Y vc)(ht:ky w i n t vd ve X)(j:o<=w.heap.size)(k:n<=w.heap.size)(q:Bool)(H:q=true↔s=t) :
  Calls (ah β) 26 #[.agg #[Z,Y,vc],.agg #[vd,ve,X]] w λe w'=>e=.returned (.bool q)/\Below w.heap.size w w':=by
 replace H:=ab H;obtain⟨I,L,W⟩:=hs;obtain⟨A,a,rfl⟩:=aY.form I;obtain⟨B,b,rfl⟩:=aY.form L;obtain⟨C,c,rfl⟩:=aY.form W;obtain⟨K,N,V⟩:=ht;obtain⟨P,Q,rfl⟩:=aY.form K;obtain⟨R,l,rfl⟩:=aY.form N;obtain⟨M,O,rfl⟩:=aY.form V;by_cases y:s.pk=t.pk
 .replace y:=ab y;by_cases D:s.sn=t.sn
  .replace D:=ab D;by_cases F:s.lg=t.lg
   .have J:q=true:=H.out.2 (by cases s;cases t;simp only[ib.mk.injEq];exact⟨y.out,D.out,F⟩);have G:=ab J;clear J;replace F:=ab F;go_enter vW,ntmps26;go_wp2;generalize p:(w.alloc (.cells #[.slice A s.pk.length a,.slice B s.sn.length b,.slice C s.lg.length c] 36)).alloc (.cells #[.slice P t.pk.length Q,.slice R t.sn.length l,.slice M t.lg.length O] 36)=w0 at *;obtain⟨d,T,g,r,v,f,u,x⟩:=nh p;clear p;refine(ld s.pk t.pk _ _ _ z o i n (cK.loc.below I d j) (cK.loc.below K d k) (ap j d.size) (ap k d.size) true (by simp only[qj];exact y.out)).mono ?_;rintro e S ⟨rfl,m⟩;replace g:=ar g m;replace r:=g.cell;replace v:=g.frozen;replace f:=ar f m;replace u:=f.cell;replace x:=f.frozen;replace d:=ae d m;go_wp2;refine(nW s.sn t.sn _ _ _ z o i n (cZ.loc.below L d j) (cZ.loc.below N d k) (ap j d.size) (ap k d.size) true (by simp only[qj];exact D.out)).mono ?_;rintro e w2 ⟨rfl,l⟩;replace g:=ar g l;replace r:=g.cell;replace v:=g.frozen;replace f:=ar f l;replace u:=f.cell;replace x:=f.frozen;replace d:=ae d l;go_wp2;refine(adh s.lg t.lg _ _ _ z o i n (dU.loc.below W d j) (dU.loc.below V d k) (ap j d.size) (ap k d.size) true (by simp only[qj];exact F.out)).mono ?_;rintro e w3 ⟨rfl,U⟩;replace d:=ae d U;go_wp2;go_ret;exact⟨ak G.out.symm,d⟩
   .have E:q=false:=by rw[<-bv,H.out];rintro rfl;exact F rfl
    have G:=ab E;clear E;replace F:=ab F;go_enter vW,ntmps26;go_wp2;generalize p:(w.alloc (.cells #[.slice A s.pk.length a,.slice B s.sn.length b,.slice C s.lg.length c] 36)).alloc (.cells #[.slice P t.pk.length Q,.slice R t.sn.length l,.slice M t.lg.length O] 36)=w0 at *;obtain⟨d,T,g,r,v,f,u,x⟩:=nh p;clear p;refine(ld s.pk t.pk _ _ _ z o i n (cK.loc.below I d j) (cK.loc.below K d k) (ap j d.size) (ap k d.size) true (by simp only[qj];exact y.out)).mono ?_;rintro e S ⟨rfl,m⟩;replace g:=ar g m;replace r:=g.cell;replace v:=g.frozen;replace f:=ar f m;replace u:=f.cell;replace x:=f.frozen;replace d:=ae d m;go_wp2;refine(nW s.sn t.sn _ _ _ z o i n (cZ.loc.below L d j) (cZ.loc.below N d k) (ap j d.size) (ap k d.size) true (by simp only[qj];exact D.out)).mono ?_;rintro e w2 ⟨rfl,l⟩;replace g:=ar g l;replace r:=g.cell;replace v:=g.frozen;replace f:=ar f l;replace u:=f.cell;replace x:=f.frozen;replace d:=ae d l;go_wp2;refine(adh s.lg t.lg _ _ _ z o i n (dU.loc.below W d j) (dU.loc.below V d k) (ap j d.size) (ap k d.size) false (by simp only[fd,qO];exact F.out)).mono ?_;rintro e w3 ⟨rfl,U⟩;replace d:=ae d U;go_wp2;go_ret;exact⟨ak G.out.symm,d⟩
  .have E:q=false:=by rw[<-bv,H.out];rintro rfl;exact D rfl
   have G:=ab E;clear E;replace D:=ab D;go_enter vW,ntmps26;go_wp2;generalize p:(w.alloc (.cells #[.slice A s.pk.length a,.slice B s.sn.length b,.slice C s.lg.length c] 36)).alloc (.cells #[.slice P t.pk.length Q,.slice R t.sn.length l,.slice M t.lg.length O] 36)=w0 at *;obtain⟨d,T,g,r,v,f,u,x⟩:=nh p;clear p;refine(ld s.pk t.pk _ _ _ z o i n (cK.loc.below I d j) (cK.loc.below K d k) (ap j d.size) (ap k d.size) true (by simp only[qj];exact y.out)).mono ?_;rintro e S ⟨rfl,m⟩;replace g:=ar g m;replace r:=g.cell;replace v:=g.frozen;replace f:=ar f m;replace u:=f.cell;replace x:=f.frozen;replace d:=ae d m;go_wp2;refine(nW s.sn t.sn _ _ _ z o i n (cZ.loc.below L d j) (cZ.loc.below N d k) (ap j d.size) (ap k d.size) false (by simp only[fd,qO];exact D.out)).mono ?_;rintro e w2 ⟨rfl,l⟩;replace g:=ar g l;replace r:=g.cell;replace v:=g.frozen;replace f:=ar f l;replace u:=f.cell;replace x:=f.frozen;replace d:=ae d l;go_wp2;go_ret;exact⟨ak G.out.symm,d⟩
 .have E:q=false:=by rw[<-bv,H.out];rintro rfl;exact y rfl
  have G:=ab E;clear E;replace y:=ab y;go_enter vW,ntmps26;go_wp2;generalize p:(w.alloc (.cells #[.slice A s.pk.length a,.slice B s.sn.length b,.slice C s.lg.length c] 36)).alloc (.cells #[.slice P t.pk.length Q,.slice R t.sn.length l,.slice M t.lg.length O] 36)=w0 at *;obtain⟨d,T,g,r,v,f,u,x⟩:=nh p;clear p;refine(ld s.pk t.pk _ _ _ z o i n (cK.loc.below I d j) (cK.loc.below K d k) (ap j d.size) (ap k d.size) false (by simp only[fd,qO];exact y.out)).mono ?_;rintro e S ⟨rfl,m⟩;replace g:=ar g m;replace r:=g.cell;replace v:=g.frozen;replace f:=ar f m;replace u:=f.cell;replace x:=f.frozen;replace d:=ae d m;go_wp2;go_ret;exact⟨ak G.out.symm,d⟩
end
section
open Go.RowKit Go.ChangeShapes Go.WideShapes Go.ChangeAt
def ahT{H:Type}{enc:TypeId×Value->H}{g0:Nat}(f:abF w (dx w) g0 w'):cG enc prog w w' g0 22 cK:=by
 have e:cG enc prog w w' g0 194 (R2 bz 1 aww):=fy 1 1 underlying194 (by kernel_rfl) rfl (by kernel_rfl) rfl (by kernel_rfl) (gF underlying3) (aeI underlying9);have g:cG enc prog w w' g0 113 dy:=eL f underlying113 (by kernel_rfl) (by decide) (e.map (λx=>(⟨x.1,x.2⟩:It)) λa k ⟨c0,c1,he,_,h0,h1⟩=>by
  obtain⟨rfl,b⟩:=h0;obtain⟨rfl,j⟩:=h1;exact⟨by rw[he];rfl,b,j⟩)
 have d:cG enc prog w w' g0 115 (R2 bz 1 dy):=fy 1 1 underlying115 (by kernel_rfl) rfl (by kernel_rfl) rfl (by kernel_rfl) (gF underlying3) g;exact eL f underlying22 (by kernel_rfl) (by decide) (d.map (λx=>(⟨x.1,x.2⟩:Pk)) λa k ⟨c0,c1,he,_,h0,h1⟩=>by
  obtain⟨rfl,b⟩:=h0;obtain⟨A,c,rfl,i⟩:=h1;exact⟨_,by rw[he];rfl,b,A,c,rfl,i⟩)
def ahU{H:Type}{enc:TypeId×Value->H}{g0:Nat}(d:abF w (dx w) g0 w'):cG enc prog w w' g0 26 (R3 cK 1 cZ 1 dU):=by
 have n:cG enc prog w w' g0 27 (aY bz 1):=eL d underlying27 (by kernel_rfl) (by decide) (gF underlying3);have i:cG enc prog w w' g0 196 (R2 aww 1 (aY bz 1)):=fy 1 1 underlying196 (by kernel_rfl) rfl (by kernel_rfl) rfl (by kernel_rfl) (aeI underlying9) n;have o:cG enc prog w w' g0 117 bA:=eL d underlying117 (by kernel_rfl) (by decide) (i.map (λx=>(⟨x.1,x.2⟩:Ls)) λa j ⟨c0,c1,he,_,h0,h1⟩=>by
  obtain⟨rfl,b⟩:=h0;obtain⟨A,c,rfl,e⟩:=h1;exact⟨_,by rw[he];rfl,b,A,c,rfl,e⟩)
 have g:cG enc prog w w' g0 119 (R2 bz 1 bA):=fy 1 1 underlying119 (by kernel_rfl) rfl (by kernel_rfl) rfl (by kernel_rfl) (gF underlying3) o;have m:cG enc prog w w' g0 23 cZ:=eL d underlying23 (by kernel_rfl) (by decide) (g.map (λx=>(⟨x.1,x.2⟩:Sn)) λa j ⟨c0,c1,he,_,h0,h1⟩=>by
  obtain⟨rfl,b⟩:=h0;obtain⟨A,c,rfl,e⟩:=h1;exact⟨_,by rw[he];rfl,b,A,c,rfl,e⟩)
 have f:cG enc prog w w' g0 129 (R2 bz 1 bz):=fy 1 1 underlying129 (by kernel_rfl) rfl (by kernel_rfl) rfl (by kernel_rfl) (gF underlying3) (gF underlying3);have k:cG enc prog w w' g0 24 dU:=eL d underlying24 (by kernel_rfl) (by decide) (f.map (λx=>(⟨x.1,x.2⟩:Hd)) λa j ⟨c0,c1,he,_,h0,h1⟩=>by
  obtain⟨rfl,b⟩:=h0;obtain⟨rfl,l⟩:=h1;exact⟨by rw[he];rfl,b,l⟩)
 exact nQ 1 1 1 underlying26 (by kernel_rfl) rfl (by kernel_rfl) rfl (by kernel_rfl) rfl (by kernel_rfl) (ahT d) m k
end
section
variable {β:Bool}
open Go.RowKit
def eZ(key:Int)(x:It):Prop:=∃p,cJ (bs x.b)=some p/\cq key p=x.n
def afM{l p:List Nat}(h:cJ l=some p):aZ p/\fP p=l:=by
 unfold cJ at h;split at h
 .rename_i a;have e:=dj h;rw[e] at a;exact a
 .cases h
def jT(x:Int)(w:World)(b:Bool)(c:b=true↔1<=x/\x<=99):Calls (ah β) 41 #[.int .i64 x] w λe a=>e=.returned (.bool b)/\w=a:=by
 go_enter zG,ntmps41;go_wp2;refine(abI _ _ _ _).mono ?_;rintro e d ⟨rfl,rfl⟩;go_wp2;go_ret;exact⟨ak (by rw[oi,c];simp),rfl⟩
def adi(key:Int)(v:1<=key/\key<=99)(x:It)(z:x.b.size<=maxLen)(w:World)(b:Bool)(i:b=true↔eZ key x) :
  Calls (ah β) 66 #[.int .i64 key,.agg #[.int .i64 x.n,.string x.b]] w λe r=>e=.returned (.bool b)/\Below w.heap.size w r:=by
 replace i:=ab i;have B:x.b.size<=maxLen:=z;go_enter zu,ntmps66;go_wp2;generalize o:w.alloc (.cells #[.int .i64 x.n,.string x.b] 83)=w0 at *;obtain⟨q,D,E,n,F⟩:=fA o;clear o;refine(ac8 x.b B w0).mono ?_;rintro e C ⟨⟨t,G,rfl,a⟩,rfl⟩;rcases a with⟨rfl,a⟩|⟨rfl,a,_⟩
 .have d:=(afM a).1;have g:b=(cq key (bs t) ==x.n):=by
   rw[oi,i.out,mx];unfold eZ;rw[a];constructor
   .rintro⟨p,j,s⟩;cases j;exact s
   .intro h;exact⟨_,rfl,h⟩
  have y:=ab d;have c:=ab g;have A:=ab (λw=>alp (β:=β) key t v d w);clear d g a;generalize cq key (bs t)=nm at *;go_wp2;have l:w0.cell? ⟨w.heap.size,0,none⟩=some (.int .i64 x.n):=n 0;have k:=ag l;refine az (by kernel_rfl) (by kernel_rfl) ?_;repeat(go_big_quiet_step (first|(go_at_call 105;refine dh (A.out _))))
  refine ff ?_;intro u f;have m:=aF f;clear f k;go_wp2;go_ret;exact⟨ak c.out.symm,ae q m⟩
 .have g:b=false:=by
   rw[<-bv,i.out];rintro⟨p,j,_⟩;rw[a] at j;cases j
  have c:=ab g;clear g a;go_wp2;have l:w0.cell? ⟨w.heap.size,0,none⟩=some (.int .i64 x.n):=n 0;have k:=ag l;refine az (by kernel_rfl) (by kernel_rfl) ?_;repeat(go_big_quiet_step (fail))
  refine ff ?_;intro u f;have m:=aF f;clear f k;go_wp2;go_ret;exact⟨ak c.out.symm,ae q m⟩
def abX(key:Int)(p:Pk):Prop:=(1<=p.no/\p.no<=99)/\(1<=key/\key<=99)/\(1<=p.its.length/\p.its.length<=4)/\(∀x∈p.its,eZ key x)/\p.its.Pairwise λa b=>a.n<b.n
def adH(key:Int)(l:List It):Prop:=(∀x∈l,eZ key x)/\l.Pairwise λa b=>a.n<b.n
def acF   :adH key (xs++[x])↔adH key xs/\eZ key x/\∀y∈xs,y.n<x.n:=by
 unfold adH;rw[rV];constructor
 .intro⟨d,e,_,f⟩;exact⟨⟨λy c=>d y (by simp[c]),e⟩,d x (by simp),λy c=>f y c x (by simp)⟩
 .intro⟨⟨d,e⟩,f,i⟩;refine⟨λy c=> ?_,e,su _ _,λa g b j=> ?_⟩
  .rcases gt.1 c with c|c
   .exact d y c
   .rw[ga.1 c];exact f
  .rw[ga.1 j];exact i a g
def ajO(b:xs[0]?=some x)(h:eZ key x):adH key (xs.take 1):=by
 rw[gn b];exact acF.2 ⟨⟨λy a=>(by cases a),List.Pairwise.nil⟩,h,λy a=>(by cases a)⟩
def anJ{y : It}(c:adH key (xs.take (j+1)))(d:xs[j]?=some y)(e:xs[j+1]?=some x)(h:eZ key x)(b:y.n<x.n):adH key (xs.take (j+1+1)):=by
 rw[gn e];refine acF.2 ⟨c,h,λz a=> ?_⟩;rw[gn d] at a c;rcases gt.1 a with a|a
 .have:=(acF.1 c).2.2 z a;omega
 .rw[ga.1 a];exact b
def axw(b:xs[k]?=some x)(h:¬eZ key x):¬adH key xs:=λa=>h (a.1 x (be b))
def anK{y : It}(a:xs[j]?=some y)(c:xs[j+1]?=some x)(h:¬y.n<x.n):¬adH key xs:=λd=>by
 have b:=pv.1 d.2 j (j+1) (aI a) (aI c) (by omega);rw[(jt.1 a).2,(jt.1 c).2] at b;exact h b
def ajP(key:Int):adH key []:=⟨λx h=>(by cases h),List.Pairwise.nil⟩
def dG(p:Prop):∃b:Bool,b=true↔p:=by
 by_cases h:p
 .exact⟨true,by simp[h]⟩
 .exact⟨false,by simp[h]⟩
def ae4(key:Int)(p:Pk)(v:Value)(w:World)(lo hi:Nat)(Z:hi<=w.heap.size)(h:iB w lo hi p.its [v])(b:Bool)(t:b=true↔abX key p) :
  Calls (ah β) 38 #[.int .i64 key,.agg #[.int .i64 p.no,v]] w λe w'=>e=.returned (.bool b)/\Below w.heap.size w w':=by
 replace t:=ab t;obtain⟨A,c,rfl⟩:=h.form;obtain⟨_,hc,hx⟩:=h.len_;unfold maxLen at hx;go_enter zI,ntmps38;go_wp2;generalize hG:w.alloc (.cells #[.int .i64 p.no,.slice A p.its.length c] 56)=w0 at *;obtain⟨r,dK,k0,cy,dg⟩:=fA hG;clear hG;have h0:=iB.aK.below h r Z;by_cases M:1<=p.no/\p.no<=99
 .refine(aeL p.no 1 99 M.1 M.2 w0).mono ?_;rintro e I ⟨rfl,rfl⟩;go_wp2;by_cases E:1<=key/\key<=99
  .refine(jT key w0 true (by simp only[qj];exact E)).mono ?_;rintro e I ⟨rfl,rfl⟩;go_wp2;by_cases Y:1<=p.its.length/\p.its.length<=4
   .refine(aeL p.its.length 1 4 (by omega) (by omega) w0).mono ?_;rintro e I ⟨rfl,rfl⟩;have n:b=true↔adH key p.its:=by rw[t.out];exact⟨λh=>⟨h.2.2.2.1,h.2.2.2.2⟩,λh=>⟨M,E,Y,h.1,h.2⟩⟩
    replace n:=ab n;clear t;go_wp2;go_loopw [5] (λi wr=>∃k:Nat,k<=p.its.length/\i=.int .i64 k/\adH key (p.its.take k)/\Below w0.heap.size w0 wr) (λi _=>p.its.length-(intOf i).toNat)
    case atStart=>exact⟨0,du _,rfl,ajP key,db _ _⟩
    case round=>
     obtain⟨k,hk,rfl,Q,d⟩:=hrel;replace Q:=ab Q;have h1:=iB.aK.below h0 d (ap Z r.size);have k1:=ar k0 d;have U:=k1.cell;by_cases W:k<p.its.length
     .obtain⟨x,C⟩:=aq W;obtain⟨b1,X,rfl,_,_,V,F,K⟩:=ada h1 C;replace C:=ab C;obtain⟨q,g⟩:=dG (eZ key x);have S:=ab g;clear g;have D:=λw=>adi (β:=β) key E x V.2 w q S.out;replace D:=ab D;have P:wr.cell? ⟨w.heap.size,0,none⟩=some (.int .i64 p.no):=U 0;have N:wr.cell? ⟨w.heap.size,1,none⟩=some (.slice (some ⟨b1,X,none⟩) p.its.length c):=U 1;clear k1 U cy dg;cases q with
      |false=>
       have f:b=false:=by
        rw[<-bv,n.out];exact axw C.out λh=>by have:=S.out.2 h;cases this
       have a:=ab f;clear f;go_wp2;have s:=ag P;have z:=ag N;have u:=ag F;have B:=ag K;refine az (by kernel_rfl) (by kernel_rfl) ?_;repeat(go_big_quiet_step (first|(go_at_call 66;refine aL (D.out _))))
       refine ff ?_;intro T m;have g:=aF m;clear m s z u B;go_wp2;go_ret;exact⟨ak a.out.symm,ae r (ae d g)⟩
      |true=>
       have o:=S.out.1 rfl;replace o:=ab o;rcases mu k with H|H
       .subst H;simp only[sj,ru] at F K;have L:=ajO C.out o.out;have HK:=ab L;clear L;go_wp2;have s:=ag P;have z:=ag N;have u:=ag F;have B:=ag K;refine az (by kernel_rfl) (by kernel_rfl) ?_;repeat(go_big_quiet_step (first|(go_at_call 66;refine aL (D.out _))))
        refine ff ?_;intro T m;have g:=aF m;clear m s z u B;go_wp2;go_roundw
        case rel=>first|exact⟨1,by omega,by go_num,HK.out,ae d g⟩|((repeat apply Exists.intro);refine⟨?_,rfl⟩;exact⟨1,by omega,by go_num,HK.out,ae d g⟩)
        simp[intOf];omega
       .obtain⟨j,rfl⟩:∃j,k=j+1:=⟨k-1,by omega⟩;have e1:((j+1:Nat):Int)-1=(j:Int):=by omega
        obtain⟨y,G⟩:=aq (l:=p.its) (k:=j) (by omega);obtain⟨b2,gX,J,_,_,a0,oL,a1⟩:=ada h1 G;simp only[lw,pM,qh] at J;obtain⟨rfl,rfl⟩:=J;replace G:=ab G;by_cases O:y.n<x.n
        .have u1:=da (show ¬(x.n<=y.n) by omega);have L:=anJ Q.out G.out C.out o.out O;have HK:=ab L;clear L O;go_wp2;have s:=ag P;have z:=ag N;have u:=ag F;have B:=ag K;have R:=ag oL;refine az (by kernel_rfl) (by kernel_rfl) ?_;repeat(go_big_quiet_step (first|(go_at_call 66;refine aL (D.out _))))
         refine ff ?_;intro T m;have g:=aF m;clear m s z u B R;go_wp2;go_roundw
         case rel=>first|exact⟨j+1+1,by omega,by go_num,HK.out,ae d g⟩|((repeat apply Exists.intro);refine⟨?_,rfl⟩;exact⟨j+1+1,by omega,by go_num,HK.out,ae d g⟩)
         simp[intOf];omega
        .have u1:=dq (show x.n<=y.n by omega);have f:b=false:=by
          rw[<-bv,n.out];exact anK G.out C.out O
         have a:=ab f;clear f O;go_wp2;have s:=ag P;have z:=ag N;have u:=ag F;have B:=ag K;have R:=ag oL;refine az (by kernel_rfl) (by kernel_rfl) ?_;repeat(go_big_quiet_step (first|(go_at_call 66;refine aL (D.out _))))
         refine ff ?_;intro T m;have g:=aF m;clear m s z u B R;go_wp2;go_ret;exact⟨ak a.out.symm,ae r (ae d g)⟩
     .obtain rfl:k=p.its.length:=by omega
      have f:b=true:=by
       have:=Q.out;rw[dk] at this;exact n.out.2 this
      have a:=ab f;clear f;go_wp2;go_ret;exact⟨ak a.out.symm,ae r d⟩
   .have f:b=false:=by rw[<-bv,t.out];exact λh=>Y h.2.2.1
    have a:=ab f;clear f;refine(ahC p.its.length 1 4 (by omega) w0).mono ?_;rintro e I ⟨rfl,rfl⟩;go_wp2;go_ret;exact⟨ak a.out.symm,r⟩
  .have f:b=false:=by rw[<-bv,t.out];exact λh=>E h.2.1
   have a:=ab f;clear f;refine(jT key w0 false (by simp only[fd,qO];exact E)).mono ?_;rintro e I ⟨rfl,rfl⟩;go_wp2;go_ret;exact⟨ak a.out.symm,r⟩
 .have f:b=false:=by rw[<-bv,t.out];exact λh=>M h.1
  have a:=ab f;clear f;refine(ahC p.no 1 99 M w0).mono ?_;rintro e I ⟨rfl,rfl⟩;go_wp2;go_ret;exact⟨ak a.out.symm,r⟩
end
section
variable {β:Bool}
open Go.RowKit
def nm(b:Nat):Bool:=decide (97<=b)&&decide (b<=101)
def fX(s:ByteArray):Bool:=if h:s.size=1 then nm (s[0]'(by omega)).toNat else if h:s.size=3 then nm (s[0]'(by omega)).toNat&&(decide ((s[1]'(by omega)).toNat=47)&&nm (s[2]'(by omega)).toNat) else false
def eB(s:ByteArray):Bool:=decide (s.size<=40)&&(bs s).all nu
def mJ(h:fX s=true):s.size=1\/s.size=3:=by
 unfold fX at h;split at h
 .exact .inl (by assumption)
 .split at h
  .exact .inr (by assumption)
  .cases h
def nZ(b:Nat)(w:World) :
  Calls (ah β) 167 #[.int .u8 b] w λe f=>e=.returned (.bool (nm b))/\w=f:=by
 by_cases c:97<=b
 .by_cases a:b<=101
  .have e:nm b=true:=by unfold nm;rw[dq c,dq a];rfl
   rw[e];clear e;have d:=dq (show(b:Int)<=101 by omega);go_enter we,ntmps167;go_wp2;go_ret;exact⟨rfl,rfl⟩
  .have e:nm b=false:=by unfold nm;rw[da a,Bool.and_false]
   rw[e];clear e;have d:=da (show ¬((b:Int)<=101) by omega);go_enter we,ntmps167;go_wp2;go_ret;exact⟨rfl,rfl⟩
 .have e:nm b=false:=by unfold nm;rw[da c,tC]
  rw[e];clear e;go_enter we,ntmps167;go_wp2;go_ret;exact⟨rfl,rfl⟩
def kC(s:ByteArray)(f:s.size<=maxLen)(w:World) :
  Calls (ah β) 124 #[.string s] w λe d=>e=.returned (.bool (eB s))/\w=d:=by
 by_cases b:s.size<=40
 .have a:(bs s).all nu=eB s:=by unfold eB;rw[dq b,tQ]
  replace a:=ab a;have c:=dq (show(s.size:Int)<=40 by omega);go_enter wU,ntmps124;go_wp2;refine(aap s f w).mono ?_;rintro e g ⟨rfl,rfl⟩;rw[a.out];go_wp2;go_ret;exact⟨rfl,rfl⟩
 .have c:=da (show ¬((s.size:Int)<=40) by omega);have e:eB s=false:=by unfold eB;rw[da b,tC]
  rw[e];clear e;go_enter wU,ntmps124;go_wp2;go_ret;exact⟨rfl,rfl⟩
def kD(s:ByteArray)(p:s.size<=maxLen)(w:World) :
  Calls (ah β) 123 #[.string s] w λe o=>e=.returned (.bool (fX s))/\w=o:=by
 unfold maxLen at p;by_cases j:s.size=1
 .have m:((s.size:Int) ==1)=true:=by rw[j];rfl
  have a:0<s.size:=by omega
  have d:nm (s[0]'a).toNat=fX s:=by unfold fX;rw[sU j]
  have q:=ab d;clear d;have HC:=ab (nZ (β:=β) (s[0]'a).toNat w);go_enter vI,ntmps123;go_wp2;refine HC.out.mono ?_;rintro e i ⟨rfl,rfl⟩;rw[q.out];go_wp2;go_ret;exact⟨rfl,rfl⟩
 .by_cases l:s.size=3
  .have m:((s.size:Int) ==1)=false:=kw.2 (by omega);have n:((s.size:Int) ==3)=true:=by rw[l];rfl
   have a:0<s.size:=by omega
   have c:1<s.size:=by omega
   have g:2<s.size:=by omega
   have d:fX s=(nm (s[0]'a).toNat&&(decide ((s[1]'c).toNat=47)&&nm (s[2]'g).toNat)):=by unfold fX;rw[dif_neg j,sU l]
   have HC:=ab (nZ (β:=β) (s[0]'a).toNat w);have f:=ab (nZ (β:=β) (s[2]'g).toNat w);rw[d];clear d;revert HC;revert f;generalize nm (s[0]'a).toNat=q0;generalize nm (s[2]'g).toNat=q2;intro f HC;cases q0
   .go_enter vI,ntmps123;go_wp2;refine HC.out.mono ?_;rintro e i ⟨rfl,rfl⟩;go_wp2;go_ret;exact⟨rfl,rfl⟩
   .by_cases b:(s[1]'c).toNat=47
    .rw[dq b];have k:(((s[1]'c).toNat:Int) ==47)=true:=by rw[b];rfl
     clear b;go_enter vI,ntmps123;go_wp2;refine HC.out.mono ?_;rintro e i ⟨rfl,rfl⟩;go_wp2;refine f.out.mono ?_;rintro e i ⟨rfl,rfl⟩;go_wp2;go_ret;exact⟨by cases q2<;>rfl,rfl⟩
    .rw[da b];have k:(((s[1]'c).toNat:Int) ==47)=false:=kw.2 (by omega);clear b;go_enter vI,ntmps123;go_wp2;refine HC.out.mono ?_;rintro e i ⟨rfl,rfl⟩;go_wp2;go_ret;exact⟨rfl,rfl⟩
  .have m:((s.size:Int) ==1)=false:=kw.2 (by omega);have n:((s.size:Int) ==3)=false:=kw.2 (by omega);have d:fX s=false:=by unfold fX;rw[dif_neg j,dif_neg l]
   rw[d];clear d;go_enter vI,ntmps123;go_wp2;go_ret;exact⟨rfl,rfl⟩
def iQ(s t:ByteArray):Bool:=if h:0<s.size/\0<t.size then(if s.size=t.size then false else((s[0]'h.1).toNat:Int) ==((t[0]'h.2).toNat:Int)) else false
def ahW(s t:ByteArray)(o:0<s.size/\s.size<=maxLen)(n:0<t.size/\t.size<=maxLen)(w:World) :
  Calls (ah β) 128 #[.string s,.string t] w λe m=>e=.returned (.bool (iQ s t))/\Below w.heap.size w m:=by
 obtain⟨b,k⟩:=o;obtain⟨c,l⟩:=n;by_cases j:s.size=t.size
 .have f:iQ s t=false:=by unfold iQ;rw[sU ⟨b,c⟩,dl j]
  rw[f];clear f;go_enter wT,ntmps128;go_wp2;refine fI 12 [0,1,2,3,4,5,6,7,8,9,10,11] [] (h:= ?_);simp only[pick,List.map,qG,qH];repeat(go_big_quiet_step (fail))
  refine ff ?_;apply Exists.intro;refine kr ?_;intro p i g a d;dsimp only[acz] at d;try rw[a] at d
  clear a g;simp only[List.drop];clear d;go_wp2;go_ret;exact⟨rfl,i⟩
 .have q:((s.size:Int) !=(t.size:Int))=true:=by simp;omega
  have f:iQ s t=(((s[0]'b).toNat:Int) ==((t[0]'c).toNat:Int)):=by unfold iQ;rw[sU ⟨b,c⟩,bd j]
  rw[f];clear f;go_enter wT,ntmps128;go_wp2;refine fI 12 [0,1,2,3,4,5,6,7,8,9,10,11] [] (h:= ?_);simp only[pick,List.map,qG,qH];repeat(go_big_quiet_step (fail))
  refine ff ?_;apply Exists.intro;refine kr ?_;intro p i g a d;dsimp only[acz] at d;try rw[a] at d
  clear a g;simp only[List.drop];clear d;go_wp2;go_ret;exact⟨rfl,i⟩
def dig(x:Nat):Int:=((x:Int)-97) % 256
def oc(l:List Nat)(p:Nat):Bool:=(dig (l.getD (p-1) 0)+2*dig (l.getD (p-2) 0)+3*dig (l.getD (p-3) 0)) % 5 ==0
def oY(h:k<s.size):(bs s).getD k 0=(s[k]'h).toNat:=by rw[tc,nR h];rfl
def alW(s:ByteArray)(p:Nat)(v:3<=p/\p<s.size)(r:s.size<=maxLen)(w:World) :
  Calls (ah β) 224 #[.string s,.int .i64 p] w λe o=>e=.returned (.bool (oc (bs s) p))/\Below w.heap.size w o:=by
 unfold maxLen at r;obtain⟨a,l⟩:∃a,a=p-1:=⟨_,rfl⟩;obtain⟨b,j⟩:∃b,b=p-2:=⟨_,rfl⟩;obtain⟨c,n⟩:∃c,c=p-3:=⟨_,rfl⟩;have m:a<s.size:=by omega
 have g:b<s.size:=by omega
 have i:c<s.size:=by omega
 have y:(p:Int)-1=((a:Nat):Int):=by omega
 have x:(p:Int)-2=((b:Nat):Int):=by omega
 have z:(p:Int)-3=((c:Nat):Int):=by omega
 have t:(p:Int)<=9223372036854775807:=by omega
 have k:oc (bs s) p=((dig (s[a]'m).toNat+2*dig (s[b]'g).toNat+3*dig (s[c]'i).toNat) % 5 ==0):=by unfold oc;rw[<-l,<-j,<-n,oY m,oY g,oY i]
 rw[k];clear l j n k;go_enter yc,ntmps224;go_wp2;refine fI 24 [0,1,2,3,4,5,6,7,8,9,10,11,12,13,14,15,16,17,18,19,20,21,22,23] [] (h:= ?_);simp only[pick,List.map,qG,qH];repeat(go_big_quiet_step (fail))
 refine ff ?_;apply Exists.intro;refine kr ?_;intro A u q d f;dsimp only[acz] at f;try rw[d] at f
 clear d q;simp only[List.drop];clear f;go_wp2;go_ret;exact⟨ak rfl,u⟩
end
section
variable {β:Bool}
open Go.RowKit
def Rd(w:World)(lo hi g:Nat)(l:List Int)(p:Nat):Prop:=
 ∃A c,gi w g 100 #[.slice A l.length c,.int .i64 p]/\l.length<=2000/\aY aye 1 w lo hi l [.slice A l.length c]/\hi<=g
end
section
variable {β:Bool}
open Go.RowKit
structure ar6 (w:World) (lo hi g:Nat) (l:List Int) (N:Nat) where
 to:World
 q:Nat
 rd:Rd to lo hi g l q
 ok:gq (λb=>b=g) w to
 lim:q<=N
section
variable {w:World} {lo hi g:Nat} {l:List Int} {N:Nat}
instance av2:bh (ar6 w lo hi g l N):=⟨λm x=>x.q+m<=N,λ_ _ h=>Nat.le_of_succ_le h,λ_ _=>True⟩
variable {P:Program}
variable {ops:Array Oper} {Qt:Act->World->Prop} {i:Nat} {o:Oper} {L:List (Nat×Oper)} {F:List (Nat×(ar6 w lo hi g l N->Prop))} {Rs:List (iA (ar6 w lo hi g l N))} {a:Act}
end
end
section
variable {β:Bool}
open Go.RowKit
structure ar7 (w:World) (lo hi g:Nat) (l:List Int) (N s ia ic bk:Nat) (fx:Bool) (ty:TypeId) (n:Nat) (S:Nat->Prop) (pre:List Nat) where
 to:World
 q:Nat
 box:Option Nat
 done:Bool
 res:Option Value
 rd:Rd to lo hi g l q
 ok:gq (λb=>b=g\/box=some b\/(done=true/\S b)) w to
 lim:q<=N
 bw:∀b,box=some b->b=bk\/w.heap.size<=b
 bf:fx=true->box=some bk
 sf:∀b,S b->b≠g/\hi<=b/\b≠bk/\b<w.heap.size
 bx:∀b,box=some b->b≠g/\hi<=b/\∃cs:Array Value,cs.size=n/\gi to b ty cs
section
variable {w:World} {lo hi g:Nat} {l:List Int} {N s ia ic bk:Nat} {fx:Bool} {ty:TypeId} {n:Nat} {S:Nat->Prop} {pre:List Nat}
instance av3:bh (ar7 w lo hi g l N s ia ic bk fx ty n S pre):=⟨λm x=>x.q+m<=N,λ_ _ h=>Nat.le_of_succ_le h,λi x=>(i=s\/i∈pre->x.done=false)/\(i=ia->x.box=none)/\(i=ic->x.res=none)⟩
variable {P:Program} {ops:Array Oper} {Qt:Act->World->Prop} {i:Nat} {o:Oper} {L:List (Nat×Oper)} {F:List (Nat×(ar7 w lo hi g l N s ia ic bk fx ty n S pre->Prop))} {Rs:List (iA (ar7 w lo hi g l N s ia ic bk fx ty n S pre))} {a:Act}
end
end
section
variable {β:Bool}
open Go.RowKit
def ni:Flat ByteArray:=⟨1,λs=>[.string s],λs=>s.size<=maxLen,λ_=>rfl,λs u a=>by rw[ga.1 a];rfl,by decide⟩
abbrev fY:fq (List ByteArray):=lZ 9 (cD ni) 1
def fY.aK:gG fY [9]:=lZ.aK (cD.aK ni)
def abY:aaP (ah β) 163 9 1 16:=aaP.mk' xN (z:=.string ⟨#[]⟩) (by kernel_rfl) rfl (by decide) (by decide)
def mK{xs:List ByteArray}(h:fY w Z Y xs [.slice A n c]){x:ByteArray}(f:xs[k]?=some x) :
  ∃b a,A=some ⟨b,a,none⟩/\Z<=b/\b<Y/\x.size<=maxLen/\w.cell? ⟨b,a+k,none⟩=some (.string x):=by
 obtain⟨b,a,l,rfl,g,e,j,⟨rfl,d⟩,i⟩:=h.1.at_ f;exact⟨b,a,rfl,g,e,d,by simpa using i 0 _ rfl⟩
end
section
variable {β:Bool}
open Go.RowKit
def atF(l:List Nat)(a:Nat):Nat->Nat->Nat
 |0,_=>min (a+8) l.length
 |f+1,n=>if l.length<=a+n then l.length else if oc l (a+n)=true then a+n else atF l a f (n+1)
def nv(l:List Nat)(a:Nat):Nat:=atF l a 5 3
def ae5{l:List Nat}{a:Nat}(b:a<l.length):∀(f n:Nat),0<n->n+f<=8->a<atF l a f n/\atF l a f n<=l.length/\atF l a f n<=a+8
 |0,n,_,_=>by show a<min _ _/\min _ _<=_/\min _ _<=_;omega
 |f+1,n,h0,h8=>by
  unfold atF;split
  .omega
  .split
   .omega
   .exact ae5 b f (n+1) (by omega) (by omega)
def dS{l:List Nat}{a:Nat}(b:a<l.length):a<nv l a/\nv l a<=l.length/\nv l a<=a+8:=ae5 b 5 3 (by omega) (by omega)
def dc(l:List Nat):Nat->List Int->Nat->Prop
 |a,[],b=>a=b
 |a,x::xs,b=>a<l.length/\x=(nv l a:Int)/\dc l (nv l a) xs b
def dc.snoc{l:List Nat}:∀{a:Nat} {c:List Int} {b:Nat},dc l a c b->b<l.length->dc l a (c++[(nv l b:Int)]) (nv l b)
 |a,[],b,h,h1=>by
  have h:a=b:=h;subst h;exact⟨h1,rfl,rfl⟩
 |a,x::c,b,⟨h2,h3,h4⟩,h1=>⟨h2,h3,h4.snoc h1⟩
def dc.len{l:List Nat}:∀{a:Nat} {c:List Int} {b:Nat},dc l a c b->a+c.length<=b
 |a,[],b,h=>by
  have h:a=b:=h;simp;omega
 |a,x::c,b,⟨h1,_,h⟩=>by
  have:=h.len;have:=(dS h1).1;simp only[mp];omega
def dc.at_{l:List Nat}:∀{a:Nat} {d:List Int} {b k m:Nat} {x:Int},dc l a d b->dc l a (d.take k) m->d[k]?=some x->x=(nv l m:Int)/\m<l.length/\dc l a (d.take (k+1)) (nv l m)
 |a,[],b,k,m,x,_,_,c=>by simp at c
 |a,y::d,b,0,m,x,⟨h1,e,h3⟩,f,c=>by
  have f:a=m:=f;subst f;have c:y=x:=by simpa using c
  subst c;exact⟨e,h1,h1,e,rfl⟩
 |a,y::d,b,k+1,m,x,⟨h1,e,h3⟩,⟨h1',e',f⟩,c=>by
  obtain⟨j,g,i⟩:=dc.at_ h3 f (by simpa using c);exact⟨j,g,h1,e,i⟩
def dc.afB{l:List Nat}(f:l.length<=maxLen):∀{a:Nat} {d:List Int} {b:Nat},dc l a d b->∀x∈d,dJ x
 |a,[],b,_,x,c=>by cases c
 |a,y::d,b,⟨h1,e,h⟩,x,c=>by
  have:=(dS h1).2.1;unfold maxLen at f;rcases lE.1 c with rfl|c
  .rw[e];unfold dJ;omega
  .exact h.afB f x c
def agz(l:List Nat):Nat->Nat->List Int
 |0,_=>[]
 |f+1,a=>if a<l.length then(nv l a:Int)::agz l f (nv l a) else[]
def dc.uniq{l:List Nat}:∀{a:Nat} {b:List Int} {f:Nat},dc l a b l.length->l.length-a<=f->b=agz l f a
 |a,[],f,h,_=>by
  have h:a=l.length:=h;cases f with
  |zero=>rfl
  |succ f=>show[]=if _ then _ else _;rw[bd (by omega)]
 |a,x::b,f,⟨h1,e,h⟩,hf=>by
  have:=(dS h1).1;cases f with
  |zero=>omega
  |succ f=>
   show x::b=if _ then _ else _
   rw[dl h1,e,<-h.uniq (f:=f) (by omega)]
def adj{l:List Nat}:∀{f a:Nat},a<=l.length->l.length-a<=f->dc l a (agz l f a) l.length
 |0,a,h1,h2=>by show a=l.length;omega
 |f+1,a,h1,h2=>by
  show dc l a (if a<l.length then(nv l a:Int)::agz l f (nv l a) else[]) l.length;by_cases b:a<l.length
  .rw[dl b];have:=dS b;exact⟨b,rfl,adj (by omega) (by omega)⟩
  .rw[bd b];show a=l.length;omega
def bU(s:ByteArray):Nat->List Int->List ByteArray
 |_,[]=>[]
 |a,x::xs=>s.extract a x.toNat::bU s x.toNat xs
def aat{s:ByteArray}{l:List Nat}:∀{a:Nat} {b:List Int} {m q:Nat},dc l a b m->bU s a (b++[(q:Int)])=bU s a b++[s.extract m q]
 |a,[],m,q,h=>by
  have h:a=m:=h;subst h;rfl
 |a,x::b,m,q,⟨_,e,h⟩=>by
  show s.extract a x.toNat::bU s x.toNat (b++[(q:Int)])=s.extract a x.toNat::(bU s x.toNat b++_);rw[e,rU,aat h]
def mL(s:ByteArray):∀(a:Nat) (b:List Int),(bU s a b).length=b.length
 |_,[]=>rfl
 |a,x::b=>by show(bU s x.toNat b).length+1=_;rw[mL];rfl
def aau(s:ByteArray):∀(c:List Int) (a:Nat),∀x∈bU s a c,x.size<=s.size
 |[],_,x,b=>by cases b
 |z::c,a,x,b=>by
  have b:x∈s.extract a z.toNat::bU s z.toNat c:=b;rcases lE.1 b with rfl|b
  .rw[<-aN,cv,pU,lc,aN];omega
  .exact aau s c _ x b
def gI(s:ByteArray):List ByteArray:=bU s 0 (agz (bs s) s.size 0)
def anL{xs:List Int}(h:dc (bs s) 0 xs s.size):bU s 0 xs=gI s:=by
 rw[<-aN] at h;unfold gI;rw[h.uniq (f:=s.size) (by rw[aN];omega)]
def ar8{m q:Nat}(a:(bs s).all nu=true)(e:m<q)(d:q<=m+8)(f:q<=s.size):aZ (bs (s.extract m q)):=by
 have b:(((bs s).take q).drop m).length=q-m:=by rw[pU,lc,aN];omega
 rw[cv];refine⟨⟨by omega,by omega⟩, ?_⟩;rw[jp] at a ⊢;exact λx c=>a x (qf (vx c))
def ar9(s:ByteArray){m q:Nat}(a:q<=s.size):(s.extract m q).size=q-m:=by
 rw[<-aN,cv,pU,lc,aN];omega
def od{s:ByteArray}(g:(bs s).all nu=true):∀{a:Nat} {d:List Int} {b:Nat},dc (bs s) a d b->∀x∈bU s a d,aZ (bs x)
 |a,[],b,_,x,c=>by cases c
 |a,y::d,b,⟨h1,e,h⟩,x,c=>by
  obtain⟨i,f,j⟩:=dS h1;rw[aN] at f;have c:x∈s.extract a y.toNat::bU s y.toNat d:=c;rw[e,rU] at c;rcases lE.1 c with rfl|c
  .exact ar8 g i j f
  .exact od g h x c
def ae6(s:ByteArray):dc (bs s) 0 (agz (bs s) s.size 0) s.size:=by
 have:=adj (l:=bs s) (f:=s.size) (a:=0) (du _) (by rw[aN];omega)
 rwa [aN] at this
def mM(a:(bs s).all nu=true):∀x∈gI s,aZ (bs x):=od a (ae6 s)
def asa(s:ByteArray):(gI s).length<=s.size:=by
 have:=(ae6 s).len;unfold gI;rw[mL];omega
def cN(l:List ByteArray):List Nat:=l.flatMap bs
def abZ{s:ByteArray}:∀{a:Nat} {c:List Int} {b:Nat},dc (bs s) a c b->cN (bU s a c)=((bs s).take b).drop a
 |a,[],b,h=>by
  have h:a=b:=h;subst h;show[]=_;rw[rK (by rw[lc];omega)]
 |a,x::c,b,⟨h1,e,h⟩=>by
  obtain⟨g,i,j⟩:=dS h1;have d:=h.len;show bs (s.extract a x.toNat)++cN (bU s x.toNat c)=_;rw[e,rU,abZ h,cv];have f:((bs s).take b).drop a=(((bs s).take b).take (nv (bs s) a)).drop a++((bs s).take b).drop (nv (bs s) a):=by
   conv=>lhs;rw[<-pJ (nv (bs s) a) ((bs s).take b)]
   rw[List.drop_append_of_le_length (by rw[lc,lc];omega)]
  rw[f,uY,qy (show nv (bs s) a<=b by omega)]
def ape(s:ByteArray):cN (gI s)=bs s:=by
 unfold gI;rw[abZ (ae6 s),qr,<-aN,dk]
def asb(s:ByteArray)(p:Nat)(B:p<s.size)(D:s.size<=1000000)(w:World) :
  Calls (ah β) 205 #[.string s,.int .i64 p] w λe v=>e=.returned (.int .i64 (nv (bs s) p:Nat))/\Below w.heap.size w v:=by
 have o:s.size<=maxLen:=by unfold maxLen;omega
 go_enter yi,ntmps205;go_wp2;go_loopw [5] (λr wr=>∃k f:Nat,k+f=8/\3<=k/\r=.int .i64 k/\nv (bs s) p=atF (bs s) p f k/\Below w.heap.size w wr) (λr _=>8-(intOf r).toNat)
 case atStart=>exact⟨3,5,rfl,by omega,rfl,rfl,db _ _⟩
 case round=>
  obtain⟨k,f,y,C,rfl,b,d⟩:=hrel;replace b:=ab b;by_cases A:k<8
  .obtain⟨g,rfl⟩:∃g,f=g+1:=⟨f-1,by omega⟩;have a:atF (bs s) p (g+1) k=if s.size<=p+k then s.size else if oc (bs s) (p+k)=true then p+k else atF (bs s) p g (k+1):=by
    show(if(bs s).length<=p+k then(bs s).length else _)=_;rw[aN]
   have HS:=ab a;clear a;by_cases n:s.size<=p+k
   .have l:=dq (show(s.size:Int)<=(p:Int)+(k:Int) by omega);go_wp2;go_ret;exact⟨by rw[b.out,HS.out,dl n];rfl,d⟩
   .have l:=da (show ¬((s.size:Int)<=(p:Int)+(k:Int)) by omega);rw[bd n] at HS;obtain⟨i,u⟩:∃m,m=p+k:=⟨_,rfl⟩;have x:(p:Int)+(k:Int)=((i:Nat):Int):=by omega
    have q:3<=i/\i<s.size:=by omega
    rw[x] at l;rw[<-u] at HS;clear u;go_wp2;refine(alW s i q o wr).mono ?_;rintro e z ⟨rfl,t⟩;cases j:oc (bs s) i with
    |true=>
     have c:=ab (b.out.trans (HS.out.trans (dl j)));clear j;go_wp2;go_ret;exact⟨by rw[c.out];rfl,ae d t⟩
    |false=>
     have c:=ab (b.out.trans (HS.out.trans (bd (by rw[j];exact pG))));clear j;go_wp2;go_roundw
     case rel=>exact⟨k+1,g,by omega,by omega,by go_num,c.out,ae d t⟩
     simp[intOf];omega
  .obtain rfl:k=8:=by omega
   obtain rfl:f=0:=by omega
   have a:atF (bs s) p 0 8=min (p+8) s.size:=by
    show min (p+8) (bs s).length=_;rw[aN]
   have c:=ab (b.out.trans a);clear a b;by_cases n:p+8<=s.size
   .have l:=dq (show(p:Int)+8<=(s.size:Int) by omega);rw[qy n] at c;go_wp2;go_ret;exact⟨by rw[c.out];simp,d⟩
   .have l:=da (show ¬((p:Int)+8<=(s.size:Int)) by omega);rw[Nat.min_eq_right (by omega)] at c;go_wp2;go_ret;exact⟨by rw[c.out];simp,d⟩
def ase(s:ByteArray)(w:World)(e:Ending)(w':World):Prop:=∃v a,e=.returned v/\aS fW 3 w' w.heap.size v a/\dc (bs s) 0 a s.size/\Below w.heap.size w w'
def alX(s:ByteArray)(L:s.size<=100000)(w:World) :
  Calls (ah β) 171 #[.string s] w (ase s w):=by
 go_enter yu,ntmps171;go_wp2;have m:=aJ w (.cells #[] 3);have j:aS fW 3 (w.alloc (.cells #[] 3)) w.heap.size (.slice (some ⟨w.heap.size,0,none⟩) 0 0) []:=(ajB.new w 3 (am _)).own 1;generalize w.alloc (.cells #[] 3)=w0 at *;go_loopw [3,4] (λB x wr=>∃(k:Nat) (g:List Int),k<=s.size/\x=.int .i64 k/\aS fW 3 wr w.heap.size B g/\dc (bs s) 0 g k/\Below w.heap.size w wr) (λ_ x _=>s.size-(intOf x).toNat)
 case atStart=>exact⟨0,[],du _,rfl,j,rfl,m⟩
 case round=>
  clear j m;obtain⟨k,g,G,rfl,p,o,r⟩:=hrel;obtain⟨A,c,rfl⟩:=p.form;by_cases d:k<s.size
  .go_wp2;refine(asb s k d (by omega) wr).mono ?_;rintro e E ⟨rfl,y⟩;have b:=dS (l:=bs s) (a:=k) (by rw[aN];exact d);rw[aN] at b;have J:=o.len;have n:=p.below y;have f:=ae r y;have HC:=ab (o.snoc (by rw[aN];exact d));revert HC b;generalize nv (bs s) k=q;intro b HC;clear p r o;go_wp2_with(at_builtin;refine ku (F:=fW) (v:=.slice A g.length c) rfl (.tmp 13) (.tmp 15) 27 rfl lX (q:Int) rfl n rfl rfl (by omega) f.size ?_;intro K H t u z;obtain⟨D,I,rfl⟩:=t.form;simp only[ge,mp,pT,ph] at t);go_roundw
   case rel=>exact⟨q,g++[(q:Int)],b.2.1,rfl,by simpa using t,HC.out,f.trans (u.below f.size λi M C=>by have:=(n.at_ C).1;omega)⟩
   simp[intOf];omega
  .obtain rfl:k=s.size:=by omega
   go_wp2;go_ret;exact⟨_,g,rfl,p,o,r⟩
def alY(s:ByteArray)(w:World)(e:Ending)(w':World):Prop:=∃v,e=.returned v/\aS ni 9 w' w.heap.size v (gI s)/\Below w.heap.size w w'
def apf(s:ByteArray)(B:s.size<=100000)(w:World) :
  Calls (ah β) 141 #[.string s] w (alY s w):=by
 go_enter yI,ntmps141;go_wp2;have J:=aJ w (.cells #[] 9);have C:aS ni 9 (w.alloc (.cells #[] 9)) w.heap.size (.slice (some ⟨w.heap.size,0,none⟩) 0 0) []:=(ajB.new w 9 (am _)).own 1;generalize w.alloc (.cells #[] 9)=w0 at *;refine(alX s B w0).mono ?_;rintro e w1 ⟨ve,f,rfl,W,a,G⟩;obtain⟨Ae,ce,rfl⟩:=W.form;have j:=C.below G;have l:=ae J G;have z1:=G.size;have a0:=a.len;have H:=W.deep (a.afB (by rw[aN];unfold maxLen;omega)) w0.heap.size;have D:=H.sl (am _);replace a:=ab a;replace j:=ab j;have O:=ab D;replace l:=ab l;clear C J G H D W;go_wp2;go_loopw [3,4,6] (λoo aa Z wr=>∃(k m:Nat),k<=f.length/\m<=s.size/\Z=.int .i64 k/\aa=.int .i64 m/\dc (bs s) 0 (f.take k) m/\aS ni 9 wr w.heap.size oo (bU s 0 (f.take k))/\Below w.heap.size w wr/\lZ 3 (cD fW) 1 wr w0.heap.size w1.heap.size f [.slice Ae f.length ce]) (λ_ _ Z _=>f.length-(intOf Z).toNat)
 case atStart=>exact⟨0,0,du _,du _,rfl,rfl,rfl,j.out,l.out,O.out⟩
 case round=>
  clear j l O;obtain⟨k,m,hk,a5,rfl,rfl,U,g,L,P⟩:=hrel;by_cases V:k<f.length
  .obtain⟨y,z⟩:=aq V;obtain⟨rfl,K,M⟩:=a.out.at_ U z;obtain⟨h1,E,h2⟩:=dS K;rw[aN] at E;have N:bU s 0 (f.take (k+1))=bU s 0 (f.take k)++[s.extract m (nv (bs s) m)]:=by rw[gn z,aat U]
   have u:(bU s 0 (f.take k)).length=k:=by rw[mL,lc,qy hk]
   have n:∀x∈bU s 0 (f.take k),x.size<=maxLen:=λx p=>by
    have:=aau s _ _ x p;unfold maxLen;omega
   revert N;revert M;revert E;revert h2;revert h1;revert z;generalize nv (bs s) m=q;generalize bU s 0 (f.take k)=xs at g u n ⊢;intro z h1 h2 E M N;obtain⟨A,c,rfl⟩:=g.form;obtain⟨b',X,cs,e0,a7,a8,_,⟨rfl,a4⟩,I⟩:=P.1.at_ z;subst e0;obtain⟨a3,T⟩:=P.2 (by omega) _ _ _ _ rfl;have R:wr.cell? ⟨b',X+k,none⟩=some (.int .i64 (q:Int)):=by simpa using I 0 _ rfl
   have HN:=ab N;have H4:=ab M;have O:=ab P;have HG:=ab n;have a9:(s.extract m q).size<=maxLen:=by rw[ar9 s E];unfold maxLen;omega
   have a1:=ab u;have a2:xs.length<=100000:=by omega
   clear I N M P U z u K n;have o:∀B:(Value.slice A xs.length c).ownBlock=some b',False:=λB=>by
    obtain⟨ds,hd⟩:=(aS.deep g (λx p=>HG.out x p) 0).blk B;exact absurd (abS T hd) (by decide)
   replace o:=ab o;have g1:¬((m:Int)<0):=by omega
   have g2:(m:Int)<=(q:Int):=by omega
   have g3:(q:Int)<=(s.size:Int):=by omega
   go_wp2_with(at_builtin;refine ku (F:=ni) (v:=.slice A xs.length c) rfl (.tmp 16) (.tmp 24) 163 rfl abY (s.extract m q) rfl g rfl rfl (by omega) L.size ?_;intro va wa Y r a6;obtain⟨Aa,ca,rfl⟩:=Y.form;simp only[ge,mp,pT,ph] at Y;have ad:=arY R r o.out);go_roundw
   case rel=>
    refine⟨k+1,q,by omega,E,by go_num,rfl,H4.out,by rw[HN.out];simpa using Y,L.trans (r.below L.size λi hi p=>by have:=(g.at_ p).1;omega), ?_⟩;exact(lZ.aK (cD.aK fW)).go (λb G b2 ht=>r.block b (by obtain⟨t,_,d,hd⟩:=ht;exact hd.lt) λB=>by
      obtain⟨ds,hd⟩:=(aS.deep g (λx p=>HG.out x p) 0).blk B;obtain⟨t,S,d2,Q⟩:=ht;have e1:=abS hd Q;rw[ga.1 S] at e1;exact absurd e1 (by decide)) (am _) (am _) O.out
   case measure=>simp[intOf];omega
  .obtain rfl:k=f.length:=by omega
   rw[dk,anL a.out] at g;obtain⟨A,c,rfl⟩:=g.form;go_wp2;go_ret;exact⟨_,rfl,g,L⟩
end
section
variable {β:Bool}
open Go.RowKit
structure Nd where
 p:ByteArray
 b:ByteArray
def FNd:Flat Nd:=⟨2,λx=>[.string x.p,.string x.b],λx=>x.p.size<=maxLen/\x.b.size<=maxLen,λ_=>rfl,λx u a=>by simp at a;rcases a with rfl|rfl<;>rfl,by decide⟩
abbrev nj:fq (List Nd):=lZ 143 (cD FNd) 2
def nj.aK:gG nj [143]:=lZ.aK (cD.aK FNd)
def anM:aaP (ah β) 106 143 2 32:=aaP.mk' xU (z:=.agg #[.string ⟨#[]⟩,.string ⟨#[]⟩]) (by kernel_rfl) rfl (by decide) (by decide)
def ahX(x:Nd):Prop:=fX x.p=true/\eB x.b=true
def mY:∀{a b c:List UInt8},Op.bytesLess a b=true->Op.bytesLess b c=true->Op.bytesLess a c=true
 |_,[],_,h,_=>by simp[Op.bytesLess] at h
 |_,_::_,[],_,h=>by simp[Op.bytesLess] at h
 |[],_::_,_::_,_,_=>by simp[Op.bytesLess]
 |x::a,y::b,z::c,e,d=>by
  simp only[Op.bytesLess,qs,qq,fb,mx,qL,<-rN] at e d ⊢;rcases e with e|⟨e,g⟩
  .rcases d with d|⟨d,f⟩
   .exact .inl (by omega)
   .exact .inl (by omega)
  .rcases d with d|⟨d,f⟩
   .exact .inl (by omega)
   .exact .inr ⟨by omega,mY g f⟩
def anN(t:List Nd)(i:Nat)(x:Nd):Prop:=ahX x/\(∀y,0<i->t[i-1]?=some y->Op.bytesLess y.p.toList x.p.toList=true)/\∀k y,k<i->t[k]?=some y->iQ y.p x.p=false
def agA(t:List Nd):Prop:=t.length<=6/\∀i x,t[i]?=some x->anN t i x
def adX{t:List Nd}(h:∀i x,t[i]?=some x->∀y,0<i->t[i-1]?=some y->Op.bytesLess y.p.toList x.p.toList=true):∀(d k:Nat) {x y:Nd},t[k+d+1]?=some x->t[k]?=some y->Op.bytesLess y.p.toList x.p.toList=true
 |0,k,x,y,hx,hy=>h (k+1) x hx y (by omega) hy
 |d+1,k,x,y,hx,hy=>by
  obtain⟨z,a⟩:∃z,t[k+d+1]?=some z:=aq (by have:=aI hx;omega);exact mY (adX h d k a hy) (h (k+(d+1)+1) x hx z (by omega) a)
def alZ(xs:List Nd):Prop:=(∀x∈xs,ahX x)/\xs.length<=6/\xs.Pairwise λa b=>Op.bytesLess a.p.toList b.p.toList=true/\iQ a.p b.p=false
def asf{t:List Nd}:agA t↔alZ t:=by
 unfold alZ agA;rw[pv];constructor
 .rintro⟨g,h⟩;refine⟨λx a=> ?_,g,λi j b m d=>⟨?_, ?_⟩⟩
  .obtain⟨i,b⟩:=qT a;exact(h i x b).1
  .exact adX (λi x a=>(h i x a).2.1) (j-i-1) i (by rw[show i+(j-i-1)+1=j by omega];exact jn m) (jn b)
  .exact(h j t[j] (jn m)).2.2 i t[i] d (jn b)
 .rintro⟨p,n,l⟩;refine⟨n,λi x a=>⟨p x (be a),λy g c=> ?_,λk y o c=> ?_⟩⟩
  .obtain⟨e,rfl⟩:=jt.1 a;obtain⟨f,rfl⟩:=jt.1 c;exact(l (i-1) i f e (by omega)).1
  .obtain⟨e,rfl⟩:=jt.1 a;obtain⟨f,rfl⟩:=jt.1 c;exact(l k i f e o).2
def ae7{xs:List Nd}(h:nj w Z Y xs [.slice A n c]){x:Nd}(i:xs[k]?=some x) :
  ∃b a,A=some ⟨b,a,none⟩/\Z<=b/\b<Y/\FNd.good x/\w.cell? ⟨b,a+k*2,none⟩=some (.string x.p)/\w.cell? ⟨b,a+k*2+1,none⟩=some (.string x.b):=by
 obtain⟨b,a,l,e,j,f,_,⟨rfl,g⟩,d⟩:=h.1.at_ i;exact⟨b,a,e,j,f,g,by simpa using d 0 _ rfl,by simpa using d 1 _ rfl⟩
def apg(xs:List Nd)(v:Value)(w:World)(lo H:Nat)(h:nj w lo H xs [v])(Z:H<=w.heap.size)(q:Bool)(g:q=true↔agA xs) :
  Calls (ah β) 87 #[v] w λe w'=>e=.returned (.bool q)/\Below w.heap.size w w':=by
 have O:=ab g;clear g;obtain⟨A,c,rfl⟩:=h.form;obtain⟨_,hc,hx⟩:=h.1.len_;unfold maxLen at hx;go_enter zg,ntmps87;go_wp2;go_loopw [3] (λii wr=>∃k:Nat,k<=xs.length/\ii=.int .i64 k/\(∀i x,i<k->xs[i]?=some x->anN xs i x)/\Below w.heap.size w wr) (λii _=>xs.length-(intOf ii).toNat)
 case atStart=>exact⟨0,du _,rfl,λi x H=>absurd H (rP i),db _ _⟩
 case round=>
  obtain⟨k,hk,rfl,p,G⟩:=hrel;replace p:=ab p;by_cases r:k<xs.length
  .obtain⟨x,E⟩:=aq r;obtain⟨b0,a7,rfl,_,a6,B,D,S⟩:=ae7 (nj.aK.below h G Z) E;replace E:=ab E;cases a:fX x.p
   .replace a:=ab a;have f:q=false:=by
     rw[<-bv,O.out];rintro⟨-,h⟩;have h:=h k x E.out;have h:=h.1.1;rw[a.out] at h;cases h
    have s:=ab f;clear f;go_wp2;have n:=ag D;have o:=ag S;refine az (by kernel_rfl) (by kernel_rfl) ?_;repeat(go_big_quiet_step (first|(go_at_call 123;refine dh (v:=.bool false) ?_;rw[<-a.out];exact kD x.p B.1 _)))
    refine ff ?_;intro P d;have g:=aF d;clear d n o;go_wp2;go_ret;exact⟨ak s.out.symm,ae G g⟩
   .replace a:=ab a;cases b:eB x.b
    .replace b:=ab b;have f:q=false:=by
      rw[<-bv,O.out];rintro⟨-,h⟩;have h:=h k x E.out;have h:=h.1.2;rw[b.out] at h;cases h
     have s:=ab f;clear f;go_wp2;have n:=ag D;have o:=ag S;refine az (by kernel_rfl) (by kernel_rfl) ?_;repeat(go_big_quiet_step (first|(go_at_call 123;refine dh (v:=.bool true) ?_;rw[<-a.out];exact kD x.p B.1 _)|(go_at_call 124;refine dh (v:=.bool false) ?_;rw[<-b.out];exact kC x.b B.2 _)))
     refine ff ?_;intro P d;have g:=aF d;clear d n o;go_wp2;go_ret;exact⟨ak s.out.symm,ae G g⟩
    .replace b:=ab b;by_cases a4:k=0
     case' pos=>
      have t1:=da (show ¬(0<k) by omega);have U:ahX x/\∀y,0<k->xs[k-1]?=some y->Op.bytesLess y.p.toList x.p.toList=true:=⟨⟨a.out,b.out⟩,λy h0=>by omega⟩;have Y:=ab U;clear U;clear a4;go_wp2;have n:=ag D;have o:=ag S;refine az (by kernel_rfl) (by kernel_rfl) ?_;repeat(go_big_quiet_step (first|(go_at_call 123;refine dh (v:=.bool true) ?_;rw[<-a.out];exact kD x.p B.1 _)|(go_at_call 124;refine dh (v:=.bool true) ?_;rw[<-b.out];exact kC x.b B.2 _)))
      refine ff ?_;intro P d;have g:=aF d;clear d n o
     case' neg=>
      obtain⟨k',oJ⟩:∃m,m=k-1:=⟨_,rfl⟩;have e1:(k:Int)-1=((k':Nat):Int):=by omega
      have a2:k'<xs.length:=by omega
      have t1:=dq (show 0<k by omega);obtain⟨z,t⟩:=aq a2;obtain⟨b1,V,F,_,_,a8,Q,_⟩:=ae7 (nj.aK.below h G Z) t;simp only[lw,pM,qh] at F;obtain⟨rfl,rfl⟩:=F;replace t:=ab t;have T:=ab oJ;have a1:0<k:=by omega
      clear oJ;cases L:Op.bytesLess z.p.toList x.p.toList
      .have M:=ab L;have f:q=false:=by
        rw[<-bv,O.out];rintro⟨-,h⟩;have h:=h k x E.out;have h:=h.2.1 z a1 (by rw[<-T.out];exact t.out);rw[M.out] at h;cases h
       have s:=ab f;clear f;go_wp2;have n:=ag D;have o:=ag S;have aO:=ag Q;refine az (by kernel_rfl) (by kernel_rfl) ?_;repeat(go_big_quiet_step (first|(go_at_call 123;refine dh (v:=.bool true) ?_;rw[<-a.out];exact kD x.p B.1 _)|(go_at_call 124;refine dh (v:=.bool true) ?_;rw[<-b.out];exact kC x.b B.2 _)))
       refine ff ?_;intro P d;have g:=aF d;clear d n o aO;go_wp2;go_ret;exact⟨ak s.out.symm,ae G g⟩
      have M:=ab L;have U:ahX x/\∀y,0<k->xs[k-1]?=some y->Op.bytesLess y.p.toList x.p.toList=true:=⟨⟨a.out,b.out⟩,λy h0 hy=>by
       rw[<-T.out,t.out] at hy;cases hy;exact M.out⟩
      have Y:=ab U;clear U;go_wp2;have n:=ag D;have o:=ag S;have aO:=ag Q;refine az (by kernel_rfl) (by kernel_rfl) ?_;repeat(go_big_quiet_step (first|(go_at_call 123;refine dh (v:=.bool true) ?_;rw[<-a.out];exact kD x.p B.1 _)|(go_at_call 124;refine dh (v:=.bool true) ?_;rw[<-b.out];exact kC x.b B.2 _)))
      refine ff ?_;intro P d;have g:=aF d;clear d n o aO;clear Q L e1
     all_goals
      have X:=ae G g;clear D S t1;go_wp2;go_loopw [4] (λjj wr=>∃j:Nat,j<=k/\jj=.int .i64 j/\(∀i y,i<j->xs[i]?=some y->iQ y.p x.p=false)/\Below w.heap.size w wr) (λjj _=>k-(intOf jj).toNat)
      case atStart=>exact⟨0,du _,rfl,λi y H=>absurd H (rP i),X⟩
      case round=>
       clear X g;obtain⟨j,hj,rfl,C,u⟩:=hrel;replace C:=ab C;by_cases W:j<k
       .obtain⟨y,R⟩:=aq (l:=xs) (k:=j) (by omega);obtain⟨b1,V,F,_,_,a5,Q,_⟩:=ae7 (nj.aK.below h u Z) R;simp only[lw,pM,qh] at F;obtain⟨rfl,rfl⟩:=F;obtain⟨b1,V,F,_,_,_,D,_⟩:=ae7 (nj.aK.below h u Z) E.out;simp only[lw,pM,qh] at F;obtain⟨rfl,rfl⟩:=F;have a3:0<y.p.size:=by
         have:=mJ (p.out j y W R).1.1;omega
        have a0:0<x.p.size:=by have:=mJ Y.out.1.1;omega
        have HC:=ab (λw':World=>ahW (β:=β) y.p x.p ⟨a3,a5.1⟩ ⟨a0,B.1⟩ w');replace R:=ab R;cases I:iQ y.p x.p
        .replace I:=ab I;have J:∀i z,i<j+1->xs[i]?=some z->iQ z.p x.p=false:=λi z H K=>by
          rcases nf i j with r|fT
          .exact C.out i z r K
          .obtain rfl:i=j:=by omega
           rw[R.out] at K;cases K;exact I.out
         replace J:=ab J;go_wp2;have n:=ag Q;have o:=ag D;refine az (by kernel_rfl) (by kernel_rfl) ?_;repeat(go_big_quiet_step (first|(go_at_call 128;refine aL (v:=.bool false) ?_;rw[<-I.out];exact HC.out _)))
         refine ff ?_;intro P d;have g:=aF d;clear d n o;go_wp2;go_roundw
         case rel=>exact⟨j+1,by omega,by go_num,J.out,ae u g⟩
         simp[intOf];omega
        .replace I:=ab I;have f:q=false:=by
          rw[<-bv,O.out];rintro⟨-,h⟩;have h:=h k x E.out;have h:=h.2.2 j y W R.out;rw[I.out] at h;cases h
         have s:=ab f;clear f;go_wp2;have n:=ag Q;have o:=ag D;refine az (by kernel_rfl) (by kernel_rfl) ?_;repeat(go_big_quiet_step (first|(go_at_call 128;refine aL (v:=.bool true) ?_;rw[<-I.out];exact HC.out _)))
         refine ff ?_;intro P d;have g:=aF d;clear d n o;go_wp2;go_ret;exact⟨ak s.out.symm,ae u g⟩
       .obtain rfl:j=k:=by omega
        have N:∀i z,i<j+1->xs[i]?=some z->anN xs i z:=λi z H K=>by
         rcases nf i j with r|fT
         .exact p.out i z r K
         .obtain rfl:i=j:=by omega
          rw[E.out] at K;cases K;exact⟨Y.out.1,Y.out.2,C.out⟩
        replace N:=ab N;go_wp2;go_roundw
        case rel=>exact⟨j+1,by omega,by go_num,N.out,u⟩
        simp[intOf];omega
  .obtain rfl:k=xs.length:=by omega
   by_cases h6:xs.length<=6
   .have t1:=dq (show(xs.length:Int)<=6 by omega);have f:q=true:=O.out.2 ⟨h6,λi x hx=>p.out i x (aI hx) hx⟩;have s:=ab f;clear f;go_wp2;go_ret;exact⟨ak s.out.symm,G⟩
   .have t1:=da (show ¬((xs.length:Int)<=6) by omega);have f:q=false:=by
     rw[<-bv,O.out];rintro⟨h, -⟩;exact h6 h
    have s:=ab f;clear f;go_wp2;go_ret;exact⟨ak s.out.symm,G⟩
end
section
variable {β:Bool}
open Go.RowKit
def ajR(x:It):List It->List It
 |[]=>[x]
 |y::l=>if x.n<y.n then x::y::l else y::ajR x l
def ajS(x:It):∀l:List It,(ajR x l).length=l.length+1
 |[]=>rfl
 |y::l=>by
  show(if x.n<y.n then _ else _:List It).length=_;split
  .rfl
  .show(ajR x l).length+1=_;rw[ajS x l];rfl
def ajT{x z:It}:∀{l:List It},z∈ajR x l↔z=x\/z∈l
 |[]=>by show z∈[x]↔_;simp
 |y::l=>by
  show z∈(if x.n<y.n then _ else _)↔_;split
  .simp
  .rw[lE,ajT,lE];constructor
   .rintro(h|h|h)<;>simp[h]
   .rintro(h|h|h)<;>simp[h]
def og(key:Int)(s:ByteArray):It:=⟨cq key (bs s),qF (fP (bs s))⟩
def oh(key:Int)(l:List ByteArray):List It:=l.foldl (λa s=>ajR (og key s) a) []
def aaU(key:Int)(l:List ByteArray)(s:ByteArray):oh key (l++[s])=ajR (og key s) (oh key l):=by
 unfold oh;rw[sS];rfl
def aph(key:Int)(l:List ByteArray):(oh key l).length=l.length:=by
 induction l using kS with
 |h0=>rfl
 |h1 l s a=>rw[aaU,ajS,a,ge];rfl
def agB{l:List ByteArray}:x∈oh key l↔∃s∈l,x=og key s:=by
 induction l using kS with
 |h0=>simp[oh]
 |h1 l s b=>
  rw[aaU,ajT,b];constructor
  .rintro(h|⟨t,a,h⟩)
   .exact⟨s,by simp,h⟩
   .exact⟨t,by simp[a],h⟩
  .rintro⟨t,a,h⟩;rcases gt.1 a with a|a
   .exact .inr ⟨t,a,h⟩
   .rw[ga.1 a] at h;exact .inl h
end
section
variable {β:Bool}
open Go.RowKit
instance aB4:Inhabited Tr:=⟨.nil⟩
end
section
variable {β:Bool}
open Go.RowKit
open Classical in
noncomputable def jb(key:Int)(ix:List Sp)(o:List ByteArray)(p:ByteArray):List ByteArray:=if gV (cq key (bs p)) ix=0/\p∉o then o++[p] else o
noncomputable def al0(key:Int)(ix:List Sp)(o l:List ByteArray):List ByteArray:=l.foldl (jb key ix) o
def anO(t:List Nd):List ByteArray:=t.flatMap λf=>gI f.b
noncomputable def auN(key:Int)(ix:List Sp)(t:List Nd):List ByteArray:=al0 key ix [] (anO t)
def ajU{key:Int}{ix:List Sp}{x:ByteArray}:∀{l o:List ByteArray},x∈al0 key ix o l->x∈o\/x∈l
 |[],o,h=>.inl h
 |p::l,o,h=>by
  rcases ajU (l:=l) (o:=jb key ix o p) h with h|h
  .unfold jb at h;split at h
   .rcases gt.1 h with h|h
    .exact .inl h
    .rw[ga.1 h];exact .inr (by simp)
   .exact .inl h
  .exact .inr (qk _ h)
def gW(h:eB s=true):s.size<=40/\(bs s).all nu=true:=by
 unfold eB at h;simpa using h
def ajV{t:List Nd}(h:∀x∈t,eB x.b=true):∀x∈anO t,aZ (bs x):=λx a=>by
 obtain⟨f,b,a⟩:=pb.1 a;exact mM (gW (h f b)).2 x a
def aaV{ix:List Sp}{t:List Nd}(h:∀x∈t,eB x.b=true):∀x∈auN key ix t,aZ (bs x):=λx b=>by
 rcases ajU b with a|a
 .cases a
 .exact ajV h x a
end
section
variable {β:Bool}
open Go.RowKit
structure ab1 where
 k:Int
 n:Int
 m:Int
 b:ByteArray
def tw{α:Type}(l:List α)(i:Nat)(f:α->α):List α:=match l[i]? with|some x=>l.set i (f x)|none=>l
def agC(l:List X)(i:Nat)(f:X->X):(tw l i f).length=l.length:=by
 unfold tw;split
 .rw[qZ]
 .rfl
def anP(l:ab1)(p:Pk):Pk:=if p.no=l.n/\0<=l.m/\l.m<p.its.length then⟨p.no,tw p.its l.m.toNat λx=>⟨x.n,l.b⟩⟩ else p
def adk(x:Hd):Hd:=⟨wrap64 (3-x.b),x.s⟩
def jL(s:ib)(l:ab1):ib:=
 if l.k=1 then⟨s.pk.filter λp=>!(p.no ==l.n),s.sn,s.lg⟩
 else if l.k=2 then(if 0<=l.n/\l.n<=s.lg.length then⟨s.pk,s.sn.filter λx=>!((s.lg.drop l.n.toNat).any λh=>h.s ==x.no),s.lg.take l.n.toNat⟩ else s)
 else if l.k=3 then⟨s.pk.map (anP l),s.sn,s.lg⟩
 else if l.k=4 then(if 0<=l.n/\l.n<s.lg.length then⟨s.pk,s.sn,tw s.lg l.n.toNat adk⟩ else s)
 else s
def ahZ{s:ib}{l:ab1}(h:l.k=1):jL s l=⟨s.pk.filter λp=>!(p.no ==l.n),s.sn,s.lg⟩:=by unfold jL;rw[dl h]
def ae8{s:ib}{l:ab1}(h:l.k=2)(a:0<=l.n/\l.n<=s.lg.length):jL s l=⟨s.pk,s.sn.filter λx=>!((s.lg.drop l.n.toNat).any λh=>h.s ==x.no),s.lg.take l.n.toNat⟩:=by unfold jL;rw[bd (by omega),dl h,dl a]
def ah0{s:ib}{l:ab1}(h:l.k=2)(a:¬(0<=l.n/\l.n<=s.lg.length)):jL s l=s:=by unfold jL;rw[bd (by omega),dl h,bd a]
def al1{s:ib}{l:ab1}(h:l.k=3):jL s l=⟨s.pk.map (anP l),s.sn,s.lg⟩:=by unfold jL;rw[bd (by omega),bd (by omega),dl h]
def al3{s:ib}{l:ab1}(h:l.k=4)(a:0<=l.n/\l.n<s.lg.length):jL s l=⟨s.pk,s.sn,tw s.lg l.n.toNat adk⟩:=by unfold jL;rw[bd (by omega),bd (by omega),bd (by omega),dl h,dl a]
def ah1{s:ib}{l:ab1}(h:l.k=4)(a:¬(0<=l.n/\l.n<s.lg.length)):jL s l=s:=by unfold jL;rw[bd (by omega),bd (by omega),bd (by omega),dl h,bd a]
def al4{s:ib}{l:ab1}(a:¬l.k=1)(d:¬l.k=2)(b:¬l.k=3)(c:¬l.k=4):jL s l=s:=by unfold jL;rw[bd a,bd d,bd b,bd c]
end
section
variable {β:Bool}
open Go.RowKit
def iu(key:Int)(f:Nd):Ls:=⟨f.p,(gI f.b).map λp=>cq key (bs p)⟩
def av4(no key:Int)(t:List Nd):Sn:=⟨no,t.map (iu key)⟩
end
section
variable {β:Bool}
open Go.RowKit
def om(l:List Pk):Int:=((l.getLast?).map (·.no)).getD 0+1
def adl(l:List Hd):Int:=l.foldl (λa h=>max a (h.s+1)) 1
def lF(s:ib):Int:=match s.sn.getLast? with|some x=>max (adl s.lg) (x.no+1)|none=>adl s.lg
def vU{l:List X}(h:0<l.length):∃x,l[l.length-1]?=some x/\l.getLast?=some x:=by
 obtain⟨x,a⟩:=aq (show l.length-1<l.length by omega);exact⟨x,a,by rw[List.getLast?_eq_getElem?,a]⟩
end
section
variable {β:Bool}
open Go.RowKit
def jD(key:Int)(no:Int)(l:List ByteArray):List Pk:=
 if h:l=[] then[] else⟨no,oh key (l.take 4)⟩::jD key (no+1) (l.drop 4)
termination_by l.length
decreasing_by
 have:0<l.length:=List.length_pos_iff.2 h;rw[pU];omega
def iR(key a:Int):jD key a []=[]:=by rw[jD];rfl
def oq(key a:Int){l:List ByteArray}(h:0<l.length):jD key a l=⟨a,oh key (l.take 4)⟩::jD key (a+1) (l.drop 4):=by
 rw[jD,dif_neg (by rintro rfl;simp at h)]
open Classical in
noncomputable def al5(l:List Pk):List Sp:=if ∀s∈adb l,spP s then agy (adb l) [] else[]
noncomputable def acG(key:Int)(s:ib)(t:List Nd):List Pk:=jD key (om s.pk) (auN key (al5 s.pk) t)
def av5(key:Int)(s:ib)(t:List Nd):Prop:=(s.pk++acG key s t).length<=20/\om s.pk+(acG key s t).length-1<=99/\lF s<=20/\s.lg.length<9
noncomputable def al6(key:Int)(s:ib)(by_:Int)(t:List Nd):ib:=⟨s.pk++acG key s t,s.sn++[av4 (lF s) key t],s.lg++[⟨by_,lF s⟩]⟩
end
section
variable {β:Bool}
open Go.RowKit
inductive fZ:ib->Prop
 |nil:fZ ⟨[],[],[]⟩
 |save {s:ib} {b:Int} {t:List Nd}:fZ s->b=1\/b=2->alZ t->av5 7 s t->fZ (al6 7 s b t)
structure WfS (s:ib):Prop where
 pl:s.pk.length<=20
 pn:∀p∈s.pk,(1<=p.no/\p.no<=99)/\p.its.length<=4/\∀x∈p.its,x.b.size<=8
 sl:s.sn.length=s.lg.length
 sn:∀x∈s.sn,(1<=x.no/\x.no<=20)/\x.all.length<=6/\∀y∈x.all,y.p.size<=3/\y.ns.length<=40
 ll:s.lg.length<=9
 lg:∀h∈s.lg,(1<=h.b/\h.b<=2)/\1<=h.s/\h.s<=20
def kE(key:Int):∀(n:Nat) (no:Int) (l:List ByteArray),l.length<=n->∀p∈jD key no l,no<=p.no/\p.no<no+(jD key no l).length/\∃c:List ByteArray,p.its=oh key c/\1<=c.length/\c.length<=4/\∀x∈c,x∈l
 |0,no,l,h,p,a=>by rw[pI.1 (by omega:l.length=0),iR] at a;cases a
 |n+1,no,l,h,p,a=>by
  rcases mu l.length with d|d
  .rw[pI.1 d,iR] at a;cases a
  .rw[oq key no d] at a ⊢;rw[mp];rcases lE.1 a with rfl|a
   .exact⟨uq _,by show no<_;omega,l.take 4,rfl,by rw[lc];omega,by rw[lc];omega,λx b=>qf b⟩
   .obtain⟨k,j,c,e,g,i,f⟩:=kE key n (no+1) (l.drop 4) (by rw[pU];omega) p a;exact⟨by omega,by omega,c,e,g,i,λx b=>vx (f x b)⟩
def al7{l:List Pk}(h:∀p∈l,1<=p.no):1<=om l:=by
 unfold om;cases a:l.getLast? with
 |none=>show(1:Int)<=0+1;omega
 |some p=>have:=h p (List.mem_of_getLast? a);show(1:Int)<=p.no+1;omega
def adm:∀(l:List Hd) (a:Int),1<=a->1<=l.foldl (λa h=>max a (h.s+1)) a
 |[],a,ha=>ha
 |x::l,a,ha=>adm l (max a (x.s+1)) (by omega)
def al8(s:ib):1<=lF s:=by
 have a:1<=adl s.lg:=adm s.lg 1 (by omega);unfold lF;cases s.sn.getLast? with
 |none=>exact a
 |some x=>show 1<=max (adl s.lg) (x.no+1);omega
def ajW(h:aZ (bs s)):(og key s).b.size<=8:=by
 show(qF (fP (bs s))).size<=8;rw[<-aN,arz,ajm h];exact oM.1
def acH{t:List Nd}(h:alZ t):∀x∈t,eB x.b=true:=λx a=>(h.1 x a).2
def WfS.saved{s:ib}{b:Int}{t:List Nd}(h:WfS s)(D:b=1\/b=2)(j:alZ t)(A:av5 7 s t):WfS (al6 7 s b t):=by
 obtain⟨r,F,n,E⟩:=A;have i:=al8 s;refine⟨r,λp d=> ?_, ?_,λx a=> ?_, ?_,λy g=> ?_⟩
 .rcases gt.1 d with d|d
  .exact h.pn p d
  .obtain⟨k,o,c,m,v,w,B⟩:=kE 7 _ _ _ (am _) p d;have C:=al7 (l:=s.pk) λp d=>(h.pn p d).1.1;refine⟨⟨by omega, ?_⟩,by rw[m,aph];exact w,λx a=> ?_⟩
   .have e:(acG 7 s t).length=(jD 7 (om s.pk) (auN 7 (al5 s.pk) t)).length:=rfl;omega
   .rw[m] at a;obtain⟨q,u,rfl⟩:=agB.1 a;exact ajW (aaV (acH j) q (B q u))
 .show(s.sn++[_]).length=(s.lg++[_]).length;rw[ge,ge,h.sl];rfl
 .rcases gt.1 a with a|a
  .exact h.sn x a
  .rw[ga.1 a];refine⟨⟨i,n⟩,by show(t.map (iu 7)).length<=6;rw[pF];exact j.2.1,λy g=> ?_⟩;obtain⟨f,z,rfl⟩:=lP.1 g;have k:=j.1 f z;have o:=mJ k.1;have m:=asa f.b;have v:=(gW k.2).1;exact⟨by show f.p.size<=3;omega,by show((gI f.b).map _).length<=40;rw[pF];omega⟩
 .show(s.lg++[_]).length<=9;rw[ge,rm];omega
 .rcases gt.1 g with g|g
  .exact h.lg y g
  .rw[ga.1 g];exact⟨by show 1<=b/\b<=2;omega,i,n⟩
def fZ.wf{s:ib}(h:fZ s):WfS s:=by
 induction h with
 |nil=>exact⟨du _,λp a=>(by cases a),rfl,λp a=>(by cases a),du _,λp a=>(by cases a)⟩
 |save _ e d c b=>exact b.saved e d c
end
end Go.Proofs.YtblbaiejjagdoaaGreatDoor