/- A part. -/
import Derived.Test.YtepfjblhjlefiaaGreatDoorG6
import Derived.RangeFuncNested
import Derived.RangeFuncBound
import Derived.RangeFuncCalls
import Derived.RangeFuncLeaves
import Derived.Shelf.Abstract
import Derived.Shelf.RegionOpen
import Derived.OwnWalkIn
import Derived.TacticsInMore
import Derived.LoopNIn
import Derived.LoopIn
import Derived.OrdersIn
import Derived.Lib.IndexLaws
import Derived.Lib.Bytealg
set_option maxRecDepth 100000
set_option maxHeartbeats 8000000
set_option linter.all false
open Go Go.RowKit Go.Proofs.Tryz Go.Proofs.YtepfjblhjlefiaaGreatDoor
variable {x:Ls} {W B c g hi k lo n n₀:Nat} {S a:Act} {key:Int} {o:Oper} {Z Y X v:Value} {w w':World} {l':List gY} {xs:List Ls} {dB:List Int} {f s:ByteArray} {A:Option Addr} {cs:Array Value} {V U:Act→World→Prop} {Q:Exit→Act→World→Prop}
namespace Go.Proofs.YtepfjblhjlefiaaGreatDoor
def rq:=@List.find?_cons
def rV:=@beq_self_eq_true
def sV:=@List.getElem?_cons_zero
def th:=@List.length_eq_one_iff
def tE:=@List.mem_map_of_mem
def uE:=@Array.replicate_zero
def uF:=@Array.replicate_succ
def uG:=@Int.mul_le_mul_of_nonneg_left
def uJ:=@List.filterMap_cons
def uK:=@List.append_toArray
def uW:=@List.push_toArray
def uZ:=@List.mem_of_find?_eq_some
def vE:=@Go.KeepsOthers.of_grownBy
def vL:=@Int.emod_add_mul_ediv
section
variable {β:Bool}
open Go.RowKit
def pkd(p:Pk):gY:=(p.no,p.its.map λx=>(x.n,x.b))
def bI(l:List Pk):List gY:=l.map pkd
open Classical in
noncomputable def fA(l:List ByteArray):ByteArray×Bool:=if dw (qO (cX l))=true/\fO (qO (cX l))=l then(qO (cX l),true) else(⟨#[]⟩,false)
def ajR(key:Int)(l:List gY)(ns:List Int):Prop:=∀n∈ns,(bV key l n).2=true
noncomputable def fY(key:Int)(l:List gY)(ns:List Int):List ByteArray:=ns.map λn=>(bV key l n).1
open Classical in
noncomputable def gU(key:Int)(l:List gY)(x:Ls):Option Nd:=if ajR key l x.ns/\(fA (fY key l x.ns)).2=true then some ⟨x.p,(fA (fY key l x.ns)).1⟩ else none
noncomputable def dA(key:Int)(l:List gY)(xs:List Ls):List Nd:=xs.filterMap (gU key l)
def aac(g f:ByteArray):Bool:=(bs g++[47]).isPrefixOf (bs f)
def agB(t:List Nd):Prop:=t.length<=6/\∀i x,t[i]?=some x->afF x/\(∀y,0<i->t[i-1]?=some y->Op.bytesLess y.p.toList x.p.toList=true)/\∀k y,k<i->t[k]?=some y->aac y.p x.p=false
open Classical in
noncomputable def dC(key:Int)(l:List gY)(xs:List Ls):Option (List Nd):=if(∀x∈xs,(gU key l x).isSome=true)/\agB (dA key l xs) then some (dA key l xs) else none
noncomputable def nG(key:Int)(s:dE)(no:Int):Option (List Nd):=match s.sn.find? (λx=>x.no ==no) with
 |some x=>dC key (bI s.pk) x.all
 |none=>none
def mC{key nm:Int}:∀{l:List gY},(bV key l nm).2=true↔∃p∈l,(fw key p.2 nm).2=true
 |[]=>by simp[bV]
 |p::l=>by
  show(if(fw key p.2 nm).2=true then((fw key p.2 nm).1,true) else bV key l nm:ByteArray×Bool).2=true↔_;by_cases h:(fw key p.2 nm).2=true
  .rw[dj h];exact⟨λ_=>⟨p,by simp,h⟩,λ_=>rfl⟩
  .rw[bd h,mC];constructor
   .rintro⟨q,a,b⟩;exact⟨q,by simp[a],b⟩
   .rintro⟨q,a,b⟩;rcases mc.1 a with rfl|a
    .exact absurd b h
    .exact⟨q,a,b⟩
def afd{nm:Int}:∀{l:List (Int×ByteArray)} {k:Nat} {x:Int×ByteArray},eh nm l=k->l[k]?=some x->x.1=nm
 |[],k,x,_,h=>by simp at h
 |y::l,k,x,h,hx=>by
  have h:(if y.1=nm then 0 else let j:=eh nm l;if j<0 then -1 else j+1:Int)=k:=h;by_cases a:y.1=nm
  .rw[dj a] at h;obtain rfl:k=0:=by omega
   simp at hx;subst hx;exact a
  .rw[bd a] at h;by_cases b:eh nm l<0
   .have h:(if eh nm l<0 then -1 else eh nm l+1:Int)=k:=h;rw[dj b] at h;omega
   .have h:(if eh nm l<0 then -1 else eh nm l+1:Int)=k:=h;rw[bd b] at h;obtain⟨m,rfl⟩:∃m,k=m+1:=⟨k-1,by omega⟩;exact afd (l:=l) (k:=m) (by omega) (by simpa using hx)
def ah6{nm : Int}{l:List (Int×ByteArray)}{x:Int×ByteArray}(h:eh nm l=k)(a:l[k]?=some x):fw key l nm=dL key x:=by
 unfold fw;rw[h,show((k:Nat):Int).toNat=k from rfl,a];show(if((k:Nat):Int)<0 then _ else _)=_;rw[bd (by omega)]
def agC{nm : Int}{l:List (Int×ByteArray)}(h:eh nm l=-1):fw key l nm=(⟨#[]⟩,false):=by
 unfold fw;rw[h];split
 .rw[dj (by omega)]
 .rfl
def afe{nm : Int}{l:List (Int×ByteArray)}(h:(fw key l nm).2=true):∃(k:Nat) (x:Int×ByteArray),eh nm l=k/\l[k]?=some x/\x.1=nm/\fw key l nm=dL key x:=by
 rcases ab1 nm l with a|⟨k,x,a,b⟩
 .rw[agC a] at h;cases h
 .exact⟨k,x,a,b,afd a b,ah6 a b⟩
def al9{x:Int×ByteArray}(h:(dL key x).2=true):aQ (bs (dL key x).1)/\bm key (bs (dL key x).1)=x.1:=by
 unfold dL at h ⊢;split
 .rename_i a;exact⟨agw a.1,a.2⟩
 .rename_i a;rw[bd a] at h;cases h
def ama{nm : Int}{l:List (Int×ByteArray)}(h:(fw key l nm).2=true):aQ (bs (fw key l nm).1)/\bm key (bs (fw key l nm).1)=nm:=by
 obtain⟨k,x,d,c,b,a⟩:=afe h;rw[a] at h ⊢;have:=al9 h;exact⟨this.1,this.2.trans b⟩
def jo{key nm:Int}:∀{l:List gY},(bV key l nm).2=true->aQ (bs (bV key l nm).1)/\bm key (bs (bV key l nm).1)=nm
 |[],h=>by cases h
 |p::l,h=>by
  have e:bV key (p::l) nm=if(fw key p.2 nm).2=true then((fw key p.2 nm).1,true) else bV key l nm:=rfl
  rw[e] at h ⊢;by_cases a:(fw key p.2 nm).2=true
  .rw[dj a];exact ama a
  .rw[bd a] at h ⊢;exact jo h
def asz{x y k m r:Int}(g:r+999999999989*k=15*x+55433)(l:r+999999999989*m=15*y+55433)(j:0<=x/\x<282429536481)(i:0<=y/\y<282429536481):x=y:=by
 have b:15*(x-y)=999999999989*(k-m):=by
  rw[Int.mul_sub 999999999989];generalize 999999999989*k=A at *;generalize 999999999989*m=B at *;omega
 clear g l;generalize k-m=d at *;have f:x-y<282429536481/\ -282429536481<x-y:=by clear b;omega
 have a:x-y=0->x=y:=by clear b;omega
 clear j i;generalize x-y=z at *;have e:d<5:=by
  refine Int.lt_of_not_ge λh=> ?_;have:=uG h (show(0:Int)<=999999999989 by decide);rw[<-b] at this;clear b;omega
 have c : -5<d:=by
  refine Int.lt_of_not_ge λh=> ?_;have:=uG h (show(0:Int)<=999999999989 by decide);rw[<-b] at this;clear b;omega
 have:d=-4\/d=-3\/d=-2\/d=-1\/d=0\/d=1\/d=2\/d=3\/d=4:=by clear b f a;omega
 rcases this with rfl|rfl|rfl|rfl|rfl|rfl|rfl|rfl|rfl<;>(first|(exact a (by omega))|(exfalso;clear e c f a;omega))
def asA{x y:Int}(b:0<=x/\x<282429536481)(d:0<=y/\y<282429536481)(h:(15*x+55433) % 999999999989=(15*y+55433) % 999999999989):x=y:=by
 have a:=vL (15*x+55433) 999999999989;have c:=vL (15*y+55433) 999999999989;rw[h] at a;exact asz a c b d
def aa1{a b:List Nat}(c:aQ a)(d:aQ b)(h:bm 7 a=bm 7 b):a=b:=by
 have i:=abx c;have f:=abx d;have e:∀l,bm 7 l=(15*(code l:Int)+55433) % 999999999989:=λl=>by
  unfold bm;rw[show(code l:Int)*(2*7+1)+7*7919=15*(code l:Int)+55433 by clear h i f;generalize (code l:Int)=z;omega]
 rw[e,e] at h;have j:(code a:Int)<282429536481:=by clear h e;omega
 have g:(code b:Int)<282429536481:=by clear h e;omega
 have k:(code a:Int)=code b:=asA ⟨Int.natCast_nonneg _,j⟩ ⟨Int.natCast_nonneg _,g⟩ h;refine aoK c.2 d.2 ?_;show code a=code b;exact Int.ofNat_inj.1 k
def aps{nm:Int}{l : List gY}(h:(bV 7 l nm).2=true)(e:(bV 7 l' nm).2=true):(bV 7 l nm).1=(bV 7 l' nm).1:=by
 obtain⟨a,b⟩:=jo h;obtain⟨c,d⟩:=jo e;exact jb (aa1 a c (b.trans d.symm))
def apt{l : List gY}(b:∀nm,(bV 7 l' nm).2=true->(bV 7 l nm).2=true)(h:ajR 7 l' dB):ajR 7 l dB/\fY 7 l dB=fY 7 l' dB:=
 ⟨λn a=>b n (h n a),uI λn a=>aps (b n (h n a)) (h n a)⟩
def amb{l : List gY}(d:∀nm,(bV 7 l' nm).2=true->(bV 7 l nm).2=true){y:Nd}(h:gU 7 l' x=some y):gU 7 l x=some y:=by
 unfold gU at h ⊢;split at h
 .rename_i b;obtain⟨c,a⟩:=apt d b.1;rw[dj ⟨c,by rw[a];exact b.2⟩,a];exact h
 .cases h
def ade{l l':List gY}(e:∀nm,(bV 7 l' nm).2=true->(bV 7 l nm).2=true):∀{xs:List Ls},(∀x∈xs,(gU 7 l' x).isSome=true)->(∀x∈xs,(gU 7 l x).isSome=true)/\dA 7 l xs=dA 7 l' xs
 |[],_=>⟨λx g=>(by cases g),rfl⟩
 |x::xs,h=>by
  obtain⟨y,d⟩:=ry.1 (h x (by simp));have b:=amb e d;obtain⟨f,c⟩:=ade e (xs:=xs) λz a=>h z (by simp[a]);refine⟨λz a=> ?_, ?_⟩
  .rcases mc.1 a with rfl|a
   .rw[b];rfl
   .exact f z a
  .unfold dA at c ⊢;rw[uJ,uJ,d,b,c]
def amc{l : List gY}(d:∀nm,(bV 7 l' nm).2=true->(bV 7 l nm).2=true){t:List Nd}(h:dC 7 l' xs=some t):dC 7 l xs=some t:=by
 unfold dC at h ⊢;split at h
 .rename_i b;obtain⟨c,a⟩:=ade d b.1;rw[dj ⟨c,by rw[a];exact b.2⟩,a];exact h
 .cases h
def nz{x:It}:gI key x↔(dL key (x.n,x.b)).2=true:=by
 have e:∀s,(ed s).2=true↔cT (bs s)=some (bs (ed s).1):=λs=>by
  unfold ed cT;rw[abR];by_cases h:aQ (sX (bs s))/\fj (sX (bs s))=bs s
  .rw[dj h,dj h];simp only[sQ];rw[abR]
  .rw[bd h,bd h];simp
 unfold gI dL;constructor
 .rintro⟨p,c,f⟩;have d:(ed x.b).2=true:=by
   unfold ed;rw[abR];unfold cT at c;split at c
   .rename_i b;rw[dj b]
   .cases c
  have a:=(e x.b).1 d;rw[c] at a;have a:=dl a;rw[dj ⟨d,by rw[<-a];exact f⟩]
 .intro h;split at h
  .rename_i b;exact⟨_,(e x.b).1 b.1,b.2⟩
  .cases h
def asB(h:aQ (bs s)):gI key (iP key s):=⟨bs s,by show cT (bs (qO (fj (bs s))))=_;rw[ahq,aiO h],rfl⟩
def ah7(p:Pk)(i:Nat):(pkd p).2[i]?=(p.its[i]?).map λx=>(x.n,x.b):=by show(p.its.map _)[i]?=_;rw[qE]
def aff{nm : Int}{p:Pk}(c:∀x∈p.its,gI key x)(h:eh nm (pkd p).2=k):(fw key (pkd p).2 nm).2=true:=by
 rcases ab1 nm (pkd p).2 with b|⟨e,x,b,a⟩
 .omega
 .rw[ah6 b a];rw[ah7] at a;obtain⟨y,d,rfl⟩:=io.1 a;exact nz.1 (c y (be d))
def ajS{nm:Int}:∀{l a:List (Int×ByteArray)},l.map (·.1)=a.map (·.1)->eh nm l=eh nm a
 |[],[],_=>rfl
 |[],_::_,h=>by simp at h
 |_::_,[],h=>by simp at h
 |x::l,y::a,h=>by
  simp only[qN,pZ] at h;show(if x.1=nm then 0 else let j:=eh nm l;if j<0 then -1 else j+1:Int)=(if y.1=nm then 0 else let j:=eh nm a;if j<0 then -1 else j+1:Int);rw[h.1,ajS h.2]
def apu{a β:Type}(g:a->β)(f:a->a)(d:∀x,g (f x)=g x)(l:List a)(i:Nat):(tQ l i f).map g=l.map g:=by
 unfold tQ;split
 .rename_i x c;apply List.ext_getElem?;intro j;rw[qE,qE];by_cases b:i=j
  .subst b;rw[sd (aH c),c];simp[d]
  .rw[sL b]
 .rfl
def avo{s:dE}(m:∀p∈s.pk,∀x∈p.its,gI 7 x)(L:abN)(nm:Int)(h:(bV 7 (bI (kE s L).pk) nm).2=true):(bV 7 (bI s.pk) nm).2=true:=by
 have same:(kE s L).pk=s.pk->(bV 7 (bI s.pk) nm).2=true:=λe=>by rw[e] at h;exact h
 by_cases l:L.k=1
 .rw[ahL l] at h;obtain⟨p,c,f⟩:=mC.1 h;refine mC.2 ⟨p, ?_,f⟩;obtain⟨q,g,rfl⟩:=mx.1 c;exact tE ((sB.1 g).1)
 by_cases d:L.k=2
 .by_cases b:0<=L.n/\L.n<=s.lg.length
  .exact same (by rw[aeU d b])
  .exact same (by rw[ahM d b])
 by_cases j:L.k=3
 .rw[alm j] at h;obtain⟨p,c,f⟩:=mC.1 h;obtain⟨q,g,rfl⟩:=mx.1 c;obtain⟨r,a,rfl⟩:=mx.1 g;obtain⟨k,x,n, -, -, -⟩:=afe f;refine mC.2 ⟨pkd r,tE a,aff (m r a) (k:=k) ?_⟩;rw[<-n];refine ajS ?_;show(r.its.map _).map _=((anE L r).its.map _).map _;rw[tN,tN];unfold anE;split
  .exact(apu (λx:It=>x.n) (λx=>(⟨x.n,L.b⟩:It)) (λ_=>rfl) r.its L.m.toNat).symm
  .rfl
 by_cases i:L.k=4
 .by_cases b:0<=L.n/\L.n<s.lg.length
  .exact same (by rw[aln i b])
  .exact same (by rw[ahN i b])
 exact same (by rw[alo l d j i])
def dT.items{s:dE}(h:dT s):∀p∈s.pk,∀x∈p.its,gI 7 x:=by
 induction h with
 |nil=>exact λp a=>(by cases a)
 |save _ l d k i=>
  intro p a x b;rcases jt.1 a with a|a
  .exact i p a x b
  .obtain⟨n,j,c,e,m,o,f⟩:=jk 7 _ _ _ (am _) p a;rw[e] at b;obtain⟨q,g,rfl⟩:=acF.1 b;exact asB (kW (pM d) q (f q g))
def dT.one{s:dE}(h:dT s):∀p∈s.pk,1<=p.its.length:=by
 induction h with
 |nil=>exact λp a=>(by cases a)
 |save _ m l i b=>
  intro p a;rcases jt.1 a with a|a
  .exact b p a
  .obtain⟨j,g,c,e,d,k,f⟩:=jk 7 _ _ _ (am _) p a;rw[e,pK];exact d
def adf{d:Type}(q:d->Bool)(f:Int->Bool)(no:d->Int)(n:Int)(g:∀x,q x=f (no x)):∀{l:List d} {x:d},(l.filter q).find? (λx=>no x ==n)=some x->l.find? (λx=>no x ==n)=some x
 |[],x,h=>by simp at h
 |y::l,x,h=>by
  rw[rq];by_cases c:no y=n
  .rw[show(no y ==n)=true from mp.2 c];by_cases b:q y=true
   .rw[rK,dj b,rq,show(no y ==n)=true from mp.2 c] at h;exact h
   .exfalso;have i:=uZ h;have e:=List.find?_some h;have a:=(sB.1 i).2;rw[g] at a b;rw[mp.1 e] at a;rw[c] at b;exact b a
  .rw[show(no y ==n)=false from dq.2 c];refine adf q f no n g (l:=l) ?_;by_cases b:q y=true
   .rw[rK,dj b,rq,show(no y ==n)=false from dq.2 c] at h;exact h
   .rw[rK,bd b] at h;exact h
def ayM{s:dE}(L:abN){no:Int}{x:Sn}(h:(kE s L).sn.find? (λx=>x.no ==no)=some x):s.sn.find? (λx=>x.no ==no)=some x:=by
 by_cases d:L.k=1
 .rw[ahL d] at h;exact h
 by_cases b:L.k=2
 .by_cases a:0<=L.n/\L.n<=s.lg.length
  .rw[aeU b a] at h;exact adf (λx:Sn=>!((s.lg.drop L.n.toNat).any λh=>h.s ==x.no)) (λm=>!((s.lg.drop L.n.toNat).any λh=>h.s ==m)) (λx:Sn=>x.no) no (λ_=>rfl) h
  .rw[ahM b a] at h;exact h
 by_cases e:L.k=3
 .rw[alm e] at h;exact h
 by_cases c:L.k=4
 .by_cases a:0<=L.n/\L.n<s.lg.length
  .rw[aln c a] at h;exact h
  .rw[ahN c a] at h;exact h
 rw[alo d b e c] at h;exact h
def AQ{s:dE}(h:dT s)(L:abN){no:Int}{t:List Nd}(a:nG 7 (kE s L) no=some t):nG 7 s no=some t:=by
 unfold nG at a ⊢;split at a
 .rename_i x b;rw[ayM L b];exact amc (avo h.items L) a
 .cases a
end
section
open Go.RowKit
inductive dz (s:dE):dE->Prop
 |same:dz s s
 |gone {k:Nat} (h:k<s.pk.length):dz s ⟨s.pk.take k++s.pk.drop (k+1),s.sn,s.lg⟩
 |put {k:Nat} {p q:Pk} (h:s.pk[k]?=some p) (hl:q.its.length=p.its.length) (hb:∀x∈q.its,x.b.size<=8):dz s ⟨s.pk.set k q,s.sn,s.lg⟩
def dz.lg{s x:dE}(h:dz s x):x.lg=s.lg:=by cases h<;>rfl
def dz.sn{s x:dE}(h:dz s x):x.sn=s.sn:=by cases h<;>rfl
def dz.all{s x:dE}(h:dz s x){P:Pk->Prop}(a:∀p∈s.pk,P p)(c:∀p q:Pk,P p->q.its.length=p.its.length->(∀y∈q.its,y.b.size<=8)->P q):∀p∈x.pk,P p:=by
 cases h with
 |same=>exact a
 |gone h=>
  intro p b;rcases jt.1 b with h|h
  .exact a p (pr h)
  .exact a p (tv h)
 |put h e f=>
  intro p b;rcases sK b with d|rfl
  .exact a p d
  .exact c _ _ (a _ (be h)) e f
def dz.len{s x:dE}(h:dz s x):x.pk.length<=s.pk.length:=by
 cases h with
 |same=>exact am _
 |gone h=>show(s.pk.take _++s.pk.drop _).length<=_;rw[ap,fi,pX];omega
 |put h _ _=>show(s.pk.set _ _).length<=_;rw[qK];exact am _
def dz.sm{s x:dE}(h:dz s x)(a:SmS s):SmS x:=
 ⟨da h.len a.pl,h.all (P:=λp=>p.its.length<=4/\∀y∈p.its,y.b.size<=8) a.pn λp q b c d=>⟨by rw[c];exact b.1,d⟩,by rw[h.sn];exact a.sl,by rw[h.sn];exact a.sn,by rw[h.lg];exact a.ll⟩
def dz.one{s x:dE}(h:dz s x)(c:∀p∈s.pk,1<=p.its.length):∀p∈x.pk,1<=p.its.length:=h.all c λp q a b _=>by rw[b];exact a
end
section
variable {β:Bool}
open Go.RowKit
structure PkH where
 no:Int
 a:Option Addr
 n:Nat
 c:Nat
def ah8:Flat PkH:=⟨2,λx=>[.int .i64 x.no,.slice x.a x.n x.c],λ_=>True,λ_=>rfl,λx u a=>by simp at a;rcases a with rfl|rfl<;>rfl,by decide⟩
def amd(w:World)(lo hi:Nat)(x:PkH)(p:Pk):Prop:=x.no=p.no/\x.n=p.its.length/\cA p.no/\gK w lo hi p.its [.slice x.a p.its.length x.c]
def amd.below{x:PkH}{p:Pk}(h:amd w lo hi x p)(b:Below B w w')(a:hi<=B):amd w' lo hi x p:=⟨h.1,h.2.1,h.2.2.1,gK.aw.below h.2.2.2 b a⟩
open Classical in
def asC{l:List Pk}(h:fh w lo hi l [v]) :
  ∃r:List PkH,r.length=l.length/\cR (cg ah8) 2 w lo hi r [v]/\∀(i:Nat) (x:PkH) (p:Pk),r[i]?=some x->l[i]?=some p->amd w lo hi x p:=by
 obtain⟨A,c,rfl⟩:=h.form;have m:∀i:Fin l.length,∃x:PkH,amd w lo hi x l[i]/\∃b a,A=some ⟨b,a,none⟩/\w.cell? ⟨b,a+i*2,none⟩=some (.int .i64 x.no)/\w.cell? ⟨b,a+i*2+1,none⟩=some (.slice x.a x.n x.c):=λi=>by
  obtain⟨b,a,F,H,rfl, -, -,s,D,n,G⟩:=af3 h (lm i.2);exact⟨⟨l[i].no,F,l[i].its.length,H⟩,⟨rfl,rfl,s,G⟩,b,a,rfl,D,n⟩
 obtain⟨f,z⟩:=Classical.axiomOfChoice m;have q:(List.ofFn f).length=l.length:=List.length_ofFn;have y:∀i x,(List.ofFn f)[i]?=some x->∃hi:i<l.length,x=f ⟨i,hi⟩:=λi x g=>by
  rw[List.getElem?_ofFn] at g;split at g
  .rename_i hi;exact⟨hi,(dl g).symm⟩
  .cases g
 refine⟨List.ofFn f,q, ?_,λi x p g o=> ?_⟩
 .obtain⟨A',K,e,E,I,g⟩:=h.1;simp only[pZ,pv,qk] at e;obtain⟨rfl, -,rfl⟩:=e;refine⟨A,c,by rw[q],by rw[q];exact E,I,λo=> ?_⟩;obtain⟨b,a,rfl,n,C, -⟩:=g (by omega);refine⟨b,a,rfl,n,C,λi x hi=> ?_⟩;obtain⟨d,rfl⟩:=y i x hi;obtain⟨-,L,t,e,B,J⟩:=z ⟨i,d⟩;simp only[lw,qo,qk] at e;obtain⟨rfl,rfl⟩:=e;refine⟨_,rfl,⟨rfl,trivial⟩,λj u k=> ?_⟩
  match j,k with
  |0,k=>cases k;exact B
  |1,k=>cases k;exact J
 .obtain⟨d,rfl⟩:=y i x g;have e:l[i]'d=p:=by rw[lm d] at o;exact dl o
  have:=(z ⟨i,d⟩).1;simp only[Fin.getElem_fin,e] at this;exact this
def apv{base : Nat}{j:List PkH}{l:List Pk}(h:aD ah8 62 w base v j)(C:j.length=l.length)(H:∀(i:Nat) (x:PkH) (p:Pk),j[i]?=some x->l[i]?=some p->amd w lo hi x p)(J:lo<=base)(hi':hi<=w.heap.size) :
  fh w lo w.heap.size l [v]:=by
 have a:=h.sl (λ_ _=>trivial) (am _);obtain⟨A,c,rfl⟩:=a.form;obtain⟨A',r,e,L,E,D⟩:=a;simp only[pZ,pv,qk] at e;obtain⟨rfl, -,rfl⟩:=e;refine⟨⟨A,c,by rw[C],by omega,E,λz=> ?_⟩,λz b d n r e=> ?_⟩
 .obtain⟨b,d,rfl,K,q,m⟩:=D (by omega);refine⟨b,d,rfl,by omega,q,λi p hi=> ?_⟩;obtain⟨x,f⟩:=aq (l:=j) (k:=i) (by have:=aH hi;omega);obtain⟨M,F,⟨rfl, -⟩,G⟩:=m i x f;obtain⟨t,I,u,B⟩:=H i x p f hi;refine⟨_,F,⟨.slice x.a x.n x.c,by rw[<-t];rfl,u, ?_⟩,G⟩;rw[I];exact gK.aw.wide B (am _) hi'
 .simp only[pZ,pv,qk] at e;obtain⟨rfl, -,rfl⟩:=e;rcases h.2 with⟨o, -⟩|⟨g,cap,y,o, -,s, -⟩
  .cases o
  .cases o;exact⟨_,s⟩
end
section
variable {β:Bool}
open Go.RowKit
def cR.arj{g:Type}{E:gF g}{xs:List g}(h:cR E W w lo hi xs [.slice A n c])(r:k<=xs.length):cR E W w lo hi (xs.take k) [.slice A k c]:=by
 obtain⟨A',q,f,s,o,m⟩:=h;simp only[pZ,pv,qk] at f;obtain⟨rfl,rfl,rfl⟩:=f;have d:(xs.take k).length=k:=by rw[fi];omega
 refine⟨_,c,by rw[d],by rw[d];omega,o,λj=> ?_⟩;rw[d] at j;obtain⟨b,a,rfl,p,l,e⟩:=m (by omega);refine⟨b,a,rfl,p,l,λi x hi=> ?_⟩;rw[qX] at hi;split at hi
 .exact e _ _ hi
 .cases hi
def fT.T{xs:List Pk}{cs:List Value}(h:fT w lo hi xs cs):eZ 62 OPk 2 w lo hi xs cs:=cJ.slT OPk.aw.loc (λh=>h) h
def gO.T{xs:List Sn}{cs:List Value}(h:gO w lo hi xs cs):eZ 37 OSn 2 w lo hi xs cs:=cJ.slT OSn.aw.loc (λh=>h) h
def fU.T{xs:List Hd}{cs:List Value}(h:fU w lo hi xs cs):eZ 78 (cg FHd) 2 w lo hi xs cs:=cJ.slT (cg.aw FHd).loc (λh=>h) h
abbrev tSn:eE (eZ 37 OSn 2) [37,65,3]:=eZ.aw OSn.aw
abbrev tHd:eE (eZ 78 (cg FHd) 2) [78]:=eZ.aw (cg.aw FHd)
structure ayN (w:World) (lo hi:Nat) (s:dE) (va vb vc:Value):Prop where
 pk:eZ 62 OPk 2 w lo hi s.pk [va]
 sn:eZ 37 OSn 2 w lo hi s.sn [vb]
 lg:eZ 78 (cg FHd) 2 w lo hi s.lg [vc]
abbrev aCX:List TypeId:=[62,59,37,65,3,78]
def Typed.more{T U:List TypeId}{b:Nat}(h:Typed w T b)(d:∀t∈T,t∈U):Typed w U b:=by
 obtain⟨t,c,a⟩:=h;exact⟨t,d t c,a⟩
def gq.t{s:dE}(h:gq w lo hi s Z Y X):ayN w lo hi s Z Y X:=⟨fT.T h.pk,gO.T h.sn,fU.T h.lg⟩
end
section
variable {β:Bool}
open Go.RowKit
structure mD (w:World) (lo hi:Nat) (s:dE) (va vb vc:Value):Prop where
 pk:fh w lo hi s.pk [va]
 sn:eZ 37 OSn 2 w lo hi s.sn [vb]
 lg:eZ 78 (cg FHd) 2 w lo hi s.lg [vc]
def ayN.p{s:dE}(h:ayN w lo hi s Z Y X):mD w lo hi s Z Y X:=⟨⟨cR.ayb OPk.t h.pk.1,h.pk.2⟩,h.sn,h.lg⟩
def mD.typed{oF hi' : Nat}{s:dE}(h:mD w lo hi s Z Y X)(g:∀b,lo<=b->b<hi->Typed w aCX b->w'.heap[b]?=w.heap[b]?)(f:oF<=lo)(e:hi<=hi'):mD w' oF hi' s Z Y X:=
 ⟨fh.aw.go (λb a c d=>g b a c (d.more (by decide))) f e h.pk,tSn.go (λb a c d=>g b a c (d.more (by decide))) f e h.sn,tHd.go (λb a c d=>g b a c (d.more (by decide))) f e h.lg⟩
def mD.below{s:dE}(h:mD w lo hi s Z Y X)(a:Below B w w')(d:hi<=B):mD w' lo hi s Z Y X:=h.typed (λb _ c _=>a.block b (by omega)) (am _) (am _)
def mD.wide{oF hi' : Nat}{s:dE}(h:mD w lo hi s Z Y X)(b:oF<=lo)(a:hi<=hi'):mD w oF hi' s Z Y X:=h.typed (λ_ _ _ _=>rfl) b a
def mD.l{s:dE}(h:mD w lo hi s Z Y X):oA w lo hi s Z Y X:=⟨fh.l h.pk,cR.ayb OSn.l h.sn.1,h.lg.1⟩
def mD.form{s:dE}(h:mD w lo hi s Z Y X):∃A a B b C c,Z=.slice A s.pk.length a/\Y=.slice B s.sn.length b/\X=.slice C s.lg.length c:=by
 obtain⟨A,a,rfl⟩:=eZ.form h.pk;obtain⟨B,b,rfl⟩:=eZ.form h.sn;obtain⟨C,c,rfl⟩:=eZ.form h.lg;exact⟨A,a,B,b,C,c,rfl,rfl,rfl⟩
def mD.box{s:dE}(h:mD w lo hi s Z Y X)(c:bW w g 27 cs)(j:Nat)(u:Value):mD (w.setCell ⟨g,j,none⟩ u) lo hi s Z Y X:=
 h.typed (λb _ _ a=>qs _ _ _ _ (by
  rintro rfl;obtain⟨t,d,e,hd⟩:=a;exact absurd (fp c hd▸d) (by decide))) (am _) (am _)
def apw(w:World)(lo hi g:Nat)(l:List Int)(p:Nat)(e:Ending)(w':World):Prop:=
 ∃d c a s x q,e=.returned (.agg #[d,c,a])/\mD w' w.heap.size w'.heap.size x d c a/\dT s/\dz s x/\Rd w' lo hi g l q/\q<=p+800/\bJ (λb=>b=g) w w'
end
section
variable {β:Bool}
open Go.RowKit
def asD(w:World)(lo hi g:Nat)(l:List Int)(p n:Nat)(e:Ending)(w':World):Prop:=∃(m:Int) (q:Nat),e=.returned (.int .i64 m)/\(0<=m/\m<=100)/\Rd w' lo hi g l q/\q<=p+n/\bJ (λb=>b=g) w w'
def ame(l:List Int)(g p lo hi:Nat)(w:World)(M:Rd w lo hi g l p)(U:p<=100000) :
  Calls (ah β) 11 #[.pointer (some ⟨g,0,none⟩)] w (asD w lo hi g l p 3):=by
 have P:=M.lt;go_enter zI,ntmps11;go_wp2;refine(cF _ _ _ _ _ _ 60 M (by omega)).mono ?_;rintro e y ⟨m,rfl,⟨_,R⟩,j,f⟩;clear R;have S:=f.size;by_cases L:m=0
 .have Q:(m ==0)=true:=mp.2 L;go_wp2;have n:=bW.new y 3 #[.int .i64 0,.int .i64 100];have b:=j.alloc (.cells #[.int .i64 0,.int .i64 100] 3);have c:=f.alloc (.cells #[.int .i64 0,.int .i64 100] 3);have F:=j.lt;generalize y.alloc (.cells #[.int .i64 0,.int .i64 100] 3)=x at *;refine(cF _ _ _ _ _ _ 2 b (by omega)).mono ?_;rintro e K ⟨O,rfl,⟨_,a⟩,G,v⟩;obtain⟨D,J⟩:=a (by omega);clear a;replace n:=bQ n v (by omega);obtain⟨k,rfl⟩:=qi D;have hd:∃d:Int,0<=d/\d<=100/\(#[Value.int .i64 0,.int .i64 100]:Array Value)[k]?=some (.int .i64 d):=by
   match k,J with
   |0,_=>exact⟨0,by omega,by omega,rfl⟩
   |1,_=>exact⟨100,by omega,by omega,rfl⟩
  obtain⟨t,E,z,q⟩:=hd;have B:K.cell? ⟨y.heap.size,k,none⟩=some (.int .i64 t):=by rw[n.cell];exact q
  clear q;have A:k<2:=by omega
  go_wp2;go_ret;exact⟨t,_,rfl,⟨E,z⟩,G,by omega,c.trans v λi _ e=>e⟩
 .have Q:(m ==0)=false:=dq.2 L;go_wp2;refine(cF _ _ _ _ _ _ 99 j (by omega)).mono ?_;rintro e x ⟨o,rfl,⟨_,r⟩,u,I⟩;obtain⟨T,V⟩:=r (by omega);clear r;have C:=f.trans I λi _ e=>e;go_wp2;have n:=bW.new x 3 #[.int .i64 7,.int .i64 7,.int .i64 (1+o)];have b:=u.alloc (.cells #[.int .i64 7,.int .i64 7,.int .i64 (1+o)] 3);have c:=C.alloc (.cells #[.int .i64 7,.int .i64 7,.int .i64 (1+o)] 3);have F:=u.lt;generalize x.alloc (.cells #[.int .i64 7,.int .i64 7,.int .i64 (1+o)] 3)=K at *;refine(cF _ _ _ _ _ _ 3 b (by omega)).mono ?_;rintro e N ⟨O,rfl,⟨_,a⟩,H,s⟩;obtain⟨D,J⟩:=a (by omega);clear a;replace n:=bQ n s (by omega);obtain⟨k,rfl⟩:=qi D;have hd:∃d:Int,0<=d/\d<=100/\(#[Value.int .i64 7,.int .i64 7,.int .i64 (1+o)]:Array Value)[k]?=some (.int .i64 d):=by
   match k,J with
   |0,_=>exact⟨7,by omega,by omega,rfl⟩
   |1,_=>exact⟨7,by omega,by omega,rfl⟩
   |2,_=>exact⟨1+o,by omega,by omega,rfl⟩
  obtain⟨t,E,z,q⟩:=hd;have B:N.cell? ⟨x.heap.size,k,none⟩=some (.int .i64 t):=by rw[n.cell];exact q
  clear q;have A:k<3:=by omega
  go_wp2;go_ret;exact⟨t,_,rfl,⟨E,z⟩,H,by omega,c.trans s λi _ e=>e⟩
end
section
variable {β:Bool}
open Go.RowKit
def aw7(w:World)(ys:List Int)(e:Ending)(w':World):Prop:=∃v,e=.returned v/\aD ie 3 w' w.heap.size v ys/\Below w.heap.size w w'
def iU(its:List It):List Int:=its.map λx=>x.n
def oW(a:List It):(iU a).length=a.length:=by unfold iU;rw[pe]
def ah9{a:List It}{x:It}(h:a[k]?=some x):iU (a.take (k+1))=iU (a.take k)++[x.n]:=by
 unfold iU;rw[mu h,qJ];rfl
def ab2(no:Int)(a:List It)(v:Value)(w:World)(lo hi:Nat)(z:hi<=w.heap.size)(h:gK w lo hi a [v])(T:a.length<=100000000) :
  Calls (ah β) 59 #[.agg #[.int .i64 no,v]] w (aw7 w (iU a)):=by
 obtain⟨A,c,rfl⟩:=h.form;obtain⟨_,O,K⟩:=h.len_;unfold maxLen at K;go_enter yT,ntmps59;go_wp2;generalize x:w.alloc (.cells #[.int .i64 no,.slice A a.length c] 62)=wa at *;obtain⟨t,C,G,m,q⟩:=iB x;clear x;go_loopw [3,9] (λu s wr=>∃k:Nat,k<=a.length/\s=.int .i64 k/\aD ie 3 wr w.heap.size u (iU (a.take k))/\Below w.heap.size w wr) (λu s _=>a.length-(intOf s).toNat)
 case atStart=>exact⟨0,fa _,rfl,aD.nil _ _ _,t⟩
 case round=>
  clear G m q t;obtain⟨k,E,rfl,e,b⟩:=hrel;obtain⟨M,I,rfl⟩:=e.form;by_cases j:k<a.length
  .obtain⟨y,g⟩:=aq j;have f:=oW (a.take k);rw[fi,qW E] at f;have d:=ah9 g;have HST:=ab d;clear d;obtain⟨S,U,rfl,_,_,B,Q,P⟩:=aeK (gK.aw.below h b z) g;replace g:=ab g;revert f HST e;generalize iU (a.take k)=L;intro e f HST;have H:=ab f;clear f;have p:=aB wr (.cells #[.int .i64 y.n,.string y.b] 59);replace e:=e.below p;replace b:=ae b p;have HO:=ab e;clear e;clear p;have r:Hid ((wr.alloc (.cells #[.int .i64 y.n,.string y.b] 59)).heap.size=wr.heap.size+1):=ab (by simp);go_wp2_with(at_builtin;refine bR (F:=ie) (v:=.slice M L.length I) rfl (.tmp 13) (.tmp 16) 43 rfl oH y.n rfl HO.out (gc (λn=>Value.slice (some ⟨n,0,none⟩) 1 1) r.out.symm) rfl (by have:=H.out;omega) b.size ?_;intro W V o l D;obtain⟨R,N,rfl⟩:=o.form;simp only[ap,fm,me,ls] at o);go_roundw
   case rel=>exact⟨k+1,by omega,by go_num,by rw[HST.out];exact o,b.trans (l.below b.size λi hi J=>by have:=(HO.out.at_ J).1;omega)⟩
   simp[intOf];omega
  .obtain rfl:k=a.length:=by omega
   rw[gt] at e ⊢;go_wp2;go_ret;exact⟨_,rfl,e,b⟩
end
section
variable {β:Bool}
open Go.RowKit
section
variable {P:Program} {α:Type} {F:Flat α}
def agD {l:Array Oper} {rest:List Oper}   (m:o.guard=none) (s x:Operand) (t:TypeId)
  (C:o.op=.call ⟨.builtin .append,#[s,x],#[t,t]⟩)
  {e:TypeId} (z:ig P t e F.sz W) {base:Nat} {xs d:List α} (H:a.eval s=v) (g:aD F e w base v xs)  (I:a.eval x=.slice A d.length c) (D:cR (cg F) F.sz w lo hi d [.slice A d.length c]) (p:hi<=w.heap.size)
  (J:xs.length+d.length<=1099511627776) (f:base<=w.heap.size)
  (h:∀k i,aD F e i base k (xs++d)->bJ (λb=>v.ownBlock=some b) w i->(∀b,k.ownBlock=some b->v.ownBlock=some b\/w.heap.size<=b)->wpList P l Q rest (a.put o.dst k) i) :
  wpList P l Q (o::rest) a w:=
 aby m s x t C z H g I (news:=dG F d) (eN F d) (λB=>by
  obtain⟨y,r,q⟩:=mz D p B;exact⟨y,r,λj u E=>q j u E w (ff _ _)⟩) (pB F d) J f λk i n=>h k i (by
  have G:=n.own;unfold aD;rw[na,ap];exact G) n.eY n.at_
end
def pkN(p:Pk):Nat:=p.its.length
def bD(l:List Pk):List Int:=l.flatMap λp=>iU p.its
def afM{l:List Pk}{x:Pk}(h:l[k]?=some x):bD (l.take (k+1))=bD (l.take k)++iU x.its:=by
 unfold bD;rw[mu h,qT];simp
def abl(l:List Pk):∀j,(bD (l.take j)).length=abL pkN l j:=λj=>by
 unfold bD abL;generalize l.take j=m
 induction m with
 |nil=>rfl
 |cons x m a=>rw[List.flatMap_cons,ap,a,oW,qN,ui];rfl
def aqE(l:List Pk):aek pkN l<=dS bPk l:=by
 unfold aek dS;have:(l.map pkN).sum<=(l.map bPk).sum:=by
  induction l with
  |nil=>exact am _
  |cons x l a=>
   rw[qN,qN,ui,ui];have:pkN x<=bPk x:=jh;omega
 omega
def nE(l:List Pk)(v:Value)(w:World)(lo hi:Nat)(bG:hi<=w.heap.size)(h:fh w lo hi l [v])(hl:aek pkN l<=100000000) :
  Calls (ah β) 30 #[v] w (aw7 w (bD l)):=by
 obtain⟨A,c,rfl⟩:=h.form;obtain⟨_,hc,Y⟩:=h.len_;unfold maxLen at Y;go_enter zt,ntmps30;go_wp2;go_loopw [3,8] (λT P wr=>∃k:Nat,k<=l.length/\P=.int .i64 k/\aD ie 3 wr w.heap.size T (bD (l.take k))/\Below w.heap.size w wr) (λT P _=>l.length-(intOf P).toNat)
 case atStart=>exact⟨0,fa _,rfl,aD.nil _ _ _,ff _ _⟩
 case round=>
  obtain⟨k,hk,rfl,b,a⟩:=hrel;obtain⟨Z,X,rfl⟩:=b.form;have G:=abl l k;have N:=ajb (n:=pkN) (l:=l) (j:=k);by_cases E:k<l.length
  .obtain⟨p,q⟩:=aq E;have s:=alk (n:=pkN) q;have x:=ajb (n:=pkN) (l:=l) (j:=k+1);have t:pkN p=p.its.length:=rfl;rw[t] at s;have d:=afM q;have HST:=ab d;clear d;obtain⟨b1,a1,A5,c5,rfl, -, -,V,B,u,o⟩:=af3 (fh.aw.below h a bG) q;have O:p.its.length<=100000000:=by omega
   have f:(bD (l.take k)).length+p.its.length<=100000000:=by omega
   replace q:=ab q;clear s x t G N;revert b;revert HST;revert f;generalize bD (l.take k)=L;intro f HST b;have D:=ab f;clear f;go_wp2;generalize R:wr.alloc (.cells #[.int .i64 p.no,.slice A5 p.its.length c5] 62)=wa at *;obtain⟨I,a0,m0,mO,K⟩:=iB R;clear R;replace b:=b.below I;have C:=gK.aw.below o I (by have:=a.size;omega);replace a:=ae a I;refine(ab2 p.no p.its _ _ _ _ (by have:=a.size;omega) C O).mono ?_;rintro e w5 ⟨v5,rfl,Q,S⟩;obtain⟨A6,c6,rfl⟩:=Q.form;replace b:=b.below S;replace a:=ae a S;have m:∀z∈iU p.its,cA z:=λz W=>by
    obtain⟨it,H,rfl⟩:=mx.1 W;exact((cR.good o.1) it H).1
   have J:=ab (Q.sl m (am _));clear m;have g:=oW p.its;replace g:=ab g;have r:=ab b;clear b;clear mO K m0 B u;go_wp2_with(at_builtin;refine agD (F:=ie) (v:=.slice Z L.length X) rfl (.tmp 12) (.tmp 14) 43 rfl oH rfl r.out rfl J.out (am _) (by have:=D.out;have:=g.out;omega) a.size ?_;intro v8 w8 M y U;obtain⟨A8,c8,rfl⟩:=M.form;simp only[ap] at M);go_roundw
   case rel=>exact⟨k+1,by omega,by go_num,by rw[HST.out];exact M,a.trans (y.below a.size λi hi hs=>by have:=(r.out.at_ hs).1;omega)⟩
   simp[intOf];omega
  .obtain rfl:k=l.length:=by omega
   rw[gt] at b ⊢;go_wp2;go_ret;exact⟨_,rfl,b,a⟩
def aiC(u0 u1 a:Value)(g:∃A n c,u0=.slice A n c)(i:∃A n c,u1=.slice A n c)(f:∃A n c,a=.slice A n c)(w:World) :
  Calls (ah β) 18 #[.agg #[u0,u1,a]] w λe b=>e=.returned (.agg #[u0,u1,a])/\Below w.heap.size w b:=by
 obtain⟨A,n,c,rfl⟩:=g;obtain⟨B,m,d,rfl⟩:=i;obtain⟨C,k,e,rfl⟩:=f;go_enter zE,ntmps18;go_wp2;exact ph (v:=.agg #[.slice A n c,.slice B m d,.slice C k e]) (by simp[results,results18,go_sem]) rfl ⟨rfl,by repeat(first|exact ff _ _|refine Below.setCell ?_ (by first|(simp;done)|(simp;omega)) _|refine Below.alloc ?_ (by first|(simp;done)|(simp;omega)) _)⟩
end
section
variable {β:Bool}
open Go.RowKit
def ayO{R:PkH->Pk->Prop}{c a:List PkH}{l l':List Pk}(h:c.length=l.length)(g:∀(i:Nat) x p,c[i]?=some x->l[i]?=some p->R x p)(f:∀(i:Nat) x p,a[i]?=some x->l'[i]?=some p->R x p):∀(i:Nat) x p,(c++a)[i]?=some x->(l++l')[i]?=some p->R x p:=λi x p d b=>by
 rcases oR i c.length with e|e
 .rw[qz e] at d;rw[qz (by omega)] at b;exact g i x p d b
 .rw[qp e] at d;rw[qp (by omega),<-h] at b;exact f _ x p d b
def avp {base m : Nat} {c:List PkH} {l:List Pk} (f:c.length=l.length) (g:∀(i:Nat) (x:PkH) (p:Pk),c[i]?=some x->l[i]?=some p->amd w lo hi x p) (e:Below w.heap.size w w') (d:hi<=w.heap.size)
  (o:aD ah8 62 w' base v (c.take k++c.drop m)) (j:lo<=base):fh w' lo w'.heap.size (l.take k++l.drop m) [v]:=
 apv (lo:=lo) (hi:=hi) o (by simp only[ap,fi,pX,f]) (ayO (by rw[fi,fi,f]) (λi x p a b=>by
  rw[qX] at a b;split at a
  .rename_i hi;rw[dj hi] at b;exact(g i x p a b).below e d
  .cases a) λi x p a b=>by
   rw[sZ] at a b;exact(g _ x p a b).below e d) j (da d e.size)
def afN(l:List Int)(g p lo hi:Nat)(w:World)(hr:Rd w lo hi g l p)(hp:p<=9000) :
  Calls (ah β) 10 #[.pointer (some ⟨g,0,none⟩)] w (apw w lo hi g l p):=by
 have cx:=hr.lt;have cb:=hr.hi_;go_enter zJ,ntmps10;go_wp2;generalize hG:w.alloc (.cells #[.slice none 0 0,.slice none 0 0,.slice none 0 0] 27)=w0 at *;obtain⟨aM,jU,k0,dV,gz⟩:=iB hG;clear hG;have z0:=aM.size;have ck:=k0.lt;refine(ahS l g p lo hi w0 (hr.eY (bJ.bh (S:=λ_=>False) aM) λ_ _ h=>h) (by omega)).mono ?_;rintro e K ⟨va,vb,vc,s,q,rfl,os,H,a5,hq,a8⟩;obtain⟨⟨A,a,rfl⟩,⟨B,b,rfl⟩,C,c,rfl⟩:=os.form;have o:=bQ k0 a8 (by omega);have z1:=a8.size;have a3:bJ (λb=>b=g) w K:=(bJ.bh (S:=λb=>b=g) aM).trans a8 λi _ e=>e;replace H:=ab H;clear hr k0 dV gz aM a8;have ax:=aB K (.cells #[.slice A s.pk.length a,.slice B s.sn.length b,.slice C s.lg.length c] 27);have km:=(bW.new K 27 #[.slice A s.pk.length a,.slice B s.sn.length b,.slice C s.lg.length c]).cell;by_cases bf:s.pk.length=0
 .have t1:((s.pk.length:Int) ==0)=true:=mp.2 (by omega);replace bf:=ab bf;have G:=bW.new K 27 #[.slice A s.pk.length a,.slice B s.sn.length b,.slice C s.lg.length c];have bb:=av o ax;have PS:=ab ((os.t.p.below ax (am _)).wide (am _) ax.size);have HC:=ab (a3.trans (bJ.bh (S:=λ_=>False) ax) λ_ _ h=>h.elim);have X:=ab (a5.eY (bJ.bh (S:=λ_=>False) ax) λ_ _ h=>h);clear o;have o:=bb;clear bb os a3 a5;have dV:=o.cell;have gz:=o.frozen;have mO:=G.cell;have n:=((o.bZ 0 (.slice A s.pk.length a)).bZ 1 (.slice B s.sn.length b)).bZ 2 (.slice C s.lg.length c);simp only[db,fd,ga] at n;have Z:=n.cell;have Y:=fE (K.alloc (.cells #[.slice A s.pk.length a,.slice B s.sn.length b,.slice C s.lg.length c] 27)) w.heap.size (.slice A s.pk.length a) (.slice B s.sn.length b) (.slice C s.lg.length c);have D:=ab (And.intro Z Y);clear n Z Y;go_wp2;exact ph (v:=.agg #[.slice A s.pk.length a,.slice B s.sn.length b,.slice C s.lg.length c]) (by simp[results,results10,go_sem,D.out.1]) rfl ⟨_,_,_,s,_,_,rfl,(PS.out.typed (λb h1 h2 _=>D.out.2.block b (by omega) λe=>by have V:b=w.heap.size:=e;omega) (show w.heap.size<=w0.heap.size by omega) D.out.2.size),H.out,.same,X.out.eY D.out.2 (λb t e=>by have V:b=w.heap.size:=e;rcases t with t|t<;>omega),by omega,HC.out.trans D.out.2 λi hi e=>by have V:i=w.heap.size:=e;omega⟩
 .have t1:((s.pk.length:Int) ==0)=false:=dq.2 (by omega);go_wp2;clear ax km;generalize hG:K.alloc (.cells #[.slice A s.pk.length a,.slice B s.sn.length b,.slice C s.lg.length c] 27)=w2 at *;obtain⟨jB,cl,G,mO,bG⟩:=iB hG;clear hG;replace o:=av o jB;replace c1:=o.cell;replace bO:=o.frozen;have z2:=jB.size;have bn:=a5.eY (bJ.bh (S:=λ_=>False) jB) λ_ _ h=>h;have b8:=a3.trans (bJ.bh (S:=λ_=>False) jB) λ_ _ h=>h.elim;have bo:=os.below jB (am _);clear os a3 a5 jB mO bG c1 bO;refine(cF _ _ _ _ _ _ _ bn (by omega)).mono ?_;rintro e w3 ⟨kk,rfl,⟨_,hm⟩,b7,kV⟩;obtain⟨q1,q2⟩:=hm (by omega);clear hm;obtain⟨k,rfl⟩:=qi q1;have aa:k<s.pk.length:=by omega
  replace o:=bQ o kV (by omega);replace G:=bQ G kV (by omega);have z3:=kV.size;have bi:=bo.eY kV λb h1 h2=>⟨by omega,by omega⟩;have b9:=b8.trans kV λi _ e=>e;clear bo b8 bn kV q1 q2;go_wp2;refine(cF _ _ _ _ _ _ 24 b7 (by omega)).mono ?_;rintro e r ⟨j,rfl,⟨_, -⟩,aY,a0⟩;replace o:=bQ o a0 (by omega);replace G:=bQ G a0 (by omega);have z4:=a0.size;have m:=bi.eY a0 λb h1 h2=>⟨by omega,by omega⟩;have HC:=ab (b9.trans a0 λi _ e=>e);have X:=ab aY;have co:=G.lt;clear bi b9 b7 a0 aY;by_cases j0:j=0
  .subst j0;obtain⟨z,ca,e,a9,ad,aP,ay,ao⟩:=cJ.some_ m.pk (by omega);simp only[pv] at e;obtain⟨rfl, -,rfl⟩:=e;have b0:=m.t.p;obtain⟨hs,b5,f,br⟩:=asC b0.pk;obtain⟨_,c6,c4⟩:=f.len_;unfold maxLen at c4;have af:=cR.arj f (k:=k) (by omega);have an:cR (cg ah8) 2 r w0.heap.size K.heap.size (hs.drop (k+1)) [.slice (if a=k+1 then some ⟨z,0,none⟩ else some ⟨z,(k+1)*2,none⟩) (hs.length-(k+1)) (a-(k+1))]:=by
    have h:=cR.ari f (k:=k+1) (by omega);rw[show Option.map (λx:Addr=>x.add ((k+1)*2)) (some ⟨z,0,none⟩)=some ⟨z,(k+1)*2,none⟩ from by simp[Addr.add]] at h;exact h
   obtain⟨O,a4⟩:∃L,L=hs.take k:=⟨_,rfl⟩;obtain⟨L2,a6⟩:∃L,L=hs.drop (k+1):=⟨_,rfl⟩;have e1:k=O.length:=by rw[a4,fi];omega
   have e2:hs.length-(k+1)=L2.length:=by rw[a6,pX]
   rw[<-a4] at af;rw[<-a6,e2] at an;have cq:=H.out.wf.pl;have g1:¬((k:Int)<0):=by omega
   have g2:(k:Int)<=(a:Int):=by omega
   have g3:(k:Int)+1<=(s.pk.length:Int):=by omega
   have g4:¬((k:Int)+1<0):=by omega
   have g6:((k:Int)+1).toNat=k+1:=by omega
   have g5:(s.pk.length:Int)<=(a:Int):=by omega
   have hw:IntKind.i64.wrap ((k:Int)+1)=(k:Int)+1:=by rw[rY];omega
   have bk:=G.cell 0;have b3:=ab br;have aU:=ab af;have a7:=ab an;have c3:=ab b5;have bS:=ab a4;have bY:=ab a6;have E1:=ab e1;have E2:=ab e2;have cd:O.length<=20/\L2.length<=20:=by omega
   replace m:=ab m;clear br af an f b5 b0 a4 a6 e1 e2;go_wp2;have aJ:∀x:aV r 11 62 (λ_=>False) [5],_:=aem bk (λh=>h);refine aen 11 62 (λ_=>False) [5] 12 [1,2,3,4,6,7,8,9,10] [0,5,11] (by kernel_rfl) (by kernel_rfl) (by kernel_rfl) ?_;simp only[pick,List.map,pa,pb];repeat(go_big_quiet_step (fail))
   refine iS ?_;clear aJ;rw[E2.out];revert a7;generalize (if a=k+1 then some (⟨z,0,none⟩:Addr) else some ⟨z,(k+1)*2,none⟩)=AD;intro a7;have e1:=E1.out;clear E1 E2 hw g6;subst e1;apply Exists.intro;apply akM (λv x=>x.done=false->eD r.heap.size 62 v x.to)
   .rfl
   .exact λv x y h hl hd=>(h (hl.till hd).1).keep (hl.till hd).2
   .intro x _ _ Qx M;replace M:=ab M;go_wp2;exact M.out _ _ (aB _ _) λ_=>eD.new _ _ x.ok.size
   intro u0;apply akM (λv x=>x.done=false->aD ah8 62 x.to r.heap.size v (O))
   .rfl
   .exact λv x y h hl hd=>(h (hl.till hd).1).below (hl.till hd).2
   .intro x hF hp Qx M;replace M:=ab M;have W:=hp (by decide);have hL:=hF.1 (by kernel_rfl) W;exact abC (x.till W) rfl (.tmp 21) (.tmp 25) 23 rfl adS (am _) rfl rfl hL (mz (F:=ah8) aU.out (by omega)) (by omega) λv' x' bT ho=>wpList_nil (M.out _ _ bT λ_=>ho)
   intro u5;apply aqz (λv x=>x.done=true/\aD ah8 62 x.to r.heap.size v (O++L2))
   .rfl
   .rfl
   .intro j hj;obtain rfl:=gE.1 hj;exact age 9 _ _ (by kernel_rfl)
   .exact λv x y ⟨hd,ho⟩ hl=>⟨(hl.from_ hd).1,ho.below (hl.from_ hd).2⟩
   .intro x hF W Qx M;replace M:=ab M;have hO:=hF.1 (by kernel_rfl) W;have b4:=x.till W;have cm:=b4.size;refine agD (F:=ah8) rfl (.tmp 26) (.tmp 31) 23 rfl adS rfl hO rfl (ahA (cg.loc ah8) (a7.out) b4 ((by omega))) (by omega) ((by omega)) x.ok.size ?_;intro v8 w8 o8 bu c8;refine wpList_nil ?_;exact M.out _ _ (bu.mono λb _ t=>.inr (ax2 hO t)) ⟨rfl,o8⟩
   intro cs;refine aqA λx hF=> ?_;simp only[iZ] at hF;obtain⟨⟨W,oz⟩, -⟩:=hF;have E:=x.all λ_ h=>h;simp only[List.drop];clear W;revert E oz;generalize x.to=w5;clear x;intro oz E;obtain⟨A5,J,rfl⟩:=oz.form;have z5:=E.size;have ba:fh w5 w0.heap.size w5.heap.size (s.pk.take O.length++s.pk.drop (O.length+1)) [.slice A5 (O++L2).length J]:=avp c3.out b3.out E (by omega) (by rw[<-bS.out,<-bY.out];exact oz) (by omega);have R:mD w5 w0.heap.size w5.heap.size ⟨s.pk.take O.length++s.pk.drop (O.length+1),s.sn,s.lg⟩ (.slice A5 (O++L2).length J) (.slice B s.sn.length b) (.slice C s.lg.length c):=
    ⟨ba,tSn.wide (tSn.below m.out.t.sn E (by omega)) (am _) (by omega),tHd.wide (tHd.below m.out.t.lg E (by omega)) (am _) (by omega)⟩
   have m5:=av G E;have d:bJ (λb=>b=K.heap.size) r (w5.setCell ⟨K.heap.size,0,none⟩ (.slice A5 (O++L2).length J)):=(bJ.bh (S:=λb=>b=K.heap.size) E).setCell (p:=⟨K.heap.size,0,none⟩) (.inl rfl) _;have PS:=ab ((R.box m5 0 (.slice A5 (O++L2).length J)).wide (am _) (show w5.heap.size<=(w5.setCell ⟨K.heap.size,0,none⟩ (.slice A5 (O++L2).length J)).heap.size by simp));have T:=bQ o d (by omega);have kC:=m5.bZ 0 (.slice A5 (O++L2).length J);simp only[db,fd,ga] at kC;have Q:=ab (HC.out.trans d λi hi e=>by have V:i=K.heap.size:=e;omega);have P:=ab (X.out.eY d λb t e=>by have V:b=K.heap.size:=e;rcases t with t|t<;>omega);have a1:=ab (show dz s ⟨s.pk.take O.length++s.pk.drop (O.length+1),s.sn,s.lg⟩ from .gone aa);have cy:=m5.cell;have ce:=m5.frozen;have zz:(w5.setCell ⟨K.heap.size,0,none⟩ (.slice A5 (O++L2).length J)).heap.size=w5.heap.size:=by simp
   clear o G HC X R ba d oz aU a7 b3 m bk;have o:=T;have G:=kC;have HC:=Q;have X:=P;clear T kC Q P;generalize (O++L2).length=n5 at *;have dV:=o.cell;have gz:=o.frozen;have mO:=G.cell;have n:=((o.bZ 0 (.slice A5 n5 J)).bZ 1 (.slice B s.sn.length b)).bZ 2 (.slice C s.lg.length c);simp only[db,fd,ga] at n;have Z:=n.cell;have Y:=fE (w5.setCell ⟨K.heap.size,0,none⟩ (.slice A5 n5 J)) w.heap.size (.slice A5 n5 J) (.slice B s.sn.length b) (.slice C s.lg.length c);have D:=ab (And.intro Z Y);clear n Z Y;go_wp2;exact ph (v:=.agg #[.slice A5 n5 J,.slice B s.sn.length b,.slice C s.lg.length c]) (by simp[results,results10,go_sem,D.out.1]) rfl ⟨_,_,_,s,_,_,rfl,(PS.out.typed (λb h1 h2 _=>D.out.2.block b (by omega) λe=>by have V:b=w.heap.size:=e;omega) (show w.heap.size<=w0.heap.size by omega) D.out.2.size),H.out,a1.out,X.out.eY D.out.2 (λb t e=>by have V:b=w.heap.size:=e;rcases t with t|t<;>omega),by omega,HC.out.trans D.out.2 λi hi e=>by have V:i=w.heap.size:=e;omega⟩
  .have u0:(j ==0)=false:=dq.2 j0;by_cases j1:j=1
   .subst j1;obtain⟨N,iC⟩:=aq aa;have bz:=H.out.one N (be iC);have a2:=(H.out.wf.pn N (be iC)).2.2;obtain⟨z,ca,e,a9,ad,aP,ay,ao⟩:=cJ.some_ m.pk (by omega);simp only[pv] at e;obtain⟨rfl, -,rfl⟩:=e;obtain⟨m1,m2,es,l1,l2,l3,c0,⟨v2,rfl,aL,f⟩,I,bt⟩:=cJ.at_ OPk.aw (by decide) m.pk iC;obtain⟨A2,c2,rfl⟩:=cJ.form f;obtain⟨_,lY,ly⟩:=(adD.l f).len_;unfold maxLen at ly;have a3:r.cell? ⟨z,k*2+1,none⟩=some (.slice A2 N.its.length c2):=I 1 _ rfl;obtain⟨gi,ci,ei,bL,bF,c9,c5,bx⟩:=cJ.some_ f (by omega);simp only[pv] at ei;obtain⟨rfl, -,rfl⟩:=ei;obtain⟨y,dI⟩:=aq (l:=N.its) (k:=0) (by omega);obtain⟨n1,n2,ch, -, -, -, -,⟨rfl,cc⟩,b6, -⟩:=cJ.at_ (cg.aw nV) (by decide) f dI;have cv:r.cell? ⟨gi,1,none⟩=some (.string y.b):=b6 1 _ rfl;have cr:r.frozen? ⟨gi,1,none⟩=false:=cJ.frozen f 1;have U:adD (r.setCell ⟨gi,1,none⟩ (.string ⟨#[122,122]⟩)) m1 m2 (N.its.set 0 ⟨y.n,⟨#[122,122]⟩⟩) [.slice (some ⟨gi,0,none⟩) N.its.length c2]:=cJ.put (j:=1) (u:=.string ⟨#[122,122]⟩) (cg.aw nV) (by decide) f dI (y:=(⟨y.n,⟨#[122,122]⟩⟩:It)) (by decide) rfl (λw' lo hi es hh=>⟨by rw[hh.1];rfl,hh.2.1,by show 2<=maxLen;unfold maxLen;omega⟩);have al:Typed r [59] gi:=⟨_,qP,c5,bx⟩;have d:bJ (λb=>m1<=b/\b<m2/\Typed r [59] b) r (r.setCell ⟨gi,1,none⟩ (.string ⟨#[122,122]⟩)):=(bJ.refl _ _).setCell (p:=⟨gi,1,none⟩) (.inl ⟨bL,bF,al⟩) _;have bp:=bt _ ⟨N.no,N.its.set 0 ⟨y.n,⟨#[122,122]⟩⟩⟩ d ⟨_,rfl,aL,U⟩;have o2:=gO.aw.go (w':=r.setCell ⟨gi,1,none⟩ (.string ⟨#[122,122]⟩)) (λb b1 b2 ht=>d.block b (by omega) λE=>pJ ht (by decide) E.2.2) (am _) (am _) m.sn;have o3:=fU.aw.go (w':=r.setCell ⟨gi,1,none⟩ (.string ⟨#[122,122]⟩)) (λb b1 b2 ht=>d.block b (by omega) λE=>pJ ht (by decide) E.2.2) (am _) (am _) m.lg;have R:gq (r.setCell ⟨gi,1,none⟩ (.string ⟨#[122,122]⟩)) w0.heap.size K.heap.size ⟨s.pk.set k ⟨N.no,N.its.set 0 ⟨y.n,⟨#[122,122]⟩⟩⟩,s.sn,s.lg⟩ (.slice (some ⟨z,0,none⟩) s.pk.length a) (.slice B s.sn.length b) (.slice C s.lg.length c):=⟨bp,o2,o3⟩;have PS:=ab (R.t.p.wide (am _) (show K.heap.size<=(r.setCell ⟨gi,1,none⟩ (.string ⟨#[122,122]⟩)).heap.size by have:=d.size;omega));have bP:=G.cell 0;have T:=bQ o d λE=>mA o (by decide) E.2.2;have kC:=bQ G d λE=>mA G (by decide) E.2.2;have bl:dz s ⟨s.pk.set k ⟨N.no,N.its.set 0 ⟨y.n,⟨#[122,122]⟩⟩⟩,s.sn,s.lg⟩:=.put iC (qK ..) λx E=>by
     rcases sK E with h|rfl
     .exact a2 x h
     .exact Nat.le_of_ble_eq_true rfl
    have a1:=ab bl;have Q:=ab (HC.out.trans d λi hi e=>by have:=e.1;omega);have P:=ab (X.out.eY d λb t e=>by have:=e.1;rcases t with t|t<;>omega);have bw:(k:Int)<(s.pk.length:Int):=by omega
    have c7:(0:Int)<(N.its.length:Int):=by omega
    have ct:w.heap.size<r.heap.size:=by omega
    clear o G HC X bl R bp o2 o3 U I bt f b6 d dI iC m bz a2;have o:=T;have G:=kC;have HC:=Q;have X:=P;clear T kC Q P;have dV:=o.cell;have gz:=o.frozen;have mO:=G.cell;have n:=((o.bZ 0 (.slice (some ⟨z,0,none⟩) s.pk.length a)).bZ 1 (.slice B s.sn.length b)).bZ 2 (.slice C s.lg.length c);simp only[db,fd,ga] at n;have Z:=n.cell;have Y:=fE (r.setCell ⟨gi,1,none⟩ (.string ⟨#[122,122]⟩)) w.heap.size (.slice (some ⟨z,0,none⟩) s.pk.length a) (.slice B s.sn.length b) (.slice C s.lg.length c);have D:=ab (And.intro Z Y);clear n Z Y;go_wp2;exact ph (v:=.agg #[.slice (some ⟨z,0,none⟩) s.pk.length a,.slice B s.sn.length b,.slice C s.lg.length c]) (by simp[results,results10,go_sem,D.out.1]) rfl ⟨_,_,_,s,_,_,rfl,(PS.out.typed (λb h1 h2 _=>D.out.2.block b (by omega) λe=>by have V:b=w.heap.size:=e;omega) (show w.heap.size<=w0.heap.size by omega) D.out.2.size),H.out,a1.out,X.out.eY D.out.2 (λb t e=>by have V:b=w.heap.size:=e;rcases t with t|t<;>omega),by omega,HC.out.trans D.out.2 λi hi e=>by have V:i=w.heap.size:=e;omega⟩
   .have u1:(j ==1)=false:=dq.2 j1;by_cases j2:j=2
    .subst j2;obtain⟨N,iC⟩:=aq aa;have a2:=(H.out.wf.pn N (be iC)).2.2;obtain⟨z,ca,e,a9,ad,aP,ay,ao⟩:=cJ.some_ m.pk (by omega);simp only[pv] at e;obtain⟨rfl, -,rfl⟩:=e;obtain⟨m1,m2,es,l1,l2,l3,c0,⟨v2,rfl,aL,f⟩,I, -⟩:=cJ.at_ OPk.aw (by decide) m.pk iC;have cp:r.cell? ⟨z,k*2,none⟩=some (.int .i64 N.no):=I 0 _ rfl;have cw:r.frozen? ⟨z,k*2,none⟩=false:=cJ.frozen m.pk (k*2);have U:fT (r.setCell ⟨z,k*2,none⟩ (.int .i64 0)) w0.heap.size K.heap.size (s.pk.set k ⟨0,N.its⟩) [.slice (some ⟨z,0,none⟩) s.pk.length a]:=cJ.put (j:=0) (u:=.int .i64 0) OPk.aw (by decide) m.pk iC (y:=(⟨0,N.its⟩:Pk)) (by decide) rfl (λw' lo hi es hh=>by
      obtain⟨v,rfl,cn,hr⟩:=hh;exact⟨v,rfl,by show cA 0;unfold cA;omega,hr⟩)
     have al:Typed r [62] z:=⟨_,qP,ay,ao⟩;have d:bJ (λb=>w0.heap.size<=b/\b<K.heap.size/\Typed r [62] b) r (r.setCell ⟨z,k*2,none⟩ (.int .i64 0)):=(bJ.refl _ _).setCell (p:=⟨z,k*2,none⟩) (.inl ⟨a9,ad,al⟩) _;have o2:=gO.aw.go (w':=r.setCell ⟨z,k*2,none⟩ (.int .i64 0)) (λb b1 b2 ht=>d.block b (by omega) λE=>pJ ht (by decide) E.2.2) (am _) (am _) m.sn;have o3:=fU.aw.go (w':=r.setCell ⟨z,k*2,none⟩ (.int .i64 0)) (λb b1 b2 ht=>d.block b (by omega) λE=>pJ ht (by decide) E.2.2) (am _) (am _) m.lg;have R:gq (r.setCell ⟨z,k*2,none⟩ (.int .i64 0)) w0.heap.size K.heap.size ⟨s.pk.set k ⟨0,N.its⟩,s.sn,s.lg⟩ (.slice (some ⟨z,0,none⟩) s.pk.length a) (.slice B s.sn.length b) (.slice C s.lg.length c):=⟨U,o2,o3⟩;have PS:=ab (R.t.p.wide (am _) (show K.heap.size<=(r.setCell ⟨z,k*2,none⟩ (.int .i64 0)).heap.size by have:=d.size;omega));have bP:=G.cell 0;have T:=bQ o d λE=>mA o (by decide) E.2.2;have kC:=bQ G d λE=>mA G (by decide) E.2.2;have a1:=ab (show dz s ⟨s.pk.set k ⟨0,N.its⟩,s.sn,s.lg⟩ from .put iC rfl a2);have Q:=ab (HC.out.trans d λi hi e=>by have:=e.1;omega);have P:=ab (X.out.eY d λb t e=>by have:=e.1;rcases t with t|t<;>omega);have bw:(k:Int)<(s.pk.length:Int):=by omega
     clear o G HC X R o2 o3 U I f d iC m a2;have o:=T;have G:=kC;have HC:=Q;have X:=P;clear T kC Q P;have dV:=o.cell;have gz:=o.frozen;have mO:=G.cell;have n:=((o.bZ 0 (.slice (some ⟨z,0,none⟩) s.pk.length a)).bZ 1 (.slice B s.sn.length b)).bZ 2 (.slice C s.lg.length c);simp only[db,fd,ga] at n;have Z:=n.cell;have Y:=fE (r.setCell ⟨z,k*2,none⟩ (.int .i64 0)) w.heap.size (.slice (some ⟨z,0,none⟩) s.pk.length a) (.slice B s.sn.length b) (.slice C s.lg.length c);have D:=ab (And.intro Z Y);clear n Z Y;go_wp2;exact ph (v:=.agg #[.slice (some ⟨z,0,none⟩) s.pk.length a,.slice B s.sn.length b,.slice C s.lg.length c]) (by simp[results,results10,go_sem,D.out.1]) rfl ⟨_,_,_,s,_,_,rfl,(PS.out.typed (λb h1 h2 _=>D.out.2.block b (by omega) λe=>by have V:b=w.heap.size:=e;omega) (show w.heap.size<=w0.heap.size by omega) D.out.2.size),H.out,a1.out,X.out.eY D.out.2 (λb t e=>by have V:b=w.heap.size:=e;rcases t with t|t<;>omega),by omega,HC.out.trans D.out.2 λi hi e=>by have V:i=w.heap.size:=e;omega⟩
    .have u2:(j ==2)=false:=dq.2 j2;have PS:=ab (m.t.p.wide (am _) (show K.heap.size<=r.heap.size by omega));clear m;have dV:=o.cell;have gz:=o.frozen;have mO:=G.cell;have n:=((o.bZ 0 (.slice A s.pk.length a)).bZ 1 (.slice B s.sn.length b)).bZ 2 (.slice C s.lg.length c);simp only[db,fd,ga] at n;have Z:=n.cell;have Y:=fE r w.heap.size (.slice A s.pk.length a) (.slice B s.sn.length b) (.slice C s.lg.length c);have D:=ab (And.intro Z Y);clear n Z Y;go_wp2;exact ph (v:=.agg #[.slice A s.pk.length a,.slice B s.sn.length b,.slice C s.lg.length c]) (by simp[results,results10,go_sem,D.out.1]) rfl ⟨_,_,_,s,_,_,rfl,(PS.out.typed (λb h1 h2 _=>D.out.2.block b (by omega) λe=>by have V:b=w.heap.size:=e;omega) (show w.heap.size<=w0.heap.size by omega) D.out.2.size),H.out,.same,X.out.eY D.out.2 (λb t e=>by have V:b=w.heap.size:=e;rcases t with t|t<;>omega),by omega,HC.out.trans D.out.2 λi hi e=>by have V:i=w.heap.size:=e;omega⟩
end
section
variable {β:Bool}
open Go.RowKit
structure aT (w:World) (lo hi g:Nat) (l:List Int) (N bk s:Nat) where
 to:World
 q:Nat
 done:Bool
 rd:Rd to lo hi g l q
 ok:bJ (λb=>b=g\/(done=true/\b=bk)) w to
 lim:q<=N
section
variable {w:World} {lo hi g:Nat} {l:List Int} {N bk s:Nat}
instance aw8:aW (aT w lo hi g l N bk s):=⟨λm x=>x.q+4*m<=N,λ_ _ h=>by show _<=_;have a:_<=_:=h;omega,λi x=>i=s->x.done=false⟩
structure aT.le (x y:aT w lo hi g l N bk s):Prop where
 eY:bJ (λb=>b=g\/(x.done=false/\b=bk)) x.to y.to
 done:x.done=true->y.done=true
def aT.le_refl(x:aT w lo hi g l N bk s):aT.le x x:=⟨bJ.refl _ _,id⟩
def aT.le.blk{x y:aT w lo hi g l N bk s}(h:aT.le x y){b:Nat}{t:TypeId}(a:bW x.to b t cs)(d:b≠g)(c:b≠bk):bW y.to b t cs:=bQ a h.eY (by rintro(h|⟨_,h⟩)<;>contradiction)
def aT.le.full{x y:aT w lo hi g l N bk s}(h:aT.le x y){t:TypeId}(a:x.done=true)(b:bW x.to bk t cs)(c:bk≠g):y.done=true/\bW y.to bk t cs:=⟨h.done a,bQ b h.eY (by
 rintro(h|⟨h,_⟩)
 .exact c h
 .rw[a] at h;cases h)⟩
def aa2{p:Addr}(h:w.cell? p=some v)(b:p.block≠g)(c:p.block≠bk):∀x:aT w lo hi g l N bk s,x.to.cell? p=some v:=λx=>by
 have a:=sT w p h;unfold World.cell? at h ⊢;rw[x.ok.block p.block a (by rintro(h|⟨_,h⟩)<;>contradiction)];exact h
def aT.on(x:aT w lo hi g l N bk s){w2:World}(hb:Below x.to.heap.size x.to w2):aT w lo hi g l N bk s:=
 ⟨w2,x.q,x.done,x.rd.eY (bJ.bh (S:=λ_=>False) hb) (λ_ _ h=>h),x.ok.trans (bJ.bh (S:=λb=>b=g\/(x.done=true/\b=bk)) hb) λ_ _ e=>e,x.lim⟩
def aT.took(x:aT w lo hi g l N bk s){w2:World}{q:Nat}(hr:Rd w2 lo hi g l q)(hc:bJ (λb=>b=g) x.to w2)(hl:q<=N):aT w lo hi g l N bk s:=
 ⟨w2,q,x.done,hr,x.ok.trans (hc.mono λb _ h=>.inl h) λ_ _ e=>e,hl⟩
def aT.fill(x:aT w lo hi g l N bk s){w2:World}(hc:bJ (λc=>c=bk) x.to w2)(h1:bk≠g)(h2:hi<=bk):aT w lo hi g l N bk s:=
 ⟨w2,x.q,true,x.rd.eY hc (λc h e=>by
  have a:c=bk:=e;rcases h with h|h
  .omega
  .exact h1 (a.symm.trans h)),(x.ok.mono (T:=λb=>b=g\/(true=true/\b=bk)) λ_ _ h=>h.elim .inl λh=>.inr ⟨rfl,h.2⟩).trans (hc.mono λ_ _ h=>.inr ⟨rfl,h⟩) λ_ _ e=>e,x.lim⟩
def apy {P:Program}  {a:List Oper} (k q:Nat) (b c:List Nat) (d:P.follows .mixedOrders=true) (o:ahy a k b c=true) (e:ady a.toArray k S.tmps.size=true)
  (i:Rd w lo hi g l q) (p:q+4*k<=N)
  (h:wpQuiet P a.toArray (λf=>∃x:aT w lo hi g l N bk s,f=x.to) (λn=>∃j:List (ij (aT w lo hi g l N bk s)),bE P a.toArray (aT.to (w:=w)) (aT.le (w:=w)) (wpList P a.toArray Q (a.drop k)) (pick a c) [] j n) ((pick a b).map (·.2)) S):(Code.region W a.toArray true).wp P Q S w:=
 mZ (aT.to (w:=w)) (aT.le (w:=w)) aT.le_refl k b c d o e
  ⟨w.drew,q,false,i.drew,(bJ.refl _ _).drew,by omega⟩ (λm d=>by show q+4*m<=N;omega) (λ_ _ _=>rfl) rfl h
theorem avq{q:Nat}(b:Rd w lo hi g l q)(a:q<=N):Nonempty (aT w lo hi g l N bk s):=⟨w,q,false,b,bJ.refl _ _,a⟩
variable {P:Program} {ops:Array Oper} {Qt:Act->World->Prop} {i:Nat} {o:Oper} {L:List (Nat×Oper)} {F:List (Nat×(aT w lo hi g l N bk s->Prop))} {Rs:List (ij (aT w lo hi g l N bk s))} {a:Act}
def amf (R:Value->aT w lo hi g l N bk s->Prop) (e:o.dst.isSome=true) (j:∀v x y,R v x->aT.le x y->R v y)
  (r:∀x:aT w lo hi g l N bk s,my F o x->∀c:Exit->Act->World->Prop,(∀v d (b:Below x.to.heap.size x.to d),R v (x.on b)->c .normal (a.put o.dst v) d)->wpList P ops c [o] a x.to)
  (f:∀v,bE P ops (aT.to (w:=w)) (aT.le (w:=w)) Qt L ((i,λx=>R v x)::F) Rs (a.put o.dst v)):bE P ops (aT.to (w:=w)) (aT.le (w:=w)) Qt ((i,o)::L) F (.any R::Rs) a:=
 gW (to:=aT.to (w:=w)) (le:=aT.le (w:=w)) R (.inl e) j (λx n m p t c k=>r x n c λv d b q=>
  k v (x.on b) ⟨bJ.bh b,id⟩ (by have h:x.q+4*(m+1)<=N:=p;show x.q+4*m<=N;omega) (λ_ _ _ h=>h) q) f
def aia (R:Value->Prop) (c:o.dst.isSome=true)
  (f:∀x:aT w lo hi g l N bk s,my F o x->∀b:Exit->Act->World->Prop,(∀v,R v->b .normal (a.put o.dst v) x.to)->wpList P ops b [o] a x.to)
  (d:∀v,bE P ops (aT.to (w:=w)) (aT.le (w:=w)) Qt L ((i,λ_=>R v)::F) Rs (a.put o.dst v)):bE P ops (aT.to (w:=w)) (aT.le (w:=w)) Qt ((i,o)::L) F (.any (λv _=>R v)::Rs) a:=
 amf (λv _=>R v) c (λ_ _ _ h _=>h) (λx k b j=>f x k b λv e=>j v x.to (ff _ _) e) d
def aib (R:Value->Prop) (f:o.dst.isSome=true)
  (y:∀x:aT w lo hi g l N bk s,my F o x->x.q+4<=N->∀c:Exit->Act->World->Prop,(∀v d q,Rd d lo hi g l q->q<=x.q+4->bJ (λb=>b=g) x.to d->R v->c .normal (a.put o.dst v) d)->wpList P ops c [o] a x.to)
  (k:∀v,bE P ops (aT.to (w:=w)) (aT.le (w:=w)) Qt L ((i,λ_=>R v)::F) Rs (a.put o.dst v)):bE P ops (aT.to (w:=w)) (aT.le (w:=w)) Qt ((i,o)::L) F (.any (λv _=>R v)::Rs) a:=
 gW (to:=aT.to (w:=w)) (le:=aT.le (w:=w)) (λv _=>R v) (.inl f) (λ_ _ _ h _=>h) (λx r m t z c p=>by
  have j:x.q+4*(m+1)<=N:=t;exact y x r (by omega) c λv d q n A e u=>
   p v (x.took n e (by omega)) ⟨e.mono λb _ h=>.inl h,id⟩ (by show q+4*m<=N;omega) (λ_ _ _ h=>h) u) k
def asE (R:aT w lo hi g l N bk s->Prop) (r:o.dst=none) (hi':i=s) (d:bk≠g) (b:hi<=bk) (z:∀x y,R x->aT.le x y->R y)
  (E:∀x:aT w lo hi g l N bk s,my F o x->x.done=false->∀f:Exit->Act->World->Prop,(∀p (k:bJ (λc=>c=bk) x.to p),R (x.fill k d b)->f .normal (a.put o.dst undef) p)->wpList P ops f [o] a x.to)
  (t:bE P ops (aT.to (w:=w)) (aT.le (w:=w)) Qt L ((i,λx=>R x)::F) Rs (a.put o.dst undef)):bE P ops (aT.to (w:=w)) (aT.le (w:=w)) Qt ((i,o)::L) F (.any (λ_ x=>R x)::Rs) a:=
 gW (to:=aT.to (w:=w)) (le:=aT.le (w:=w)) (λ_ x=>R x) (.inr λ_ _ _ h=>h) (λ_ x y h n=>z x y h n) (λx B m C q f A=>E x B (q hi') f λp k u=>
  A undef (x.fill k d b) ⟨k.mono λ_ _ h=>.inr ⟨q hi',h⟩,λ_=>rfl⟩ (by have h:x.q+4*(m+1)<=N:=C;show x.q+4*m<=N;omega) (λj D _ _ e=>absurd (e.trans hi'.symm) D) u) (λv=>by
  have e:a.put o.dst v=a.put o.dst undef:=by rw[r];rfl
  rw[e];exact t)
def ayU(h:∀x:aT w lo hi g l N bk s,iZ F x->Qt a x.to):bE P ops (aT.to (w:=w)) (aT.le (w:=w)) Qt [] F [] a:=adQ h
end
end
section
variable {β:Bool}
open Go.RowKit
def avr(w:World)(e:Ending)(w':World):Prop:=
 ∃a d c b no s x,e=.returned (.tuple #[.int .i64 a,.agg #[d,c,b],.int .i64 no])/\(0<=a/\a<=100)/\(1<=no/\no<=100)/\mD w' w.heap.size w'.heap.size x d c b/\dT s/\dz s x/\Below w.heap.size w w'
def aC2(d:Int)(m:Nat)(b:m<4)(a:0<=d/\d<=100):∃k:Int,(0<=k/\k<=100)/\(#[Value.int .i64 7,.int .i64 7,.int .i64 7,.int .i64 d]:Array Value)[m]?=some (.int .i64 k):=by
 match m,b with
 |0,_=>exact⟨7,by omega,rfl⟩
 |1,_=>exact⟨7,by omega,rfl⟩
 |2,_=>exact⟨7,by omega,rfl⟩
 |3,_=>exact⟨d,a,rfl⟩
def abm(A:Option Addr)(n c:Nat)(l:List Int)(w:World)(h:cR jC 1 w 0 w.heap.size l [.slice A n c]) :
  Calls (ah β) 4 #[.slice A n c] w (avr w):=by
 go_enter qF4,ntmps4;go_wp2;generalize hG:w.alloc (.cells #[.slice none 0 0,.slice none 0 0,.slice none 0 0] 27)=w0 at *;obtain⟨G,jU,P,dV,gz⟩:=iB hG;clear hG;refine(art l A n c w0 0 w.heap.size (ahA jC.loc h G (am _)) G.size).mono ?_;rintro e w1 ⟨g,rfl,hr,hg,F⟩;generalize List.take 2000 l=L at hr;have b2:=hr.lt;replace P:=av P F;replace dV:=P.cell;replace gz:=P.frozen;have z0:=G.size;have z1:=F.size;have b4:=P.lt;replace G:=ae G F;go_wp2;refine(afN _ g 0 _ _ w1 hr (by omega)).mono ?_;rintro e u ⟨va,vb,vc,s,x,q,rfl,os,J,M,a5,hq,D⟩;obtain⟨U,a1,V,W,Z,Y,rfl,rfl,rfl⟩:=os.form;have X:=bQ P D (by omega);have z2:=D.size;have aa:Below w.heap.size w u:=G.trans (D.below G.size λi hi e=>by have e':i=g:=e;omega);have HS:=ab (And.intro J M);have b8:x.sn.length<=9:=(M.sm J.wf.sm).sl;clear P dV gz G F D J M hr;have ax:=aB u (.cells #[.slice U x.pk.length a1,.slice V x.sn.length W,.slice Z x.lg.length Y] 27);have km:=(bW.new u 27 #[.slice U x.pk.length a1,.slice V x.sn.length W,.slice Z x.lg.length Y]).cell;go_wp2;clear ax km;generalize hG:u.alloc (.cells #[.slice U x.pk.length a1,.slice V x.sn.length W,.slice Z x.lg.length Y] 27)=w3 at *;obtain⟨o,b3,m0,mO,ay⟩:=iB hG;clear hG;replace X:=av X o;replace ao:=X.cell;replace aM:=X.frozen;have C:=os.below o (am _);have E:=a5.eY (bJ.bh (S:=λ_=>False) o) λ_ _ h=>h;have t:=ae aa o;have z3:=o.size;have aY:=E.hi_;have Q:u.heap.size≠g:=by omega
 have R:u.heap.size≠w.heap.size:=by omega
 have O:w.heap.size≠g:=by omega
 have a4:w3.cell? ⟨u.heap.size,0,none⟩=some (.slice U x.pk.length a1):=mO 0;have a3:w3.cell? ⟨u.heap.size,1,none⟩=some (.slice V x.sn.length W):=mO 1;have af:w3.cell? ⟨u.heap.size,2,none⟩=some (.slice Z x.lg.length Y):=mO 2;have b7:IntKind.i64.wrap ((x.sn.length:Int)+1)=(x.sn.length:Int)+1:=by rw[rY];omega
 replace C:=ab C;replace t:=ab t;clear os aa o a5 ao aM m0 mO ay;have aJ:∀y:aT w3 0 w.heap.size g L (q+68) w.heap.size 16,_:=aa2 a4 Q R;have aL:∀y:aT w3 0 w.heap.size g L (q+68) w.heap.size 16,_:=aa2 a3 Q R;have cB:∀y:aT w3 0 w.heap.size g L (q+68) w.heap.size 16,_:=aa2 af Q R
 haveI:Nonempty (aT w3 0 w.heap.size g L (q+68) w.heap.size 16):=avq E (by omega)
 refine apy (bk:=w.heap.size) (s:=16) (N:=q+68) 17 q [0,3,7,8,9,10,11,12] [1,2,4,5,6,13,14,15,16] (by kernel_rfl) (by kernel_rfl) (by kernel_rfl) E (by omega) ?_;simp only[pick,List.map,pa,pb];repeat(go_big_quiet_step (fail))
 refine iS ?_;clear aJ aL cB;apply Exists.intro;apply aib (λv=>∃d:Int,v=.int .i64 d/\0<=d/\d<=100)
 .rfl
 .intro y _ a6 I a;replace a:=ab a;have a8:=y.lim;go_wp2;refine(ame L g y.q _ _ y.to y.rd (by omega)).mono ?_;rintro e wy ⟨d,q5,rfl,hd,r5,b5,r⟩;go_wp2;exact a.out _ _ q5 r5 (by omega) r ⟨d,rfl,hd⟩
 intro u1;simp only[Act.put,db,fd,ga];apply amf (λv y=>∃b d,v=.slice (some ⟨b,0,none⟩) 4 4/\w3.heap.size<=b/\(0<=d/\d<=100)/\bW y.to b 3 #[.int .i64 7,.int .i64 7,.int .i64 7,.int .i64 d])
 .rfl
 .exact λv y z ⟨b,d,e,T,hd,j⟩ hl=>⟨b,d,e,T,hd,hl.blk j (by omega) (by omega)⟩
 .intro y f I a;replace a:=ab a;obtain⟨d,rfl,hd⟩:=f.1 (by kernel_rfl);clear f;go_wp2;exact a.out _ _ (aB _ _) ⟨_,d,rfl,y.ok.size,hd,bW.new _ _ _⟩
 intro u2;simp only[Act.put,db,fd,ga];apply aib (λv=>∃m:Nat,v=.int .i64 m/\m<4)
 .rfl
 .intro y _ a6 I a;replace a:=ab a;have a8:=y.lim;go_wp2;refine(cF _ _ _ _ _ _ 4 y.rd (by omega)).mono ?_;rintro e wy ⟨m,rfl,⟨_,p⟩,r5,r⟩;obtain⟨q1,q2⟩:=p (by omega);clear p;obtain⟨m,rfl⟩:=qi q1;go_wp2;exact a.out _ _ _ r5 (by omega) r ⟨m,rfl,by omega⟩
 intro u4;simp only[Act.put,db,fd,ga];apply amf (λv y=>∃b d m,v=.pointer (some ⟨b,m,none⟩)/\m<4/\w3.heap.size<=b/\(0<=d/\d<=100)/\bW y.to b 3 #[.int .i64 7,.int .i64 7,.int .i64 7,.int .i64 d])
 .rfl
 .exact λv y z ⟨b,d,m,e,p,T,hd,j⟩ hl=>⟨b,d,m,e,p,T,hd,hl.blk j (by omega) (by omega)⟩
 .intro y f I a;replace a:=ab a;obtain⟨m,rfl,p⟩:=f.1 (by kernel_rfl);obtain⟨b,d,rfl,T,hd,j⟩:=f.2.1 (by kernel_rfl);clear f;have b0:(m:Int)<4:=by omega
  go_wp2;exact a.out _ _ (ff _ _) ⟨b,d,m,rfl,p,T,hd,j⟩
 intro u5;simp only[Act.put,db,fd,ga];apply aia (λv=>∃k:Int,v=.int .i64 k/\0<=k/\k<=100)
 .rfl
 .intro y f I a;replace a:=ab a;obtain⟨b,d,m,rfl,p,T,hd,j⟩:=f.1 (by kernel_rfl);obtain⟨k,an,a7⟩:=aC2 d m p hd;have hc:y.to.cell? ⟨b,m,none⟩=some (.int .i64 k):=by rw[j.cell];exact a7
  clear f j a7;go_wp2;exact a.out _ ⟨k,rfl,an⟩
 intro u6;simp only[Act.put,db,fd,ga];apply aib (λv=>∃m:Nat,v=.int .i64 m/\m<=9)
 .rfl
 .intro y _ a6 I a;replace a:=ab a;have a8:=y.lim;go_wp2;refine(cF _ _ _ _ _ _ _ y.rd (by omega)).mono ?_;rintro e wy ⟨m,rfl,⟨_,p⟩,r5,r⟩;obtain⟨q1,q2⟩:=p (by omega);clear p;obtain⟨m,rfl⟩:=qi q1;go_wp2;exact a.out _ _ _ r5 (by omega) r ⟨m,rfl,by omega⟩
 intro b6;simp only[Act.put,db,fd,ga];apply aia (λv=>∃k:Int,v=.int .i64 k/\1<=k/\k<=100)
 .rfl
 .intro y f I a;replace a:=ab a;obtain⟨m,rfl,p⟩:=f.1 (by kernel_rfl);clear f;have aU:IntKind.i64.wrap (1+(m:Int))=1+(m:Int):=by rw[rY];omega
  go_wp2;exact a.out _ ⟨_,rfl,by omega,by omega⟩
 intro b1;simp only[Act.put,db,fd,ga];apply aia (λv=>∃k:Int,v=.int .i64 k/\0<=k/\k<=100)
 .rfl
 .intro y f I a;replace a:=ab a;obtain⟨k,rfl,j⟩:=f.2.2.1 (by kernel_rfl);clear f;go_wp2;exact a.out _ ⟨k,rfl,j⟩
 intro b9;simp only[Act.put,db,fd,ga];apply asE (λy=>y.done=true/\bW y.to w.heap.size 27 #[.slice U x.pk.length a1,.slice V x.sn.length W,.slice Z x.lg.length Y]) rfl rfl O (am _)
 .exact λy z ⟨hd,j⟩ hl=>hl.full hd j O
 .intro y _ K I a;replace a:=ab a;have j:=bQ X y.ok (by
   rintro(h|⟨h,_⟩)
   .exact O h
   .rw[K] at h;cases h)
  have ck:=j.cell;have fk:=j.frozen;go_wp2;exact a.out _ (fE _ _ _ _ _) ⟨rfl,((j.bZ 0 _).bZ 1 _).bZ 2 _⟩
 simp only[Act.put,db,fd,ga];refine ayU λy f=> ?_;simp only[iZ] at f;obtain⟨⟨K,a2⟩,⟨a9,rfl,a0⟩,⟨no,rfl,al⟩, -⟩:=f;have B:bJ (λb=>b=g\/b=w.heap.size) w3 y.to:=y.ok.mono λb _ h=>h.elim .inl λh=>.inr h.2;have zy:=B.size;have ad:=C.out.typed (λb h1 h2 _=>B.block b (by omega) (by rintro(h|h)<;>omega)) (show w.heap.size<=w1.heap.size by omega) (show u.heap.size<=y.to.heap.size by omega);have ow:=t.out.trans (B.below t.out.size λi hi e=>by rcases e with e|e<;>omega);have H:=ab (And.intro ad (And.intro ow a2.cell));clear ad ow B a2 K X C t E a4 a3 af;revert H zy;generalize y.to=w4;intro zy H;clear y;have aP:=H.out.2.2;simp only[List.drop];go_wp2;exact ph (v:=.tuple #[.int .i64 a9,.agg #[.slice U x.pk.length a1,.slice V x.sn.length W,.slice Z x.lg.length Y],.int .i64 no]) (by simp[results,results4,go_sem,aP]) rfl ⟨a9,_,_,_,no,s,x,rfl,a0,al,H.out.1,HS.out.1,HS.out.2,H.out.2.1⟩
end
section
variable {β:Bool}
open Go.RowKit
def apz :(ed s).2=true↔cT (bs s)=some (bs (ed s).1):=by
 unfold ed cT;rw[abR];by_cases h:aQ (sX (bs s))/\fj (sX (bs s))=bs s
 .rw[dj h,dj h];simp only[sQ];rw[abR]
 .rw[bd h,bd h];simp
def amg{x:It}{t:ByteArray}(h:gI key x)(d:cT (bs x.b)=some (bs t)):dL key (x.n,x.b)=(t,true):=by
 have a:=nz.1 h;unfold dL at a ⊢;split at a
 .rename_i b;have c:=apz.1 b.1;rw[dj b];have e:(ed (x.n,x.b).2).1=t:=jb (dl (c.symm.trans d));rw[e]
 .cases a
def apA{x:It}(h:¬gI key x):dL key (x.n,x.b)=(⟨#[]⟩,false):=by
 rw[nz] at h;unfold dL at h ⊢;split at h
 .exact absurd rfl h
 .rename_i a;rw[bd a]
def amh{nm : Int}{p:Pk}{x:It}(d:p.its[k]?=some x)(f:x.n=nm)(c:∀y∈p.its.take k,y.n≠nm):fw key (pkd p).2 nm=dL key (x.n,x.b):=by
 have b:(pkd p).2[k]?=some (x.n,x.b):=by rw[ah7,d];rfl
 refine ah6 (k:=k) (acL (x:=(x.n,x.b)) (λy a=> ?_) b f) b;have e:(pkd p).2.take k=(p.its.take k).map λx=>(x.n,x.b):=by show(p.its.map _).take k=_;rw[List.map_take]
 rw[e] at a;obtain⟨z,g,rfl⟩:=mx.1 a;exact c z g
def apB{nm : Int}{p:Pk}(b:∀y∈p.its,y.n≠nm):fw key (pkd p).2 nm=(⟨#[]⟩,false):=agC (aa0 λy a=>by
 obtain⟨z,c,rfl⟩:=mx.1 a;exact b z c)
def avs{nm:Int}{l:List It}{x:It}(d:l[k]?=some x)(b:∀y∈l.take k,y.n≠nm)(c:x.n≠nm):∀y∈l.take (k+1),y.n≠nm:=λy a=>by
 rw[mu d] at a;rcases jt.1 a with a|a
 .exact b y a
 .rw[gE.1 a];exact c
def adG(key:Int)(a:1<=key/\key<=99)(p:Pk)(nm:Int)(v:Value)(w:World)(lo hi:Nat)(I:hi<=w.heap.size)(h:gK w lo hi p.its [v]) :
  Calls (ah β) 75 #[.int .i64 key,.agg #[.int .i64 p.no,v],.int .i64 nm] w λe S=>e=.returned (.tuple #[.string (fw key (pkd p).2 nm).1,.bool (fw key (pkd p).2 nm).2])/\Below w.heap.size w S:=by
 obtain⟨A,c,rfl⟩:=h.form;obtain⟨_,z,N⟩:=h.len_;unfold maxLen at N;replace a:=ab a;go_enter yH,ntmps75;go_wp2;generalize o:w.alloc (.cells #[.int .i64 p.no,.slice A p.its.length c] 62)=w0 at *;obtain⟨m,jU,U,P,R⟩:=iB o;clear o;have T:=gK.aw.below h m I;refine(pG (β:=β) key w0 true (by simp only[sQ];exact a.out)).mono ?_;rintro e w1 ⟨rfl,rfl⟩;go_wp2;go_loopw [8] (λi wr=>∃k:Nat,k<=p.its.length/\i=.int .i64 k/\(∀y∈p.its.take k,y.n≠nm)/\Below w0.heap.size w0 wr) (λi _=>p.its.length-(intOf i).toNat)
 case atStart=>exact⟨0,fa _,rfl,λy hy=>(by cases hy),ff _ _⟩
 case round=>
  obtain⟨k,hk,rfl,u,d⟩:=hrel;replace u:=ab u;have J:=gK.aw.below T d (da I m.size);have B:=av U d;have Q:=B.cell;have X:=B.frozen;clear P R;by_cases C:k<p.its.length
  .obtain⟨x,j⟩:=aq C;obtain⟨b1,Y,rfl,_,_,n,cn,cb⟩:=aeK J j;replace j:=ab j;by_cases l:x.n=nm
   .have L:(x.n ==nm)=true:=mp.2 l;have HG:=ab (amh (key:=key) j.out l u.out);obtain⟨q,r⟩:=jv (gI key x);replace r:=ab r;clear l;go_wp2;refine(ai5 (β:=β) key a.out x n.2 wr q r.out).mono ?_;rintro e w2 ⟨rfl,E⟩;have s:=ae m (ae d E);cases q
    .have z:=HG.out.trans (apA λh=>by have:=r.out.2 h;cases this);have HC:=ab z;clear z;go_wp2;go_ret2;rw[HC.out];exact⟨rfl,s⟩
    .have K:=gK.aw.below J E (by have:=d.size;have:=m.size;omega);obtain⟨a0,F,H,_,_, -,Z,V⟩:=aeK K j.out;simp only[lw,qo,qk] at H;obtain⟨rfl,rfl⟩:=H;have O:=av B E;have M:=O.cell;have g:=r.out.1 rfl;replace g:=ab g;go_wp2;refine(ac3 (β:=β) x.b n.2 w2).mono ?_;rintro e w3 ⟨⟨t,b,rfl,G⟩,rfl⟩;have f:b=true/\cT (bs x.b)=some (bs t):=by
      rcases G with h|⟨-,h, -⟩
      .exact h
      .obtain⟨p,W, -⟩:=g.out;rw[W] at h;cases h
     obtain⟨rfl,f⟩:=f;have HC:=ab (HG.out.trans (amg g.out f));clear G f;go_wp2;go_ret2;rw[HC.out];exact⟨rfl,s⟩
   .have L:(x.n ==nm)=false:=dq.2 l;have D:=ab (avs j.out u.out l);clear l;go_wp2;go_roundw
    case rel=>exact⟨k+1,by omega,by go_num,D.out,d⟩
    simp[intOf];omega
  .obtain rfl:k=p.its.length:=by omega
   have o:=apB (key:=key) (p:=p) (nm:=nm) (by have:=u.out;rwa [gt] at this);have HG:=ab o;clear o;go_wp2;go_ret2;rw[HG.out];exact⟨rfl,ae m d⟩
end
section
variable {β:Bool}
open Go.RowKit
def eR(l:List ByteArray):List UInt8:=l.flatMap λs=>s.data.toList
def agE(l:List ByteArray):(eR l).map UInt8.toNat=cX l:=by
 unfold eR cX;rw[List.map_flatMap];rfl
def ld(l:List ByteArray):∀b∈cX l,b<256:=λb a=>by
 obtain⟨s,_,a⟩:=qe.1 a;exact aq4 b a
def apC(l:List ByteArray):(⟨(eR l).toArray⟩:ByteArray)=qO (cX l):=jb (by
 rw[aey (ld l),<-agE];rfl)
def aa3{l:List ByteArray}{x:ByteArray}(h:l[k]?=some x):eR (l.take (k+1))=eR (l.take k)++x.data.toList:=by
 rw[mu h];unfold eR;rw[qT];simp
def acM:∀{l:List ByteArray},(∀s∈l,s.size<=8)->(eR l).length<=8*l.length
 |[],_=>fa _
 |x::l,h=>by
  have b:=acM (l:=l) λs a=>h s (by simp[a]);have d:=h x (by simp);show(x.data.toList++eR l).length<=_;have c:x.data.toList.length=x.size:=by rw[qU];rfl
  rw[ap,fm];omega
def dN(h:aQ (bs s)):1<=s.size/\s.size<=8:=by have:=h.1;rw[aK] at this;exact this
def asF(x:ByteArray):x.data.toList.length=x.size:=by rw[qU];rfl
def aw9(x:ByteArray)(l:List UInt8):Lib.byteCells l++Lib.strCells x=Lib.byteCells (l++x.data.toList):=by
 simp[Lib.byteCells,Lib.strCells]
def ayV(l:List ByteArray)(u:∀s∈l,aQ (bs s))(hl:l.length<=2147483647)(v:Value)(w:World)(lo hi:Nat)(h:cH w lo hi l [v])(X:hi<=w.heap.size) :
  Calls (ah β) 50 #[v,.string ⟨#[]⟩] w λe w'=>e=.returned (.string (qO (cX l)))/\Below w.heap.size w w':=by
 obtain⟨A,c,rfl⟩:=h.form;obtain⟨_,hc,M⟩:=h.len_;unfold maxLen at M;replace u:=ab u;rcases oR l.length 2 with J|nR
 .rcases oE l.length with O|O
  .obtain rfl:=pi.1 O;go_enter wR,ntmps50;go_wp2;exact ph (v:=.string ⟨#[]⟩) (by simp[results,results50,go_sem]) rfl ⟨rfl,ff _ _⟩
  .obtain⟨x,rfl⟩:=th.1 (show l.length=1 by omega);obtain⟨b,p,rfl,_,_,H,I⟩:=iO h (k:=0) rfl;rw[tM] at I;have Q:qO (cX [x])=x:=by show qO (bs x++[])=x;rw[tI,awG]
   replace Q:=ab Q;go_enter wR,ntmps50;go_wp2;exact ph (v:=.string x) (by simp[results,results50,go_sem]) rfl ⟨by rw[Q.out],ff _ _⟩
 .have t0:((l.length:Int) ==0)=false:=dq.2 (by omega);have t1:((l.length:Int) ==1)=false:=dq.2 (by omega);go_enter wR,ntmps50;go_wp2
  go_loop [5,41] (λnn E=>∃k:Nat,k<=l.length/\E=.int .i64 k/\nn=.int .i64 (eR (l.take k)).length/\(eR (l.take k)).length<=8*k) (λ_ E=>l.length-(intOf E).toNat)
  case atStart=>exact⟨0,fa _,rfl,rfl,fa _⟩
  case round=>
   obtain⟨k,hk,rfl,rfl,D⟩:=hrel;by_cases J:k<l.length
   .obtain⟨x,L⟩:=aq J;obtain⟨b,p,rfl,_,_,H,I⟩:=iO h L;have S:=(dN (u.out x (be L))).2;have d:(eR (l.take (k+1))).length=(eR (l.take k)).length+x.size:=by rw[aa3 L,ap,asF]
    have HST:=ab d;clear d L;obtain⟨n,F⟩:∃n,n=(eR (l.take k)).length:=⟨_,rfl⟩;rw[<-F] at D HST ⊢;clear F;have t3:=bv (show ¬(9223372036854775807-(n:Int)<(x.size:Int)) by omega);go_wp2
    go_round
    case rel=>exact⟨k+1,by omega,by go_num,by rw[HST.out];go_num,by rw[HST.out];omega⟩
    simp[intOf];omega
   .obtain rfl:k=l.length:=by omega
    rw[gt] at D ⊢;obtain⟨n,F⟩:∃n,n=(eR l).length:=⟨_,rfl⟩;rw[<-F] at D ⊢;have HN:=ab F;clear F;go_wp2;generalize t:w.alloc (.cells #[.pointer none,.slice none 0 0] 145)=w0;have Y:w0.heap[w.heap.size]?=some (.cells #[.pointer none,.slice none 0 0] 145 (0,0)):=by
     rw[<-t];show(w.heap.push _)[w.heap.size]?=_;rw[qM]
    have z:Below w.heap.size w w0:=by rw[<-t];exact(ff _ w).alloc (am _) _
    refine(anJ w.heap.size w.heap.size n w0 (am _) Y z.size (by omega)).mono ?_;rintro e w2 ⟨rfl,f,g⟩;replace g:=z.trans g;clear z Y t;obtain⟨x,a⟩:=aq (l:=l) (k:=0) (by omega);obtain⟨b,p,rfl,_,_,H,I⟩:=iO (cH.aw.below h g X) a;rw[tM] at I;have S:=(dN (u.out x (be a))).2;have d:x.data.toList=eR (l.take 1):=by rw[aa3 (k:=0) a];simp[eR]
    have K:1<=x.size:=(dN (u.out x (be a))).1;have T:=ab K;have r:x=l.headD ⟨#[]⟩:=by
     cases l with
     |nil=>simp at a
     |cons y m=>simp at a;rw[a];rfl
    replace r:=ab r;have HST:=ab d;clear d a K;go_wp2;refine(oP w.heap.size w.heap.size [] x w2 (.inr (.of f)) (by show 0+x.size<=_;omega) g.size).mono ?_;rintro e w3 ⟨rfl,C,q⟩;replace q:=g.trans q;have e3:([]:List Value)++Lib.strCells x=Lib.byteCells (eR (l.take 1)):=by
     have:=aw9 x [];rw[rm,HST.out] at this;exact this
    rw[e3] at C;clear g f e3 I HST;go_wp2;have R:l.length-1+1=l.length:=by omega
    go_loopw [65] (λE wr=>∃k:Nat,k+1<=l.length/\E=.int .i64 k/\Lib.IsBuilderF 145 5 w.heap.size w.heap.size (Lib.byteCells (eR (l.take (k+1)))) wr/\Below w.heap.size w wr) (λE _=>l.length-(intOf E).toNat)
    case atStart=>exact⟨0,by omega,rfl,.inr C,q⟩
    case round=>
     clear C q;obtain⟨k,hk,rfl,f,j⟩:=hrel;have V:(Lib.byteCells (eR (l.take (k+1)))).length<=8*l.length:=by
      rw[rD];refine da (acM λs hs=>(dN (u.out s (pr hs))).2) ?_;rw[fi];omega
     by_cases a3:k<l.length-1
     .obtain⟨y,N⟩:=aq (l:=l) (k:=k+1) (by omega);obtain⟨b1,a1,U,_,_,a0,d0⟩:=iO (cH.aw.below h j X) N;simp only[lw,qo,qk] at U;obtain⟨rfl,rfl⟩:=U;rw[show p+(k+1)=p+1+k by omega] at d0;have a2:=(dN (u.out y (be N))).2;have d:=aa3 N;have HST:=ab d;clear d N;go_wp2;refine(oP w.heap.size w.heap.size _ ⟨#[]⟩ wr f (by show _+0<=_;omega) j.size).mono ?_;rintro e w4 ⟨rfl,B,o⟩;replace o:=j.trans o;have W:Lib.byteCells (eR (l.take (k+1)))++Lib.strCells ⟨#[]⟩=Lib.byteCells (eR (l.take (k+1))):=tI _;rw[W] at B;clear f j W;go_wp2;refine(oP w.heap.size w.heap.size _ y w4 (.inr B) (by omega) o.size).mono ?_;rintro e w5 ⟨rfl,G,i⟩;replace i:=o.trans i;rw[aw9,<-HST.out] at G;clear B o;go_wp2;go_roundw
      case rel=>exact⟨k+1,by omega,by go_num,.inr G,i⟩
      simp[intOf];omega
     .obtain rfl:k=l.length-1:=by omega
      rw[R,gt] at f;have P:eR l≠[]:=by
       intro O;have M:x.data.toList <+: eR l:=by
        obtain⟨y,m,rfl⟩:∃y m,l=y::m:=by
         cases l with
         |nil=>simp at nR
         |cons y m=>exact⟨y,m,rfl⟩
        have e:=r.out;show x.data.toList <+: _;have e:x=y:=e;rw[e];exact⟨eR m,by simp[eR]⟩
       rw[O] at M;have:=List.prefix_nil.1 M;have Z:=asF x;rw[this] at Z;have:=T.out;simp at Z;omega
      have HJ:=ab (apC l);go_wp2;refine(acH w.heap.size w.heap.size (eR l) wr f P).mono ?_;rintro e w5 ⟨rfl, -,i⟩;go_wp2;exact ph (v:=.string ⟨(eR l).toArray⟩) (by simp[results,results50,go_sem]) rfl ⟨by rw[HJ.out],j.trans i⟩
end
section
variable {β:Bool}
open Go.RowKit
def mE(s:ByteArray)(f:s.size<=maxLen)(w:World) :
  Calls (ah β) 51 #[.string s] w λe d=>e=.returned (.bool (dw s))/\w=d:=by
 by_cases b:s.size<=40
 .have a:(bs s).all nU=dw s:=by unfold dw;rw[de b,uj]
  replace a:=ab a;have c:=de (show(s.size:Int)<=40 by omega);go_enter xj,ntmps51;go_wp2;refine(agu s f w).mono ?_;rintro e g ⟨rfl,rfl⟩;rw[a.out];go_wp2;go_ret;exact⟨rfl,rfl⟩
 .have c:=bv (show ¬((s.size:Int)<=40) by omega);have e:dw s=false:=by unfold dw;rw[bv b,tT]
  rw[e];clear e;go_enter xj,ntmps51;go_wp2;go_ret;exact⟨rfl,rfl⟩
def ami(s:ByteArray)(p:Nat)(v:3<=p/\p<s.size)(r:s.size<=maxLen)(w:World) :
  Calls (ah β) 160 #[.string s,.int .i64 p] w λe o=>e=.returned (.bool (oK (bs s) p))/\Below w.heap.size w o:=by
 unfold maxLen at r;obtain⟨a,l⟩:∃a,a=p-1:=⟨_,rfl⟩;obtain⟨b,i⟩:∃b,b=p-2:=⟨_,rfl⟩;obtain⟨c,n⟩:∃c,c=p-3:=⟨_,rfl⟩;have m:a<s.size:=by omega
 have f:b<s.size:=by omega
 have g:c<s.size:=by omega
 have y:(p:Int)-1=((a:Nat):Int):=by omega
 have x:(p:Int)-2=((b:Nat):Int):=by omega
 have z:(p:Int)-3=((c:Nat):Int):=by omega
 have t:(p:Int)<=9223372036854775807:=by omega
 have k:oK (bs s) p=((dig (s[a]'m).toNat+2*dig (s[b]'f).toNat+3*dig (s[c]'g).toNat) % 5 ==0):=by unfold oK;rw[<-l,<-i,<-n,pA m,pA f,pA g]
 rw[k];clear l i n k;go_enter xP,ntmps160;go_wp2;refine bB 21 [0,1,2,3,4,5,6,7,8,9,10,11,12,13,14,15,16,17,18,19,20] [] (h:= ?_);simp only[pick,List.map,pa,pb];repeat(go_big_quiet_step (fail))
 refine iS ?_;apply Exists.intro;refine dD ?_;intro A u q j d;dsimp only[iZ] at d;try rw[j] at d
 clear j q;simp only[List.drop];clear d;go_wp2;go_ret;exact⟨aA (by rw[qh];simp only[mp];unfold dig;omega),u⟩
def avt(s:ByteArray)(p:Nat)(C:p<s.size)(E:s.size<=1000000)(w:World) :
  Calls (ah β) 142 #[.string s,.int .i64 p] w λe v=>e=.returned (.int .i64 (nW (bs s) p:Nat))/\Below w.heap.size w v:=by
 have q:s.size<=maxLen:=by unfold maxLen;omega
 go_enter xW,ntmps142;go_wp2;go_loopw [5] (λr wr=>∃k f:Nat,k+f=8/\3<=k/\r=.int .i64 ((p+k:Nat):Int)/\nW (bs s) p=atF (bs s) p f k/\Below w.heap.size w wr) (λr _=>p+8-(intOf r).toNat)
 case atStart=>exact⟨3,5,rfl,by omega,by go_num,rfl,ff _ _⟩
 case round=>
  obtain⟨k,f,z,D,rfl,b,g⟩:=hrel;replace b:=ab b;by_cases B:k<8
  .obtain⟨j,rfl⟩:∃j,f=j+1:=⟨f-1,by omega⟩;have a:atF (bs s) p (j+1) k=if s.size<=p+k then s.size else if oK (bs s) (p+k)=true then p+k else atF (bs s) p j (k+1):=by
    show(if(bs s).length<=p+k then(bs s).length else _)=_;rw[aK]
   have HS:=ab a;clear a;obtain⟨d,i⟩:∃m,m=p+k:=⟨_,rfl⟩;rw[<-i] at HS ⊢;have o:3<=d/\d<p+8:=by omega
   have x:=de (show(d:Int)<(p:Int)+8 by omega);by_cases l:s.size<=d
   .have y:=bv (show ¬(d<s.size) by omega);rw[dj l] at HS;have c:=ab (b.out.trans HS.out);have t:=bv (show ¬((p:Int)+8<=(s.size:Int)) by omega);clear i;go_wp2;go_ret;exact⟨by rw[c.out];simp,g⟩
   .have y:=de (show d<s.size by omega);rw[bd l] at HS;replace i:=ab i;go_wp2;refine(ami s d ⟨o.1,by omega⟩ q wr).mono ?_;rintro e A ⟨rfl,u⟩;cases n:oK (bs s) d with
    |true=>
     have c:=ab (b.out.trans (HS.out.trans (dj n)));clear n;go_wp2;go_ret;exact⟨by rw[c.out];rfl,ae g u⟩
    |false=>
     have c:=ab (b.out.trans (HS.out.trans (bd (by rw[n];exact qm))));clear n;go_wp2;go_roundw
     case rel=>exact⟨k+1,j,by omega,by omega,by have:=i.out;go_num,c.out,ae g u⟩
     simp[intOf];omega
  .obtain rfl:k=8:=by omega
   obtain rfl:f=0:=by omega
   have a:atF (bs s) p 0 8=min (p+8) s.size:=by
    show min (p+8) (bs s).length=_;rw[aK]
   have c:=ab (b.out.trans a);clear a b;have x:=bv (show ¬(((p+8:Nat):Int)<(p:Int)+8) by omega);by_cases l:p+8<=s.size
   .have t:=de (show(p:Int)+8<=(s.size:Int) by omega);rw[qW l] at c;go_wp2;go_ret;exact⟨by rw[c.out];simp,g⟩
   .have t:=bv (show ¬((p:Int)+8<=(s.size:Int)) by omega);rw[Nat.min_eq_right (by omega)] at c;go_wp2;go_ret;exact⟨by rw[c.out];simp,g⟩
end
section
variable {β:Bool}
open Go.RowKit Go.Shelf
attribute [local go_sem] Oper.semAt_some
def KpB(n₀ Bs:Nat)(A B:World):Prop:=Below n₀ A B/\B.heap[Bs]?=A.heap[Bs]?
def KpB.refl{A:World}:KpB n₀ W A A:=⟨ff _ _,rfl⟩
def KpB.t{A B C:World}(h:KpB n₀ W A B)(k:KpB n₀ W B C):KpB n₀ W A C:=⟨h.1.trans k.1,k.2.trans h.2⟩
end
section
variable {β:Bool}
open Go.RowKit
def acN:Op->Bool
 |.move .. | .assign .. | .load .. | .slice .. | .buildSlice .. | .store .. =>true
 |.call c=>match c.callee with
  |.builtin .append=>true
  |_=>false
 |_=>false
def asG{P:Program}(h:acN o.op=true){ρ:Operand->Value}{i:Next}(d:(execOp ρ o).run P w=.ok i w'):(∃v,i=.value v)\/i=.skip:=by
 obtain⟨dst,op,j,k,after,g⟩:=o;cases op<;>simp only[acN,jn] at h
 case call c=>
  obtain⟨a,args,e⟩:=c;cases a with
  |value x=>cases h
  |invoke x n=>cases h
  |builtin b=>
   cases b<;>first
    |(exfalso;cases h;done)
    |(revert d
      simp only[execOp,resolve,invoke,builtin,tl,tK,tX];generalize (Sem.run P (Builtin.append_ _ _ _) w:Result _)=r;cases r with
      |ok v f=>simp only[Result.andThen];intro d;cases d;exact .inl ⟨_,rfl⟩
      |halt x f=>simp[Result.andThen])
 all_goals
  revert d;simp only[execOp,tl,tK]
 all_goals
  first
   |(intro d;cases d;exact .inl ⟨_,rfl⟩)
   |(generalize (Sem.run P _ w:Result _)=r
     cases r with
     |ok v f=>simp only[Result.andThen];intro d;cases d;first|exact .inl ⟨_,rfl⟩|exact .inr rfl
     |halt x f=>simp[Result.andThen])
section
variable {F:Fence} {m:Nat} {P:Program} {Q:Exit->Act->World->Prop} {md:Region.Mode} {ops:Array Oper}
def avu{r:Result Next}(e:∀b c,r=.ok b c->(∃v,b=.value v)\/b=.skip)(d:∀a w,V a w->U a w)(h:o.upon P a V Q r):o.uponIn F m P a U Q r:=by
 cases r with
 |ok b c=>
  rcases e b c rfl with⟨v,rfl⟩|rfl
  .exact d _ _ h
  .exact d _ _ h
 |halt x c=>cases x<;>first|exact h|exact h.elim
def avv(k:∀f,F.fn f)(p:∀o∈ops,acN o.op=true)(n:¬LetsOut Q){i:Nat}(j:∀a w,V a w->U a w)(h:wpOp P ops Q i V a w):wpOpIn F m P ops Q i U a w:=by
 unfold wpOp at h;unfold wpOpIn;cases e:ops[i]? with
 |none=>rw[e] at h;exact j _ _ h
 |some o=>
  rw[e] at h;have b:=p o (qw e);dsimp only at h ⊢;split
  .rename_i d;rw[dj d] at h;rcases h with h|h
   .refine⟨λf _=>k f, ?_⟩;rw[Oper.semAt_plain F _ _ (by intro c g;rw[g] at b;cases b)];exact avu (λr q l=>asG b l) j h
   .exact absurd h.2 n
  .rename_i d;rw[bd d] at h;exact⟨λf _=>k f,j _ _ h⟩
def ajT(e:∀f,F.fn f)(d:∀o∈ops,acN o.op=true)(c:¬LetsOut Q):∀(k:Nat) (b:Array Bool) (a:Act) (w:World),wpAny P md ops Q k b a w->wpAnyIn F m P md ops Q k b a w
 |0,_,_,_,h=>h
 |k+1,b,a,w,h=>⟨h.1,λi g=>avv e d c (λa w h=>ajT e d c k _ a w h) (h.2 i g)⟩
end
section
variable {F:Fence} {m:Nat} {P:Program} {Q:Exit->Act->World->Prop} {X:Type} [Nonempty X] [aW X]
def ajU (z:∀f,F.fn f) {l:List Oper} (e:(l.all λo=>acN o.op)=true) (r:¬LetsOut Q)  (to:X->World) (le:X->X->Prop) (g:∀x,le x x) (n:Nat) (d j:List Nat) (u:P.follows .mixedOrders=true) (y:ahy l n d j=true) (k:ady l.toArray n S.tmps.size=true)
  (a:X) (b:∀m,m<=n->aW.live m a) (c:∀i,i<n->aW.pend i a) (s:to a=w.drew)
  (h:wpQuiet P l.toArray (λq=>∃x,q=to x) (λv=>∃t,bE P l.toArray to le (wpList P l.toArray Q (l.drop n)) (pick l j) [] t v) ((pick l d).map (·.2)) S):(Code.region W l.toArray true).wpIn F m P Q S w:=
 wpIn_region_any u (ajT z (λo p=>kw.1 e o (by simpa using p)) r _ _ _ _ (aiW to le g n d j y k a b c s h))
def afO (q:∀f,F.fn f) {l:List Oper} (b:(l.all λo=>acN o.op)=true) (g:¬LetsOut Q)  (n:Nat) (a c:List Nat) (j:P.follows .mixedOrders=true) (p:ahy l n a c=true) (d:ady l.toArray n S.tmps.size=true)
  (h:wpQuiet P l.toArray (λe=>∃x:gC w,e=x.to) (λk=>∃i:List (ij (gC w)),bE P l.toArray (gC.to (w:=w)) (gC.le (w:=w)) (wpList P l.toArray Q (l.drop n)) (pick l c) [] i k) ((pick l a).map (·.2)) S):(Code.region W l.toArray true).wpIn F m P Q S w:=
 ajU q b g (gC.to (w:=w)) (gC.le (w:=w)) gC.le_refl n a c j p d ⟨w.drew,⟨rfl,rfl,rfl,am _,λ_ _=>rfl⟩⟩ (λ_ _=>trivial) (λ_ _=>trivial) rfl h
end
end
section
variable {β:Bool}
open Go.RowKit Go.Shelf
attribute [local go_sem] Oper.semAt_some
def Prs(l:List Nat):Nat->List (Nat×Nat)->Nat->Prop
 |a,[],b=>a=b
 |a,x::xs,b=>a<l.length/\x=(a,nW l a)/\Prs l (nW l a) xs b
def Prs.snoc{l:List Nat}:∀{a:Nat} {c:List (Nat×Nat)} {b:Nat},Prs l a c b->b<l.length->Prs l a (c++[(b,nW l b)]) (nW l b)
 |a,[],b,h,h1=>by
  have h:a=b:=h;subst h;exact⟨h1,rfl,rfl⟩
 |a,x::c,b,⟨h2,h3,h4⟩,h1=>⟨h2,h3,h4.snoc h1⟩
def Prs.len{l:List Nat}:∀{a:Nat} {c:List (Nat×Nat)} {b:Nat},Prs l a c b->a+c.length<=b
 |a,[],b,h=>by
  have h:a=b:=h;simp;omega
 |a,x::c,b,⟨h1,_,h⟩=>by
  have:=h.len;have:=(et h1).1;simp only[fm];omega
def Prs.ends{l:List Nat}:∀{a:Nat} {c:List (Nat×Nat)} {b:Nat},Prs l a c b->dn l a (c.map λx=>(x.2:Int)) b
 |a,[],b,h=>h
 |a,x::c,b,⟨h1,e,h⟩=>⟨h1,by rw[e],h.ends⟩
def dP(s:ByteArray)(xs:List (Nat×Nat)):List ByteArray:=xs.map λx=>s.extract x.1 x.2
def Prs.pieces{l:List Nat}:∀{a:Nat} {c:List (Nat×Nat)} {b:Nat},Prs l a c b->dP s c=bX s a (c.map λx=>(x.2:Int))
 |a,[],b,h=>rfl
 |a,x::c,b,⟨h1,e,h⟩=>by
  show s.extract x.1 x.2::dP s c=s.extract a (x.2:Int).toNat::bX s (x.2:Int).toNat _;rw[e,sJ,h.pieces]
def Prs.cut{xs:List (Nat×Nat)}(h:Prs (bs s) 0 xs s.size):dP s xs=fO s:=by
 rw[h.pieces,anx h.ends]
def wt(h:Below w.heap.size w w'):w.grownBy w' none:=⟨h.os,h.tape,h.output,h.size,λk a _=>h.block k a⟩
def apD {W : World} {t e:TypeId} {v' : Value} {m : Nat} {xs z:List Value}
  (A:Boxed W B t v) (n:t≠e) (d:W.ownsRow c e g v k xs) (s:n₀<=W.heap.size) (y:n₀<=c) (E:n₀<=B)
  (b:w.ownsRow c e g v' m z) (a:W.grownBy w v.ownBlock) :
  Boxed w B t v/\Boxed (w.setCell ⟨B,0,none⟩ v') B t v'/\(w.setCell ⟨B,0,none⟩ v').ownsRow c e g v' m z/\KeepsOthers W (w.setCell ⟨B,0,none⟩ v')/\Below n₀ W (w.setCell ⟨B,0,none⟩ v')/\(∀k,k<c->k<W.heap.size->k≠B->(w.setCell ⟨B,0,none⟩ v').heap[k]?=W.heap[k]?):=by
 have i:Boxed w B t v:=A.kept a (A.not_row n d);have l:∀j,v.ownBlock=some j->c<=j:=λj f=>by
  rcases d.2 with⟨rfl,_⟩|⟨g,cap,u,rfl,D,_,_⟩
  .simp[Value.ownBlock] at f
  .obtain rfl:g=j:=by simpa[Value.ownBlock] using f
   exact D
 refine⟨i,i.set v',b.kept (grownBy_setCell' w B v') (.inr (i.not_row n b).symm), ?_, ?_, ?_⟩
 .refine(vE a λj o f C=> ?_).trans (KeepsOthers.setCell _ _ _);rcases d.2 with⟨rfl,_⟩|⟨g,cap,u,rfl,_,x,_⟩
  .simp[Value.ownBlock] at f
  .obtain rfl:g=j:=by simpa[Value.ownBlock] using f
   rw[x] at C;cases C;rfl
 .exact((ff n₀ W).grown a s λj f=>da y (l j f)).setCell (p:=⟨B,0,none⟩) E v'
 .intro k F r q;exact(qs _ _ _ k q).trans (a.block k r λf=>by have:=l k f.symm;omega)
def apE(h:bJ (λb=>v.ownBlock=some b) w w'):w.grownBy w' v.ownBlock:=⟨h.os,h.tape,h.output,h.size,λk c a=>h.block k c λe=>a e.symm⟩
structure PrC (n:Nat) where
 p:Nat×Nat
 le:p.1<=p.2/\p.2<=n
abbrev ayX{n:Nat}(x:PrC n):Array Value:=#[.int .i64 x.p.1,.int .i64 x.p.2]
abbrev ma{n:Nat}(xs:List (PrC n)):List (Nat×Nat):=xs.map PrC.p
def asI (n:Nat) (hn:2<=n) (l o n₀:Nat) (s:ByteArray) (V:s.size<=1000000) (J L:List (PrC s.size)->World->Prop) (W:World) (U:AbidesFrom W.heap.size J)
  (R:∀b x W,J b W->b.length<s.size->YieldAt Fence.wide (n-1) (ah β) l (ayX x) W λe W'=>
   (e=.returned (.bool true)/\J (b++[x]) W'/\KpB n₀ o W W')\/(e=.returned (.bool false)/\L (b++[x]) W'))
  (t:Boxed W o 9 (.string s)) (P:n₀<=W.heap.size) (O:J [] W) :
  CallsIn Fence.wide n (ah β) 141 #[.func (.yield l) #[] #[],.pointer (some ⟨o,0,none⟩)] W λe W'=>(∃v,e=.returned v)/\
   ((∃N,Prs (bs s) 0 (ma N) s.size/\J N W')\/(∃b,(∃m,Prs (bs s) 0 (ma b) m)/\L b W')):=by
 refine callsIn_of_wp wW rfl trivial ?_ rfl;simp only[ntmps141,tZ,fm,me,Nat.reduceAdd,Nat.reduceSub,uF,uE,uW,uK,rm,qR];have Z:=t.lt;have T:Fence.wide.fn 142:=trivial;have Y:1<=n:=by omega
 gi_wp2
 gi_loopw [3] (λi wr=>∃(k:Nat) (f:List (PrC s.size)),k<=s.size/\i=.int .i64 k/\Prs (bs s) 0 (ma f) k/\J f wr/\KpB n₀ o W wr/\W.heap.size<=wr.heap.size) (λi _=>s.size-(intOf i).toNat)
 case atStart=>exact⟨0,[],fa _,rfl,rfl,O,KpB.refl,am _⟩
 case round=>
  obtain⟨k,f,hk,rfl,B,j,I,S⟩:=hrel;have q:Boxed wr o 9 (.string s):=I.2.trans t;have D:=q.cell;by_cases g:k<s.size
  .gi_wp2_with (gi_at_call 142;refine(callsIn_wide.2 (avt s k g V wr)).mono ?_;rintro e y ⟨rfl,z⟩)
   have p:J f y:=U f wr y none j (wt z) (λr e=>by cases e);have C:KpB n₀ o W y:=I.t ⟨z.mono (by omega),z.block o (by omega)⟩;have Q:=z.size;have w:=B.snoc (by rw[aK];exact g);have E:=et (l:=bs s) (a:=k) (by rw[aK];exact g);rw[aK] at E;obtain⟨fn,M,A,K,G,X⟩:=R f ⟨(k,nW (bs s) k),by show k<=nW (bs s) k/\nW (bs s) k<=s.size;omega⟩ y p (by have:=B.len;rw[pe] at this;omega);dsimp only[ayX] at G;rw[G];have d:Prs (bs s) 0 (ma (f++[⟨(k,nW (bs s) k),by show k<=nW (bs s) k/\nW (bs s) k<=s.size;omega⟩])) (nW (bs s) k):=by
    show Prs (bs s) 0 (List.map PrC.p (f++_)) _;rw[qJ];exact w
   replace d:=ab d;clear w p j B G I q D;gi_wp2;refine X.mono ?_;rintro e W3 (⟨rfl,F,u⟩|⟨rfl,H⟩)
   .gi_wp2;go_roundw
    case rel=>exact⟨nW (bs s) k,_,by omega,rfl,d.out,F,C.t u,by have:=u.1.size;omega⟩
    simp[intOf];omega
   .gi_wp2;refine ph (results_none rfl _ _ _) rfl ?_;exact⟨⟨_,rfl⟩,.inr ⟨_,⟨_,d.out⟩,H⟩⟩
  .obtain rfl:k=s.size:=by omega
   gi_wp2
   go_end0
   exact⟨⟨_,rfl⟩,.inl ⟨_,B,j⟩⟩
def amj(n:Nat)(k:2<=n)(a n₀:Nat)(s:ByteArray)(i:s.size<=1000000)(w:World)(b:a<w.heap.size)(c:n₀<=w.heap.size)(p:Boxed w a 9 (.string s)) :
  SeqStopsK Fence.wide n (ah β) 141 #[.pointer (some ⟨a,0,none⟩)] ayX (KpB n₀ a) (λo:List (PrC s.size)=>Prs (bs s) 0 (ma o) s.size) (λd=>∃m,Prs (bs s) 0 (ma d) m) s.size w:=λl J j W e f _ q g=>
 asI n k l a n₀ s i J j W f q ((e.block a b).trans p) (da c e.size) g
def avw(n:Nat)(s:ByteArray)(w:World) :
  CallsIn Fence.wide n (ah β) 102 #[.string s] w λe a=>e=.returned (.func (.func 141) #[] #[.pointer (some ⟨w.heap.size,0,none⟩)])/\a=w.alloc (.cells #[.string s] 9):=by
 refine callsIn_of_wp yo rfl trivial ?_ rfl;simp only[ntmps102,tZ,fm,me,Nat.reduceAdd,Nat.reduceSub,uF,uE,uW,uK,rm,qR];gi_wp2;go_ret;exact⟨rfl,rfl⟩
def apF(n:Nat)(hn:6<=n)(s:ByteArray)(C:dw s=true)(w:World) :
  CallsIn Fence.wide n (ah β) 53 #[.string s] w λe W'=>∃v,e=.returned v/\aD gS 9 W' w.heap.size v (fO s)/\Below w.heap.size w W':=by
 have h1:1<=n:=by omega
 have aa:Fence.wide.fn 51:=trivial;have aM:Fence.wide.fn 102:=trivial;have ad:s.size<=40:=by unfold dw at C;rw[fb] at C;exact sH C.1
 have G:s.size<=maxLen:=by unfold maxLen;omega
 have HS:=ab C;clear C;replace G:=ab G;refine callsIn_of_wp_marks yY rfl trivial ?_ rfl;simp only[ntmps53,tZ,fm,me,Nat.reduceAdd,Nat.reduceSub,uF,uE,uW,uK,rm,qR]
 gi_wp2_with (first|(gi_at_call 51;refine(callsIn_wide.2 (mE s G.out _)).mono ?_;rintro e w' ⟨rfl,rfl⟩;rw[HS.out])|(gi_at_call 102;refine(avw (n-1) s _).mono ?_;rintro e w' ⟨rfl,rfl⟩))
 have bS:=((Boxed.new w 9 (.string s)).alloc (.cells #[.slice none 0 0] 66)).alloc (.cells #[.string s] 9);have bO:=(Boxed.new (w.alloc (.cells #[.string s] 9)) 66 (.slice none 0 0)).alloc (.cells #[.string s] 9);have U:=Boxed.new ((w.alloc (.cells #[.string s] 9)).alloc (.cells #[.slice none 0 0] 66)) 9 (.string s);simp only[mw] at bO U;have N:Below w.heap.size w (((w.alloc (.cells #[.string s] 9)).alloc (.cells #[.slice none 0 0] 66)).alloc (.cells #[.string s] 9)):=(((ff _ w).alloc (am _) _).alloc (by simp) _).alloc (by simp;omega) _;have hz:(((w.alloc (.cells #[.string s] 9)).alloc (.cells #[.slice none 0 0] 66)).alloc (.cells #[.string s] 9)).heap.size=w.heap.size+3:=by simp
 obtain⟨W0,L⟩:∃W0,((w.alloc (.cells #[.string s] 9)).alloc (.cells #[.slice none 0 0] 66)).alloc (.cells #[.string s] 9)=W0:=⟨_,rfl⟩;try simp only[mw]
 rw[L] at bS bO U N hz ⊢;clear L;refine wpIn_rangeFunc_ownH rfl h1 (gf:=141) (lb:=#[.pointer (some ⟨w.heap.size+1+1,0,none⟩)]) rfl trivial (enters_of wW (by kernel_rfl) rfl)
  (amj (n-1) (by omega) (w.heap.size+1+1) w.heap.size s (by omega) W0 (by omega) (by omega) U) KpB.t
  (λW l o o' hl h hc hw=>⟨belowK_b (w:=w) (am _) W l o o' (by omega) h hc hw,World.putObj_heap_other (by omega)⟩) (ff _ _) (λ_=>rfl)
  (λb W=>(((∃v,Boxed W (w.heap.size+1) 66 v/\W.ownsRow W0.heap.size 9 1 v b.length (dG gS (dP s (ma b)))/\True)/\Boxed W w.heap.size 9 (.string s))/\Boxed W (w.heap.size+1+1) 9 (.string s))/\Below w.heap.size w W)
  (λ_ _ _=>False)
  (OwnFrom.and (OwnFrom.and (OwnFrom.and (Own.from (holdsRow_own W0.heap.size (w.heap.size+1) 66 9 1 (λb:List (PrC s.size)=>b.length) (λb=>dG gS (dP s (ma b))) (λ_ _=>True)) _) (Own.from (boxed_own _ _ _) _)) (Own.from (boxed_own _ _ _) _)) (ownFrom_below (am _) (by omega)))
  (λ_ _ _ _ _ C _ _=>C)
  ⟨⟨⟨⟨_,bO,uV _ _ _ _,trivial⟩,bS⟩,U⟩,N⟩
  (λx a' W=>a'={tmps:=#[.string s,.pointer (some ⟨w.heap.size,0,none⟩),.slice none 0 0,.pointer (some ⟨w.heap.size+1,0,none⟩),.int .i64 x.p.1,.int .i64 x.p.2,.string s,.bool true,.bool false,.string s,.func (.func 141) #[] #[.pointer (some ⟨w.heap.size+1+1,0,none⟩)],.int .i64 x.p.1,.int .i64 x.p.2,undef,undef,undef,undef,undef,undef,undef,undef],defers:=[]})
  (λx a' _ X Y af C hg hr=>C)
  ?assign ?body ?done ?stop
 case assign=>
  rintro l b x W K ⟨⟨⟨⟨v,f,d, -⟩,t⟩,u⟩,i⟩ O;gi_wp2;exact O _ _ ((KeepsOthers.refl _).from _) KpB.refl ⟨⟨⟨⟨v,f,d,trivial⟩,t⟩,u⟩,i⟩ rfl
 case body=>
  rintro l b x a' W hl ⟨r,hr⟩ ⟨⟨⟨⟨v,f,d, -⟩,t⟩,u⟩,i⟩ rfl al;obtain⟨⟨B,z⟩,m,q⟩:=x;dsimp only at m q ⊢;have a1:dP s (ma (b++[⟨(B,z),m,q⟩]))=dP s (ma b)++[s.extract B z]:=by simp[dP,ma]
  have cO:W.cell? ⟨w.heap.size+1,0,none⟩=some v:=f.cell;have cS:W.cell? ⟨w.heap.size,0,none⟩=some (.string s):=t.cell;have H:=adU (β:=β);have a0:=i.size;gi_wp2;have aJ:=aj cO;have aL:=aj cS;refine afO (λ_=>trivial) (by kernel_rfl) (by rintro⟨a,w,h⟩;exact h) 6 [0,1,2,3,4] [5] H (by kernel_rfl) (by kernel_rfl) ?_;simp only[pick,List.map,pa,pb];repeat(go_big_quiet_step (fail))
  refine iS ?_;clear aJ aL;apply Exists.intro;apply bN (ak0 W.heap.size 9 #[.string (s.extract B z)])
  .rfl
  .exact λv x y h a8=>h.keep a8
  .intro x _ Qx hQ;go_wp2;exact hQ _ _ (aB _ _) (ak0.new _ _ _ x.ok.size)
  intro v5;refine dD ?_;intro w2 p xx kR hF;dsimp only[iZ] at hF;try rw[kR] at hF
  clear kR xx;obtain⟨⟨g,rfl,hg,a2⟩, -⟩:=hF;simp only[List.drop];have an:=p.size;have ax:l<W.heap.size:=(dk.1 hr).1;have J:=aeB d p;have a5:Boxed w2 (w.heap.size+1) 66 v:=(p.block _ f.lt).trans f;obtain⟨A,c,rfl⟩:=jH d;refine agi (F:=gS) (base:=W0.heap.size) (v:=.slice A b.length c) (xs:=dP s (ma b)) rfl (.tmp 13) (.tmp 18) 66 rfl oM (s.extract B z) rfl (by unfold aD;rw[show(dP s (ma b)).length=b.length from by simp[dP,ma]];exact J) rfl a2 rfl (by rw[show(dP s (ma b)).length=b.length from by simp[dP,ma]];omega) (by omega) ?_;intro v3 w3 S kV a9;have ay:(dP s (ma b)++[s.extract B z]).length=(b++[(⟨(B,z),m,q⟩:PrC s.size)]).length:=by simp[dP,ma]
  unfold aD at S;rw[<-a1,show(dP s (ma (b++[⟨(B,z),m,q⟩]))).length=(b++[(⟨(B,z),m,q⟩:PrC s.size)]).length from by simp[dP,ma]] at S;obtain⟨R,Q,P,ni,a6,a4⟩:=apD (W:=w2) (n₀:=w.heap.size) a5 (by decide) J (by omega) (by omega) (by omega) S (apE kV);have aP:=R.cell;have ao:=R.frozen;obtain⟨A3,c3,rfl⟩:=jH S;go_wp2;have a7:KeepsOthers W w2:=vE (wt p) λj o ej _=>by cases ej
  have T:∀k,k<W0.heap.size->k≠w.heap.size+1->(w3.setCell ⟨w.heap.size+1,0,none⟩ (.slice A3 (b++[(⟨(B,z),m,q⟩:PrC s.size)]).length c3)).heap[k]?=W.heap[k]?:=λk hk V=>(a4 k hk (by omega) V).trans (p.block k (by omega));have I:=(p.mono a0).trans a6;simp only[ap,fm,me,ls] at Q P ni T I;refine⟨(a7.trans ni).from _,⟨I,T _ (by omega) (by omega)⟩,⟨⟨⟨_,Q, ?_,trivial⟩,(T _ (by omega) (by omega)).trans t⟩,(T _ (by omega) (by omega)).trans u⟩,i.trans I⟩;simp only[ap,fm,me,ls];exact P
 case done=>
  rintro D zs W hD a3 ⟨⟨⟨⟨v,f,d, -⟩,t⟩,u⟩,i⟩ O;have cO:=f.cell;obtain⟨A,c,rfl⟩:=jH d;gi_wp2;refine⟨by simp,.inl ⟨_,_,rfl,run_takeDeferred O, ?_⟩⟩;have Z:=belowK_b (w:=w) (am _) W D _ (.deferred none) (by omega) O rfl rfl;have E:=a3.cut;have M:(fO s).length=zs.length:=by rw[<-E];simp[dP,ma]
  refine⟨_,results_tmp rfl _ _ _,_,rfl, ?_,i.trans Z⟩;have:=ownsRow_putObj d (.deferred none) O rfl;unfold aD;rw[M,<-E];exact aiX this (by omega)
 case stop=>
  rintro D c b W _ _ h _;exact h.elim
def asJ(s:ByteArray)(a:dw s=true)(w:World) :
  Calls (ah β) 53 #[.string s] w λe W'=>∃v,e=.returned v/\aD gS 9 W' w.heap.size v (fO s)/\Below w.heap.size w W':=
 callsIn_wide.1 (apF 6 (am _) s a w)
end
section
variable {β:Bool}
open Go.RowKit
def aic{t : ByteArray}(h:s=t):(s.toList ==t.toList)=true:=by subst h;exact rV _
def amk(xs f:List ByteArray)(K N:Value)(w:World)(lo hi H P:Nat)(C:cH w lo hi xs [K])(I:cH w H P f [N])(D:hi<=w.heap.size)(E:P<=w.heap.size)(q:Bool)(j:q=true↔xs=f) :
  Calls (ah β) 52 #[K,N] w λe R=>e=.returned (.bool q)/\Below w.heap.size w R:=by
 have z:=ab j;clear j;obtain⟨A,c,rfl⟩:=C.form;obtain⟨B,d,rfl⟩:=I.form;obtain⟨_,hc,Y⟩:=C.len_;unfold maxLen at Y;go_enter yZ,ntmps52;by_cases a:xs.length=f.length
 .have W:((xs.length:Int) !=f.length)=false:=by rw[bne_eq_false_iff_eq];omega
  replace a:=ab a;go_wp2;go_loopw [13] (λi wr=>∃k:Nat,k<=xs.length/\i=.int .i64 k/\xs.take k=f.take k/\Below w.heap.size w wr) (λi _=>xs.length-(intOf i).toNat)
  case atStart=>exact⟨0,fa _,rfl,rfl,ff _ _⟩
  case round=>
   obtain⟨k,hk,rfl,g,b⟩:=hrel;have O:=ab g;clear g;by_cases u:k<xs.length
   .obtain⟨x,p⟩:=aq u;obtain⟨y,n⟩:=aq (l:=f) (k:=k) (by have:=a.out;omega);obtain⟨Z,X,rfl,_,_,T,L⟩:=iO (cH.aw.below C b D) p;obtain⟨b2,nP,rfl,_,_,U,M⟩:=iO (cH.aw.below I b E) n;have V:(k:Int)<(f.length:Int):=by have:=a.out;omega
    replace p:=ab p;replace n:=ab n;by_cases g:x=y
    .have Q:=aic g;have G:xs.take (k+1)=f.take (k+1):=by rw[mu p.out,mu n.out,O.out,g]
     replace G:=ab G;clear g;go_wp2;have F:=aj L;have v:=aj M;refine aG (by kernel_rfl) (by kernel_rfl) ?_;repeat(go_big_quiet_step (fail))
     refine iS ?_;intro S m;have j:=aN m;clear m F v;go_wp2;go_roundw
     case rel=>exact⟨k+1,by omega,by go_num,G.out,ae b j⟩
     simp[intOf];omega
    .have Q:=aaI (s:=y) (t:=x) g;have r:q=false:=by
      rw[<-lc,z.out];rintro rfl;exact g (dl (p.out.symm.trans n.out))
     have o:=ab r;clear r g;go_wp2;have F:=aj L;have v:=aj M;refine aG (by kernel_rfl) (by kernel_rfl) ?_;repeat(go_big_quiet_step (fail))
     refine iS ?_;intro S m;have j:=aN m;clear m F v;go_wp2;go_ret;exact⟨aA o.out.symm,ae b j⟩
   .obtain rfl:k=xs.length:=by omega
    have J:q=true:=by
     rw[z.out];have:=O.out
     rwa [gt,qb (by have:=a.out;omega)] at this
    have o:=ab J;clear J;go_wp2;go_ret;exact⟨aA o.out.symm,b⟩
 .have W:((xs.length:Int) !=f.length)=true:=by rw[uy];omega
  have r:q=false:=by
   rw[<-lc,z.out];rintro rfl;exact a rfl
  have o:=ab r;clear r;replace a:=ab a;go_wp2;go_ret;exact⟨aA o.out.symm,ff _ _⟩
end
section
variable {β:Bool}
open Go.RowKit
def agF{l:List ByteArray}(a:dw (qO (cX l))=true)(b:fO (qO (cX l))=l):fA l=(qO (cX l),true):=by unfold fA;rw[dj ⟨a,b⟩]
def afg{l:List ByteArray}(h:¬(dw (qO (cX l))=true/\fO (qO (cX l))=l)):fA l=(⟨#[]⟩,false):=by unfold fA;rw[bd h]
def an0(l:List ByteArray)(b:∀s∈l,aQ (bs s)):(qO (cX l)).size<=8*l.length:=by
 rw[<-aK,aey (ld l),<-agE,pe];exact acM λs a=>(dN (b s a)).2
def apG(l:List ByteArray)(o:∀s∈l,aQ (bs s))(I:l.length<=2147483647)(v:Value)(w:World)(lo hi:Nat)(h:cH w lo hi l [v])(z:hi<=w.heap.size) :
  Calls (ah β) 27 #[v] w λe C=>e=.returned (.tuple #[.string (fA l).1,.bool (fA l).2])/\Below w.heap.size w C:=by
 have n:=an0 l o;have f:(qO (cX l)).size<=maxLen:=by unfold maxLen;omega
 have p:=ab (λG D=>agF (l:=l) G D);have i:=ab (afg (l:=l));have y:=ab (ayV (β:=β) l o I v w lo hi h z);clear o;generalize qO (cX l)=s at p i y n f;generalize fA l=r at p i ⊢;go_enter zA,ntmps27;go_wp2;refine y.out.mono ?_;rintro e A ⟨rfl,g⟩;go_wp2;refine(mE (β:=β) s f _).mono ?_;rintro e N ⟨rfl,rfl⟩;by_cases a:dw s=true
 .rw[a];go_wp2;refine(asJ (β:=β) s a _).mono ?_;rintro e M ⟨E,rfl,H,k⟩;have m:∀x∈fO s,x.size<=maxLen:=λx j=>by have:=(dN (jg (fD a).2 x j)).2;unfold maxLen;omega
  have B:=acn.sl (aD.deep H m A.heap.size) (am _);have F:=k.size;have u:=g.size;have K:=cH.aw.below h (g.trans (k.mono u)) z;obtain⟨q,d⟩:∃q:Bool,q=true↔fO s=l:=by
   by_cases j:fO s=l
   .exact⟨true,by simp[j]⟩
   .exact⟨false,by simp[j]⟩
  replace d:=ab d;go_wp2;refine(amk (β:=β) (fO s) l E v _ _ _ lo hi B K (am _) (by omega) q d.out).mono ?_;rintro e L ⟨rfl,J⟩;have c:=g.trans ((k.mono u).trans (J.mono (by omega)));cases q with
  |true=>
   have b:=p.out a (d.out.1 rfl);go_wp2;go_ret2;exact⟨by rw[b];rfl,c⟩
  |false=>
   have b:=i.out λt=>by have:=d.out.2 t.2;cases this
   go_wp2;go_ret2;exact⟨by rw[b];rfl,c⟩
 .have b:=i.out λt=>a t.1;rw[uX.2 a];go_wp2;go_ret2;exact⟨by rw[b];rfl,g⟩
end
section
variable {β:Bool}
open Go.RowKit
def aml{l:List ByteArray}{x:ByteArray}(h:l[k]?=some x):cX (l.take (k+1))=cX (l.take k)++bs x:=by
 rw[mu h];unfold cX;rw[qT];simp
def avx{l:List ByteArray}{x:ByteArray}(h:l[k]?=some x):qO (cX (l.take k))++x=qO (cX (l.take (k+1))):=jb (by rw[gh,aey (ld _),aey (ld _),aml h])
def asK(l:List ByteArray):(qO (cX l)).size=(cX l).length:=by rw[<-aK,aey (ld l)]
def asL(l:List ByteArray)(k:Nat):(cX (l.take k)).length<=(cX l).length:=by
 have e:cX l=cX (l.take k)++cX (l.drop k):=by
  unfold cX;rw[<-qT,sA]
 rw[e,ap];omega
def amm{l:List ByteArray}(h:40<(qO (cX (l.take k))).size):fA l=(⟨#[]⟩,false):=afg λb=>by
 have a:=(fD b.1).1;have c:=asL l k;rw[asK] at h a;omega
def amn(xs f:List ByteArray)(K N:Value)(w:World)(lo hi H P:Nat)(C:cH w lo hi xs [K])(I:cH w H P f [N])(D:hi<=w.heap.size)(E:P<=w.heap.size)(q:Bool)(j:q=true↔xs=f) :
  Calls (ah β) 76 #[K,N] w λe R=>e=.returned (.bool q)/\Below w.heap.size w R:=by
 have z:=ab j;clear j;obtain⟨A,c,rfl⟩:=C.form;obtain⟨B,d,rfl⟩:=I.form;obtain⟨_,hc,Y⟩:=C.len_;unfold maxLen at Y;go_enter yG,ntmps76;by_cases a:xs.length=f.length
 .have W:((xs.length:Int) !=f.length)=false:=by rw[bne_eq_false_iff_eq];omega
  replace a:=ab a;go_wp2;go_loopw [5] (λi wr=>∃k:Nat,k<=xs.length/\i=.int .i64 k/\xs.take k=f.take k/\Below w.heap.size w wr) (λi _=>xs.length-(intOf i).toNat)
  case atStart=>exact⟨0,fa _,rfl,rfl,ff _ _⟩
  case round=>
   obtain⟨k,hk,rfl,g,b⟩:=hrel;have O:=ab g;clear g;by_cases u:k<xs.length
   .obtain⟨x,p⟩:=aq u;obtain⟨y,n⟩:=aq (l:=f) (k:=k) (by have:=a.out;omega);obtain⟨Z,X,rfl,_,_,T,L⟩:=iO (cH.aw.below C b D) p;obtain⟨b2,nP,rfl,_,_,U,M⟩:=iO (cH.aw.below I b E) n;have V:(k:Int)<(f.length:Int):=by have:=a.out;omega
    replace p:=ab p;replace n:=ab n;by_cases g:x=y
    .have Q:=aic g;have G:xs.take (k+1)=f.take (k+1):=by rw[mu p.out,mu n.out,O.out,g]
     replace G:=ab G;clear g;go_wp2;have F:=aj L;have v:=aj M;refine aG (by kernel_rfl) (by kernel_rfl) ?_;repeat(go_big_quiet_step (fail))
     refine iS ?_;intro S m;have j:=aN m;clear m F v;go_wp2;go_roundw
     case rel=>exact⟨k+1,by omega,by go_num,G.out,ae b j⟩
     simp[intOf];omega
    .have Q:=aaI (s:=y) (t:=x) g;have r:q=false:=by
      rw[<-lc,z.out];rintro rfl;exact g (dl (p.out.symm.trans n.out))
     have o:=ab r;clear r g;go_wp2;have F:=aj L;have v:=aj M;refine aG (by kernel_rfl) (by kernel_rfl) ?_;repeat(go_big_quiet_step (fail))
     refine iS ?_;intro S m;have j:=aN m;clear m F v;go_wp2;go_ret;exact⟨aA o.out.symm,ae b j⟩
   .obtain rfl:k=xs.length:=by omega
    have J:q=true:=by
     rw[z.out];have:=O.out
     rwa [gt,qb (by have:=a.out;omega)] at this
    have o:=ab J;clear J;go_wp2;go_ret;exact⟨aA o.out.symm,b⟩
 .have W:((xs.length:Int) !=f.length)=true:=by rw[uy];omega
  have r:q=false:=by
   rw[<-lc,z.out];rintro rfl;exact a rfl
  have o:=ab r;clear r;replace a:=ab a;go_wp2;go_ret;exact⟨aA o.out.symm,ff _ _⟩
def amo(l:List ByteArray)(u:∀s∈l,aQ (bs s))(hl:l.length<=2147483647)(v:Value)(w:World)(lo hi:Nat)(h:cH w lo hi l [v])(F:hi<=w.heap.size) :
  Calls (ah β) 43 #[v] w λe H=>e=.returned (.tuple #[.string (fA l).1,.bool (fA l).2])/\Below w.heap.size w H:=by
 obtain⟨A,c,rfl⟩:=h.form;obtain⟨_,Y,E⟩:=h.len_;unfold maxLen at E;replace u:=ab u;go_enter ze,ntmps43;go_wp2;go_loopw [4,5] (λS i wr=>∃k:Nat,k<=l.length/\i=.int .i64 k/\S=.string (qO (cX (l.take k)))/\Below w.heap.size w wr) (λ_ i _=>l.length-(intOf i).toNat)
 case atStart=>exact⟨0,fa _,rfl,rfl,ff _ _⟩
 case round=>
  obtain⟨k,X,rfl,rfl,a⟩:=hrel;by_cases z:k<l.length
  .obtain⟨x,t⟩:=aq z;obtain⟨V,P,rfl,_,_,N,Z⟩:=iO (cH.aw.below h a F) t;have nQ:=(dN (u.out x (be t))).2;have j:=avx t;have HST:=ab j;have o:=λr=>amm (l:=l) (k:=k) r;have d:=ab o;clear j o t;revert HST d;generalize qO (cX (l.take k))=s;intro HST d;by_cases hs:s.size<=40
   .go_wp2;go_roundw
    case rel=>exact⟨k+1,by omega,by go_num,by rw[HST.out],a⟩
    simp[intOf];omega
   .have I:=ab (d.out (by omega));go_wp2;go_ret2;rw[I.out];exact⟨rfl,a⟩
  .obtain rfl:k=l.length:=by omega
   rw[gt];have p:=an0 l u.out;have b:(qO (cX l)).size<=maxLen:=by unfold maxLen;omega
   have D:=ab (λM J=>agF (l:=l) M J);have y:=ab (afg (l:=l));revert D y b p;generalize qO (cX l)=s;intro p b D y;go_wp2;refine(jc (β:=β) s b _).mono ?_;rintro e w2 ⟨rfl,rfl⟩;by_cases f:dw s=true
   .rw[f];go_wp2;refine(acC (β:=β) s (by have:=(fD f).1;omega) _).mono ?_;rintro e W ⟨K,rfl,O,B⟩;have C:∀x∈fO s,x.size<=maxLen:=λx E=>by have:=(dN (jg (fD f).2 x E)).2;unfold maxLen;omega
    have G:=acn.sl (aD.deep O C wr.heap.size) (am _);have L:=B.size;have T:=a.size;have R:=cH.aw.below h (ae a B) F;obtain⟨q,n⟩:=jv (fO s=l);replace n:=ab n;go_wp2;refine(amn (β:=β) (fO s) l K _ _ _ _ lo hi G R (am _) (by omega) q n.out).mono ?_;rintro e U ⟨rfl,Q⟩;have m:=ae a (ae B Q);cases q with
    |true=>
     have g:=D.out f (n.out.1 rfl);go_wp2;go_ret2;exact⟨by rw[g];rfl,m⟩
    |false=>
     have g:=y.out λr=>by have:=n.out.2 r.2;cases this
     go_wp2;go_ret2;exact⟨by rw[g];rfl,m⟩
   .have g:=y.out λr=>f r.1;rw[uX.2 f];go_wp2;go_ret2;exact⟨by rw[g];rfl,a⟩
end
section
variable {β:Bool}
open Go.RowKit
def mb:∀(a b:List UInt8),(Op.bytesLess a b||a ==b)=!(Op.bytesLess b a)
 |[],[]=>by simp[Op.bytesLess]
 |[],_::_=>by simp[Op.bytesLess]
 |_::_,[]=>by simp[Op.bytesLess]
 |x::a,y::b=>by
  have j:=mb a b;by_cases i:x.toNat<y.toNat
  .have c:decide (x<y)=true:=de (rv.2 i);have g:decide (y<x)=false:=bv λh=>by have:=rv.1 h;omega
   have d:(y ==x)=false:=dq.2 λh=>by rw[h] at i;omega
   simp[Op.bytesLess,c,g,d]
  .by_cases e:y.toNat<x.toNat
   .have c:decide (y<x)=true:=de (rv.2 e);have g:decide (x<y)=false:=bv λh=>by have:=rv.1 h;omega
    have d:(x ==y)=false:=dq.2 λh=>by rw[h] at e;omega
    have f:(x::a ==y::b)=false:=dq.2 λh=>by rw[pZ] at h;rw[h.1] at e;omega
    rw[f];simp[Op.bytesLess,c,g,d]
   .obtain rfl:x=y:=sq.1 (by omega);have c:decide (x<x)=false:=bv λh=>by have:=rv.1 h;omega
    have f:(x::a ==x::b)=(a ==b):=by rw[List.cons_beq_cons,rV,uj]
    rw[f];simp only[Op.bytesLess,c,uk,rV,uj];exact j
def agG(s:ByteArray):bs s=s.toList.map UInt8.toNat:=by rw[qx];rfl
def jO(h:k<s.size):s.toList[k]?=some (s[k]'h):=by
 rw[qx,du];exact ge h
def lh(s:ByteArray):s.toList.length=s.size:=by rw[qx,qU];rfl
def agH(h:gG s=true):(∃a,s.toList=[a])\/∃a c,s.toList=[a,47,c]:=by
 have e:=lh s;unfold gG at h;split at h
 .rename_i i;left;rw[i] at e;obtain⟨a,g⟩:=th.1 e;exact⟨a,g⟩
 .split at h
  .rename_i j;right;simp only[fb,qG] at h;have d:=jO (s:=s) (k:=1) (by omega);have f:s[1]'(by omega)=47:=sq.1 (by rw[h.2.1];rfl);rw[f] at d;rw[j] at e
   match hs:s.toList,e,d with
   |[a,b,c],_,d=>
    simp at d;subst d;exact⟨a,c,rfl⟩
  .cases h
def amp{g : ByteArray}{a b:UInt8}{x y:List UInt8}(j:g.toList=a::x)(e:f.toList=b::y):je g f=(decide (x.length≠y.length)&&(a ==b)):=by
 have lg:=lh g;have i:=lh f;rw[j] at lg;rw[e] at i;simp only[fm] at lg i;have c:=jO (s:=g) (k:=0) (by omega);have d:=jO (s:=f) (k:=0) (by omega);rw[j] at c;rw[e] at d;simp only[sV,lw] at c d;unfold je;rw[tk ⟨by omega,by omega⟩];by_cases h:g.size=f.size
 .rw[dj h,bv (by omega),tT]
 .rw[bd h,de (by omega),uj,<-c,<-d,qh,mp,mp,<-sq];omega
def agI{g : ByteArray}(n:gG g=true)(m:gG f=true)(k:Op.bytesLess g.toList f.toList=true):aac g f=je g f:=by
 have e:aac g f=(g.toList++[47]).isPrefixOf f.toList:=by
  unfold aac;rw[agG,agG];generalize g.toList=x;generalize f.toList=y;have l:([47]:List Nat)=[(47:UInt8)].map UInt8.toNat:=rfl;rw[l,<-qJ];generalize x++[47]=x
  induction x generalizing y with
  |nil=>rfl
  |cons a x o=>
   cases y with
   |nil=>rfl
   |cons b y=>
    simp only[qN,List.isPrefixOf_cons₂,o]
    congr 1
    rw[qh,mp,mp,sq]
 rw[e];rcases agH n with⟨a,i⟩|⟨a,c,i⟩<;>rcases agH m with⟨b,j⟩|⟨b,d,j⟩<;>rw[amp i j,i,j]
 .simp[List.isPrefixOf]
 .simp[List.isPrefixOf]
 .rw[i,j] at k;have:(a ==b)=false:=by
   simp[Op.bytesLess] at k;exact dq.2 λh=>by rw[h,rv] at k;omega
  simp[List.isPrefixOf,this]
 .simp[List.isPrefixOf]
def acO{t:List Nd}:agB t↔ago t:=by
 unfold agB ago anz;constructor
 .rintro⟨d,h⟩;refine⟨d,λi x a=>⟨(h i x a).1,(h i x a).2.1,λk y c b=> ?_⟩⟩;rw[<-agI (h k y b).1.1 (h i x a).1.1 (adT (λi x a=>(h i x a).2.1) (i-k-1) k (by rw[show k+(i-k-1)+1=i by omega];exact a) b)];exact(h i x a).2.2 k y c b
 .rintro⟨d,h⟩;refine⟨d,λi x a=>⟨(h i x a).1,(h i x a).2.1,λk y c b=> ?_⟩⟩;rw[agI (h k y b).1.1 (h i x a).1.1 (adT (λi x a=>(h i x a).2.1) (i-k-1) k (by rw[show k+(i-k-1)+1=i by omega];exact a) b)];exact(h i x a).2.2 k y c b
end
section
variable {β:Bool}
open Go.RowKit
def ajV(s:ByteArray)(w:World) :
  Calls (ah β) 171 #[.string s,.int .u8 47] w λe a=>e=.returned (.int .i64 (Lib.indexByte s.data.toList 47))/\w=a:=by
 go_enter xK,ntmps171;go_wp2;rw[run_callFunc_extern xH (by kernel_rfl) (by kernel_rfl) (by kernel_rfl) (e:=Extern.BytealgIndexByte.indexByte) (by kernel_rfl),Lib.run_indexByteString];simp only[Result.andThen];rw[Oper.upon_value];go_wp2;go_ret;exact⟨rfl,rfl⟩
noncomputable def amq:Code:=gP (f161.body.getD .skip)
def aC5:Code->Code
 |.seq a _=>a
 |c=>c
def asN:Code->Code
 |.cond _ _ b=>b
 |c=>c
def ayY:Code->Code
 |.block _ b=>b
 |c=>c
noncomputable def aBa:Code:=cj (cj (cj amq))
noncomputable def aBb:Code:=asN (cj (asN (cj (ayY (aC5 (cj (cj amq)))))))
noncomputable def xIx:Func:={f161 with body:=some ((Code.region 0 #[⟨some 4,Op.assign (Operand.const (Value.int IntKind.i64 0)),3,"strings.go:28",#[],none⟩] false).seq ((Code.region 1 #[⟨some 14,Op.move (Operand.tmp 1),9,"strings.go:29",#[],none⟩,⟨some 15,Op.call ⟨Callee.builtin Builtin.len,#[Operand.tmp 14],#[9]⟩,3,"strings.go:29",#[⟨0,Ground.data⟩],none⟩,⟨some 5,Op.assign (Operand.tmp 15),3,"strings.go:29",#[⟨1,Ground.data⟩,⟨0,Ground.phase⟩,⟨1,Ground.phase⟩],none⟩] false).seq ((Code.block 0 ((Code.region 2 #[⟨some 17,Op.move (Operand.tmp 5),3,"strings.go:31",#[],none⟩,⟨some 18,Op.binOp BinOp.eql 3 (Operand.tmp 17) (Operand.const (Value.int IntKind.i64 0)) 3,4,"strings.go:31",#[⟨0,Ground.data⟩],none⟩,⟨some 19,Op.move (Operand.tmp 18),4,"strings.go:31",#[⟨1,Ground.data⟩],none⟩,⟨some 20,Op.move (Operand.tmp 1),9,"strings.go:31",#[⟨2,Ground.guard⟩],some (2,false)⟩,⟨some 21,Op.move (Operand.tmp 0),9,"strings.go:31",#[⟨2,Ground.guard⟩],some (2,false)⟩,⟨some 22,Op.binOp BinOp.eql 9 (Operand.tmp 20) (Operand.tmp 21) 9,4,"strings.go:31",#[⟨3,Ground.data⟩,⟨4,Ground.data⟩,⟨2,Ground.guard⟩],some (2,false)⟩,⟨some 23,Op.pick (Operand.tmp 19) (Operand.const (Value.bool true)) (Operand.tmp 22),4,"strings.go:31",#[⟨2,Ground.data⟩,⟨5,Ground.data⟩],none⟩,⟨some 16,Op.assign (Operand.tmp 23),4,"strings.go:31",#[⟨6,Ground.data⟩,⟨2,Ground.chain⟩],none⟩] false).seq (Code.cond (Operand.tmp 16) ((Code.region 3 #[⟨some 4,Op.assign (Operand.const (Value.int IntKind.i64 0)),3,"strings.go:32",#[],none⟩] false).seq Code.ret) ((Code.region 4 #[⟨some 25,Op.move (Operand.tmp 5),3,"strings.go:33",#[],none⟩,⟨some 26,Op.binOp BinOp.eql 3 (Operand.tmp 25) (Operand.const (Value.int IntKind.i64 1)) 3,4,"strings.go:33",#[⟨0,Ground.data⟩],none⟩,⟨some 24,Op.assign (Operand.tmp 26),4,"strings.go:33",#[⟨1,Ground.data⟩],none⟩] false).seq (Code.cond (Operand.tmp 24) ((Code.region 5 #[⟨some 27,Op.move (Operand.tmp 0),9,"strings.go:34",#[],none⟩,⟨some 28,Op.move (Operand.tmp 1),9,"strings.go:34",#[],none⟩,⟨some 29,Op.index 9 (Operand.tmp 28) (Operand.const (Value.int IntKind.i64 0)),5,"strings.go:34",#[⟨1,Ground.data⟩],none⟩,⟨some 30,Op.call ⟨Callee.value (Operand.func 171),#[Operand.tmp 27,Operand.tmp 29],#[9,5]⟩,3,"strings.go:34",#[⟨0,Ground.data⟩,⟨2,Ground.data⟩],none⟩,⟨some 4,Op.assign (Operand.tmp 30),3,"strings.go:34",#[⟨3,Ground.data⟩,⟨3,Ground.chain⟩,⟨0,Ground.phase⟩,⟨1,Ground.phase⟩,⟨2,Ground.phase⟩,⟨3,Ground.phase⟩],none⟩] false).seq Code.ret) aBb))))).seq aBa)))}
def asO:f161.body.map gP=xIx.body:=by
 unfold xIx aBb aBa amq gP
 kernel_rfl
def amr:(ah β).funcs[161]?=some xIx:=by
 refine(akR β (by decide) (by decide)).trans ?_;have e:Option.map pf (prog.funcs[161]?)=Option.map pf (some f161):=gc _ func161;rw[e,qf];unfold pf;rw[asO];rfl
@[go_sem] theorem aBc(args:Array Value)(w:World):(callFunc 161 args).run (ah β) w=.ok (.enter 161 args) w:=by
 have a:=cK func161;exact kS amr a rfl args w
def avy(s:ByteArray)(w:World) :
  Calls (ah β) 161 #[.string s,.string ⟨#[47]⟩] w λe g=>e=.returned (.int .i64 (Lib.indexByte s.data.toList 47))/\w=g:=by
 have d:xIx.ntmps=143:=ntmps161;have c:xIx.results=#[.tmp 4]:=results161;by_cases a:s.toList=[47]
 .have f:([47] ==s.toList)=true:=by rw[a];rfl
  have b:Lib.indexByte s.data.toList 47=0:=by
   rw[show s.data.toList=s.toList by rw[qx],a];rfl
  replace b:=ab b;clear a;go_enter amr,d;go_wp2;exact ph (v:=.int .i64 0) (by simp[results,c,go_sem]) rfl ⟨by rw[b.out],rfl⟩
 .have f:([47] ==s.toList)=false:=dq.2 λe=>a e.symm;clear a;go_enter amr,d;go_wp2;refine(ajV s w).mono ?_;rintro e i ⟨rfl,rfl⟩;go_wp2;exact ph (v:=.int .i64 (Lib.indexByte s.data.toList 47)) (by simp[results,c,go_sem]) rfl ⟨rfl,rfl⟩
open Classical in
noncomputable def dm(s:ByteArray):ByteArray×ByteArray×Bool:=if Lib.indexByte s.data.toList 47<0 then(s,⟨#[]⟩,false) else(s.extract 0 (Lib.indexByte s.data.toList 47).toNat,s.extract ((Lib.indexByte s.data.toList 47).toNat+1) s.size,true)
def ajW(s:ByteArray):Lib.indexByte s.data.toList 47=-1\/∃k:Nat,Lib.indexByte s.data.toList 47=k/\k<s.size:=by
 rcases Int.lt_or_le (Lib.indexByte s.data.toList 47) 0 with h|h
 .left;have:=Lib.indexByte_ge s.data.toList 47;omega
 .right;obtain⟨k,a⟩:=qi h;refine⟨k,a, ?_⟩;have:=aH (Lib.indexByte_some a).1;rw[qU] at this;exact this
def ayZ(s:ByteArray)(j:s.size<=maxLen)(w:World) :
  Calls (ah β) 143 #[.string s,.string ⟨#[47]⟩] w λe g=>e=.returned (.tuple #[.string (dm s).1,.string (dm s).2.1,.bool (dm s).2.2])/\Below w.heap.size w g:=by
 unfold maxLen at j;have HC:=ab (avy (β:=β) s w);rcases ajW s with h|⟨k,h,n⟩
 .have a:dm s=(s,⟨#[]⟩,false):=by unfold dm;rw[dj (by omega)]
  have b:=ab a;clear a;rw[h] at HC;clear h;go_enter wV,ntmps143;go_wp2;refine HC.out.mono ?_;rintro e f ⟨rfl,rfl⟩;go_wp2
  go_ret3
  rw[b.out];exact⟨rfl,ff _ _⟩
 .have a:dm s=(s.extract 0 k,s.extract (k+1) s.size,true):=by unfold dm;rw[bd (by omega),h];rfl
  have b:=ab a;clear a;rw[h] at HC;have m:=de (show 0<=(k:Int) by omega);clear h;go_enter wV,ntmps143;go_wp2;refine HC.out.mono ?_;rintro e f ⟨rfl,rfl⟩;go_wp2;refine bB 12 [0,1,2,3,4,5,6,7,8,9,10,11] [] (h:= ?_);simp only[pick,List.map,pa,pb];repeat(go_big_quiet_step (fail))
  refine iS ?_;apply Exists.intro;refine dD ?_;intro o l i d c;dsimp only[iZ] at c;try rw[d] at c
  clear d i;simp only[List.drop];clear c;go_wp2
  go_ret3
  rw[b.out];exact⟨rfl,l⟩
def aBd(s:ByteArray)(c:s.size<=maxLen)(w:World) :
  Calls (ah β) 103 #[.string s,.string ⟨#[47]⟩] w λe a=>e=.returned (.tuple #[.string (dm s).1,.string (dm s).2.1,.bool (dm s).2.2])/\Below w.heap.size w a:=by
 go_enter yn,ntmps103;go_wp2;refine(ayZ s c w).mono ?_;rintro e d ⟨rfl,b⟩;go_wp2
 go_ret3
 exact⟨rfl,b⟩
def ab3(s:ByteArray):Bool:=if h:s.size=1 then nm (s[0]'(by omega)).toNat else false
def oX(s:ByteArray)(m:s.size<=maxLen)(w:World) :
  Calls (ah β) 104 #[.string s] w λe l=>e=.returned (.bool (ab3 s))/\w=l:=by
 unfold maxLen at m;by_cases d:s.size=1
 .have a:0<s.size:=by omega
  have k:((s.size:Int) ==1)=true:=by rw[d];rfl
  have b:ab3 s=nm (s[0]'a).toNat:=by unfold ab3;rw[tk d]
  rw[b];clear b;by_cases g:97<=(s[0]'a).toNat
  .by_cases i:(s[0]'a).toNat<=101
   .have e:nm (s[0]'a).toNat=true:=by unfold nm;rw[de g,de i];rfl
    have c:=ab e;clear e;have j:=de (show((s[0]'a).toNat:Int)<=101 by omega);have f:=de (show 97<=((s[0]'a).toNat:Int) by omega);go_enter wm,ntmps104;go_wp2;go_ret;exact⟨by rw[c.out];rfl,rfl⟩
   .have e:nm (s[0]'a).toNat=false:=by unfold nm;rw[bv i,Bool.and_false]
    have c:=ab e;clear e;have j:=bv (show ¬(((s[0]'a).toNat:Int)<=101) by omega);have f:=de (show 97<=((s[0]'a).toNat:Int) by omega);go_enter wm,ntmps104;go_wp2;go_ret;exact⟨by rw[c.out];rfl,rfl⟩
  .have e:nm (s[0]'a).toNat=false:=by unfold nm;rw[bv g,tT]
   have c:=ab e;clear e;have f:=bv (show ¬(97<=((s[0]'a).toNat:Int)) by omega);go_enter wm,ntmps104;go_wp2;go_ret;exact⟨by rw[c.out];rfl,rfl⟩
 .have k:((s.size:Int) ==1)=false:=dq.2 (by omega);have b:ab3 s=false:=by unfold ab3;rw[dif_neg d]
  have n:=ab b;clear b;go_enter wm,ntmps104;go_wp2;go_ret;exact⟨by rw[n.out];rfl,rfl⟩
def acP :ab3 s=match s.toList with|[a]=>nm a.toNat|_=>false:=by
 have c:=lh s;unfold ab3;split
 .rename_i h;rw[h] at c;obtain⟨a,d⟩:=th.1 c;have:=jO (s:=s) (k:=0) (by omega);rw[d] at this ⊢;simp only[sV,lw] at this;rw[<-this]
 .rename_i h
  match hs:s.toList,c with
  |[],_=>rfl
  |[a],c=>exact absurd c.symm h
  |a::b::l,_=>rfl
def afh :gG s=match s.toList with|[a]=>nm a.toNat|[a,b,c]=>nm a.toNat&&(decide (b=47)&&nm c.toNat)|_=>false:=by
 have e:=lh s;unfold gG;split
 .rename_i h;rw[h] at e;obtain⟨a,m⟩:=th.1 e;have:=jO (s:=s) (k:=0) (by omega);rw[m] at this ⊢;simp only[sV,lw] at this;rw[<-this]
 .rename_i n;split
  .rename_i j;have i:=jO (s:=s) (k:=0) (by omega);have g:=jO (s:=s) (k:=1) (by omega);have f:=jO (s:=s) (k:=2) (by omega)
   match hs:s.toList,e,i,g,f with
   |[a,b,c],_,i,g,f=>
    simp at i g f;show _=(nm a.toNat&&(decide (b=47)&&nm c.toNat));rw[i,g,f]
    congr 2
    rw[uo,<-sq];exact Iff.rfl
   |[],e,_,_,_=>simp at e;omega
   |[a],e,_,_,_=>simp at e;omega
   |[a,b],e,_,_,_=>simp at e;omega
   |a::b::c::d::l,e,_,_,_=>simp at e;omega
  .rename_i j
   match hs:s.toList,e with
   |[],_=>rfl
   |[a],e=>exact absurd e.symm n
   |[a,b],_=>rfl
   |[a,b,c],e=>exact absurd e.symm j
   |a::b::c::d::l,_=>rfl
def ajX(s:ByteArray)(a b:Nat):(s.extract a b).toList=(s.toList.take b).drop a:=by
 rw[qx,qx,vF,tz,vd,List.take_drop];by_cases h:a<=b
 .congr 2;omega
 .have:b-a=0:=by omega
  rw[this,rh (by simp;omega),rh (by simp;omega)]
def ajY(s:ByteArray):gG s=(ab3 (dm s).1&&(!(dm s).2.2||ab3 (dm s).2.1)):=by
 have hd:s.data.toList=s.toList:=by rw[qx]
 rcases ajW s with h|⟨k,h,f⟩
 .have i:dm s=(s,⟨#[]⟩,false):=by unfold dm;rw[dj (by omega)]
  rw[i];show _=(ab3 s&&true);rw[ul,acP,afh];have m:=Lib.indexByte_none h;rw[hd] at m
  match hs:s.toList with
  |[]=>rfl
  |[a]=>rfl
  |[a,b]=>rfl
  |[a,b,c]=>
   have:=m 1;rw[hs] at this;have j:b≠47:=by simpa using this
   show(nm a.toNat&&(decide (b=47)&&nm c.toNat))=false;rw[bv j];simp
  |a::b::c::d::l=>rfl
 .have i:dm s=(s.extract 0 k,s.extract (k+1) s.size,true):=by unfold dm;rw[bd (by omega),h];rfl
  rw[i];show _=(ab3 (s.extract 0 k)&&(false||ab3 (s.extract (k+1) s.size)));rw[uk,acP,acP,ajX,ajX,afh,qV,<-lh,gt];obtain⟨e,g⟩:=Lib.indexByte_some h;rw[hd] at e g;rw[<-lh] at f
  match hs:s.toList,k,e,g,f with
  |[],_,_,_,f=>simp at f
  |[a],0,e,_,_=>
   simp at e;subst e;rfl
  |[a],k+1,_,_,f=>simp at f
  |[a,b],0,_,_,_=>rfl
  |[a,b],1,_,_,_=>simp
  |[a,b],k+2,_,_,f=>simp at f;omega
  |[a,b,c],0,e,_,_=>
   simp at e;subst e;rfl
  |[a,b,c],1,e,_,_=>
   simp at e;subst e;simp
  |[a,b,c],2,e,g,_=>
   have:=g 1 (by omega);have j:b≠47:=by simpa using this
   simp[j]
  |[a,b,c],k+3,_,_,f=>simp at f;omega
  |a::b::c::d::l,0,_,_,_=>rfl
  |a::b::c::d::l,1,_,_,_=>simp
  |a::b::c::d::l,k+2,_,_,_=>simp
def oY(s:ByteArray)(j:s.size<=maxLen)(w:World) :
  Calls (ah β) 54 #[.string s] w λe l=>e=.returned (.bool (gG s))/\Below w.heap.size w l:=by
 have d:(dm s).1.size<=maxLen/\(dm s).2.1.size<=maxLen:=by
  unfold dm;split
  .exact⟨j,fa _⟩
  .refine⟨?_, ?_⟩
   .show(s.extract _ _).size<=_;rw[<-aK,cI,pX,fi,aK];omega
   .show(s.extract _ _).size<=_;rw[<-aK,cI,pX,fi,aK];omega
 have c:=ab (ajY s);have HC:=ab (aBd (β:=β) s j w);clear j;generalize dm s=r at c HC d;obtain⟨a,b,q⟩:=r;dsimp only at c HC d;have n:=ab d.1;have m:=ab d.2;clear d;go_enter yX,ntmps54;go_wp2;refine HC.out.mono ?_;rintro e k ⟨rfl,g⟩;go_wp2;refine(oX a n.out k).mono ?_;rintro e o ⟨rfl,rfl⟩;cases i:ab3 a
 .rw[i] at c;clear i;go_wp2;go_ret;exact⟨by rw[c.out];simp,g⟩
 .rw[i] at c;clear i;cases q
  .go_wp2;go_ret;exact⟨by rw[c.out];simp,g⟩
  .go_wp2;refine(oX b m.out k).mono ?_;rintro e o ⟨rfl,rfl⟩;cases f:ab3 b<;>rw[f] at c<;>clear f
   .go_wp2;go_ret;exact⟨by rw[c.out];simp,g⟩
   .go_wp2;go_ret;exact⟨by rw[c.out];simp,g⟩
end
section
variable {β:Bool}
open Go.RowKit
def avz(p s:ByteArray):(bs p).isPrefixOf (bs s)=true↔p.size<=s.size/\s.extract 0 p.size=p:=by
 rw[List.isPrefixOf_iff_prefix,List.prefix_iff_eq_take,aK];constructor
 .intro h;have a:=gc List.length h;rw[fi,aK,aK] at a;exact⟨by omega,jb (by rw[cI,qV];exact h.symm)⟩
 .rintro⟨-,h⟩;have:=gc bs h;rw[cI,qV] at this;exact this.symm
def aid(s p:ByteArray)(m:s.size<=100)(l:p.size<=100)(w:World)(q:Bool)(g:q=(bs p).isPrefixOf (bs s)) :
  Calls (ah β) 106 #[.string s,.string p] w λe k=>e=.returned (.bool q)/\w=k:=by
 have c:q=true↔p.size<=s.size/\s.extract 0 p.size=p:=by rw[g,avz]
 replace c:=ab c;clear g;by_cases f:p.size<=s.size
 .have j:decide (p.size<=s.size)=true:=de f;by_cases b:s.extract 0 p.size=p
  .have i:=aic b;have a:q=true:=c.out.2 ⟨f,b⟩;have d:=ab a;clear a b;go_enter wH,ntmps106;go_wp2;go_ret;exact⟨by rw[d.out];rfl,rfl⟩
  .have i:=aaI (s:=p) (t:=s.extract 0 p.size) b;have a:q=false:=by
    rw[<-lc,c.out];exact λh=>b h.2
   have d:=ab a;clear a b;go_enter wH,ntmps106;go_wp2;go_ret;exact⟨by rw[d.out];rfl,rfl⟩
 .have j:decide (p.size<=s.size)=false:=bv f;have a:q=false:=by
   rw[<-lc,c.out];exact λh=>f h.1
  have d:=ab a;clear a;go_enter wH,ntmps106;go_wp2;go_ret;exact⟨by rw[d.out];rfl,rfl⟩
def ajZ(s p:ByteArray)(d:s.size<=100)(b:p.size<=100)(w:World)(q:Bool)(a:q=(bs p).isPrefixOf (bs s)) :
  Calls (ah β) 57 #[.string s,.string p] w λe c=>e=.returned (.bool q)/\w=c:=by
 replace a:=ab a;go_enter yV,ntmps57;go_wp2;refine(aid s p d b w q a.out).mono ?_;rintro e f ⟨rfl,rfl⟩;go_wp2;go_ret;exact⟨rfl,rfl⟩
def aBe:bs ⟨#[47]⟩=[47]:=rfl
def apH(y f:Nd)(n:y.p.size<=3)(l:f.p.size<=3)(g:Nat)(w:World)(i:w.cell? ⟨g,0,none⟩=some (.string f.p)) :
  Calls (ah β) 56 #[.agg #[.string y.p,.string y.b],.pointer (some ⟨g,0,none⟩)] w λe j=>e=.returned (.bool (aac y.p f.p))/\Below w.heap.size w j:=by
 have d:=aB w (.cells #[.string y.p,.string y.b] 50);have k:(w.alloc (.cells #[.string y.p,.string y.b] 50)).cell? ⟨g,0,none⟩=some (.string f.p):=(qn (d.block g (eH i))).trans i;have a:(y.p++⟨#[47]⟩:ByteArray).size<=100:=by
  rw[<-aK,gh,ap,aK,aBe,nf];omega
 have c:aac y.p f.p=(bs (y.p++⟨#[47]⟩)).isPrefixOf (bs f.p):=by rw[gh,aBe];unfold aac;exact Eq.refl _
 replace c:=ab c;replace a:=ab a;go_enter xi,ntmps56;go_wp2;have b:f.p.size<=100:=by omega
 have HC:=ajZ (β:=β) f.p (y.p++⟨#[47]⟩) b a.out (w.alloc (.cells #[.string y.p,.string y.b] 50)) (aac y.p f.p) c.out;refine HC.mono ?_;rintro e m ⟨rfl,rfl⟩;go_wp2;go_ret;exact⟨rfl,d⟩
def avA:ark (β:=β) 56:=auu xi (by kernel_rfl) rfl
def aie(f:Nd)(I:f.p.size<=3)(xs:List Nd)(n:Nat)(O:n<=xs.length)(u:∀y∈xs.take n,y.p.size<=3)(A:Option Addr)(c g:Nat)(w:World)(lo hi:Nat)(h:eF w lo hi xs [.slice A xs.length c])(H:hi<=w.heap.size)(C:w.cell? ⟨g,0,none⟩=some (.string f.p)) :
  Calls (ah β) 105 #[.slice A n c,.func (.func 56) #[] #[.pointer (some ⟨g,0,none⟩)]] w λe B=>∃j:Int,e=.returned (.int .i64 j)/\((0<=j/\∃k y,k<n/\xs[k]?=some y/\aac y.p f.p=true)\/(j=-1/\∀k y,k<n->xs[k]?=some y->aac y.p f.p=false))/\Below w.heap.size w B:=by
 obtain⟨_,N,K⟩:=h.1.len_;unfold maxLen at K;have v:=eH C;replace u:=ab u;go_enter ym,ntmps105;go_wp2;go_loopw [8] (λi wr=>∃k:Nat,k<=n/\i=.int .i64 k/\(∀j y,j<k->xs[j]?=some y->aac y.p f.p=false)/\Below w.heap.size w wr) (λi _=>n-(intOf i).toNat)
 case atStart=>exact⟨0,fa _,rfl,λj y E=>absurd E (sx j),ff _ _⟩
 case round=>
  obtain⟨k,M,rfl,d,q⟩:=hrel;replace d:=ab d;have t:wr.cell? ⟨g,0,none⟩=some (.string f.p):=(qn (q.block g v)).trans C;by_cases p:k<n
  .obtain⟨x,o⟩:=aq (l:=xs) (k:=k) (by omega);obtain⟨b,J,rfl,_,_,F,G,L⟩:=jI (eF.aw.below h q H) o;have r:x.p.size<=3:=u.out x (by
    have:(xs.take n)[k]?=some x:=by rw[qX,dj p];exact o
    exact be this)
   replace o:=ab o;have P:=avA (β:=β) (#[.agg #[.string x.p,.string x.b]]++#[.pointer (some ⟨g,0,none⟩)]) wr;go_wp2;refine(apH x f r I g wr t).mono ?_;rintro e B ⟨rfl,m⟩;replace m:=ae q m;cases a:aac x.p f.p
   .have z:∀j y,j<k+1->xs[j]?=some y->aac y.p f.p=false:=λj y E s=>by
     rcases oR j k with D|D
     .exact d.out j y D s
     .obtain rfl:j=k:=by omega
      rw[o.out] at s;cases s;exact a
    replace z:=ab z;clear a;go_wp2;go_roundw
    case rel=>exact⟨k+1,by omega,by go_num,z.out,m⟩
    simp[intOf];omega
   .replace a:=ab a;go_wp2;go_ret;exact⟨k,rfl,.inl ⟨by omega,k,x,p,o.out,a.out⟩,m⟩
  .obtain rfl:k=n:=by omega
   go_wp2;go_ret;exact⟨-1,rfl,.inr ⟨rfl,d.out⟩,q⟩
def nM(f:Nd)(l:f.p.size<=3)(xs:List Nd)(n:Nat)(r:n<=xs.length)(b:∀y∈xs.take n,y.p.size<=3)(A:Option Addr)(c g:Nat)(w:World)(lo hi:Nat)(h:eF w lo hi xs [.slice A xs.length c])(o:hi<=w.heap.size)(p:w.cell? ⟨g,0,none⟩=some (.string f.p)) :
  Calls (ah β) 55 #[.slice A n c,.func (.func 56) #[] #[.pointer (some ⟨g,0,none⟩)]] w λe m=>∃q:Bool,e=.returned (.bool q)/\((q=true/\∃k y,k<n/\xs[k]?=some y/\aac y.p f.p=true)\/(q=false/\∀k y,k<n->xs[k]?=some y->aac y.p f.p=false))/\Below w.heap.size w m:=by
 replace b:=ab b;go_enter yW,ntmps55;go_wp2;refine(aie f l xs n r b.out A c g w lo hi h o p).mono ?_;rintro e t ⟨j,rfl,s,i⟩;rcases s with⟨d,a⟩|⟨rfl,a⟩
 .have u:decide (0<=j)=true:=de d;replace a:=ab a;clear d;go_wp2;go_ret;exact⟨true,rfl,.inl ⟨rfl,a.out⟩,i⟩
 .replace a:=ab a;go_wp2;go_ret;exact⟨false,rfl,.inr ⟨rfl,a.out⟩,i⟩
end
section
variable {β:Bool}
open Go.RowKit
def asP(t:List Nd)(i:Nat)(x:Nd):Prop:=afF x/\(∀y,0<i->t[i-1]?=some y->Op.bytesLess y.p.toList x.p.toList=true)/\∀k y,k<i->t[k]?=some y->aac y.p x.p=false
def adW(h:gG s=true):s.size<=3:=by rcases kU h with h|h<;>omega
def asQ(xs:List Nd)(v:Value)(w:World)(lo hi:Nat)(h:eF w lo hi xs [v])(T:hi<=w.heap.size)(q:Bool)(p:q=true↔agB xs) :
  Calls (ah β) 28 #[v] w λe w'=>e=.returned (.bool q)/\Below w.heap.size w w':=by
 have J:=ab p;clear p;obtain⟨A,c,rfl⟩:=h.form;obtain⟨_,hc,hx⟩:=h.1.len_;unfold maxLen at hx;go_enter zv,ntmps28;go_wp2;go_loopw [7] (λii wr=>∃k:Nat,k<=xs.length/\ii=.int .i64 k/\(∀i x,i<k->xs[i]?=some x->asP xs i x)/\Below w.heap.size w wr) (λii _=>xs.length-(intOf ii).toNat)
 case atStart=>exact⟨0,fa _,rfl,λi x hi=>absurd hi (sx i),ff _ _⟩
 case round=>
  obtain⟨k,hk,rfl,l,hb⟩:=hrel;replace l:=ab l;by_cases C:k<xs.length
  .obtain⟨x,F⟩:=aq C;obtain⟨b0,a5,rfl,_,a4,I,c0,c1⟩:=jI (eF.aw.below h hb T) F;replace F:=ab F;go_wp2;have kb:=bW.new wr 50 #[.string x.p,.string x.b];have ba:=aB wr (.cells #[.string x.p,.string x.b] 50);have a2:wr.heap.size+1=(wr.alloc (.cells #[.string x.p,.string x.b] 50)).heap.size:=by simp
   generalize wr.alloc (.cells #[.string x.p,.string x.b] 50)=wf at *;have g:wf.cell? ⟨wr.heap.size,0,none⟩=some (.string x.p):=kb.cell 0;have u:wf.cell? ⟨wr.heap.size,1,none⟩=some (.string x.b):=kb.cell 1;have r:=ae hb ba;clear kb c0 c1;cases a:gG x.p
   .replace a:=ab a;have d:q=false:=by
     rw[<-lc,J.out];rintro⟨-,h⟩;replace h:=h _ _ F.out;have h:=h.1.1;rw[a.out] at h;cases h
    have s:=ab d;clear d;have H:=aj g;have G:=aj u;refine aG (by kernel_rfl) (by kernel_rfl) ?_;repeat(go_big_quiet_step (first|(go_at_call 54;refine eL (v:=.bool false) ?_;rw[<-a.out];exact oY (β:=β) x.p I.1 _)))
    refine iS ?_;intro wq o;have p:=aN o;clear o H G;go_wp2;go_ret;exact⟨aA s.out.symm,ae r p⟩
   .replace a:=ab a;cases b:dw x.b
    .replace b:=ab b;have d:q=false:=by
      rw[<-lc,J.out];rintro⟨-,h⟩;replace h:=h _ _ F.out;have h:=h.1.2;rw[b.out] at h;cases h
     have s:=ab d;clear d;have H:=aj g;have G:=aj u;refine aG (by kernel_rfl) (by kernel_rfl) ?_;repeat(go_big_quiet_step (first|(go_at_call 54;refine eL (v:=.bool true) ?_;rw[<-a.out];exact oY (β:=β) x.p I.1 _)|(go_at_call 51;refine dv (v:=.bool false) ?_;rw[<-b.out];exact mE (β:=β) x.b I.2 _)))
     refine iS ?_;intro wq o;have p:=aN o;clear o H G;go_wp2;go_ret;exact⟨aA s.out.symm,ae r p⟩
    .replace b:=ab b;by_cases fS:k=0
     .have t1:=bv (show ¬(0<k) by omega);have X:afF x/\∀y,0<k->xs[k-1]?=some y->Op.bytesLess y.p.toList x.p.toList=true:=⟨⟨a.out,b.out⟩,λy h0=>by omega⟩;have Y:=ab X;clear X;clear fS;have H:=aj g;have G:=aj u;refine aG (by kernel_rfl) (by kernel_rfl) ?_;repeat(go_big_quiet_step (first|(go_at_call 54;refine eL (v:=.bool true) ?_;rw[<-a.out];exact oY (β:=β) x.p I.1 _)|(go_at_call 51;refine dv (v:=.bool true) ?_;rw[<-b.out];exact mE (β:=β) x.b I.2 _)))
      refine iS ?_;intro wq o;have p:=aN o;clear o H G;have W:∀y∈xs.take k,y.p.size<=3:=λy f=>by
       obtain⟨i,hi⟩:=rx.1 f;rw[qX] at hi;split at hi
       .rename_i Q;exact adW (l.out i y Q hi).1.1
       .cases hi
      have O:=ab W;clear W;have cz:=fC p g;have n:=ae r p;have P:=adW a.out;go_wp2;refine(nM (β:=β) x P xs k hk O.out _ c wr.heap.size _ lo hi (eF.aw.below h n T) (da T n.size) cz).mono ?_;rintro e w4 ⟨q4,rfl,N,b4⟩;have Z:=ae n b4;rcases N with⟨rfl,j,y,M,f,L⟩|⟨rfl,B⟩
      .have HY:=ab f;replace L:=ab L;clear f;have d:q=false:=by
        rw[<-lc,J.out];rintro⟨-,h⟩;replace h:=h _ _ F.out;have h:=h.2.2 j y M HY.out;rw[L.out] at h;cases h
       have s:=ab d;clear d;go_wp2;go_ret;exact⟨aA s.out.symm,Z⟩
      .have t:∀i z,i<k+1->xs[i]?=some z->asP xs i z:=λi z hi K=>by
        rcases oR i k with C|nR
        .exact l.out i z C K
        .obtain rfl:i=k:=by omega
         rw[F.out] at K;cases K;exact⟨Y.out.1,Y.out.2,λj y M f=>B j y M f⟩
       have S:=ab t;clear t B;go_wp2;go_roundw
       case rel=>exact⟨k+1,by omega,by go_num,S.out,Z⟩
       simp[intOf];omega
     .obtain⟨k',U⟩:∃m,m=k-1:=⟨_,rfl⟩;have e1:(k:Int)-1=((k':Nat):Int):=by omega
      have a1:k'<xs.length:=by omega
      have t1:=de (show 0<k by omega);obtain⟨z,E⟩:=aq a1;obtain⟨b1,a3,e0,_,_,a6,d0,_⟩:=jI (eF.aw.below h r T) E;simp only[lw,qo,qk] at e0;obtain⟨rfl,rfl⟩:=e0;replace E:=ab E;have V:=ab U;have a0:0<k:=by omega
      clear U;cases D:Op.bytesLess z.p.toList x.p.toList
      .have R:=ab D;have tr:=mb x.p.toList z.p.toList;rw[D,Bool.not_false] at tr;have d:q=false:=by
        rw[<-lc,J.out];rintro⟨-,h⟩;replace h:=h _ _ F.out;have h:=h.2.1 z a0 (by rw[<-V.out];exact E.out);rw[R.out] at h;cases h
       have s:=ab d;clear d;have H:=aj g;have G:=aj u;have cB:=aj d0;refine aG (by kernel_rfl) (by kernel_rfl) ?_;repeat(go_big_quiet_step (first|(go_at_call 54;refine eL (v:=.bool true) ?_;rw[<-a.out];exact oY (β:=β) x.p I.1 _)|(go_at_call 51;refine dv (v:=.bool true) ?_;rw[<-b.out];exact mE (β:=β) x.b I.2 _)))
       refine iS ?_;intro wq o;have p:=aN o;clear o H G cB;go_wp2;go_ret;exact⟨aA s.out.symm,ae r p⟩
      .have R:=ab D;have tr:=mb x.p.toList z.p.toList;rw[D,uT] at tr;have X:afF x/\∀y,0<k->xs[k-1]?=some y->Op.bytesLess y.p.toList x.p.toList=true:=⟨⟨a.out,b.out⟩,λy h0 f=>by
        rw[<-V.out,E.out] at f;cases f;exact R.out⟩
       have Y:=ab X;clear X;have H:=aj g;have G:=aj u;have cB:=aj d0;refine aG (by kernel_rfl) (by kernel_rfl) ?_;repeat(go_big_quiet_step (first|(go_at_call 54;refine eL (v:=.bool true) ?_;rw[<-a.out];exact oY (β:=β) x.p I.1 _)|(go_at_call 51;refine dv (v:=.bool true) ?_;rw[<-b.out];exact mE (β:=β) x.b I.2 _)))
       refine iS ?_;intro wq o;have p:=aN o;clear o H G cB;clear d0 D e1 tr;have W:∀y∈xs.take k,y.p.size<=3:=λy f=>by
        obtain⟨i,hi⟩:=rx.1 f;rw[qX] at hi;split at hi
        .rename_i Q;exact adW (l.out i y Q hi).1.1
        .cases hi
       have O:=ab W;clear W;have cz:=fC p g;have n:=ae r p;have P:=adW a.out;go_wp2;refine(nM (β:=β) x P xs k hk O.out _ c wr.heap.size _ lo hi (eF.aw.below h n T) (da T n.size) cz).mono ?_;rintro e w4 ⟨q4,rfl,N,b4⟩;have Z:=ae n b4;rcases N with⟨rfl,j,y,M,f,L⟩|⟨rfl,B⟩
       .have HY:=ab f;replace L:=ab L;clear f;have d:q=false:=by
         rw[<-lc,J.out];rintro⟨-,h⟩;replace h:=h _ _ F.out;have h:=h.2.2 j y M HY.out;rw[L.out] at h;cases h
        have s:=ab d;clear d;go_wp2;go_ret;exact⟨aA s.out.symm,Z⟩
       .have t:∀i z,i<k+1->xs[i]?=some z->asP xs i z:=λi z hi K=>by
         rcases oR i k with C|nR
         .exact l.out i z C K
         .obtain rfl:i=k:=by omega
          rw[F.out] at K;cases K;exact⟨Y.out.1,Y.out.2,λj y M f=>B j y M f⟩
        have S:=ab t;clear t B;go_wp2;go_roundw
        case rel=>exact⟨k+1,by omega,by go_num,S.out,Z⟩
        simp[intOf];omega
  .obtain rfl:k=xs.length:=by omega
   by_cases h6:xs.length<=6
   .have t1:=de (show(xs.length:Int)<=6 by omega);have d:q=true:=J.out.2 ⟨h6,λi x hx=>l.out i x (aH hx) hx⟩;have s:=ab d;clear d;go_wp2;go_ret;exact⟨aA s.out.symm,hb⟩
   .have t1:=bv (show ¬((xs.length:Int)<=6) by omega);have d:q=false:=by
     rw[<-lc,J.out];rintro⟨h, -⟩;exact h6 h
    have s:=ab d;clear d;go_wp2;go_ret;exact⟨aA s.out.symm,hb⟩
end
section
variable {β:Bool}
open Go.RowKit
noncomputable def xFA:Func:=by
 apply(λ(x:Func) (_:{f26 with body:=some jV}=x)=>x)
 case x=>dsimp only[jV,aaC,aua,awo,awp,awq,awr,aws,awt,awu,awv,aww,awB,azM,awx,awy,awz,awA,aqR,aqS,aqT,ane,aiJ,acW,awC,awD,aiH,aiI,iv,aaD,aub,auc,aud,aqQ,aue,aoG,kOp,aaF,aaE,lW,cQ,cP,cj,f26,Option.getD,List.map]
def ay0:qFA true=xFA:=by kernel_rfl
def asR:(ah true).funcs[26]?=some xFA:=(acr true).trans (gc some ay0)
@[go_sem] theorem aBf(args:Array Value)(w:World):(callFunc 26 args).run (ah true) w=.ok (.enter 26 args) w:=by
 have a:=cK func26;exact kS asR a rfl args w
end
section
variable {β:Bool}
open Go.RowKit
def FFe:Flat (ByteArray×Bool):=⟨2,λx=>[.string x.1,.bool x.2],λx=>x.1.size<=maxLen,λ_=>rfl,λx u a=>by
 simp only[mc,rJ,um] at a;rcases a with rfl|rfl<;>rfl,by decide⟩
def avB:((ah true).info? 100).map (λi=>(i.zero,i.size,i.bytes))=some (some (.agg #[.string ⟨#[]⟩,.bool false]),2,24):=by kernel_rfl
@[go_sem] theorem aB4(n:Int)(B:Option Addr)(m c:Nat)(w:World):(Instr.field 62 (.agg #[.int .i64 n,.slice B m c]) 0).run (ah true) w=.ok (.int .i64 n) w:=by simp[Instr.field,lE xe,asAgg,go_sem]
@[go_sem] theorem aB5(n:Int)(B:Option Addr)(m c:Nat)(w:World):(Instr.field 62 (.agg #[.int .i64 n,.slice B m c]) 1).run (ah true) w=.ok (.slice B m c) w:=by simp[Instr.field,lE xe,asAgg,go_sem]
@[go_sem] theorem aB6(n:Int)(s:ByteArray)(w:World):(Instr.field 59 (.agg #[.int .i64 n,.string s]) 0).run (ah true) w=.ok (.int .i64 n) w:=by simp[Instr.field,lE xf,asAgg,go_sem]
@[go_sem] theorem aB7(n:Int)(s:ByteArray)(w:World):(Instr.field 59 (.agg #[.int .i64 n,.string s]) 1).run (ah true) w=.ok (.string s) w:=by simp[Instr.field,lE xf,asAgg,go_sem]
def ay1(key:Int)(l:List gY)(dB:List Int)(w:World)(e:Ending)(w':World):Prop:=
 ∃v b,e=.returned (.tuple #[v,.bool b])/\(b=true↔∀n∈dB,(bV key l n).2=true)/\(b=true->aD gS 9 w' w.heap.size v (dB.map λn=>(bV key l n).1))/\Below w.heap.size w w'
noncomputable def ams(key:Int)(l:List gY)(ns:List Int):List ByteArray:=ns.map λn=>(bV key l n).1
noncomputable def aad(key:Int)(l:List gY)(dB:List Int)(k:Nat):List (ByteArray×Bool):=(dB.take k).map (bV key l)++List.replicate (dB.length-k) (⟨#[]⟩,false)
def avC{l:List gY}(h:k<dB.length):(aad key l dB k)[k]?=some (⟨#[]⟩,false):=by
 unfold aad;have a:((dB.take k).map (bV key l)).length=k:=by rw[pe,fi];omega
 rw[qp (by omega),a,uB,tU,dj (by omega)]
def asS{l:List gY}{n:Int}(h:dB[k]?=some n):(aad key l dB k).set k (bV key l n)=aad key l dB (k+1):=by
 have b:=aH h;unfold aad;have c:((dB.take k).map (bV key l)).length=k:=by rw[pe,fi];omega
 rw[vJ _ _ (by omega),c,uB,mu h,qJ,ub]
 congr 1
 obtain⟨m,a⟩:∃m,dB.length-k=m+1:=⟨dB.length-k-1,by omega⟩;rw[a,List.replicate_succ,fd,show dB.length-(k+1)=m by omega];rfl
def apI:∀n:Nat,(madeCells #[.string ⟨#[]⟩,.bool false] (n*2)).toList=dG FFe (List.replicate n (⟨#[]⟩,false)):=λn=>by
 apply List.ext_getElem?;intro j;rcases oR j (n*2) with h|h
 .have d:j / 2<n:=by omega
  have b:(List.replicate n ((⟨#[]⟩,false):ByteArray×Bool))[j / 2]?=some (⟨#[]⟩,false):=by rw[tU,dj d]
  have e:j=j / 2*2+j % 2:=by omega
  rw[du];have c:(madeCells #[.string ⟨#[]⟩,.bool false] (n*2))[j]?=some (#[Value.string ⟨#[]⟩,Value.bool false][j % 2]!):=by
   unfold madeCells;simp[h]
  rw[c];rcases uP j with a|a
  .have:=iw FFe _ (j / 2) 0 _ (.string ⟨#[]⟩) b rfl;rw[show j / 2*FFe.sz+0=j by show j / 2*2+0=j;omega] at this;rw[this,a];rfl
  .have:=iw FFe _ (j / 2) 1 _ (.bool false) b rfl;rw[show j / 2*FFe.sz+1=j by show j / 2*2+1=j;omega] at this;rw[this,a];rfl
 .rw[du,pY (by rw[size_madeCells];exact h),sD (by rw[eN,qr];exact h)]
def asT{l:List gY}(w:World)(n:Nat)(a:n<=maxLen)(h:dB.length=n:=by rfl) :
  aD FFe 100 (w.alloc (.cells (madeCells #[.string ⟨#[]⟩,.bool false] (n*2)) 100)) w.heap.size (.slice (some ⟨w.heap.size,0,none⟩) n n) (aad key l dB 0):=by
 have e:aad key l dB 0=List.replicate n (⟨#[]⟩,false):=by unfold aad;rw[h];rfl
 rw[e];refine⟨eN FFe _,.inr ⟨w.heap.size,n,_,by rw[qr],am _,bW.new _ _ _,by rw[qr];exact am _,a,by rw[size_madeCells];rfl, ?_⟩⟩;rw[apI,qr];exact qb (by rw[eN,qr];exact am _)
def an1{base : Nat}{xs:List (ByteArray×Bool)}(h:aD FFe 100 w base (.slice (some ⟨g,0,none⟩) n n) xs){x:ByteArray×Bool}(a:xs[k]?=some x) :
  w.cell? ⟨g,k*2,none⟩=some (.string x.1)/\w.cell? ⟨g,k*2+1,none⟩=some (.bool x.2):=by
 obtain⟨A,c,e⟩:=aD.form h;simp only[pv] at e;obtain⟨-,rfl, -⟩:=e;exact⟨h.cell a (j:=0) rfl,h.cell a (j:=1) rfl⟩
def avD{l:List gY}{base : Nat}(h:aD FFe 100 w base (.slice (some ⟨g,0,none⟩) n n) (aad key l dB k))(m:k<dB.length) :
  w.cell? ⟨g,k*2,none⟩=some (.string ⟨#[]⟩)/\w.cell? ⟨g,k*2+1,none⟩=some (.bool false)/\(∀j,w.frozen? ⟨g,j,none⟩=false)/\(∀j (p:Addr) u,(w.setCell p u).frozen? ⟨g,j,none⟩=false)/\
  ∀y:ByteArray×Bool,aD FFe 100 ((w.setCell ⟨g,k*2,none⟩ (.string y.1)).setCell ⟨g,k*2+1,none⟩ (.bool y.2)) base (.slice (some ⟨g,0,none⟩) n n) ((aad key l dB k).set k y):=by
 obtain⟨A,c,e⟩:=aD.form h;simp only[pv] at e;obtain⟨-,rfl, -⟩:=e;have a:=avC (key:=key) (l:=l) m;obtain⟨o,q⟩:=an1 h a;refine⟨o,q,λj=>h.frozen rfl j,λj p u=> ?_,λy=> ?_⟩
 .rw[uu];exact h.frozen rfl j
 .have d:=h.put a (j:=0) (y:=(y.1,false)) (u:=.string y.1) (by decide) rfl;have f:aD FFe 100 (w.setCell ⟨g,k*FFe.sz+0,none⟩ (.string y.1)) base (.slice (some ⟨g,0,none⟩) ((aad key l dB k).set k (y.1,false)).length (aad key l dB k).length) ((aad key l dB k).set k (y.1,false)):=by rw[qK];exact d
  have b:=f.put (i:=k) (x:=(y.1,false)) (by rw[sd (aH a)]) (j:=1) (y:=y) (u:=.bool y.2) (by decide) rfl;rw[qK,abM] at b;exact b
def amt (key:Int) (hk:1<=key/\key<=99) (l:List gY) (A:Option Addr) (c:Nat) (dB:List Int) (v2:Value) (lo hi:Nat) (w:World) (x0 x1:Value)
  (bG:hi<=w.heap.size) (hl:PkL w A l) (a5:l.length<=c) (hc:c<=maxLen) (fN:∀p∈l,1<=p.2.length/\cA p.1) (G:cR adx 1 w lo hi dB [v2]) (b1:dB.length<=2147483647)
  (e0:w.cell? ⟨0,0,none⟩=some x0) (e1:w.cell? ⟨1,0,none⟩=some x1) :
  Calls (ah true) 26 #[.int .i64 key,.slice A l.length c,v2] w (ay1 key l dB w):=by
 obtain⟨A2,c2,rfl⟩:=G.form;obtain⟨-,ao,a4⟩:=G.len_;have HC:=ab hc;unfold maxLen at hc a4;have aJ:=ao5 (P:=ah true) 87 100 _ 2 24 yu avB dB.length (by omega) (by omega);have a7:xFA.ntmps=45:=ntmps26;have V:xFA.results=#[.tmp 6,.tmp 7]:=results26;go_enter asR,a7;go_wp2
 go_loop [20] (λi=>∃k:Nat,k<=l.length/\i=.int .i64 k) (λi=>l.length-(intOf i).toNat)
 case atStart=>exact⟨0,fa _,rfl⟩
 case round=>
  obtain⟨k,ad,rfl⟩:=hrel;by_cases a1:k<l.length
  .obtain⟨p,iC⟩:=aq a1;obtain⟨b,an,B,c3,rfl,aP,aM,al,aL,a6,a3⟩:=hl k p iC;have S:=fN p (be iC);obtain⟨S,a8⟩:=S;unfold cA at a8;unfold maxLen at a6;obtain⟨Y,Z⟩:=p;dsimp only at *;have w1:wrap64 (Y*1)=Y:=by unfold wrap64;omega
   have t1:(Y ==Y)=true:=rV _;clear iC;go_wp2
   go_loop [5] (λjj=>∃j:Nat,j<=Z.length/\jj=.int .i64 j) (λjj=>Z.length-(intOf jj).toNat)
   case atStart=>exact⟨0,fa _,rfl⟩
   case round=>
    obtain⟨j,b7,rfl⟩:=hrel;by_cases a0:j<Z.length
    .obtain⟨x,U⟩:=aq a0;obtain⟨b2,nP,rfl,b5,b0,aa,a9,nQ⟩:=a3 j x U;unfold cA at a9;unfold maxLen at nQ;obtain⟨X,xb⟩:=x;dsimp only at *;have w2:wrap64 (X*1)=X:=by unfold wrap64;omega
     have t2:(X ==X)=true:=rV _;clear U;go_wp2
     go_round
     case rel=>exact⟨j+1,by omega,by go_num⟩
     simp[intOf];omega
    .obtain rfl:j=Z.length:=by omega
     go_wp2
     go_round
     case rel=>exact⟨_,_,_,_,_,_,_,_,_,⟨k+1,by omega,rfl⟩,rfl,rfl,rfl,rfl,rfl,rfl,rfl,rfl,by go_num⟩
     show l.length-((k:Int)+1).toNat<l.length-(k:Int).toNat;omega
  .obtain rfl:k=l.length:=by omega
   clear fN;go_wp2;have s:=asT (key:=key) (l:=l) (dB:=dB) w dB.length (by unfold maxLen;omega);have N:=aB w (.cells (madeCells #[.string ⟨#[]⟩,.bool false] (dB.length*2)) 100);generalize w.alloc (.cells (madeCells #[.string ⟨#[]⟩,.bool false] (dB.length*2)) 100)=w0 at *;go_loopw [28] (λI wr=>∃k:Nat,k<=dB.length/\I=.int .i64 k/\aD FFe 100 wr w.heap.size (.slice (some ⟨w.heap.size,0,none⟩) dB.length dB.length) (aad key l dB k)/\Below w.heap.size w wr) (λI _=>dB.length-(intOf I).toNat)
   case atStart=>exact⟨0,fa _,rfl,s,N⟩
   case round=>
    clear s N;obtain⟨k,aY,rfl,r,a⟩:=hrel;by_cases q:k<dB.length
    .obtain⟨n,f⟩:=aq q;obtain⟨b3,a2,es,rfl,b6,aU,_,⟨rfl,W⟩,T⟩:=((cR.loc adx.loc).below G a bG).at_ f;have d0:wr.cell? ⟨b3,a2+k,none⟩=some (.int .i64 n):=by simpa using T 0 _ rfl
     unfold cA at W;have w3:wrap64 (n*1)=n:=by unfold wrap64;omega
     have t3:(n ==n)=true:=rV _;have E:=asS (key:=key) (l:=l) f;replace E:=ab E;clear T f;go_wp2;refine(anY wr key A c l n hk.1 hk.2 a5 (by omega) (hl.below a) W).mono ?_;rintro e w5 ⟨v,rfl,rfl,D⟩;have L:=r.below D;obtain⟨f0,f1,z0,z1,t⟩:=avD L q;have ni:=ae a D;have HP:=ab (t (bV key l n));clear r a D L t d0;go_wp2;go_roundw
     case rel=>exact⟨k+1,by omega,by go_num,by rw[<-E.out];exact HP.out,(ni.setCell (by dsimp only;omega) _).setCell (by dsimp only;omega) _⟩
     simp[intOf];omega
    .obtain rfl:k=dB.length:=by omega
     replace G:=ab G;clear hl;go_wp2;have y:=aB wr (.cells #[.slice (some ⟨w.heap.size,0,none⟩) dB.length dB.length] 87);have o:=r.below y;have g:=ae a y;have e1:aad key l dB dB.length=dB.map (bV key l):=by unfold aad;rw[gt,uB,List.replicate_zero,tI]
     rw[e1] at o;clear r a y e1;generalize wr.alloc (.cells #[.slice (some ⟨w.heap.size,0,none⟩) dB.length dB.length] 87)=w1 at *;go_loopw [12,31] (λoo I wr=>∃k:Nat,k<=dB.length/\I=.int .i64 k/\aD gS 9 wr w.heap.size oo (ams key l (dB.take k))/\aD FFe 100 wr w.heap.size (.slice (some ⟨w.heap.size,0,none⟩) dB.length dB.length) (dB.map (bV key l))/\(∀n∈dB.take k,(bV key l n).2=true)/\Below w.heap.size w wr) (λ_ I _=>dB.length-(intOf I).toNat)
     case atStart=>exact⟨0,fa _,rfl,aD.nil _ _ _,o,λn G=>(by simp at G),g⟩
     case round=>
      clear o g;obtain⟨k,b4,rfl,J,r,d,a⟩:=hrel;replace d:=ab d;obtain⟨So,sc,rfl⟩:=J.form;by_cases q:k<dB.length
      .obtain⟨n,f⟩:=aq q;have O:(dB.map (bV key l))[k]?=some (bV key l n):=by rw[qE,f];rfl
       obtain⟨f0,f1⟩:=an1 r O;have u:(ams key l (dB.take k)).length=k:=by unfold ams;rw[pe,fi];omega
       have eC:ams key l (dB.take (k+1))=ams key l (dB.take k)++[(bV key l n).1]:=by unfold ams;rw[mu f,qJ];rfl
       have z:=aoU r J (by decide);replace z:=ab z;have R:=ab f;replace u:=ab u;clear O f;cases C:(bV key l n).2 with
       |false=>
        rw[C] at f1;replace C:=ab C;go_wp2;refine ph (v:=.tuple #[.slice none 0 0,.bool false]) (by simp[results,V,go_sem]) rfl ⟨_,false,rfl, ?_,λh=>(by cases h),a.alloc a.size _⟩;simp only[jn,ut];intro h;have:=h n (be R.out);rw[C.out] at this;cases this
       |true=>
        rw[C] at f1;have H:∀m∈dB.take (k+1),(bV key l m).2=true:=λm K=>by
         rw[mu R.out,jt] at K;rcases K with K|K
         .exact d.out m K
         .rw[gE.1 K];exact C
        replace H:=ab H;clear C;replace eC:=ab eC;have ax:=aB wr (.cells #[.string (bV key l n).1,.bool true] 100);have ay:=aB (wr.alloc (.cells #[.string (bV key l n).1,.bool true] 100)) (.cells #[.string (bV key l n).1] 9);have kB:=bW.new (wr.alloc (.cells #[.string (bV key l n).1,.bool true] 100)) 9 #[.string (bV key l n).1];simp only[mw] at kB;have Q:=(J.below ax).below ay;have o:=(r.below ax).below ay;have g:=ae (ae a ax) ay;clear J r a ax ay;go_wp2_with(at_builtin;refine agi (F:=gS) (v:=.slice So (ams key l (dB.take k)).length sc) rfl (.tmp 38) (.tmp 41) 66 rfl oM (bV key l n).1 rfl Q rfl kB rfl (by have:=u.out;omega) g.size ?_;intro va wa oa M af;obtain⟨Aa,ca,rfl⟩:=oa.form);go_roundw
        case rel=>exact⟨k+1,by omega,by go_num,by rw[eC.out];rw[ap] at oa;exact oa,o.eY M λb hb=>z.out b hb,H.out,g.trans (M.below g.size λi hi hx=>by have:=(Q.at_ hx).1;omega)⟩
        simp[intOf];omega
      .obtain rfl:k=dB.length:=by omega
       rw[gt] at J d;go_wp2;refine ph (v:=.tuple #[_,.bool true]) (by simp[results,V,go_sem]) rfl ⟨_,true,rfl,by simp only[sQ];exact d.out,λ_=>J,a⟩
end
section
open Go.RowKit
structure Glo (w:World):Prop where
 key:∃x,w.cell? ⟨0,0,none⟩=some x
 piece:∃x,w.cell? ⟨1,0,none⟩=some x
def Glo.below(h:Glo w)(b:Below w.heap.size w w'):Glo w':=by
 obtain⟨⟨x,c⟩,y,a⟩:=h;exact⟨⟨x,(qn (b.block _ (eH c))).trans c⟩,⟨y,(qn (b.block _ (eH a))).trans a⟩⟩
def agJ{l:List gY}(a:ajR key l x.ns)(b:(fA (fY key l x.ns)).2=true):gU key l x=some ⟨x.p,(fA (fY key l x.ns)).1⟩:=by unfold gU;rw[dj ⟨a,b⟩]
def ab4{l:List gY}(h:¬(ajR key l x.ns/\(fA (fY key l x.ns)).2=true)):gU key l x=none:=by unfold gU;rw[bd h]
def ab5{l:List gY}(b:x∈xs)(h:gU key l x=none):dC key l xs=none:=by
 unfold dC;rw[bd];rintro⟨a, -⟩;have:=a x b;rw[h] at this;cases this
def afi{l:List ByteArray}:(fA l).1.size<=40:=by
 unfold fA;split
 .rename_i h;exact(fD h.1).1
 .exact fa _
def adg{l:List gY}{y:Nd}(a:xs[k]?=some x)(h:gU key l x=some y):dA key l (xs.take (k+1))=dA key l (xs.take k)++[y]:=by
 unfold dA;rw[mu a,List.filterMap_append];simp[h]
def aeS.itl{a:List It}(h:aeS w lo hi a [.slice A n c])(m:hi<=w.heap.size):ItL w A (a.map λx=>(x.n,x.b)):=λi x e=>by
 rw[qE] at e;obtain⟨y,g,rfl⟩:=io.1 e;obtain⟨b,d,o,rfl,p,l, -,⟨rfl,j,k⟩,f⟩:=h.at_ g;exact⟨b,d,rfl,by omega,by simpa using f 0 _ rfl,f 1 _ rfl,j,k⟩
def iJ.pkl{l:List Pk}(h:iJ w lo hi l [.slice A n c])(k:hi<=w.heap.size):PkL w A (bI l):=λi x e=>by
 unfold bI at e;rw[qE] at e;obtain⟨y,j,rfl⟩:=io.1 e;obtain⟨b,a,q,rfl,s,p, -,⟨v,rfl,r,f⟩,g⟩:=h.at_ j;obtain⟨B,d,rfl⟩:=f.form;obtain⟨-,o,m⟩:=f.len_;refine⟨b,a,B,d,rfl,by omega,by have:=g 0 _ rfl;rw[tM] at this;exact this, ?_, ?_,m,f.itl k⟩
 .have:=g 1 _ rfl;rw[show(pkd y).2.length=y.its.length from pe _];exact this
 .rw[show(pkd y).2.length=y.its.length from pe _];exact o
def aif(h:gD w lo hi xs [.slice A n c])(i:xs[k]?=some x) :
  ∃b a A' d,A=some ⟨b,a,none⟩/\lo<=b/\b<hi/\x.p.size<=maxLen/\w.cell? ⟨b,a+k*2,none⟩=some (.string x.p)/\w.cell? ⟨b,a+k*2+1,none⟩=some (.slice A' x.ns.length d)/\cR adx 1 w lo hi x.ns [.slice A' x.ns.length d]:=by
 obtain⟨b,a,m,rfl,j,g,l,⟨v,rfl,f,hi⟩,e⟩:=h.at_ i;obtain⟨A',d,rfl⟩:=hi.form;exact⟨b,a,A',d,rfl,j,g,f,by simpa using e 0 _ rfl,e 1 _ rfl,hi⟩
def eA(o:Option (List Nd))(w:World)(e:Ending)(w':World):Prop:=∃v,e=.returned (.tuple #[v,.bool o.isSome])/\aD jT 50 w' w.heap.size v (o.getD [])/\(∀y∈o.getD [],jT.good y)/\Below w.heap.size w w'
def eA.no{o:Option (List Nd)}(h:o=none)(a:Below w.heap.size w w'):eA o w (.returned (.tuple #[.slice none 0 0,.bool false])) w':=by
 subst h;exact⟨_,rfl,aD.nil _ _ _,λy b=>(by cases b),a⟩
theorem aep (key:Int) (C:1<=key/\key<=99) (l:List gY) (A:Option Addr) (c:Nat) (x:Sn) (vn:Value) (lo hi:Nat) (w:World) (hg:Glo w) (bG:hi<=w.heap.size) (hl:PkL w A l) (af:l.length<=c) (hc:c<=maxLen) (fN:∀p∈l,1<=p.2.length/\cA p.1)
  (hn:gD w lo hi x.all [vn]) (o:∀y∈x.all,y.ns.length<=2147483647) (aU:x.all.length<=1099511627) :
  Calls (ah true) 17 #[.int .i64 key,.agg #[.int .i64 x.no,vn],.slice A l.length c] w (eA (dC key l x.all) w):=by
 have HK:=ab C;clear C;obtain⟨B,d,rfl⟩:=hn.form;obtain⟨-,hd,a0⟩:=hn.len_;have HD:=ab a0;unfold maxLen at a0;have a6:=ab fN;have aJ:=ab o;clear fN o;go_enter xq,ntmps17;go_wp2;refine(py (β:=true) key _ true (by simp only[sQ];exact HK.out)).mono ?_;rintro e w1 ⟨rfl,rfl⟩;go_wp2;have aM:=aB w (.cells #[.int .i64 x.no,.slice B x.all.length d] 37);generalize w.alloc (.cells #[.int .i64 x.no,.slice B x.all.length d] 37)=w0 at *;have b1:=aM.size;go_loopw [8,20] (λoo ii wr=>∃k:Nat,k<=x.all.length/\ii=.int .i64 k/\(∀y∈x.all.take k,(gU key l y).isSome=true)/\aD jT 50 wr w.heap.size oo (dA key l (x.all.take k))/\(∀y∈dA key l (x.all.take k),jT.good y)/\(dA key l (x.all.take k)).length=k/\Below w.heap.size w wr) (λ_ ii _=>x.all.length-(intOf ii).toNat)
 case atStart=>exact⟨0,fa _,rfl,λy hy=>(by cases hy),aD.nil _ _ _,λy hy=>(by cases hy),rfl,aM⟩
 case round=>
  obtain⟨k,hk,rfl,m,U,R,T,hb⟩:=hrel;have E:=ab m;have u:=ab R;have I:=ab T;clear m R T aM;have ao:=hb.size;by_cases a8:k<x.all.length
  .obtain⟨y,dI⟩:=aq a8;have S:gD wr lo hi x.all [.slice B x.all.length d]:=gD.loc.below hn hb bG;obtain⟨b,b0,A',c',rfl,b2,H,ad,al,aP,o⟩:=aif S dI;have HY:=ab dI;have a2:=aJ.out y (be dI);clear dI;go_wp2;have ba:=aB wr (.cells #[.string y.p,.slice A' y.ns.length c'] 65);have kb:=bW.new wr 65 #[.string y.p,.slice A' y.ns.length c'];generalize wr.alloc (.cells #[.string y.p,.slice A' y.ns.length c'] 65)=wa at *;have t:=ae hb ba;have aL:=t.size;obtain⟨⟨g0,e0⟩,g1,e1⟩:=hg.below t;have HF:=amt key HK.out l A c y.ns _ lo hi wa g0 g1 (da bG aL) (hl.below t) af hc a6.out (alj.loc.below o ba (da bG ao)) a2 e0 e1;refine HF.mono ?_;clear HF e0 e1 S al aP o;rintro e w2 ⟨v2,q,rfl,Q,kD,M⟩;have Z:=ae t M;have N:=ab Q;clear Q;have ax:=av kb M;cases q with
   |false=>
    have a:dC key l x.all=none:=ab5 (be HY.out) (ab4 λP=>by have:=N.out.2 P.1;cases this);have g:=ab a;clear a kD;go_wp2;go_ret2;exact eA.no g.out Z
   |true=>
    have j:=N.out.1 rfl;have K:∀s∈fY key l y.ns,aQ (bs s):=λs hs=>by
     obtain⟨n,hn,rfl⟩:=mx.1 hs;exact(jo (j n hn)).1
    have X:∀s∈fY key l y.ns,s.size<=maxLen:=λs hs=>by have:=(dN (K s hs)).2;unfold maxLen;omega
    have o2:aD gS 9 w2 wa.heap.size v2 (fY key l y.ns):=kD rfl;have t2:=acn.sl (aD.deep o2 X wa.heap.size) (am _);have W:(fY key l y.ns).length<=2147483647:=by unfold fY;rw[pe];exact a2
    have HC:=λO (r:Below w2.heap.size w2 O)=>apG (β:=true) (fY key l y.ns) K W v2 O _ _ (cH.aw.below t2 r (am _)) r.size;have a4:=ab HC;have ay:=ab (show ajR key l y.ns from j);clear HC j K X o2 t2 W kD N;go_wp2;refine(a4.out _ (ff _ _)).mono ?_;rintro e O ⟨rfl,r⟩;have J:=ae Z r;have an:=av ax r;have cp:=an.cell 0;cases hj:(fA (fY key l y.ns)).2
    .have a:dC key l x.all=none:=ab5 (be HY.out) (ab4 λP=>by rw[hj] at P;cases P.2);have g:=ab a;clear a hj;go_wp2;go_ret2;exact eA.no g.out J
    .have D:=agJ (x:=y) ay.out hj;have a5:(fA (fY key l y.ns)).1.size<=maxLen:=by have:=afi (l:=fY key l y.ns);unfold maxLen;omega
     generalize (fA (fY key l y.ns)).1=tx at *;have a3:=adg HY.out D;have V:∀z∈x.all.take (k+1),(gU key l z).isSome=true:=λz f=>by
      rw[mu HY.out] at f;rcases jt.1 f with f|f
      .exact E.out z f
      .rw[gE.1 f,D];rfl
     have HN:=ab a3;have a9:=ab V;clear a3 V D hj;have L:=(U.below (ae ba (M.trans (r.mono M.size)))).below (ff _ _);obtain⟨Ao,co,rfl⟩:=L.form;have a1:=J.size;go_wp2_with(at_builtin;refine bR (F:=jT) (v:=.slice Ao (dA key l (x.all.take k)).length co) rfl (.tmp 41) (.tmp 46) 30 rfl lJ (⟨y.p,tx⟩:Nd) rfl L rfl rfl (by rw[I.out];omega) a1 ?_;intro va w4 oa a7 aY;obtain⟨Aa,ca,rfl⟩:=oa.form);go_roundw
     case rel=>
      have ow:=J.trans (a7.below a1 λi hi hx=>by have:=(L.at_ hx).1;omega);refine⟨k+1,by omega,by go_num,a9.out,by rw[HN.out];simp only[ap,fm,me,ls] at oa;exact oa, ?_,by rw[HN.out,ap,I.out];rfl,ow⟩;rw[HN.out];intro z f;rcases jt.1 f with f|f
      .exact u.out z f
      .rw[gE.1 f];exact⟨ad,a5⟩
     case measure=>simp[intOf];omega
  .obtain rfl:k=x.all.length:=by omega
   rw[gt] at E u I U;have t3:=acn.sl (aD.deep U u.out w.heap.size) (am _);obtain⟨q,Q⟩:∃q:Bool,q=true↔agB (dA key l x.all):=by
    by_cases hx:agB (dA key l x.all)
    .exact⟨true,by simp[hx]⟩
    .exact⟨false,by simp[hx]⟩
   have HT:=λO (r:Below wr.heap.size wr O)=>asQ (β:=true) (dA key l x.all) u8 O _ _ (eF.aw.below t3 r (am _)) r.size q Q;have aa:=ab HT;have N:=ab Q;clear HT Q t3;go_wp2;refine(aa.out _ (ff _ _)).mono ?_;rintro e w2 ⟨rfl,M⟩;have H:=ae hb M;cases q with
   |false=>
    have a:dC key l x.all=none:=by
     unfold dC;rw[bd];rintro⟨-,P⟩;have:=N.out.2 P;cases this
    have g:=ab a;clear a;go_wp2;go_ret2;exact eA.no g.out H
   |true=>
    have Y:dC key l x.all=some (dA key l x.all):=by
     unfold dC;rw[dj ⟨E.out,N.out.1 rfl⟩]
    have G:=ab Y;clear Y;have kD:=U.below M;clear U;go_wp2;go_ret2;refine⟨u8,by rw[G.out];rfl,by rw[G.out];exact kD,by rw[G.out];exact u.out,H⟩
noncomputable def aaq(key:Int)(l:List gY)(xs:List Ls):Option (List Nd):=if 1<=key/\key<=99 then dC key l xs else none
def amu (key:Int) (l:List gY) (A:Option Addr) (c:Nat) (x:Sn) (f:Value) (lo hi:Nat) (w:World) (n:Glo w) (m:hi<=w.heap.size) (k:PkL w A l) (g:l.length<=c) (q:c<=maxLen) (o:∀p∈l,1<=p.2.length/\cA p.1)
  (j:gD w lo hi x.all [f]) (b:∀y∈x.all,y.ns.length<=2147483647) (i:x.all.length<=1099511627) :
  Calls (ah true) 17 #[.int .i64 key,.agg #[.int .i64 x.no,f],.slice A l.length c] w (eA (aaq key l x.all) w):=by
 by_cases a:1<=key/\key<=99
 .rw[show aaq key l x.all=dC key l x.all from dj a];exact aep key a l A c x f lo hi w n m k g q o j b i
 .rw[show aaq key l x.all=none from bd a];obtain⟨B,d,rfl⟩:=j.form;replace a:=ab a;go_enter xq,ntmps17;go_wp2;refine(py (β:=true) key _ false (by simp only[jn,ut];exact a.out)).mono ?_;rintro e r ⟨rfl,rfl⟩;go_wp2;go_ret2;exact eA.no rfl (aB _ _)
end
end Go.Proofs.YtepfjblhjlefiaaGreatDoor