/- A part. -/
import Derived.Test.YtlggbfanooejbaaGreatDoorG6
import Derived.RangeFuncNested
import Derived.RangeFuncBound
import Derived.RangeFuncCalls
import Derived.RangeFuncLeaves
import Derived.Shelf.Abstract
import Derived.Shelf.RegionOpen
import Derived.OwnWalkIn
import Derived.TacticsInMore
import Derived.LoopNIn
import Derived.LoopIn
import Derived.Lib.IndexLaws
import Derived.Lib.Bytealg
import Derived.OrdersIn
set_option maxRecDepth 100000
set_option maxHeartbeats 8000000
set_option linter.all false
open Go Go.RowKit Go.Proofs.Tryz Go.Proofs.YtlggbfanooejbaaGreatDoor
variable {s x:dJ} {W B c g hi k lo n n₀:Nat} {a:Act} {key:Int} {V:Type} {o:Oper} {Z Y X v:Value} {w w':World} {l':List ig} {dI:List Int} {f:ByteArray} {cs:List Value} {A:Option Addr} {U S:Act→World→Prop}
namespace Go.Proofs.YtlggbfanooejbaaGreatDoor
def sg:=@beq_self_eq_true
def sL:=@List.find?_cons
def te:=@List.filterMap_cons
def th:=@List.getElem?_cons_zero
def tC:=@List.length_eq_one_iff
def tO:=@List.mem_map_of_mem
def uF:=@Go.wpList_nil
def uM:=@Array.replicate_zero
def uN:=@Array.replicate_succ
def uO:=@Int.mul_le_mul_of_nonneg_left
def uQ:=@List.append_toArray
def vf:=@List.push_toArray
def vK:=@List.length_pos_of_mem
def vL:=@Go.KeepsOthers.of_grownBy
def vS:=@Int.emod_add_mul_ediv
section
variable {β:Bool}
open Go.RowKit
def pkd(p:Pk):ig:=(p.no,p.its.map λx=>(x.n,x.b))
def aX(l:List Pk):List ig:=l.map pkd
open Classical in
noncomputable def fJ(l:List ByteArray):ByteArray×Bool:=if dE (qU (dc l))=true/\fY (qU (dc l))=l then(qU (dc l),true) else(⟨#[]⟩,false)
def agh(key:Int)(l:List ig)(ns:List Int):Prop:=∀n∈ns,(bB key l n).2=true
noncomputable def fO(key:Int)(l:List ig)(ns:List Int):List ByteArray:=ns.map λn=>(bB key l n).1
open Classical in
noncomputable def et(key:Int)(l:List ig)(x:Ls):Option Nd:=if agh key l x.ns/\(fJ (fO key l x.ns)).2=true then some ⟨x.p,(fJ (fO key l x.ns)).1⟩ else none
noncomputable def df(key:Int)(l:List ig)(xs:List Ls):List Nd:=xs.filterMap (et key l)
def aaz(g f:ByteArray):Bool:=(bs g++[47]).isPrefixOf (bs f)
def aeZ(t:List Nd):Prop:=t.length<=6/\∀i x,t[i]?=some x->agn x/\(∀y,0<i->t[i-1]?=some y->Op.bytesLess y.p.toList x.p.toList=true)/\∀k y,k<i->t[k]?=some y->aaz y.p x.p=false
open Classical in
noncomputable def dx(key:Int)(l:List ig)(xs:List Ls):Option (List Nd):=if(∀x∈xs,(et key l x).isSome=true)/\aeZ (df key l xs) then some (df key l xs) else none
noncomputable def adL(key:Int)(s:dJ)(no:Int):Option (List Nd):=match s.sn.find? (λx=>x.no ==no) with
 |some x=>dx key (aX s.pk) x.all
 |none=>none
def lr{key nm:Int}:∀{l:List ig},(bB key l nm).2=true↔∃p∈l,(eh key p.2 nm).2=true
 |[]=>by simp[bB]
 |p::l=>by
  show(if(eh key p.2 nm).2=true then((eh key p.2 nm).1,true) else bB key l nm:ByteArray×Bool).2=true↔_;by_cases h:(eh key p.2 nm).2=true
  .rw[dj h];exact⟨λ_=>⟨p,by simp,h⟩,λ_=>rfl⟩
  .rw[bv h,lr];constructor
   .rintro⟨q,a,b⟩;exact⟨q,by simp[a],b⟩
   .rintro⟨q,a,b⟩;rcases me.1 a with rfl|a
    .exact absurd b h
    .exact⟨q,a,b⟩
def afS{nm:Int}:∀{l:List (Int×ByteArray)} {k:Nat} {x:Int×ByteArray},eE nm l=k->l[k]?=some x->x.1=nm
 |[],k,x,_,h=>by simp at h
 |y::l,k,x,h,hx=>by
  have h:(if y.1=nm then 0 else let j:=eE nm l;if j<0 then -1 else j+1:Int)=k:=h;by_cases a:y.1=nm
  .rw[dj a] at h;obtain rfl:k=0:=by omega
   simp at hx;subst hx;exact a
  .rw[bv a] at h;by_cases b:eE nm l<0
   .have h:(if eE nm l<0 then -1 else eE nm l+1:Int)=k:=h;rw[dj b] at h;omega
   .have h:(if eE nm l<0 then -1 else eE nm l+1:Int)=k:=h;rw[bv b] at h;obtain⟨m,rfl⟩:∃m,k=m+1:=⟨k-1,by omega⟩;exact afS (l:=l) (k:=m) (by omega) (by simpa using hx)
def aiK{nm : Int}{l:List (Int×ByteArray)}{x:Int×ByteArray}(h:eE nm l=k)(a:l[k]?=some x):eh key l nm=dR key x:=by
 unfold eh;rw[h,show((k:Nat):Int).toNat=k from rfl,a];show(if((k:Nat):Int)<0 then _ else _)=_;rw[bv (by omega)]
def acQ{nm : Int}{l:List (Int×ByteArray)}(h:eE nm l=-1):eh key l nm=(⟨#[]⟩,false):=by
 unfold eh;rw[h];split
 .rw[dj (by omega)]
 .rfl
def afT{nm : Int}{l:List (Int×ByteArray)}(h:(eh key l nm).2=true):∃(k:Nat) (x:Int×ByteArray),eE nm l=k/\l[k]?=some x/\x.1=nm/\eh key l nm=dR key x:=by
 rcases acA nm l with a|⟨k,x,a,b⟩
 .rw[acQ a] at h;cases h
 .exact⟨k,x,a,b,afS a b,aiK a b⟩
def amS{x:Int×ByteArray}(h:(dR key x).2=true):aR (bs (dR key x).1)/\bG key (bs (dR key x).1)=x.1:=by
 unfold dR at h ⊢;split
 .rename_i a;exact⟨ahd a.1,a.2⟩
 .rename_i a;rw[bv a] at h;cases h
def amT{nm : Int}{l:List (Int×ByteArray)}(h:(eh key l nm).2=true):aR (bs (eh key l nm).1)/\bG key (bs (eh key l nm).1)=nm:=by
 obtain⟨k,x,d,c,b,a⟩:=afT h;rw[a] at h ⊢;have:=amS h;exact⟨this.1,this.2.trans b⟩
def jB{key nm:Int}:∀{l:List ig},(bB key l nm).2=true->aR (bs (bB key l nm).1)/\bG key (bs (bB key l nm).1)=nm
 |[],h=>by cases h
 |p::l,h=>by
  have e:bB key (p::l) nm=if(eh key p.2 nm).2=true then((eh key p.2 nm).1,true) else bB key l nm:=rfl
  rw[e] at h ⊢;by_cases a:(eh key p.2 nm).2=true
  .rw[dj a];exact amT a
  .rw[bv a] at h ⊢;exact jB h
def asZ{x y k m r:Int}(g:r+999999999989*k=15*x+55433)(l:r+999999999989*m=15*y+55433)(j:0<=x/\x<282429536481)(i:0<=y/\y<282429536481):x=y:=by
 have b:15*(x-y)=999999999989*(k-m):=by
  rw[Int.mul_sub 999999999989];generalize 999999999989*k=A at *;generalize 999999999989*m=B at *;omega
 clear g l;generalize k-m=d at *;have f:x-y<282429536481/\ -282429536481<x-y:=by clear b;omega
 have a:x-y=0->x=y:=by clear b;omega
 clear j i;generalize x-y=z at *;have e:d<5:=by
  refine Int.lt_of_not_ge λh=> ?_;have:=uO h (show(0:Int)<=999999999989 by decide);rw[<-b] at this;clear b;omega
 have c : -5<d:=by
  refine Int.lt_of_not_ge λh=> ?_;have:=uO h (show(0:Int)<=999999999989 by decide);rw[<-b] at this;clear b;omega
 have:d=-4\/d=-3\/d=-2\/d=-1\/d=0\/d=1\/d=2\/d=3\/d=4:=by clear b f a;omega
 rcases this with rfl|rfl|rfl|rfl|rfl|rfl|rfl|rfl|rfl<;>(first|(exact a (by omega))|(exfalso;clear e c f a;omega))
def as0{x y:Int}(b:0<=x/\x<282429536481)(d:0<=y/\y<282429536481)(h:(15*x+55433) % 999999999989=(15*y+55433) % 999999999989):x=y:=by
 have a:=vS (15*x+55433) 999999999989;have c:=vS (15*y+55433) 999999999989;rw[h] at a;exact asZ a c b d
def abp{a b:List Nat}(c:aR a)(d:aR b)(h:bG 7 a=bG 7 b):a=b:=by
 have i:=ab4 c;have f:=ab4 d;have e:∀l,bG 7 l=(15*(code l:Int)+55433) % 999999999989:=λl=>by
  unfold bG;rw[show(code l:Int)*(2*7+1)+7*7919=15*(code l:Int)+55433 by clear h i f;generalize (code l:Int)=z;omega]
 rw[e,e] at h;have j:(code a:Int)<282429536481:=by clear h e;omega
 have g:(code b:Int)<282429536481:=by clear h e;omega
 have k:(code a:Int)=code b:=as0 ⟨Int.natCast_nonneg _,j⟩ ⟨Int.natCast_nonneg _,g⟩ h;refine apr c.2 d.2 ?_;show code a=code b;exact Int.ofNat_inj.1 k
def ap8{nm:Int}{l : List ig}(h:(bB 7 l nm).2=true)(e:(bB 7 l' nm).2=true):(bB 7 l nm).1=(bB 7 l' nm).1:=by
 obtain⟨a,b⟩:=jB h;obtain⟨c,d⟩:=jB e;exact jm (abp a c (b.trans d.symm))
def ap9{l : List ig}(b:∀nm,(bB 7 l' nm).2=true->(bB 7 l nm).2=true)(h:agh 7 l' dI):agh 7 l dI/\fO 7 l dI=fO 7 l' dI:=
 ⟨λn a=>b n (h n a),tP λn a=>ap8 (b n (h n a)) (h n a)⟩
def amU{l : List ig}(d:∀nm,(bB 7 l' nm).2=true->(bB 7 l nm).2=true){x:Ls}{y:Nd}(h:et 7 l' x=some y):et 7 l x=some y:=by
 unfold et at h ⊢;split at h
 .rename_i b;obtain⟨c,a⟩:=ap9 d b.1;rw[dj ⟨c,by rw[a];exact b.2⟩,a];exact h
 .cases h
def adM{l l':List ig}(e:∀nm,(bB 7 l' nm).2=true->(bB 7 l nm).2=true):∀{xs:List Ls},(∀x∈xs,(et 7 l' x).isSome=true)->(∀x∈xs,(et 7 l x).isSome=true)/\df 7 l xs=df 7 l' xs
 |[],_=>⟨λx g=>(by cases g),rfl⟩
 |x::xs,h=>by
  obtain⟨y,d⟩:=rD.1 (h x (by simp));have b:=amU e d;obtain⟨f,c⟩:=adM e (xs:=xs) λz a=>h z (by simp[a]);refine⟨λz a=> ?_, ?_⟩
  .rcases me.1 a with rfl|a
   .rw[b];rfl
   .exact f z a
  .unfold df at c ⊢;rw[te,te,d,b,c]
def amV{l : List ig}(d:∀nm,(bB 7 l' nm).2=true->(bB 7 l nm).2=true){xs:List Ls}{t:List Nd}(h:dx 7 l' xs=some t):dx 7 l xs=some t:=by
 unfold dx at h ⊢;split at h
 .rename_i b;obtain⟨c,a⟩:=adM d b.1;rw[dj ⟨c,by rw[a];exact b.2⟩,a];exact h
 .cases h
def nZ{x:It}:fS key x↔(dR key (x.n,x.b)).2=true:=by
 have e:∀s,(eD s).2=true↔cX (bs s)=some (bs (eD s).1):=λs=>by
  unfold eD cX;rw[aco];by_cases h:aR (tl (bs s))/\fE (tl (bs s))=bs s
  .rw[dj h,dj h];simp only[sO];rw[aco]
  .rw[bv h,bv h];simp
 unfold fS dR;constructor
 .rintro⟨p,c,f⟩;have d:(eD x.b).2=true:=by
   unfold eD;rw[aco];unfold cX at c;split at c
   .rename_i b;rw[dj b]
   .cases c
  have a:=(e x.b).1 d;rw[c] at a;have a:=ef a;rw[dj ⟨d,by rw[<-a];exact f⟩]
 .intro h;split at h
  .rename_i b;exact⟨_,(e x.b).1 b.1,b.2⟩
  .cases h
def as1{s:ByteArray}(h:aR (bs s)):fS key (iW key s):=⟨bs s,by show cX (bs (qU (fE (bs s))))=_;rw[ah8,ajs h],rfl⟩
def aiL(p:Pk)(i:Nat):(pkd p).2[i]?=(p.its[i]?).map λx=>(x.n,x.b):=by show(p.its.map _)[i]?=_;rw[qz]
def afU{nm : Int}{p:Pk}(c:∀x∈p.its,fS key x)(h:eE nm (pkd p).2=k):(eh key (pkd p).2 nm).2=true:=by
 rcases acA nm (pkd p).2 with b|⟨e,x,b,a⟩
 .omega
 .rw[aiK b a];rw[aiL] at a;obtain⟨y,d,rfl⟩:=iS.1 a;exact nZ.1 (c y (aE d))
def akv{nm:Int}:∀{l a:List (Int×ByteArray)},l.map (·.1)=a.map (·.1)->eE nm l=eE nm a
 |[],[],_=>rfl
 |[],_::_,h=>by simp at h
 |_::_,[],h=>by simp at h
 |x::l,y::a,h=>by
  simp only[qK,qf] at h;show(if x.1=nm then 0 else let j:=eE nm l;if j<0 then -1 else j+1:Int)=(if y.1=nm then 0 else let j:=eE nm a;if j<0 then -1 else j+1:Int);rw[h.1,akv h.2]
def aqa{β : Type}(g:V->β)(f:V->V)(c:∀x,g (f x)=g x)(l:List V)(i:Nat):(tY l i f).map g=l.map g:=by
 unfold tY;split
 .rename_i x b;apply List.ext_getElem?;intro j;rw[qz,qz];by_cases a:i=j
  .subst a;rw[sx (aI b),b];simp[c]
  .rw[sV a]
 .rfl
def avO(m:∀p∈s.pk,∀x∈p.its,fS 7 x)(L:acj)(nm:Int)(h:(bB 7 (aX (kP s L).pk) nm).2=true):(bB 7 (aX s.pk) nm).2=true:=by
 have same:(kP s L).pk=s.pk->(bB 7 (aX s.pk) nm).2=true:=λe=>by rw[e] at h;exact h
 by_cases l:L.k=1
 .rw[aip l] at h;obtain⟨p,c,f⟩:=lr.1 h;refine lr.2 ⟨p, ?_,f⟩;obtain⟨q,g,rfl⟩:=mc.1 c;exact tO ((sJ.1 g).1)
 by_cases d:L.k=2
 .by_cases b:0<=L.n/\L.n<=s.lg.length
  .exact same (by rw[afA d b])
  .exact same (by rw[aiq d b])
 by_cases j:L.k=3
 .rw[al8 j] at h;obtain⟨p,c,f⟩:=lr.1 h;obtain⟨q,g,rfl⟩:=mc.1 c;obtain⟨r,a,rfl⟩:=mc.1 g;obtain⟨k,x,n, -, -, -⟩:=afT f;refine lr.2 ⟨pkd r,tO a,afU (m r a) (k:=k) ?_⟩;rw[<-n];refine akv ?_;show(r.its.map _).map _=((aoh L r).its.map _).map _;rw[tV,tV];unfold aoh;split
  .exact(aqa (λx:It=>x.n) (λx=>(⟨x.n,L.b⟩:It)) (λ_=>rfl) r.its L.m.toNat).symm
  .rfl
 by_cases i:L.k=4
 .by_cases b:0<=L.n/\L.n<s.lg.length
  .exact same (by rw[al9 i b])
  .exact same (by rw[air i b])
 exact same (by rw[ama l d j i])
def eC.items(h:eC s):∀p∈s.pk,∀x∈p.its,fS 7 x:=by
 induction h with
 |nil=>exact λp a=>(by cases a)
 |save _ l d k i=>
  intro p a x b;rcases io.1 a with a|a
  .exact i p a x b
  .obtain⟨n,j,c,e,m,o,f⟩:=jy 7 _ _ _ (am _) p a;rw[e] at b;obtain⟨q,g,rfl⟩:=ac7.1 b;exact as1 (lB (aao d) q (f q g))
def eC.one(h:eC s):∀p∈s.pk,1<=p.its.length:=by
 induction h with
 |nil=>exact λp a=>(by cases a)
 |save _ m l i b=>
  intro p a;rcases io.1 a with a|a
  .exact b p a
  .obtain⟨j,g,c,e,d,k,f⟩:=jy 7 _ _ _ (am _) p a;rw[e,aan];exact d
def adN{e:Type}(q:e->Bool)(f:Int->Bool)(a:e->Int)(n:Int)(i:∀x,q x=f (a x)):∀{l:List e} {x:e},(l.filter q).find? (λx=>a x ==n)=some x->l.find? (λx=>a x ==n)=some x
 |[],x,h=>by simp at h
 |y::l,x,h=>by
  rw[sL];by_cases d:a y=n
  .rw[show(a y ==n)=true from mt.2 d];by_cases c:q y=true
   .rw[rR,dj c,sL,show(a y ==n)=true from mt.2 d] at h;exact h
   .exfalso;have j:=List.mem_of_find?_eq_some h;have g:=List.find?_some h;have b:=(sJ.1 j).2;rw[i] at b c;rw[mt.1 g] at b;rw[d] at c;exact c b
  .rw[show(a y ==n)=false from du.2 d];refine adN q f a n i (l:=l) ?_;by_cases c:q y=true
   .rw[rR,dj c,sL,show(a y ==n)=false from du.2 d] at h;exact h
   .rw[rR,bv c] at h;exact h
def ay6(L:acj){x:Sn}(h:(kP s L).sn.find? (λx=>x.no ==key)=some x):s.sn.find? (λx=>x.no ==key)=some x:=by
 by_cases d:L.k=1
 .rw[aip d] at h;exact h
 by_cases b:L.k=2
 .by_cases a:0<=L.n/\L.n<=s.lg.length
  .rw[afA b a] at h;exact adN (λx:Sn=>!((s.lg.drop L.n.toNat).any λh=>h.s ==x.no)) (λm=>!((s.lg.drop L.n.toNat).any λh=>h.s ==m)) (λx:Sn=>x.no) key (λ_=>rfl) h
  .rw[aiq b a] at h;exact h
 by_cases e:L.k=3
 .rw[al8 e] at h;exact h
 by_cases c:L.k=4
 .by_cases a:0<=L.n/\L.n<s.lg.length
  .rw[al9 c a] at h;exact h
  .rw[air c a] at h;exact h
 rw[ama d b e c] at h;exact h
def Bt(h:eC s)(L:acj){t:List Nd}(a:adL 7 (kP s L) key=some t):adL 7 s key=some t:=by
 unfold adL at a ⊢;split at a
 .rename_i x b;rw[ay6 L b];exact amV (avO h.items L) a
 .cases a
end
section
open Go.RowKit
inductive eF (s:dJ):dJ->Prop
 |same:eF s s
 |gone {k:Nat} (h:k<s.pk.length):eF s ⟨s.pk.take k++s.pk.drop (k+1),s.sn,s.lg⟩
 |put {k:Nat} {p q:Pk} (h:s.pk[k]?=some p) (hl:q.its.length=p.its.length) (hb:∀x∈q.its,x.b.size<=8):eF s ⟨s.pk.set k q,s.sn,s.lg⟩
def eF.lg(h:eF s x):x.lg=s.lg:=by cases h<;>rfl
def eF.sn(h:eF s x):x.sn=s.sn:=by cases h<;>rfl
def eF.all(h:eF s x){P:Pk->Prop}(a:∀p∈s.pk,P p)(c:∀p q:Pk,P p->q.its.length=p.its.length->(∀y∈q.its,y.b.size<=8)->P q):∀p∈x.pk,P p:=by
 cases h with
 |same=>exact a
 |gone h=>
  intro p b;rcases io.1 b with h|h
  .exact a p (oS h)
  .exact a p (rT h)
 |put h e f=>
  intro p b;rcases sU b with d|rfl
  .exact a p d
  .exact c _ _ (a _ (aE h)) e f
def eF.len(h:eF s x):x.pk.length<=s.pk.length:=by
 cases h with
 |same=>exact am _
 |gone h=>show(s.pk.take _++s.pk.drop _).length<=_;rw[ap,ff,pi];omega
 |put h _ _=>show(s.pk.set _ _).length<=_;rw[qP];exact am _
def eF.sm(h:eF s x)(a:SmS s):SmS x:=
 ⟨db h.len a.pl,h.all (P:=λp=>p.its.length<=4/\∀y∈p.its,y.b.size<=8) a.pn λp q b c d=>⟨by rw[c];exact b.1,d⟩,by rw[h.sn];exact a.sl,by rw[h.sn];exact a.sn,by rw[h.lg];exact a.ll⟩
def SmS.tail(h:SmS s):SmS ⟨s.pk.drop 1,s.sn,s.lg⟩:=
 ⟨by show(s.pk.drop 1).length<=20;rw[pi];have:=h.pl;omega,λp a=>h.pn p (rT a),h.sl,h.sn,h.ll⟩
end
section
variable {β:Bool}
open Go.RowKit
structure PkH where
 no:Int
 a:Option Addr
 n:Nat
 c:Nat
def mF:Flat PkH:=⟨2,λx=>[.int .i64 x.no,.slice x.a x.n x.c],λ_=>True,λ_=>rfl,λx u a=>by simp at a;rcases a with rfl|rfl<;>rfl,by decide⟩
def amW(w:World)(lo hi:Nat)(x:PkH)(p:Pk):Prop:=x.no=p.no/\x.n=p.its.length/\bX p.no/\fC w lo hi p.its [.slice x.a p.its.length x.c]
def amW.below{x:PkH}{p:Pk}(h:amW w lo hi x p)(b:Below B w w')(a:hi<=B):amW w' lo hi x p:=⟨h.1,h.2.1,h.2.2.1,fC.az.below h.2.2.2 b a⟩
open Classical in
def ae4{l:List Pk}(h:dQ w lo hi l [v]) :
  ∃r:List PkH,r.length=l.length/\cB (bR mF) 2 w lo hi r [v]/\∀(i:Nat) (x:PkH) (p:Pk),r[i]?=some x->l[i]?=some p->amW w lo hi x p:=by
 obtain⟨A,c,rfl⟩:=h.form;have m:∀i:Fin l.length,∃x:PkH,amW w lo hi x l[i]/\∃b a,A=some ⟨b,a,none⟩/\w.cell? ⟨b,a+i*2,none⟩=some (.int .i64 x.no)/\w.cell? ⟨b,a+i*2+1,none⟩=some (.slice x.a x.n x.c):=λi=>by
  obtain⟨b,a,F,H,rfl, -, -,s,D,n,G⟩:=lV h (ls i.2);exact⟨⟨l[i].no,F,l[i].its.length,H⟩,⟨rfl,rfl,s,G⟩,b,a,rfl,D,n⟩
 obtain⟨f,z⟩:=Classical.axiomOfChoice m;have q:(List.ofFn f).length=l.length:=List.length_ofFn;have y:∀i x,(List.ofFn f)[i]?=some x->∃hi:i<l.length,x=f ⟨i,hi⟩:=λi x g=>by
  rw[List.getElem?_ofFn] at g;split at g
  .rename_i hi;exact⟨hi,(ef g).symm⟩
  .cases g
 refine⟨List.ofFn f,q, ?_,λi x p g o=> ?_⟩
 .obtain⟨A',K,e,E,I,g⟩:=h.1;simp only[qf,qa,qh] at e;obtain⟨rfl, -,rfl⟩:=e;refine⟨A,c,by rw[q],by rw[q];exact E,I,λo=> ?_⟩;obtain⟨b,a,rfl,n,C, -⟩:=g (by omega);refine⟨b,a,rfl,n,C,λi x hi=> ?_⟩;obtain⟨d,rfl⟩:=y i x hi;obtain⟨-,L,t,e,B,J⟩:=z ⟨i,d⟩;simp only[jt,qd,qh] at e;obtain⟨rfl,rfl⟩:=e;refine⟨_,rfl,⟨rfl,trivial⟩,λj u k=> ?_⟩
  match j,k with
  |0,k=>cases k;exact B
  |1,k=>cases k;exact J
 .obtain⟨d,rfl⟩:=y i x g;have e:l[i]'d=p:=by rw[ls d] at o;exact ef o
  have:=(z ⟨i,d⟩).1;simp only[Fin.getElem_fin,e] at this;exact this
def aqb{base : Nat}{j:List PkH}{l:List Pk}(h:aD mF 40 w base v j)(C:j.length=l.length)(H:∀(i:Nat) (x:PkH) (p:Pk),j[i]?=some x->l[i]?=some p->amW w lo hi x p)(J:lo<=base)(hi':hi<=w.heap.size) :
  dQ w lo w.heap.size l [v]:=by
 have a:=h.sl (λ_ _=>trivial) (am _);obtain⟨A,c,rfl⟩:=a.form;obtain⟨A',r,e,L,E,D⟩:=a;simp only[qf,qa,qh] at e;obtain⟨rfl, -,rfl⟩:=e;refine⟨⟨A,c,by rw[C],by omega,E,λz=> ?_⟩,λz b d n r e=> ?_⟩
 .obtain⟨b,d,rfl,K,q,m⟩:=D (by omega);refine⟨b,d,rfl,by omega,q,λi p hi=> ?_⟩;obtain⟨x,f⟩:=ak (l:=j) (k:=i) (by have:=aI hi;omega);obtain⟨M,F,⟨rfl, -⟩,G⟩:=m i x f;obtain⟨t,I,u,B⟩:=H i x p f hi;refine⟨_,F,⟨.slice x.a x.n x.c,by rw[<-t];rfl,u, ?_⟩,G⟩;rw[I];exact fC.az.wide B (am _) hi'
 .simp only[qf,qa,qh] at e;obtain⟨rfl, -,rfl⟩:=e;rcases h.2 with⟨o, -⟩|⟨g,cap,y,o, -,s, -⟩
  .cases o
  .cases o;exact⟨_,s⟩
end
section
variable {β:Bool}
open Go.RowKit
def cB.aji{E:gR V}{xs:List V}(h:cB E W w lo hi xs [.slice A n c])(q:k<=xs.length):cB E W w lo hi (xs.take k) [.slice A k c]:=by
 obtain⟨A',p,f,r,m,l⟩:=h;simp only[qf,qa,qh] at f;obtain⟨rfl,rfl,rfl⟩:=f;have d:(xs.take k).length=k:=by rw[ff];omega
 refine⟨_,c,by rw[d],by rw[d];omega,m,λg=> ?_⟩;rw[d] at g;obtain⟨b,a,rfl,o,j,e⟩:=l (by omega);refine⟨b,a,rfl,o,j,λi x hi=> ?_⟩;rw[rj] at hi;split at hi
 .exact e _ _ hi
 .cases hi
def gj.T{xs:List Pk}(h:gj w lo hi xs cs):fq 40 OPk 2 w lo hi xs cs:=cJ.slT OPk.az.loc (λh=>h) h
def gW.T{xs:List Sn}(h:gW w lo hi xs cs):fq 35 OSn 2 w lo hi xs cs:=cJ.slT OSn.az.loc (λh=>h) h
def gq.T{xs:List Hd}(h:gq w lo hi xs cs):fq 88 (bR FHd) 2 w lo hi xs cs:=cJ.slT (bR.az FHd).loc (λh=>h) h
abbrev tSn:eK (fq 35 OSn 2) [35,68,3]:=fq.az OSn.az
abbrev tHd:eK (fq 88 (bR FHd) 2) [88]:=fq.az (bR.az FHd)
structure ay7 (w:World) (lo hi:Nat) (s:dJ) (va vb vc:Value):Prop where
 pk:fq 40 OPk 2 w lo hi s.pk [va]
 sn:fq 35 OSn 2 w lo hi s.sn [vb]
 lg:fq 88 (bR FHd) 2 w lo hi s.lg [vc]
abbrev aDn:List TypeId:=[40,64,35,68,3,88]
def Typed.more{T U:List TypeId}{b:Nat}(h:Typed w T b)(d:∀t∈T,t∈U):Typed w U b:=by
 obtain⟨t,c,a⟩:=h;exact⟨t,d t c,a⟩
def gJ.t(h:gJ w lo hi s Z Y X):ay7 w lo hi s Z Y X:=⟨gj.T h.pk,gW.T h.sn,gq.T h.lg⟩
end
section
variable {β:Bool}
open Go.RowKit
structure iP (w:World) (lo hi:Nat) (s:dJ) (va vb vc:Value):Prop where
 pk:dQ w lo hi s.pk [va]
 sn:fq 35 OSn 2 w lo hi s.sn [vb]
 lg:fq 88 (bR FHd) 2 w lo hi s.lg [vc]
def ay7.p(h:ay7 w lo hi s Z Y X):iP w lo hi s Z Y X:=⟨⟨cB.ayu OPk.t h.pk.1,h.pk.2⟩,h.sn,h.lg⟩
def iP.typed{pF hi' : Nat}(h:iP w lo hi s Z Y X)(g:∀b,lo<=b->b<hi->Typed w aDn b->w'.heap[b]?=w.heap[b]?)(f:pF<=lo)(e:hi<=hi'):iP w' pF hi' s Z Y X:=
 ⟨dQ.az.go (λb a c d=>g b a c (d.more (by decide))) f e h.pk,tSn.go (λb a c d=>g b a c (d.more (by decide))) f e h.sn,tHd.go (λb a c d=>g b a c (d.more (by decide))) f e h.lg⟩
def iP.below(h:iP w lo hi s Z Y X)(a:Below B w w')(d:hi<=B):iP w' lo hi s Z Y X:=h.typed (λb _ c _=>a.block b (by omega)) (am _) (am _)
def iP.wide{pF hi' : Nat}(h:iP w lo hi s Z Y X)(b:pF<=lo)(a:hi<=hi'):iP w pF hi' s Z Y X:=h.typed (λ_ _ _ _=>rfl) b a
def iP.l(h:iP w lo hi s Z Y X):aaF w lo hi s Z Y X:=⟨dQ.l h.pk,cB.ayu OSn.l h.sn.1,h.lg.1⟩
def iP.form(h:iP w lo hi s Z Y X):∃A a B b C c,Z=.slice A s.pk.length a/\Y=.slice B s.sn.length b/\X=.slice C s.lg.length c:=by
 obtain⟨A,a,rfl⟩:=fq.form h.pk;obtain⟨B,b,rfl⟩:=fq.form h.sn;obtain⟨C,c,rfl⟩:=fq.form h.lg;exact⟨A,a,B,b,C,c,rfl,rfl,rfl⟩
def iP.box{cs:Array Value}(h:iP w lo hi s Z Y X)(c:cg w g 27 cs)(j:Nat)(u:Value):iP (w.setCell ⟨g,j,none⟩ u) lo hi s Z Y X:=
 h.typed (λb _ _ a=>qw _ _ _ _ (by
  rintro rfl;obtain⟨t,d,e,hd⟩:=a;exact absurd (fF c hd▸d) (by decide))) (am _) (am _)
def aqc(w:World)(lo hi g:Nat)(l:List Int)(p:Nat)(e:Ending)(w':World):Prop:=
 ∃d c a s x q,e=.returned (.agg #[d,c,a])/\iP w' w.heap.size w'.heap.size x d c a/\eC s/\eF s x/\Rd w' lo hi g l q/\q<=p+800/\bV (λb=>b=g) w w'
end
section
variable {β:Bool}
open Go.RowKit
def as2(w:World)(lo hi g:Nat)(l:List Int)(p n:Nat)(e:Ending)(w':World):Prop:=∃(m:Int) (q:Nat),e=.returned (.int .i64 m)/\(0<=m/\m<=100)/\Rd w' lo hi g l q/\q<=p+n/\bV (λb=>b=g) w w'
def amX(l:List Int)(g p lo hi:Nat)(w:World)(M:Rd w lo hi g l p)(U:p<=100000) :
  Calls (ai β) 17 #[.pointer (some ⟨g,0,none⟩)] w (as2 w lo hi g l p 3):=by
 have P:=M.lt;go_enter zR,ntmps17;go_wp2;refine(cF _ _ _ _ _ _ 60 M (by omega)).mono ?_;rintro e y ⟨m,rfl,⟨_,R⟩,j,f⟩;clear R;have S:=f.size;by_cases L:m=0
 .have Q:(m ==0)=true:=mt.2 L;go_wp2;have n:=cg.new y 3 #[.int .i64 0,.int .i64 100];have b:=j.alloc (.cells #[.int .i64 0,.int .i64 100] 3);have c:=f.alloc (.cells #[.int .i64 0,.int .i64 100] 3);have F:=j.lt;generalize y.alloc (.cells #[.int .i64 0,.int .i64 100] 3)=x at *;refine(cF _ _ _ _ _ _ 2 b (by omega)).mono ?_;rintro e K ⟨O,rfl,⟨_,a⟩,G,v⟩;obtain⟨D,J⟩:=a (by omega);clear a;replace n:=aY n v (by omega);obtain⟨k,rfl⟩:=qu D;have hd:∃d:Int,0<=d/\d<=100/\(#[Value.int .i64 0,.int .i64 100]:Array Value)[k]?=some (.int .i64 d):=by
   match k,J with
   |0,_=>exact⟨0,by omega,by omega,rfl⟩
   |1,_=>exact⟨100,by omega,by omega,rfl⟩
  obtain⟨t,E,z,q⟩:=hd;have B:K.cell? ⟨y.heap.size,k,none⟩=some (.int .i64 t):=by rw[n.cell];exact q
  clear q;have A:k<2:=by omega
  go_wp2;go_ret;exact⟨t,_,rfl,⟨E,z⟩,G,by omega,c.trans v λi _ e=>e⟩
 .have Q:(m ==0)=false:=du.2 L;go_wp2;refine(cF _ _ _ _ _ _ 99 j (by omega)).mono ?_;rintro e x ⟨o,rfl,⟨_,r⟩,u,I⟩;obtain⟨T,V⟩:=r (by omega);clear r;have C:=f.trans I λi _ e=>e;go_wp2;have n:=cg.new x 3 #[.int .i64 7,.int .i64 7,.int .i64 (1+o)];have b:=u.alloc (.cells #[.int .i64 7,.int .i64 7,.int .i64 (1+o)] 3);have c:=C.alloc (.cells #[.int .i64 7,.int .i64 7,.int .i64 (1+o)] 3);have F:=u.lt;generalize x.alloc (.cells #[.int .i64 7,.int .i64 7,.int .i64 (1+o)] 3)=K at *;refine(cF _ _ _ _ _ _ 3 b (by omega)).mono ?_;rintro e N ⟨O,rfl,⟨_,a⟩,H,s⟩;obtain⟨D,J⟩:=a (by omega);clear a;replace n:=aY n s (by omega);obtain⟨k,rfl⟩:=qu D;have hd:∃d:Int,0<=d/\d<=100/\(#[Value.int .i64 7,.int .i64 7,.int .i64 (1+o)]:Array Value)[k]?=some (.int .i64 d):=by
   match k,J with
   |0,_=>exact⟨7,by omega,by omega,rfl⟩
   |1,_=>exact⟨7,by omega,by omega,rfl⟩
   |2,_=>exact⟨1+o,by omega,by omega,rfl⟩
  obtain⟨t,E,z,q⟩:=hd;have B:N.cell? ⟨x.heap.size,k,none⟩=some (.int .i64 t):=by rw[n.cell];exact q
  clear q;have A:k<3:=by omega
  go_wp2;go_ret;exact⟨t,_,rfl,⟨E,z⟩,H,by omega,c.trans s λi _ e=>e⟩
end
section
variable {β:Bool}
open Go.RowKit
def arc(w:World)(ys:List Int)(e:Ending)(w':World):Prop:=∃v,e=.returned v/\aD fp 3 w' w.heap.size v ys/\Below w.heap.size w w'
def aO(its:List It):List Int:=its.map λx=>x.n
def lW(a:List It):(aO a).length=a.length:=by unfold aO;rw[pZ]
def aiM{a:List It}{x:It}(h:a[k]?=some x):aO (a.take (k+1))=aO (a.take k)++[x.n]:=by
 unfold aO;rw[mp h,qs];rfl
def lZ(u:Int)(a:List It)(v:Value)(w:World)(lo hi:Nat)(G:hi<=w.heap.size)(h:fC w lo hi a [v])(U:a.length<=100000000) :
  Calls (ai β) 10 #[.agg #[.int .i64 u,v]] w (arc w (aO a)):=by
 obtain⟨A,c,rfl⟩:=h.form;obtain⟨_,P,K⟩:=h.len_;unfold maxLen at K;go_enter zT,ntmps10;go_wp2;generalize z:w.alloc (.cells #[.int .i64 u,.slice A a.length c] 40)=wa at *;obtain⟨t,M,D,m,q⟩:=gU z;clear z;go_loopw [3,9] (λx s wr=>∃k:Nat,k<=a.length/\s=.int .i64 k/\aD fp 3 wr w.heap.size x (aO (a.take k))/\Below w.heap.size w wr) (λx s _=>a.length-(intOf s).toNat)
 case atStart=>exact⟨0,fa _,rfl,aD.nil _ _ _,t⟩
 case round=>
  clear D m q t;obtain⟨k,C,rfl,e,b⟩:=hrel;obtain⟨N,I,rfl⟩:=e.form;by_cases j:k<a.length
  .obtain⟨y,g⟩:=ak j;have f:=lW (a.take k);rw[ff,rh C] at f;have d:=aiM g;have HST:=ab d;clear d;obtain⟨T,W,rfl,_,_,E,R,Q⟩:=aaG (fC.az.below h b G) g;replace g:=ab g;revert f HST e;generalize aO (a.take k)=L;intro e f HST;have H:=ab f;clear f;have p:=aC wr (.cells #[.int .i64 y.n,.string y.b] 64);replace e:=e.below p;replace b:=ae b p;have HO:=ab e;clear e;clear p;have r:Hid ((wr.alloc (.cells #[.int .i64 y.n,.string y.b] 64)).heap.size=wr.heap.size+1):=ab (by simp);go_wp2_with(at_builtin;refine bM (F:=fp) (v:=.slice N L.length I) rfl (.tmp 13) (.tmp 16) 31 rfl lj y.n rfl HO.out (gn (λn=>Value.slice (some ⟨n,0,none⟩) 1 1) r.out.symm) rfl (by have:=H.out;omega) b.size ?_;intro X V o l B;obtain⟨S,O,rfl⟩:=o.form;simp only[ap,fi,lP,lm] at o);go_roundw
   case rel=>exact⟨k+1,by omega,by go_num,by rw[HST.out];exact o,b.trans (l.below b.size λi hi J=>by have:=(HO.out.at_ J).1;omega)⟩
   simp[intOf];omega
  .obtain rfl:k=a.length:=by omega
   rw[ga] at e ⊢;go_wp2;go_ret;exact⟨_,rfl,e,b⟩
end
section
variable {β:Bool}
open Go.RowKit
section
variable {P:Program} {α:Type} {F:Flat α}
def mX {l:Array Oper} {rest:List Oper}  {Q:Exit->Act->World->Prop} (m:o.guard=none) (s x:Operand) (t:TypeId)
  (B:o.op=.call ⟨.builtin .append,#[s,x],#[t,t]⟩)
  {e:TypeId} (y:iw P t e F.sz W) {base:Nat} {xs d:List α} (H:a.eval s=v) (g:aD F e w base v xs)  (I:a.eval x=.slice A d.length c) (C:cB (bR F) F.sz w lo hi d [.slice A d.length c]) (E:hi<=w.heap.size)
  (J:xs.length+d.length<=1099511627776) (f:base<=w.heap.size)
  (h:∀k i,aD F e i base k (xs++d)->bV (λb=>v.ownBlock=some b) w i->(∀b,k.ownBlock=some b->v.ownBlock=some b\/w.heap.size<=b)->wpList P l Q rest (a.put o.dst k) i) :
  wpList P l Q (o::rest) a w:=
 ab5 m s x t B y H g I (news:=dL F d) (eT F d) (λz=>by
  obtain⟨r,q,p⟩:=jN C E z;exact⟨r,q,λj u D=>p j u D w (fm _ _)⟩) (aah F d) J f λk i n=>h k i (by
  have G:=n.own;unfold aD;rw[nQ,ap];exact G) n.fP n.at_
end
def pkN(p:Pk):Nat:=p.its.length
def aL(l:List Pk):List Int:=l.flatMap λp=>aO p.its
def mD{l:List Pk}{x:Pk}(h:l[k]?=some x):aL (l.take (k+1))=aL (l.take k)++aO x.its:=by
 unfold aL;rw[mp h,qC];simp
def nC(l:List Pk):∀j,(aL (l.take j)).length=pB pkN l j:=λj=>by
 unfold aL pB;generalize l.take j=m
 induction m with
 |nil=>rfl
 |cons x m a=>rw[vg,ap,a,lW,qK,tk];rfl
def ard(l:List Pk):mC pkN l<=dY bPk l:=by
 unfold mC dY;have:(l.map pkN).sum<=(l.map bPk).sum:=by
  induction l with
  |nil=>exact am _
  |cons x l a=>
   rw[qK,qK,tk,tk];have:pkN x<=bPk x:=jv;omega
 omega
def oA(l:List Pk)(v:Value)(w:World)(lo hi:Nat)(W:hi<=w.heap.size)(h:dQ w lo hi l [v])(hl:mC pkN l<=100000000) :
  Calls (ai β) 42 #[v] w (arc w (aL l)):=by
 obtain⟨A,c,rfl⟩:=h.form;obtain⟨_,hc,Y⟩:=h.len_;unfold maxLen at Y;go_enter zG,ntmps42;go_wp2;go_loopw [3,8] (λS N wr=>∃k:Nat,k<=l.length/\N=.int .i64 k/\aD fp 3 wr w.heap.size S (aL (l.take k))/\Below w.heap.size w wr) (λS N _=>l.length-(intOf N).toNat)
 case atStart=>exact⟨0,fa _,rfl,aD.nil _ _ _,fm _ _⟩
 case round=>
  obtain⟨k,hk,rfl,b,a⟩:=hrel;obtain⟨Ao,X,rfl⟩:=b.form;have C:=nC l k;have K:=pw (n:=pkN) (l:=l) (j:=k);by_cases B:k<l.length
  .obtain⟨p,o⟩:=ak B;have r:=aaX (n:=pkN) o;have E:=pw (n:=pkN) (l:=l) (j:=k+1);have s:pkN p=p.its.length:=rfl;rw[s] at r;have d:=mD o;have HST:=ab d;clear d;obtain⟨b1,U,A5,c5,rfl, -, -,a0,x,oK,Q⟩:=lV (dQ.az.below h a W) o;have M:p.its.length<=100000000:=by omega
   have f:(aL (l.take k)).length+p.its.length<=100000000:=by omega
   replace o:=ab o;clear r E s C K;revert b;revert HST;revert f;generalize aL (l.take k)=L;intro f HST b;have y:=ab f;clear f;go_wp2;generalize P:wr.alloc (.cells #[.int .i64 p.no,.slice A5 p.its.length c5] 40)=wa at *;obtain⟨D,Z,m0,jM,I⟩:=gU P;clear P;replace b:=b.below D;have u:=fC.az.below Q D (by have:=a.size;omega);replace a:=ae a D;refine(lZ p.no p.its _ _ _ _ (by have:=a.size;omega) u M).mono ?_;rintro e w5 ⟨v5,rfl,O,R⟩;obtain⟨A6,c6,rfl⟩:=O.form;replace b:=b.below R;replace a:=ae a R;have m:∀z∈aO p.its,bX z:=λz V=>by
    obtain⟨it,G,rfl⟩:=mc.1 V;exact((cB.good Q.1) it G).1
   have H:=ab (O.sl m (am _));clear m;have g:=lW p.its;replace g:=ab g;have q:=ab b;clear b;clear jM I m0 x oK;go_wp2_with(at_builtin;refine mX (F:=fp) (v:=.slice Ao L.length X) rfl (.tmp 12) (.tmp 14) 31 rfl lj rfl q.out rfl H.out (am _) (by have:=y.out;have:=g.out;omega) a.size ?_;intro v8 w8 J t T;obtain⟨A8,c8,rfl⟩:=J.form;simp only[ap] at J);go_roundw
   case rel=>exact⟨k+1,by omega,by go_num,by rw[HST.out];exact J,a.trans (t.below a.size λi hi hs=>by have:=(q.out.at_ hs).1;omega)⟩
   simp[intOf];omega
  .obtain rfl:k=l.length:=by omega
   rw[ga] at b ⊢;go_wp2;go_ret;exact⟨_,rfl,b,a⟩
def ajb(u0 u1 a:Value)(g:∃A n c,u0=.slice A n c)(i:∃A n c,u1=.slice A n c)(f:∃A n c,a=.slice A n c)(w:World) :
  Calls (ai β) 18 #[.agg #[u0,u1,a]] w λe b=>e=.returned (.agg #[u0,u1,a])/\Below w.heap.size w b:=by
 obtain⟨A,n,c,rfl⟩:=g;obtain⟨B,m,d,rfl⟩:=i;obtain⟨C,k,e,rfl⟩:=f;go_enter zQ,ntmps18;go_wp2;exact oR (v:=.agg #[.slice A n c,.slice B m d,.slice C k e]) (by simp[results,results18,go_sem]) rfl ⟨rfl,by repeat(first|exact fm _ _|refine Below.setCell ?_ (by first|(simp;done)|(simp;omega)) _|refine Below.alloc ?_ (by first|(simp;done)|(simp;omega)) _)⟩
end
section
variable {β:Bool}
open Go.RowKit
def ay8{R:PkH->Pk->Prop}{c a:List PkH}{l l':List Pk}(h:c.length=l.length)(g:∀(i:Nat) x p,c[i]?=some x->l[i]?=some p->R x p)(f:∀(i:Nat) x p,a[i]?=some x->l'[i]?=some p->R x p):∀(i:Nat) x p,(c++a)[i]?=some x->(l++l')[i]?=some p->R x p:=λi x p d b=>by
 rcases pm i c.length with e|e
 .rw[qE e] at d;rw[qE (by omega)] at b;exact g i x p d b
 .rw[qr e] at d;rw[qr (by omega),<-h] at b;exact f _ x p d b
def ahU {base m : Nat} {c:List PkH} {l:List Pk} (f:c.length=l.length) (g:∀(i:Nat) (x:PkH) (p:Pk),c[i]?=some x->l[i]?=some p->amW w lo hi x p) (d:Below w.heap.size w w') (e:hi<=w.heap.size)
  (o:aD mF 40 w' base v (c.take k++c.drop m)) (j:lo<=base):dQ w' lo w'.heap.size (l.take k++l.drop m) [v]:=
 aqb (lo:=lo) (hi:=hi) o (by simp only[ap,ff,pi,f]) (ay8 (by rw[ff,ff,f]) (λi x p a b=>by
  rw[rj] at a b;split at a
  .rename_i hi;rw[dj hi] at b;exact(g i x p a b).below d e
  .cases a) λi x p a b=>by
   rw[tq] at a b;exact(g _ x p a b).below d e) j (db e d.size)
def agv(l:List Int)(g p lo hi:Nat)(w:World)(hr:Rd w lo hi g l p)(hp:p<=9000) :
  Calls (ai β) 15 #[.pointer (some ⟨g,0,none⟩)] w (aqc w lo hi g l p):=by
 have ct:=hr.lt;have c8:=hr.hi_;go_enter zS,ntmps15;go_wp2;generalize hG:w.alloc (.cells #[.slice none 0 0,.slice none 0 0,.slice none 0 0] 27)=w0 at *;obtain⟨aP,jh,k0,dv,fg⟩:=gU hG;clear hG;have z0:=aP.size;have c9:=k0.lt;refine(aiw l g p lo hi w0 (hr.fP (bV.bF (S:=λ_=>False) aP) λ_ _ h=>h) (by omega)).mono ?_;rintro e J ⟨va,vb,vc,s,q,rfl,os,G,a4,hq,a7⟩;obtain⟨⟨A,a,rfl⟩,⟨B,b,rfl⟩,C,c,rfl⟩:=os.form;have n:=aY k0 a7 (by omega);have z1:=a7.size;have a2:bV (λb=>b=g) w J:=(bV.bF (S:=λb=>b=g) aP).trans a7 λi _ e=>e;replace G:=ab G;clear hr k0 dv fg aP a7;have ax:=aC J (.cells #[.slice A s.pk.length a,.slice B s.sn.length b,.slice C s.lg.length c] 27);have km:=(cg.new J 27 #[.slice A s.pk.length a,.slice B s.sn.length b,.slice C s.lg.length c]).cell;by_cases b8:s.pk.length=0
 .have t1:((s.pk.length:Int) ==0)=true:=mt.2 (by omega);replace b8:=ab b8;have E:=cg.new J 27 #[.slice A s.pk.length a,.slice B s.sn.length b,.slice C s.lg.length c];have bn:=ar n ax;have PS:=ab ((os.t.p.below ax (am _)).wide (am _) ax.size);have HC:=ab (a2.trans (bV.bF (S:=λ_=>False) ax) λ_ _ h=>h.elim);have W:=ab (a4.fP (bV.bF (S:=λ_=>False) ax) λ_ _ h=>h);clear n;have n:=bn;clear bn os a2 a4;have dv:=n.cell;have fg:=n.frozen;have jM:=E.cell;have N:=((n.bC 0 (.slice A s.pk.length a)).bC 1 (.slice B s.sn.length b)).bC 2 (.slice C s.lg.length c);simp only[be,dk,dl] at N;have Y:=N.cell;have X:=dH (J.alloc (.cells #[.slice A s.pk.length a,.slice B s.sn.length b,.slice C s.lg.length c] 27)) w.heap.size (.slice A s.pk.length a) (.slice B s.sn.length b) (.slice C s.lg.length c);have z:=ab (And.intro Y X);clear N Y X;go_wp2;exact oR (v:=.agg #[.slice A s.pk.length a,.slice B s.sn.length b,.slice C s.lg.length c]) (by simp[results,results15,go_sem,z.out.1]) rfl ⟨_,_,_,s,_,_,rfl,(PS.out.typed (λb h1 h2 _=>z.out.2.block b (by omega) λe=>by have V:b=w.heap.size:=e;omega) (show w.heap.size<=w0.heap.size by omega) z.out.2.size),G.out,.same,W.out.fP z.out.2 (λb r e=>by have V:b=w.heap.size:=e;rcases r with r|r<;>omega),by omega,HC.out.trans z.out.2 λi hi e=>by have V:i=w.heap.size:=e;omega⟩
 .have t1:((s.pk.length:Int) ==0)=false:=du.2 (by omega);go_wp2;clear ax km;generalize hG:J.alloc (.cells #[.slice A s.pk.length a,.slice B s.sn.length b,.slice C s.lg.length c] 27)=w2 at *;obtain⟨jk,co,E,jM,bz⟩:=gU hG;clear hG;replace n:=ar n jk;replace bZ:=n.cell;replace br:=n.frozen;have z2:=jk.size;have bf:=a4.fP (bV.bF (S:=λ_=>False) jk) λ_ _ h=>h;have b6:=a2.trans (bV.bF (S:=λ_=>False) jk) λ_ _ h=>h.elim;have bi:=os.below jk (am _);clear os a2 a4 jk jM bz bZ br;refine(cF _ _ _ _ _ _ _ bf (by omega)).mono ?_;rintro e w3 ⟨kk,rfl,⟨_,hm⟩,b5,lz⟩;obtain⟨q1,q2⟩:=hm (by omega);clear hm;obtain⟨k,rfl⟩:=qu q1;have a9:k<s.pk.length:=by omega
  replace n:=aY n lz (by omega);replace E:=aY E lz (by omega);have z3:=lz.size;have ba:=bi.fP lz λb h1 h2=>⟨by omega,by omega⟩;have b7:=b6.trans lz λi _ e=>e;clear bi b6 bf lz q1 q2;go_wp2;refine(cF _ _ _ _ _ _ 24 b5 (by omega)).mono ?_;rintro e o ⟨j,rfl,⟨_, -⟩,aQ,Z⟩;replace n:=aY n Z (by omega);replace E:=aY E Z (by omega);have z4:=Z.size;have m:=ba.fP Z λb h1 h2=>⟨by omega,by omega⟩;have HC:=ab (b7.trans Z λi _ e=>e);have W:=ab aQ;have cl:=E.lt;clear ba b7 b5 Z aQ;by_cases j0:j=0
  .subst j0;obtain⟨t,ca,e,a8,an,b9,ao,al⟩:=cJ.some_ m.pk (by omega);simp only[qa] at e;obtain⟨rfl, -,rfl⟩:=e;have aV:=m.t.p;obtain⟨hs,b3,f,bk⟩:=ae4 aV.pk;obtain⟨_,c4,c1⟩:=f.len_;unfold maxLen at c1;have aa:=cB.aji f (k:=k) (by omega);have af:cB (bR mF) 2 o w0.heap.size J.heap.size (hs.drop (k+1)) [.slice (if a=k+1 then some ⟨t,0,none⟩ else some ⟨t,(k+1)*2,none⟩) (hs.length-(k+1)) (a-(k+1))]:=by
    have h:=cB.adt f (k:=k+1) (by omega);rw[show Option.map (λx:Addr=>x.add ((k+1)*2)) (some ⟨t,0,none⟩)=some ⟨t,(k+1)*2,none⟩ from by simp[Addr.add]] at h;exact h
   obtain⟨O,a3⟩:∃L,L=hs.take k:=⟨_,rfl⟩;obtain⟨L2,a5⟩:∃L,L=hs.drop (k+1):=⟨_,rfl⟩;have e1:k=O.length:=by rw[a3,ff];omega
   have e2:hs.length-(k+1)=L2.length:=by rw[a5,pi]
   rw[<-a3] at aa;rw[<-a5,e2] at af;have cn:=G.out.wf.pl;have g1:¬((k:Int)<0):=by omega
   have g2:(k:Int)<=(a:Int):=by omega
   have g3:(k:Int)+1<=(s.pk.length:Int):=by omega
   have g4:¬((k:Int)+1<0):=by omega
   have g6:((k:Int)+1).toNat=k+1:=by omega
   have g5:(s.pk.length:Int)<=(a:Int):=by omega
   have hw:IntKind.i64.wrap ((k:Int)+1)=(k:Int)+1:=by rw[tc];omega
   have bb:=E.cell 0;have b0:=ab bk;have aK:=ab aa;have a6:=ab af;have c0:=ab b3;have bI:=ab a3;have bS:=ab a5;have E1:=ab e1;have E2:=ab e2;have cc:O.length<=20/\L2.length<=20:=by omega
   replace m:=ab m;clear bk aa af f b3 aV a3 a5 e1 e2;go_wp2;have aG:∀x:aW o 11 40 (λ_=>False) [5],_:=ir bb (λh=>h);refine lq 11 40 (λ_=>False) [5] 12 [1,2,3,4,6,7,8,9,10] [0,5,11] (by kernel_rfl) (by kernel_rfl) (by kernel_rfl) ?_;simp only[pick,List.map,mx,mT];repeat(go_big_quiet_step (fail))
   refine gE ?_;clear aG;rw[E2.out];revert a6;generalize (if a=k+1 then some (⟨t,0,none⟩:Addr) else some ⟨t,(k+1)*2,none⟩)=AD;intro a6;have e1:=E1.out;clear E1 E2 hw g6;subst e1;apply Exists.intro;apply py (λv x=>x.done=false->dW o.heap.size 40 v x.to)
   .rfl
   .exact λv x y h hl hd=>(h (hl.till hd).1).keep (hl.till hd).2
   .intro x _ _ Qx K;replace K:=ab K;go_wp2;exact K.out _ _ (aC _ _) λ_=>dW.new _ _ x.ok.size
   intro u0;apply py (λv x=>x.done=false->aD mF 40 x.to o.heap.size v (O))
   .rfl
   .exact λv x y h hl hd=>(h (hl.till hd).1).below (hl.till hd).2
   .intro x hF hp Qx K;replace K:=ab K;have px:=hp (by decide);have hL:=hF.1 (by kernel_rfl) px;exact mY (x.till px) rfl (.tmp 21) (.tmp 25) 23 rfl lY (am _) rfl rfl hL (jN (F:=mF) aK.out (by omega)) (by omega) λv' x' bL ho=>uF (K.out _ _ bL λ_=>ho)
   intro u5;apply aeV (λv x=>x.done=true/\aD mF 40 x.to o.heap.size v (O++L2))
   .rfl
   .rfl
   .intro j hj;obtain rfl:=ge.1 hj;exact aae 9 _ _ (by kernel_rfl)
   .exact λv x y ⟨hd,ho⟩ hl=>⟨(hl.from_ hd).1,ho.below (hl.from_ hd).2⟩
   .intro x hF px Qx K;replace K:=ab K;have hO:=hF.1 (by kernel_rfl) px;have jb:=x.till px;have cf:=jb.size;refine mX (F:=mF) rfl (.tmp 26) (.tmp 31) 23 rfl lY rfl hO rfl (abU (bR.loc mF) (a6.out) jb ((by omega))) (by omega) ((by omega)) x.ok.size ?_;intro v8 w8 o8 bq c7;refine uF ?_;exact K.out _ _ (bq.mono λb _ r=>.inr (alA hO r)) ⟨rfl,o8⟩
   intro cr;refine aeX λx hF=> ?_;simp only[iv] at hF;obtain⟨⟨px,oz⟩, -⟩:=hF;have D:=x.all λ_ h=>h;simp only[List.drop];clear px;revert D oz;generalize x.to=w5;clear x;intro oz D;obtain⟨A5,I,rfl⟩:=oz.form;have z5:=D.size;have bo:dQ w5 w0.heap.size w5.heap.size (s.pk.take O.length++s.pk.drop (O.length+1)) [.slice A5 (O++L2).length I]:=ahU c0.out b0.out D (by omega) (by rw[<-bI.out,<-bS.out];exact oz) (by omega);have R:iP w5 w0.heap.size w5.heap.size ⟨s.pk.take O.length++s.pk.drop (O.length+1),s.sn,s.lg⟩ (.slice A5 (O++L2).length I) (.slice B s.sn.length b) (.slice C s.lg.length c):=
    ⟨bo,tSn.wide (tSn.below m.out.t.sn D (by omega)) (am _) (by omega),tHd.wide (tHd.below m.out.t.lg D (by omega)) (am _) (by omega)⟩
   have m5:=ar E D;have d:bV (λb=>b=J.heap.size) o (w5.setCell ⟨J.heap.size,0,none⟩ (.slice A5 (O++L2).length I)):=(bV.bF (S:=λb=>b=J.heap.size) D).setCell (p:=⟨J.heap.size,0,none⟩) (.inl rfl) _;have PS:=ab ((R.box m5 0 (.slice A5 (O++L2).length I)).wide (am _) (show w5.heap.size<=(w5.setCell ⟨J.heap.size,0,none⟩ (.slice A5 (O++L2).length I)).heap.size by simp));have T:=aY n d (by omega);have gZ:=m5.bC 0 (.slice A5 (O++L2).length I);simp only[be,dk,dl] at gZ;have Q:=ab (HC.out.trans d λi hi e=>by have V:i=J.heap.size:=e;omega);have P:=ab (W.out.fP d λb r e=>by have V:b=J.heap.size:=e;rcases r with r|r<;>omega);have a0:=ab (show eF s ⟨s.pk.take O.length++s.pk.drop (O.length+1),s.sn,s.lg⟩ from .gone a9);have cv:=m5.cell;have cd:=m5.frozen;have zz:(w5.setCell ⟨J.heap.size,0,none⟩ (.slice A5 (O++L2).length I)).heap.size=w5.heap.size:=by simp
   clear n E HC W R bo d oz aK a6 b0 m bb;have n:=T;have E:=gZ;have HC:=Q;have W:=P;clear T gZ Q P;generalize (O++L2).length=n5 at *;have dv:=n.cell;have fg:=n.frozen;have jM:=E.cell;have N:=((n.bC 0 (.slice A5 n5 I)).bC 1 (.slice B s.sn.length b)).bC 2 (.slice C s.lg.length c);simp only[be,dk,dl] at N;have Y:=N.cell;have X:=dH (w5.setCell ⟨J.heap.size,0,none⟩ (.slice A5 n5 I)) w.heap.size (.slice A5 n5 I) (.slice B s.sn.length b) (.slice C s.lg.length c);have z:=ab (And.intro Y X);clear N Y X;go_wp2;exact oR (v:=.agg #[.slice A5 n5 I,.slice B s.sn.length b,.slice C s.lg.length c]) (by simp[results,results15,go_sem,z.out.1]) rfl ⟨_,_,_,s,_,_,rfl,(PS.out.typed (λb h1 h2 _=>z.out.2.block b (by omega) λe=>by have V:b=w.heap.size:=e;omega) (show w.heap.size<=w0.heap.size by omega) z.out.2.size),G.out,a0.out,W.out.fP z.out.2 (λb r e=>by have V:b=w.heap.size:=e;rcases r with r|r<;>omega),by omega,HC.out.trans z.out.2 λi hi e=>by have V:i=w.heap.size:=e;omega⟩
  .have u0:(j ==0)=false:=du.2 j0;by_cases j1:j=1
   .subst j1;obtain⟨M,eP⟩:=ak a9;have bO:=G.out.one M (aE eP);have a1:=(G.out.wf.pn M (aE eP)).2.2;obtain⟨t,ca,e,a8,an,b9,ao,al⟩:=cJ.some_ m.pk (by omega);simp only[qa] at e;obtain⟨rfl, -,rfl⟩:=e;obtain⟨m1,m2,es,l1,l2,l3,bT,⟨v2,rfl,ay,f⟩,H,bl⟩:=cJ.at_ OPk.az (by decide) m.pk eP;obtain⟨A2,c2,rfl⟩:=cJ.form f;obtain⟨_,mL,mR⟩:=(aec.l f).len_;unfold maxLen at mR;have a2:o.cell? ⟨t,k*2+1,none⟩=some (.slice A2 M.its.length c2):=H 1 _ rfl;obtain⟨gi,ci,ei,bw,bp,ck,c3,bx⟩:=cJ.some_ f (by omega);simp only[qa] at ei;obtain⟨rfl, -,rfl⟩:=ei;obtain⟨y,dM⟩:=ak (l:=M.its) (k:=0) (by omega);obtain⟨n1,n2,ce, -, -, -, -,⟨rfl,cb⟩,b4, -⟩:=cJ.at_ (bR.az oV) (by decide) f dM;have cq:o.cell? ⟨gi,1,none⟩=some (.string y.b):=b4 1 _ rfl;have cp:o.frozen? ⟨gi,1,none⟩=false:=cJ.frozen f 1;have U:aec (o.setCell ⟨gi,1,none⟩ (.string ⟨#[122,122]⟩)) m1 m2 (M.its.set 0 ⟨y.n,⟨#[122,122]⟩⟩) [.slice (some ⟨gi,0,none⟩) M.its.length c2]:=cJ.put (j:=1) (u:=.string ⟨#[122,122]⟩) (bR.az oV) (by decide) f dM (y:=(⟨y.n,⟨#[122,122]⟩⟩:It)) (by decide) rfl (λw' lo hi es hh=>⟨by rw[hh.1];rfl,hh.2.1,by show 2<=maxLen;unfold maxLen;omega⟩);have ad:Typed o [64] gi:=⟨_,qV,c3,bx⟩;have d:bV (λb=>m1<=b/\b<m2/\Typed o [64] b) o (o.setCell ⟨gi,1,none⟩ (.string ⟨#[122,122]⟩)):=(bV.refl _ _).setCell (p:=⟨gi,1,none⟩) (.inl ⟨bw,bp,ad⟩) _;have bj:=bl _ ⟨M.no,M.its.set 0 ⟨y.n,⟨#[122,122]⟩⟩⟩ d ⟨_,rfl,ay,U⟩;have o2:=gW.az.go (w':=o.setCell ⟨gi,1,none⟩ (.string ⟨#[122,122]⟩)) (λb b1 b2 ht=>d.block b (by omega) λD=>aam ht (by decide) D.2.2) (am _) (am _) m.sn;have o3:=gq.az.go (w':=o.setCell ⟨gi,1,none⟩ (.string ⟨#[122,122]⟩)) (λb b1 b2 ht=>d.block b (by omega) λD=>aam ht (by decide) D.2.2) (am _) (am _) m.lg;have R:gJ (o.setCell ⟨gi,1,none⟩ (.string ⟨#[122,122]⟩)) w0.heap.size J.heap.size ⟨s.pk.set k ⟨M.no,M.its.set 0 ⟨y.n,⟨#[122,122]⟩⟩⟩,s.sn,s.lg⟩ (.slice (some ⟨t,0,none⟩) s.pk.length a) (.slice B s.sn.length b) (.slice C s.lg.length c):=⟨bj,o2,o3⟩;have PS:=ab (R.t.p.wide (am _) (show J.heap.size<=(o.setCell ⟨gi,1,none⟩ (.string ⟨#[122,122]⟩)).heap.size by have:=d.size;omega));have bE:=E.cell 0;have T:=aY n d λD=>nh n (by decide) D.2.2;have gZ:=aY E d λD=>nh E (by decide) D.2.2;have bc:eF s ⟨s.pk.set k ⟨M.no,M.its.set 0 ⟨y.n,⟨#[122,122]⟩⟩⟩,s.sn,s.lg⟩:=.put eP (qP ..) λx D=>by
     rcases sU D with h|rfl
     .exact a1 x h
     .exact Nat.le_of_ble_eq_true rfl
    have a0:=ab bc;have Q:=ab (HC.out.trans d λi hi e=>by have:=e.1;omega);have P:=ab (W.out.fP d λb r e=>by have:=e.1;rcases r with r|r<;>omega);have bt:(k:Int)<(s.pk.length:Int):=by omega
    have c5:(0:Int)<(M.its.length:Int):=by omega
    have c6:w.heap.size<o.heap.size:=by omega
    clear n E HC W bc R bj o2 o3 U H bl f b4 d dM eP m bO a1;have n:=T;have E:=gZ;have HC:=Q;have W:=P;clear T gZ Q P;have dv:=n.cell;have fg:=n.frozen;have jM:=E.cell;have N:=((n.bC 0 (.slice (some ⟨t,0,none⟩) s.pk.length a)).bC 1 (.slice B s.sn.length b)).bC 2 (.slice C s.lg.length c);simp only[be,dk,dl] at N;have Y:=N.cell;have X:=dH (o.setCell ⟨gi,1,none⟩ (.string ⟨#[122,122]⟩)) w.heap.size (.slice (some ⟨t,0,none⟩) s.pk.length a) (.slice B s.sn.length b) (.slice C s.lg.length c);have z:=ab (And.intro Y X);clear N Y X;go_wp2;exact oR (v:=.agg #[.slice (some ⟨t,0,none⟩) s.pk.length a,.slice B s.sn.length b,.slice C s.lg.length c]) (by simp[results,results15,go_sem,z.out.1]) rfl ⟨_,_,_,s,_,_,rfl,(PS.out.typed (λb h1 h2 _=>z.out.2.block b (by omega) λe=>by have V:b=w.heap.size:=e;omega) (show w.heap.size<=w0.heap.size by omega) z.out.2.size),G.out,a0.out,W.out.fP z.out.2 (λb r e=>by have V:b=w.heap.size:=e;rcases r with r|r<;>omega),by omega,HC.out.trans z.out.2 λi hi e=>by have V:i=w.heap.size:=e;omega⟩
   .have u1:(j ==1)=false:=du.2 j1;by_cases j2:j=2
    .subst j2;obtain⟨M,eP⟩:=ak a9;have a1:=(G.out.wf.pn M (aE eP)).2.2;obtain⟨t,ca,e,a8,an,b9,ao,al⟩:=cJ.some_ m.pk (by omega);simp only[qa] at e;obtain⟨rfl, -,rfl⟩:=e;obtain⟨m1,m2,es,l1,l2,l3,bT,⟨v2,rfl,ay,f⟩,H, -⟩:=cJ.at_ OPk.az (by decide) m.pk eP;have cm:o.cell? ⟨t,k*2,none⟩=some (.int .i64 M.no):=H 0 _ rfl;have cs:o.frozen? ⟨t,k*2,none⟩=false:=cJ.frozen m.pk (k*2);have U:gj (o.setCell ⟨t,k*2,none⟩ (.int .i64 0)) w0.heap.size J.heap.size (s.pk.set k ⟨0,M.its⟩) [.slice (some ⟨t,0,none⟩) s.pk.length a]:=cJ.put (j:=0) (u:=.int .i64 0) OPk.az (by decide) m.pk eP (y:=(⟨0,M.its⟩:Pk)) (by decide) rfl (λw' lo hi es hh=>by
      obtain⟨v,rfl,ch,hr⟩:=hh;exact⟨v,rfl,by show bX 0;unfold bX;omega,hr⟩)
     have ad:Typed o [40] t:=⟨_,qV,ao,al⟩;have d:bV (λb=>w0.heap.size<=b/\b<J.heap.size/\Typed o [40] b) o (o.setCell ⟨t,k*2,none⟩ (.int .i64 0)):=(bV.refl _ _).setCell (p:=⟨t,k*2,none⟩) (.inl ⟨a8,an,ad⟩) _;have o2:=gW.az.go (w':=o.setCell ⟨t,k*2,none⟩ (.int .i64 0)) (λb b1 b2 ht=>d.block b (by omega) λD=>aam ht (by decide) D.2.2) (am _) (am _) m.sn;have o3:=gq.az.go (w':=o.setCell ⟨t,k*2,none⟩ (.int .i64 0)) (λb b1 b2 ht=>d.block b (by omega) λD=>aam ht (by decide) D.2.2) (am _) (am _) m.lg;have R:gJ (o.setCell ⟨t,k*2,none⟩ (.int .i64 0)) w0.heap.size J.heap.size ⟨s.pk.set k ⟨0,M.its⟩,s.sn,s.lg⟩ (.slice (some ⟨t,0,none⟩) s.pk.length a) (.slice B s.sn.length b) (.slice C s.lg.length c):=⟨U,o2,o3⟩;have PS:=ab (R.t.p.wide (am _) (show J.heap.size<=(o.setCell ⟨t,k*2,none⟩ (.int .i64 0)).heap.size by have:=d.size;omega));have bE:=E.cell 0;have T:=aY n d λD=>nh n (by decide) D.2.2;have gZ:=aY E d λD=>nh E (by decide) D.2.2;have a0:=ab (show eF s ⟨s.pk.set k ⟨0,M.its⟩,s.sn,s.lg⟩ from .put eP rfl a1);have Q:=ab (HC.out.trans d λi hi e=>by have:=e.1;omega);have P:=ab (W.out.fP d λb r e=>by have:=e.1;rcases r with r|r<;>omega);have bt:(k:Int)<(s.pk.length:Int):=by omega
     clear n E HC W R o2 o3 U H f d eP m a1;have n:=T;have E:=gZ;have HC:=Q;have W:=P;clear T gZ Q P;have dv:=n.cell;have fg:=n.frozen;have jM:=E.cell;have N:=((n.bC 0 (.slice (some ⟨t,0,none⟩) s.pk.length a)).bC 1 (.slice B s.sn.length b)).bC 2 (.slice C s.lg.length c);simp only[be,dk,dl] at N;have Y:=N.cell;have X:=dH (o.setCell ⟨t,k*2,none⟩ (.int .i64 0)) w.heap.size (.slice (some ⟨t,0,none⟩) s.pk.length a) (.slice B s.sn.length b) (.slice C s.lg.length c);have z:=ab (And.intro Y X);clear N Y X;go_wp2;exact oR (v:=.agg #[.slice (some ⟨t,0,none⟩) s.pk.length a,.slice B s.sn.length b,.slice C s.lg.length c]) (by simp[results,results15,go_sem,z.out.1]) rfl ⟨_,_,_,s,_,_,rfl,(PS.out.typed (λb h1 h2 _=>z.out.2.block b (by omega) λe=>by have V:b=w.heap.size:=e;omega) (show w.heap.size<=w0.heap.size by omega) z.out.2.size),G.out,a0.out,W.out.fP z.out.2 (λb r e=>by have V:b=w.heap.size:=e;rcases r with r|r<;>omega),by omega,HC.out.trans z.out.2 λi hi e=>by have V:i=w.heap.size:=e;omega⟩
    .have u2:(j ==2)=false:=du.2 j2;have PS:=ab (m.t.p.wide (am _) (show J.heap.size<=o.heap.size by omega));clear m;have dv:=n.cell;have fg:=n.frozen;have jM:=E.cell;have N:=((n.bC 0 (.slice A s.pk.length a)).bC 1 (.slice B s.sn.length b)).bC 2 (.slice C s.lg.length c);simp only[be,dk,dl] at N;have Y:=N.cell;have X:=dH o w.heap.size (.slice A s.pk.length a) (.slice B s.sn.length b) (.slice C s.lg.length c);have z:=ab (And.intro Y X);clear N Y X;go_wp2;exact oR (v:=.agg #[.slice A s.pk.length a,.slice B s.sn.length b,.slice C s.lg.length c]) (by simp[results,results15,go_sem,z.out.1]) rfl ⟨_,_,_,s,_,_,rfl,(PS.out.typed (λb h1 h2 _=>z.out.2.block b (by omega) λe=>by have V:b=w.heap.size:=e;omega) (show w.heap.size<=w0.heap.size by omega) z.out.2.size),G.out,.same,W.out.fP z.out.2 (λb r e=>by have V:b=w.heap.size:=e;rcases r with r|r<;>omega),by omega,HC.out.trans z.out.2 λi hi e=>by have V:i=w.heap.size:=e;omega⟩
end
section
variable {β:Bool}
open Go.RowKit Go.Shelf
attribute [local go_sem] Oper.semAt_some
def KpB(n₀ Bs:Nat)(A B:World):Prop:=Below n₀ A B/\B.heap[Bs]?=A.heap[Bs]?
def KpB.refl{A:World}:KpB n₀ W A A:=⟨fm _ _,rfl⟩
def KpB.t{A B C:World}(h:KpB n₀ W A B)(k:KpB n₀ W B C):KpB n₀ W A C:=⟨h.1.trans k.1,k.2.trans h.2⟩
end
section
variable {β:Bool}
open Go.RowKit
def oN(x:Hd):Prop:=(1<=x.b/\x.b<=2)/\1<=x.s/\x.s<=20
def ld(l:List Hd):Prop:=l.length<=9/\∀x∈l,oN x
def avP:auX (β:=β) 45:=ayl xv (by kernel_rfl) rfl
end
section
open Go.RowKit
def WfS.okl(h:WfS s):ld s.lg:=⟨h.ll,h.lg⟩
def aiN{z:Int}(a:0<=z)(b:z<3):wrap64 z=z:=by unfold wrap64;omega
def avQ{x:Hd}(h:oN x):(adG x).b=3-x.b/\(adG x).s=x.s:=by
 have:=h.1;exact⟨aiN (by omega) (by omega),rfl⟩
def amY(x:V)(l:List V)(f:V->V):tY (x::l) 0 f=f x::l:=rfl
def amZ(x:V)(l:List V)(n:Nat)(f:V->V):tY (x::l) (n+1) f=x::tY l n f:=by
 unfold tY;simp only[List.getElem?_cons_succ];cases l[n]?<;>rfl
end
section
variable {β:Bool}
open Go.RowKit
def dQ.adt{l:List Pk}(h:dQ w lo hi l [.slice A n c])(f:k<=l.length):dQ w lo hi (l.drop k) [.slice (if c=k then A else A.map λx=>x.add (k*2)) (l.length-k) (c-k)]:=by
 obtain⟨q,o, -⟩:=h.len_;refine⟨cB.adt h.1 f,λa b d j m e=> ?_⟩;rw[pi] at a;obtain⟨p,g⟩:=ak (l:=l) (k:=0) (by omega);obtain⟨r,i, -, -,rfl, -⟩:=lV h g;rw[bv (by omega)] at e;simp only[qe,nR,qf,qa,jt,qd,qh] at e;obtain⟨⟨rfl, -⟩, -⟩:=e;exact h.2 (by omega) _ _ _ _ rfl
def avR(w:World)(e:Ending)(w':World):Prop:=
 ∃a d c b y,e=.returned (.tuple #[.int .i64 a,.agg #[d,c,b]])/\iP w' w.heap.size w'.heap.size y d c b/\SmS y/\ld y.lg/\Below w.heap.size w w'
def ad6(A:Option Addr)(n c:Nat)(l:List Int)(w:World)(h:cB iD 1 w 0 w.heap.size l [.slice A n c]) :
  Calls (ai β) 5 #[.slice A n c] w (avR w):=by
 go_enter qF5,ntmps5;go_wp2;generalize hG:w.alloc (.cells #[.slice none 0 0,.slice none 0 0,.slice none 0 0] 27)=w0 at *;obtain⟨aP,jh,k0,dv,fg⟩:=gU hG;clear hG;refine(arU l A n c w0 0 w.heap.size (abU iD.loc h aP (am _)) aP.size).mono ?_;rintro e w1 ⟨g,rfl,hr,hg,a9⟩;generalize List.take 2000 l=L at hr;have bi:=hr.lt;replace k0:=ar k0 a9;replace dv:=k0.cell;replace fg:=k0.frozen;have z0:=aP.size;have z1:=a9.size;have bf:=k0.lt;replace aP:=ae aP a9;go_wp2;refine(agv _ g 0 _ _ w1 hr (by omega)).mono ?_;rintro e B ⟨va,vb,vc,s,x,q,rfl,os,aa,an,b1,hq,a7⟩;obtain⟨U,D,H,I,K,J,rfl,rfl,rfl⟩:=os.form;have f:=aY k0 a7 (by omega);have z2:=a7.size;have aQ:Below w.heap.size w B:=aP.trans (a7.below aP.size λi hi e=>by have P:i=g:=e;omega);have ad:=an.sm aa.wf.sm;have ay:ld x.lg:=by rw[an.lg];exact aa.wf.okl
 have HX:=ab (And.intro ad ay);have bj:=ad.pl;clear k0 dv fg aP a9 a7 aa an hr ad ay;have ax:=aC B (.cells #[.slice U x.pk.length D,.slice H x.sn.length I,.slice K x.lg.length J] 27);have km:=(cg.new B 27 #[.slice U x.pk.length D,.slice H x.sn.length I,.slice K x.lg.length J]).cell;go_wp2;clear ax km;generalize hG:B.alloc (.cells #[.slice U x.pk.length D,.slice H x.sn.length I,.slice K x.lg.length J] 27)=w3 at *;obtain⟨a1,bb,W,R,a8⟩:=gU hG;clear hG;replace f:=ar f a1;replace b6:=f.cell;replace b2:=f.frozen;have b0:=os.below a1 (am _);have af:=b1.fP (bV.bF (S:=λ_=>False) a1) λ_ _ h=>h;have al:=ae aQ a1;have z3:=a1.size;have ba:=af.hi_;clear os aQ a1 b1 b6 b2 R a8;refine(cF _ _ _ _ _ _ _ af (by omega)).mono ?_;rintro e w4 ⟨j,rfl,⟨_, -⟩,a4,Z⟩;replace f:=aY f Z (by omega);replace W:=aY W Z (by omega);have z4:=Z.size;have a2:iP w4 w1.heap.size B.heap.size x (.slice U x.pk.length D) (.slice H x.sn.length I) (.slice K x.lg.length J):=b0.typed (λb h1 h2 _=>Z.block b (by omega) λe=>by have P:b=g:=e;omega) (am _) (am _);have Q:Below w.heap.size w w4:=al.trans (Z.below al.size λi hi e=>by have P:i=g:=e;omega);clear b0 al af Z;have R:=W.cell;by_cases j0:j=0
 .subst j0;go_wp2;have b8:=ir (s:=1) (ty:=81) (S:=λb=>b=g) (pre:=[]) (R 0) (by dsimp only;omega);have b3:=ir (s:=1) (ty:=81) (S:=λb=>b=g) (pre:=[]) (R 1) (by dsimp only;omega);have b7:=ir (s:=1) (ty:=81) (S:=λb=>b=g) (pre:=[]) (R 2) (by dsimp only;omega);refine lq 1 81 (λb=>b=g) [] 4 [0,2] [1,3] (by kernel_rfl) (by kernel_rfl) (by kernel_rfl) ?_;simp only[pick,List.map,mx,mT];repeat(go_big_quiet_step (fail))
  refine gE ?_;clear b8 b3 b7;apply Exists.intro;apply aeV (λv x=>x.done=true/\∃d:Int,v=.int .i64 d)
  .rfl
  .rfl
  .exact λj hj=>(by cases hj)
  .exact λv x y h b5=>⟨(b5.from_ h.1).1,h.2⟩
  .intro y _ px Qx a;replace a:=ab a;have jb:=y.till px;go_wp2;refine(amX _ g _ _ _ y.to (a4.fP (bV.bF (S:=λ_=>False) jb) λ_ _ h=>h) (by omega)).mono ?_;rintro e wy ⟨d,q5,rfl,hd,r5,bk,b9⟩;go_wp2;exact a.out _ _ (b9.mono λb hb e=>.inl e) ⟨rfl,d,rfl⟩
  intro u1;simp only[Act.put,be,dk,dl];apply py (λv x=>∃d:Int,v=.int .i64 d)
  .rfl
  .exact λv x y h _=>h
  .intro y u _ Qx a;replace a:=ab a;obtain⟨px,d,rfl⟩:=u.1 (by kernel_rfl);clear u;go_wp2;exact a.out _ _ (fm _ _) ⟨d,rfl⟩
  intro u3;simp only[Act.put,be,dk,dl];refine aeX λy u=> ?_;simp only[iv] at u;obtain⟨⟨d,rfl⟩, -⟩:=u;have a3:bV (λb=>b=g) w4 y.to:=y.ok.mono λb _ h=>h.2;have zx:=a3.size;replace f:=aY f a3 (by omega);have PS:=ab (a2.typed (w':=y.to) (λb h1 h2 _=>a3.block b (by omega) λe=>by have P:b=g:=e;omega) (am w1.heap.size) (show B.heap.size<=y.to.heap.size by omega));have HC:=ab (Q.trans (a3.below Q.size λi hi e=>by have P:i=g:=e;omega));have X:=HX;clear a2 Q a3 a4 W R HX;revert zx f PS HC;generalize y.to=G;intro zx f PS HC;clear y;have dv:=f.cell;have fg:=f.frozen;have N:=((f.bC 0 (.slice U x.pk.length D)).bC 1 (.slice H x.sn.length I)).bC 2 (.slice K x.lg.length J);simp only[be,dk,dl] at N;have Y:=N.cell;have V:=dH G w.heap.size (.slice U x.pk.length D) (.slice H x.sn.length I) (.slice K x.lg.length J);have F:=ab (And.intro Y V);clear N Y V;simp only[List.drop];go_wp2;exact oR (v:=.tuple #[.int .i64 d,.agg #[.slice U x.pk.length D,.slice H x.sn.length I,.slice K x.lg.length J]]) (by simp[results,results5,go_sem,F.out.1]) rfl ⟨d,_,_,_,_,rfl,PS.out.typed (λb h1 h2 _=>F.out.2.block b (by omega) λe=>by have P:b=w.heap.size:=e;omega) (show w.heap.size<=w1.heap.size by omega) F.out.2.size,X.out.1,X.out.2,HC.out.trans (F.out.2.below HC.out.size λi hi e=>by have P:i=w.heap.size:=e;omega)⟩
 .have u0:(j ==0)=false:=du.2 j0;by_cases aV:x.pk.length=0
  .have b4:¬0<x.pk.length:=by omega
   have f0:=R 0;have f1:=R 1;have f2:=R 2;have o:=ab (a2.wide (am _) (show B.heap.size<=w4.heap.size by omega));have r:=ab Q;have X:=HX;replace aV:=ab aV;clear a2 Q a4 HX;go_wp2;have aG:=ag f0;have aK:=ag f1;have bc:=ag f2;refine aZ 2 [0] [1] (h:= ?_);simp only[pick,List.map,mx,mT];repeat(go_big_quiet_step (fail))
   refine gE ?_;clear aG aK bc;apply Exists.intro;apply eR (.int .i64 7)
   .intro z u Qx a;replace a:=ab a;clear u;go_wp2;exact a.out _ (fm _ _)
   simp only[Act.put,be,dk,dl];refine cV ?_;intro G C xx je u;dsimp only[iv] at u;try rw[je] at u
   clear je xx;clear u;have z9:=C.size;replace f:=ar f C;have PS:=ab ((o.out.below C (am _)).wide (am _) C.size);have HC:=ab (ae r.out C);clear o r C;have dv:=f.cell;have fg:=f.frozen;have N:=((f.bC 0 (.slice U x.pk.length D)).bC 1 (.slice H x.sn.length I)).bC 2 (.slice K x.lg.length J);simp only[be,dk,dl] at N;have Y:=N.cell;have V:=dH G w.heap.size (.slice U x.pk.length D) (.slice H x.sn.length I) (.slice K x.lg.length J);have F:=ab (And.intro Y V);clear N Y V;simp only[List.drop];go_wp2;exact oR (v:=.tuple #[.int .i64 7,.agg #[.slice U x.pk.length D,.slice H x.sn.length I,.slice K x.lg.length J]]) (by simp[results,results5,go_sem,F.out.1]) rfl ⟨7,_,_,_,_,rfl,PS.out.typed (λb h1 h2 _=>F.out.2.block b (by omega) λe=>by have P:b=w.heap.size:=e;omega) (show w.heap.size<=w1.heap.size by omega) F.out.2.size,X.out.1,X.out.2,HC.out.trans (F.out.2.below HC.out.size λi hi e=>by have P:i=w.heap.size:=e;omega)⟩
  .have b4:0<x.pk.length:=by omega
   go_wp2;refine(cF _ _ _ _ _ _ _ a4 (by omega)).mono ?_;rintro e G ⟨i,rfl,⟨_, -⟩, -,a0⟩;replace f:=aY f a0 (by omega);replace W:=aY W a0 (by omega);have z5:=a0.size;have t:iP G w1.heap.size B.heap.size x (.slice U x.pk.length D) (.slice H x.sn.length I) (.slice K x.lg.length J):=a2.typed (λb h1 h2 _=>a0.block b (by omega) λe=>by have P:b=g:=e;omega) (am _) (am _);have E:Below w.heap.size w G:=Q.trans (a0.below Q.size λi hi e=>by have P:i=g:=e;omega);clear a2 Q a4 a0 R;have R:=W.cell;have a8:=W.frozen;have f0:=R 0;have f1:=R 1;have f2:=R 2;by_cases i0:i=0
   .subst i0;obtain⟨p5,eP⟩:=ak (l:=x.pk) (k:=0) (by omega);obtain⟨M,m, -, -,rfl, -⟩:=lV t.pk eP;obtain⟨-,g1,g2⟩:=t.pk.len_;unfold maxLen at g2;have O:=dQ.adt (k:=1) t.pk (by omega);have g3:(1:Int)<=(x.pk.length:Int):=by omega
    by_cases ao:D=1
    .subst ao;have e1:x.pk.length-1=0:=by omega
     rw[dj rfl,e1] at O;replace O:=ab O;clear eP e1;replace E:=ab E;replace t:=ab t;go_wp2;have a5:iP G w1.heap.size B.heap.size ⟨x.pk.drop 1,x.sn,x.lg⟩ (.slice (some ⟨M,m,none⟩) (0) (0)) (.slice H x.sn.length I) (.slice K x.lg.length J):=⟨O.out,t.out.sn,t.out.lg⟩;have T:bV (λb=>b=B.heap.size) G (G.setCell ⟨B.heap.size,0,none⟩ (.slice (some ⟨M,m,none⟩) (0) (0))):=(bV.refl (λb=>b=B.heap.size) G).setCell (p:=⟨B.heap.size,0,none⟩) (.inl rfl) _;have gZ:=W.bC 0 (.slice (some ⟨M,m,none⟩) (0) (0));simp only[be,dk,dl] at gZ;have zz:(G.setCell ⟨B.heap.size,0,none⟩ (.slice (some ⟨M,m,none⟩) (0) (0))).heap.size=G.heap.size:=by simp
     have o:=ab ((a5.box W 0 (.slice (some ⟨M,m,none⟩) (0) (0))).wide (am _) (show B.heap.size<=(G.setCell ⟨B.heap.size,0,none⟩ (.slice (some ⟨M,m,none⟩) (0) (0))).heap.size by omega));have a6:=aY f T (by omega);have r:=ab (E.out.trans (T.below E.out.size λi hi e=>by have P:i=B.heap.size:=e;omega));clear a5 T f0 f1 f2 R a8 W f E t;have H9:=And.intro gZ (And.intro o (And.intro a6 (And.intro r zz)));clear gZ o a6 r zz;revert H9;generalize G.setCell ⟨B.heap.size,0,none⟩ (.slice (some ⟨M,m,none⟩) (0) (0))=w6;rintro⟨gZ,o,f,r,zz⟩;have f0:=gZ.cell 0;have f1:=gZ.cell 1;have f2:=gZ.cell 2;have X:Hid (SmS ⟨x.pk.drop 1,x.sn,x.lg⟩/\ld x.lg):=ab ⟨HX.out.1.tail,HX.out.2⟩;clear HX;have aG:=ag f0;have aK:=ag f1;have bc:=ag f2;refine aZ 2 [0] [1] (h:= ?_);simp only[pick,List.map,mx,mT];repeat(go_big_quiet_step (fail))
     refine gE ?_;clear aG aK bc;apply Exists.intro;apply eR (.int .i64 7)
     .intro z u Qx a;replace a:=ab a;clear u;go_wp2;exact a.out _ (fm _ _)
     simp only[Act.put,be,dk,dl];refine cV ?_;intro w7 C xx je u;dsimp only[iv] at u;try rw[je] at u
     clear je xx;clear u;have z9:=C.size;replace f:=ar f C;have PS:=ab ((o.out.below C (am _)).wide (am _) C.size);have HC:=ab (ae r.out C);clear o r C;have dv:=f.cell;have fg:=f.frozen;have N:=((f.bC 0 (.slice (some ⟨M,m,none⟩) (0) (0))).bC 1 (.slice H x.sn.length I)).bC 2 (.slice K x.lg.length J);simp only[be,dk,dl] at N;have Y:=N.cell;have V:=dH w7 w.heap.size (.slice (some ⟨M,m,none⟩) (0) (0)) (.slice H x.sn.length I) (.slice K x.lg.length J);have F:=ab (And.intro Y V);clear N Y V;simp only[List.drop];go_wp2;exact oR (v:=.tuple #[.int .i64 7,.agg #[.slice (some ⟨M,m,none⟩) (0) (0),.slice H x.sn.length I,.slice K x.lg.length J]]) (by simp[results,results5,go_sem,F.out.1]) rfl ⟨7,_,_,_,_,rfl,PS.out.typed (λb h1 h2 _=>F.out.2.block b (by omega) λe=>by have P:b=w.heap.size:=e;omega) (show w.heap.size<=w1.heap.size by omega) F.out.2.size,X.out.1,X.out.2,HC.out.trans (F.out.2.below HC.out.size λi hi e=>by have P:i=w.heap.size:=e;omega)⟩
    .rw[bv ao] at O;simp only[qe,nR] at O;replace O:=ab O;clear eP;replace E:=ab E;replace t:=ab t;go_wp2;have a5:iP G w1.heap.size B.heap.size ⟨x.pk.drop 1,x.sn,x.lg⟩ (.slice (some ⟨M,m+2,none⟩) (x.pk.length-1) (D-1)) (.slice H x.sn.length I) (.slice K x.lg.length J):=⟨O.out,t.out.sn,t.out.lg⟩;have T:bV (λb=>b=B.heap.size) G (G.setCell ⟨B.heap.size,0,none⟩ (.slice (some ⟨M,m+2,none⟩) (x.pk.length-1) (D-1))):=(bV.refl (λb=>b=B.heap.size) G).setCell (p:=⟨B.heap.size,0,none⟩) (.inl rfl) _;have gZ:=W.bC 0 (.slice (some ⟨M,m+2,none⟩) (x.pk.length-1) (D-1));simp only[be,dk,dl] at gZ;have zz:(G.setCell ⟨B.heap.size,0,none⟩ (.slice (some ⟨M,m+2,none⟩) (x.pk.length-1) (D-1))).heap.size=G.heap.size:=by simp
     have o:=ab ((a5.box W 0 (.slice (some ⟨M,m+2,none⟩) (x.pk.length-1) (D-1))).wide (am _) (show B.heap.size<=(G.setCell ⟨B.heap.size,0,none⟩ (.slice (some ⟨M,m+2,none⟩) (x.pk.length-1) (D-1))).heap.size by omega));have a6:=aY f T (by omega);have r:=ab (E.out.trans (T.below E.out.size λi hi e=>by have P:i=B.heap.size:=e;omega));clear a5 T f0 f1 f2 R a8 W f E t;have H9:=And.intro gZ (And.intro o (And.intro a6 (And.intro r zz)));clear gZ o a6 r zz;revert H9;generalize G.setCell ⟨B.heap.size,0,none⟩ (.slice (some ⟨M,m+2,none⟩) (x.pk.length-1) (D-1))=w6;rintro⟨gZ,o,f,r,zz⟩;have f0:=gZ.cell 0;have f1:=gZ.cell 1;have f2:=gZ.cell 2;have X:Hid (SmS ⟨x.pk.drop 1,x.sn,x.lg⟩/\ld x.lg):=ab ⟨HX.out.1.tail,HX.out.2⟩;clear HX;have aG:=ag f0;have aK:=ag f1;have bc:=ag f2;refine aZ 2 [0] [1] (h:= ?_);simp only[pick,List.map,mx,mT];repeat(go_big_quiet_step (fail))
     refine gE ?_;clear aG aK bc;apply Exists.intro;apply eR (.int .i64 7)
     .intro z u Qx a;replace a:=ab a;clear u;go_wp2;exact a.out _ (fm _ _)
     simp only[Act.put,be,dk,dl];refine cV ?_;intro w7 C xx je u;dsimp only[iv] at u;try rw[je] at u
     clear je xx;clear u;have z9:=C.size;replace f:=ar f C;have PS:=ab ((o.out.below C (am _)).wide (am _) C.size);have HC:=ab (ae r.out C);clear o r C;have dv:=f.cell;have fg:=f.frozen;have N:=((f.bC 0 (.slice (some ⟨M,m+2,none⟩) (x.pk.length-1) (D-1))).bC 1 (.slice H x.sn.length I)).bC 2 (.slice K x.lg.length J);simp only[be,dk,dl] at N;have Y:=N.cell;have V:=dH w7 w.heap.size (.slice (some ⟨M,m+2,none⟩) (x.pk.length-1) (D-1)) (.slice H x.sn.length I) (.slice K x.lg.length J);have F:=ab (And.intro Y V);clear N Y V;simp only[List.drop];go_wp2;exact oR (v:=.tuple #[.int .i64 7,.agg #[.slice (some ⟨M,m+2,none⟩) (x.pk.length-1) (D-1),.slice H x.sn.length I,.slice K x.lg.length J]]) (by simp[results,results5,go_sem,F.out.1]) rfl ⟨7,_,_,_,_,rfl,PS.out.typed (λb h1 h2 _=>F.out.2.block b (by omega) λe=>by have P:b=w.heap.size:=e;omega) (show w.heap.size<=w1.heap.size by omega) F.out.2.size,X.out.1,X.out.2,HC.out.trans (F.out.2.below HC.out.size λi hi e=>by have P:i=w.heap.size:=e;omega)⟩
   .have u1:(i ==0)=false:=du.2 i0;have o:=ab (t.wide (am _) (show B.heap.size<=G.heap.size by omega));have r:=ab E;have X:=HX;clear t E HX;go_wp2;have aG:=ag f0;have aK:=ag f1;have bc:=ag f2;refine aZ 2 [0] [1] (h:= ?_);simp only[pick,List.map,mx,mT];repeat(go_big_quiet_step (fail))
    refine gE ?_;clear aG aK bc;apply Exists.intro;apply eR (.int .i64 7)
    .intro z u Qx a;replace a:=ab a;clear u;go_wp2;exact a.out _ (fm _ _)
    simp only[Act.put,be,dk,dl];refine cV ?_;intro w6 C xx je u;dsimp only[iv] at u;try rw[je] at u
    clear je xx;clear u;have z9:=C.size;replace f:=ar f C;have PS:=ab ((o.out.below C (am _)).wide (am _) C.size);have HC:=ab (ae r.out C);clear o r C;have dv:=f.cell;have fg:=f.frozen;have N:=((f.bC 0 (.slice U x.pk.length D)).bC 1 (.slice H x.sn.length I)).bC 2 (.slice K x.lg.length J);simp only[be,dk,dl] at N;have Y:=N.cell;have V:=dH w6 w.heap.size (.slice U x.pk.length D) (.slice H x.sn.length I) (.slice K x.lg.length J);have F:=ab (And.intro Y V);clear N Y V;simp only[List.drop];go_wp2;exact oR (v:=.tuple #[.int .i64 7,.agg #[.slice U x.pk.length D,.slice H x.sn.length I,.slice K x.lg.length J]]) (by simp[results,results5,go_sem,F.out.1]) rfl ⟨7,_,_,_,_,rfl,PS.out.typed (λb h1 h2 _=>F.out.2.block b (by omega) λe=>by have P:b=w.heap.size:=e;omega) (show w.heap.size<=w1.heap.size by omega) F.out.2.size,X.out.1,X.out.2,HC.out.trans (F.out.2.below HC.out.size λi hi e=>by have P:i=w.heap.size:=e;omega)⟩
end
section
open Go.RowKit
def agw:Int->List Hd->Int
 |a,[]=>a
 |a,x::l=>agw (a*64+21*x.b+x.s) l
def am0(l:List Hd):Int:=agw 0 l
def akw:∀{l:List Hd} {a b:Int},agw a l=agw b l->a=b
 |[],_,_,h=>h
 |x::l,a,b,h=>by
  have h:agw (a*64+21*x.b+x.s) l=agw (b*64+21*x.b+x.s) l:=h;have:=akw h;omega
def ahi:∀{l:List Hd} {n:Nat} {a:Int},(∀x∈l,oN x)->n<l.length->agw a (tY l n adG)≠agw a l
 |[],n,_,_,h=>by simp at h
 |x::l,0,a,hk,_=>λe=>by
  rw[amY] at e;have e:agw (a*64+21*(adG x).b+(adG x).s) l=agw (a*64+21*x.b+x.s) l:=e;have:=akw e;obtain⟨i,g⟩:=avQ (hk x (by simp));have:=hk x (by simp);obtain⟨⟨c,d⟩,f,j⟩:=this;omega
 |x::l,n+1,a,hk,h=>λe=>by
  rw[amZ] at e;exact ahi (l:=l) (n:=n) (λy b=>hk y (by simp[b])) (by simpa using h) e
def avS(long sum:Int)(l:List Hd):Int×Int×Int:=if(l.length:Int)<long\/long<0 then(long,sum,1) else if am0 (l.take long.toNat)=sum then((l.length:Int),am0 l,0) else(long,sum,2)
end
section
variable {β:Bool}
open Go.RowKit
def aoC:∀(l:List Hd) (a:Int),a<=l.foldl (λa h=>max a (h.s+1)) a/\∀x∈l,x.s+1<=l.foldl (λa h=>max a (h.s+1)) a
 |[],a=>⟨um _,λx b=>(by cases b)⟩
 |y::l,a=>by
  obtain⟨d,c⟩:=aoC l (max a (y.s+1));show a<=l.foldl (λa h=>max a (h.s+1)) (max a (y.s+1))/\∀x∈y::l,x.s+1<=l.foldl (λa h=>max a (h.s+1)) (max a (y.s+1));refine⟨by omega,λx b=> ?_⟩;rcases me.1 b with rfl|b
  .omega
  .exact c x b
def avT :∀x∈s.lg,x.s<dZ s:=λx a=>by
 have b:x.s+1<=fU s.lg:=(aoC s.lg 1).2 x a;unfold dZ;cases s.sn.getLast? with
 |none=>show x.s<fU s.lg;omega
 |some y=>show x.s<max (fU s.lg) (y.no+1);omega
def eC.asc(h:eC s):s.lg.Pairwise λa b=>a.s<b.s:=by
 induction h with
 |nil=>exact .nil
 |save j i g f c=>
  refine rI.2 ⟨c,rM _ _,λx e y d=> ?_⟩;rw[ge.1 d];exact avT x e
def found(h:eC s){L:acj}(k:aC7 L s.lg.length) :
  (L.k=2->L.n<s.lg.length->avS s.lg.length (am0 s.lg) (kP s L).lg=((s.lg.length:Int),am0 s.lg,1))/\
  (L.k=4->L.n<s.lg.length->avS s.lg.length (am0 s.lg) (kP s L).lg=((s.lg.length:Int),am0 s.lg,2))/\
  (¬(L.k=2/\L.n<s.lg.length)->¬(L.k=4/\L.n<s.lg.length)->(kP s L).lg=s.lg):=by
 refine⟨λe b=> ?_,λf b=> ?_,λe f=> ?_⟩
 .by_cases g:0<=L.n
  .rw[afA e ⟨g,by omega⟩];unfold avS;rw[dj (.inl (by rw[ff];omega))]
  .exfalso;have:=k.n.1;omega
 .have g:=k.n.1;rw[al9 f ⟨g,b⟩];unfold avS;rw[bv (by rw[ag9];omega),bv];show ¬am0 ((tY s.lg L.n.toNat adG).take (s.lg.length:Int).toNat)=_;rw[sT,qj (by rw[ag9];exact am _)];exact ahi h.wf.lg (by omega)
 .by_cases i:L.k=1
  .rw[aip i]
  by_cases a:L.k=2
  .by_cases b:0<=L.n/\L.n<=s.lg.length
   .rw[afA a b];have:L.n.toNat=s.lg.length:=by
     by_cases d:L.n<s.lg.length
     .exact absurd ⟨a,d⟩ e
     .omega
    rw[this,ga]
   .rw[aiq a b]
  by_cases j:L.k=3
  .rw[al8 j]
  by_cases c:L.k=4
  .by_cases b:0<=L.n/\L.n<s.lg.length
   .exact absurd ⟨c,b.2⟩ f
   .rw[air c b]
  rw[ama i a j c]
def ahj{c:Type}(q:c->Bool)(a:c->Int)(n:Int)(d:∀x,a x=n->q x=true):∀l:List c,(l.filter q).find? (λx=>a x ==n)=l.find? (λx=>a x ==n)
 |[]=>rfl
 |y::l=>by
  rw[sL];by_cases b:a y=n
  .rw[rR,dj (d y b),sL,show(a y ==n)=true from mt.2 b]
  .rw[show(a y ==n)=false from du.2 b,<-ahj q a n d l];by_cases e:q y=true
   .rw[rR,dj e,sL,show(a y ==n)=false from du.2 b]
   .rw[rR,bv e]
def old(h:eC s){i : Nat}{x:Hd}(m:k<=s.lg.length)(hi:i<k)(c:s.lg[i]?=some x):adL 7 (kP s ⟨2,k,0,⟨#[]⟩⟩) x.s=adL 7 s x.s/\(kP s ⟨2,k,0,⟨#[]⟩⟩).lg=s.lg.take k:=by
 rw[afA rfl ⟨by show(0:Int)<=k;omega,by show(k:Int)<=_;omega⟩];refine⟨?_,rfl⟩;unfold adL;show(match(s.sn.filter λy=>!((s.lg.drop k).any λh=>h.s ==y.no)).find? (λy=>y.no ==x.s) with|some y=>dx 7 (aX s.pk) y.all|none=>none)=_
 suffices ach:∀y:Sn,y.no=x.s->(!((s.lg.drop k).any λh=>h.s ==y.no))=true by
  rw[ahj _ (λy:Sn=>y.no) x.s ach s.sn];all_goals(cases s.sn.find? (λy=>y.no ==x.s)<;>rfl)
 intro y a;have a:y.no=x.s:=a;rw[a,tD,<-gc,List.any_eq_true];rintro⟨z,l,d⟩;have d:=mt.1 d;obtain⟨j,b⟩:=rq l;rw[tq] at b;have e:=qm.1 h.asc i (k+j) (aI c) (aI b) (by omega);have f:=(li.1 c).2;have g:=(li.1 b).2;rw[f,g] at e;omega
end
section
variable {β:Bool}
open Go.RowKit
def mN:∀(a b:List UInt8),(Op.bytesLess a b||a ==b)=!(Op.bytesLess b a)
 |[],[]=>by simp[Op.bytesLess]
 |[],_::_=>by simp[Op.bytesLess]
 |_::_,[]=>by simp[Op.bytesLess]
 |x::a,y::b=>by
  have j:=mN a b;by_cases i:x.toNat<y.toNat
  .have c:decide (x<y)=true:=de (rB.2 i);have g:decide (y<x)=false:=da λh=>by have:=rB.1 h;omega
   have d:(y ==x)=false:=du.2 λh=>by rw[h] at i;omega
   simp[Op.bytesLess,c,g,d]
  .by_cases e:y.toNat<x.toNat
   .have c:decide (y<x)=true:=de (rB.2 e);have g:decide (x<y)=false:=da λh=>by have:=rB.1 h;omega
    have d:(x ==y)=false:=du.2 λh=>by rw[h] at e;omega
    have f:(x::a ==y::b)=false:=du.2 λh=>by rw[qf] at h;rw[h.1] at e;omega
    rw[f];simp[Op.bytesLess,c,g,d]
   .obtain rfl:x=y:=sG.1 (by omega);have c:decide (x<x)=false:=da λh=>by have:=rB.1 h;omega
    have f:(x::a ==x::b)=(a ==b):=by rw[List.cons_beq_cons,sg,ur]
    rw[f];simp only[Op.bytesLess,c,uu,sg,ur];exact j
def ahk(s:ByteArray):bs s=s.toList.map UInt8.toNat:=by rw[qT];rfl
def jX{s:ByteArray}(h:k<s.size):s.toList[k]?=some (s[k]'h):=by
 rw[qT,eg];exact gt h
def lH(s:ByteArray):s.toList.length=s.size:=by rw[qT,qX];rfl
def ahl{s:ByteArray}(h:gS s=true):(∃a,s.toList=[a])\/∃a c,s.toList=[a,47,c]:=by
 have e:=lH s;unfold gS at h;split at h
 .rename_i i;left;rw[i] at e;obtain⟨a,g⟩:=tC.1 e;exact⟨a,g⟩
 .split at h
  .rename_i j;right;simp only[fk,qJ] at h;have d:=jX (s:=s) (k:=1) (by omega);have f:s[1]'(by omega)=47:=sG.1 (by rw[h.2.1];rfl);rw[f] at d;rw[j] at e
   match hs:s.toList,e,d with
   |[a,b,c],_,d=>
    simp at d;subst d;exact⟨a,c,rfl⟩
  .cases h
def am1{g : ByteArray}{a b:UInt8}{x y:List UInt8}(j:g.toList=a::x)(e:f.toList=b::y):jr g f=(decide (x.length≠y.length)&&(a ==b)):=by
 have lg:=lH g;have i:=lH f;rw[j] at lg;rw[e] at i;simp only[fi] at lg i;have c:=jX (s:=g) (k:=0) (by omega);have d:=jX (s:=f) (k:=0) (by omega);rw[j] at c;rw[e] at d;simp only[th,jt] at c d;unfold jr;rw[tF ⟨by omega,by omega⟩];by_cases h:g.size=f.size
 .rw[dj h,da (by omega),uc]
 .rw[bv h,de (by omega),ur,<-c,<-d,qc,mt,mt,<-sG];omega
def ahm{g : ByteArray}(n:gS g=true)(m:gS f=true)(k:Op.bytesLess g.toList f.toList=true):aaz g f=jr g f:=by
 have e:aaz g f=(g.toList++[47]).isPrefixOf f.toList:=by
  unfold aaz;rw[ahk,ahk];generalize g.toList=x;generalize f.toList=y;have l:([47]:List Nat)=[(47:UInt8)].map UInt8.toNat:=rfl;rw[l,<-qs];generalize x++[47]=x
  induction x generalizing y with
  |nil=>rfl
  |cons a x o=>
   cases y with
   |nil=>rfl
   |cons b y=>
    simp only[qK,List.isPrefixOf_cons₂,o]
    congr 1
    rw[qc,mt,mt,sG]
 rw[e];rcases ahl n with⟨a,i⟩|⟨a,c,i⟩<;>rcases ahl m with⟨b,j⟩|⟨b,d,j⟩<;>rw[am1 i j,i,j]
 .simp[List.isPrefixOf]
 .simp[List.isPrefixOf]
 .rw[i,j] at k;have:(a ==b)=false:=by
   simp[Op.bytesLess] at k;exact du.2 λh=>by rw[h,rB] at k;omega
  simp[List.isPrefixOf,this]
 .simp[List.isPrefixOf]
def adg{t:List Nd}:aeZ t↔ag6 t:=by
 unfold aeZ ag6 aoc;constructor
 .rintro⟨d,h⟩;refine⟨d,λi x a=>⟨(h i x a).1,(h i x a).2.1,λk y c b=> ?_⟩⟩;rw[<-ahm (h k y b).1.1 (h i x a).1.1 (aeq (λi x a=>(h i x a).2.1) (i-k-1) k (by rw[show k+(i-k-1)+1=i by omega];exact a) b)];exact(h i x a).2.2 k y c b
 .rintro⟨d,h⟩;refine⟨d,λi x a=>⟨(h i x a).1,(h i x a).2.1,λk y c b=> ?_⟩⟩;rw[ahm (h k y b).1.1 (h i x a).1.1 (aeq (λi x a=>(h i x a).2.1) (i-k-1) k (by rw[show k+(i-k-1)+1=i by omega];exact a) b)];exact(h i x a).2.2 k y c b
end
section
variable {β:Bool}
open Go.RowKit
def avU{l:List Pk}(h:l.Pairwise λa b=>a.no<b.no):∀p∈l,p.no<eU l:=by
 intro p j;unfold eU;obtain⟨z,c,e⟩:=vO (l:=l) (vK j);rw[e];show p.no<z.no+1;obtain⟨i,d⟩:=rq j;have g:=aI d;rcases pm i (l.length-1) with f|k
 .have:=qm.1 h i (l.length-1) g (by omega) f;rw[(li.1 d).2,(li.1 c).2] at this;omega
 .have:i=l.length-1:=by omega
  subst this;rw[c] at d;cases d;omega
def afV(key:Int):∀(n:Nat) (no:Int) (l:List ByteArray),l.length<=n->(fu key no l).Pairwise λa b=>a.no<b.no
 |0,no,l,h=>by rw[pu.1 (by omega:l.length=0),iy];exact .nil
 |n+1,no,l,h=>by
  rcases nf l.length with c|c
  .rw[pu.1 c,iy];exact .nil
  .rw[mo key no c];refine .cons (λp d=> ?_) (afV key n (no+1) (l.drop 4) (by rw[pi];omega));have:=(jy key n (no+1) (l.drop 4) (by rw[pi];omega) p d).1;show no<p.no;omega
def eC.axs(h:eC s):s.pk.Pairwise λa b=>a.no<b.no:=by
 induction h with
 |nil=>exact .nil
 |save l k j g c=>
  refine rI.2 ⟨c,afV 7 _ _ _ (am _),λp d q e=> ?_⟩;have i:=avU c p d;have f:=(jy 7 _ _ _ (am _) q e).1;omega
def avV(h:s.sn.Pairwise λa b=>a.no<b.no):∀x∈s.sn,x.no<dZ s:=by
 intro p k;obtain⟨z,c,e⟩:=vO (l:=s.sn) (vK k);have g:z.no<dZ s:=by
  unfold dZ;rw[e];show z.no<max (fU s.lg) (z.no+1);omega
 obtain⟨i,d⟩:=rq k;have j:=aI d;rcases pm i (s.sn.length-1) with f|m
 .have:=qm.1 h i (s.sn.length-1) j (by omega) f;rw[(li.1 d).2,(li.1 c).2] at this;omega
 .have:i=s.sn.length-1:=by omega
  subst this;rw[c] at d;cases d;exact g
def eC.aBu(h:eC s):s.sn.Pairwise λa b=>a.no<b.no:=by
 induction h with
 |nil=>exact .nil
 |save j i g f c=>
  refine rI.2 ⟨c,rM _ _,λx e y d=> ?_⟩;rw[ge.1 d];exact avV c x e
def ahn{d:Type}(c:d->Int):∀{l:List d} {x:d},l.Pairwise (λa b=>c a<c b)->x∈l->l.find? (λy=>c y ==c x)=some x
 |[],_,_,h=>by cases h
 |y::l,x,hp,h=>by
  rw[sL];rcases me.1 h with rfl|h
  .rw[sg]
  .have e:=(sB.1 hp).1 x h;rw[show(c y ==c x)=false from du.2 (by omega)];exact ahn c (sB.1 hp).2 h
def eY(l:List Pk):List Int:=l.flatMap λp=>p.its.map (·.n)
def aiO(l:List Pk):eY l=(dr l).map (·.n):=by
 unfold eY dr pK;rw[List.map_flatMap]
 congr 1
 funext p
 rw[tV];rfl
def afW{n:Int}:∀{a:List Sp} {l:List Sp},(∀x∈a,¬x.p=0)->(∃x∈a,x.n=n)\/¬eB n l=0->¬eB n (eA a l)=0
 |[],l,_,h=>by
  rcases h with⟨x,b,_⟩|h
  .cases b
  .exact h
 |y::a,l,hz,h=>by
  show ¬eB n (eA a (fQ y l))=0;refine afW (λx b=>hz x (by simp[b])) ?_;rw[ac2];by_cases c:y.n=n
  .rw[dj c];exact .inr (hz y (by simp))
  .rw[bv c];rcases h with⟨x,b,d⟩|h
   .rcases me.1 b with rfl|b
    .exact absurd d c
    .exact .inl ⟨x,b,d⟩
   .exact .inr h
def afX{n:Int}:∀{a:List Sp} {l:List Sp},(∀x∈a,¬x.n=n)->eB n (eA a l)=eB n l
 |[],l,_=>rfl
 |y::a,l,h=>by
  show eB n (eA a (fQ y l))=_;rw[afX λx b=>h x (by simp[b]),ac2,bv (h y (by simp))]
def aoD{l:List Pk}(h:∀s∈dr l,spP s){n:Int}:eB n (nV l)=0↔n∉eY l:=by
 unfold nV;rw[dj h,aiO];constructor
 .intro d a;obtain⟨x,b,rfl⟩:=mc.1 a;exact afW (l:=[]) (λy c=>by have:=(h y c).2;omega) (.inl ⟨x,b,rfl⟩) d
 .intro a;rw[afX (l:=[]) λx b e=>a (mc.2 ⟨x,b,e⟩)];rfl
def agx{ix:List Sp}{o:List ByteArray}{p:ByteArray}(h:o.Nodup):(dF key ix o p).Nodup:=by
 unfold dF;split
 .rename_i d;exact qY.2 ⟨h,by simp,λa c b f e=>by rw[ge.1 f] at e;rw[e] at c;exact d.2 c⟩
 .exact h
def afY{key:Int}{ix:List Sp}:∀{l o:List ByteArray},o.Nodup->(nT key ix o l).Nodup
 |[],_,h=>h
 |p::l,o,h=>afY (l:=l) (agx h)
def akx{key:Int}{ix:List Sp}{x:ByteArray}:∀{l o:List ByteArray},x∈o->x∈nT key ix o l
 |[],_,h=>h
 |p::l,o,h=>akx (l:=l) (by
  unfold dF;split
  .exact rJ _ h
  .exact h)
def aho{key:Int}{ix:List Sp}{x:ByteArray}:∀{l o:List ByteArray},(x∈o->eB (bG key (bs x)) ix=0)->x∈nT key ix o l->eB (bG key (bs x)) ix=0
 |[],_,h,hx=>h hx
 |p::l,o,h,hx=>aho (l:=l) (o:=dF key ix o p) (λa=>by
  unfold dF at a;split at a
  .rename_i b;rcases io.1 a with a|a
   .exact h a
   .rw[ge.1 a];exact b.1
  .exact h a) hx
def aky{key:Int}{ix:List Sp}:∀{l o:List ByteArray},∀p∈l,¬eB (bG key (bs p)) ix=0\/p∈nT key ix o l
 |[],_,p,h=>by cases h
 |q::l,o,p,h=>by
  show _\/p∈nT key ix (dF key ix o q) l;rcases me.1 h with rfl|h
  .by_cases b:eB (bG key (bs p)) ix=0
   .refine .inr (akx ?_);unfold dF;by_cases a:p∈o
    .rw[bv λc=>c.2 a];exact a
    .rw[dj ⟨b,a⟩];simp
   .exact .inl b
  .exact aky p h
def aqd(x:It):∀l:List It,(kQ x l).Perm (x::l):=by
 intro l
 induction l with
 |nil=>exact .refl _
 |cons y l a=>
  unfold kQ;split
  .exact .refl _
  .exact((a.cons y).trans (.swap _ _ _))
def am2(key:Int)(l:List ByteArray):(gu key l).Perm (l.map (iW key)):=by
 induction l using nL with
 |h0=>exact .refl _
 |h1 l s a=>
  rw[nU,qs];exact(aqd _ _).trans ((a.cons _).trans (by simpa using(List.perm_append_singleton (iW key s) (l.map (iW key))).symm))
def acB(key:Int):∀(n:Nat) (no:Int) (l:List ByteArray),l.length<=n->(eY (fu key no l)).Perm (l.map λp=>bG key (bs p))
 |0,no,l,h=>by rw[pu.1 (by omega:l.length=0),iy];exact .refl _
 |n+1,no,l,h=>by
  rcases nf l.length with a|a
  .rw[pu.1 a,iy];exact .refl _
  .rw[mo key no a];have c:=acB key n (no+1) (l.drop 4) (by rw[pi];omega);have d:((gu key (l.take 4)).map (·.n)).Perm ((l.take 4).map λp=>bG key (bs p)):=by
    have:=(am2 key (l.take 4)).map (·.n);rw[tV] at this;exact this
   have b:=d.append c;rw[<-qs,qZ] at b;exact b
def ahp{d β:Type}{f:d->β}:∀{l:List d},l.Nodup->(∀x∈l,∀y∈l,f x=f y->x=y)->(l.map f).Nodup
 |[],_,_=>.nil
 |x::l,h,hf=>by
  obtain⟨k,j⟩:=tp.1 h;refine tp.2 ⟨λg=> ?_,ahp j λa i b m=>hf a (by simp[i]) b (by simp[m])⟩;obtain⟨y,c,e⟩:=mc.1 g;exact k (hf x (by simp) y (by simp[c]) e.symm▸c)
def eC.dr(h:eC s):∀x∈dr s.pk,spP x:=λx a=>by
 obtain⟨p,b,a⟩:=ph.1 a;obtain⟨y,c,rfl⟩:=mc.1 a;have e:=(h.wf.pn p b).1;obtain⟨q,d,f⟩:=h.items p b y c;have:=mf (key:=7) (l:=q);exact⟨by show 0<=y.n/\y.n<=_;omega,by show 1<=p.no/\p.no<=99;omega⟩
structure Whole (s:dJ):Prop where
 once:(eY s.pk).Nodup
 trees:∀x∈s.sn,∃t,kC t/\x=jS x.no 7 t/\∀f∈t,∀p∈fY f.b,bG 7 (bs p)∈eY s.pk
def eC.whole(h:eC s):Whole s:=by
 induction h with
 |nil=>exact⟨.nil,λx d=>(by cases d)⟩
 |@save s b t C G r H u=>
  have m:=C.dr;have k:=lB (key:=7) (ix:=nV s.pk) (aao r);have g:=acB 7 _ (eU s.pk) (aax 7 (nV s.pk) t) (am _);have i:eY (abf 7 s b t).pk=eY s.pk++eY (ac8 7 s t):=by
   show eY (s.pk++ac8 7 s t)=_;unfold eY;rw[qC]
  refine⟨?_,λx d=> ?_⟩
  .rw[i];refine qY.2 ⟨u.once, ?_,λa E c F e=> ?_⟩
   .refine g.nodup_iff.2 (ahp (afY .nil) λx d y A e=>jm (abp (k x d) (k y A) e))
   .subst e;obtain⟨p,j,rfl⟩:=mc.1 (g.mem_iff.1 F);exact(aoD m).1 (aho (l:=pN t) (o:=[]) (λh=>by cases h) j) E
  .rcases io.1 d with d|d
   .obtain⟨w,z,v,B⟩:=u.trees x d;exact⟨w,z,v,λf q p j=>by rw[i];exact rJ _ (B f q p j)⟩
   .rw[ge.1 d];refine⟨t,r,rfl,λf q p j=> ?_⟩;rw[i];rcases aky (key:=7) (ix:=nV s.pk) (o:=[]) p (ph.2 ⟨f,q,j⟩:p∈pN t) with n|n
    .refine rJ _ (qF λD=>n ((aoD m).2 D))
    .exact rS _ (g.mem_iff.2 (mc.2 ⟨p,n,rfl⟩))
end
section
variable {β:Bool}
open Go.RowKit
def aqe{b:ByteArray}(h:dE b=true):fJ (fY b)=(b,true):=by
 unfold fJ;rw[apJ,aw1,dj ⟨h,rfl⟩]
def ahq{nm:Int}:∀{l:List (Int×ByteArray)},(∃x∈l,x.1=nm)->∃k:Nat,eE nm l=k
 |[],⟨x,a,_⟩=>by cases a
 |y::l,⟨x,a,e⟩=>by
  show ∃k:Nat,(if y.1=nm then 0 else let j:=eE nm l;if j<0 then -1 else j+1:Int)=k;by_cases b:y.1=nm
  .rw[dj b];exact⟨0,rfl⟩
  .rw[bv b];rcases me.1 a with rfl|a
   .exact absurd e b
   .obtain⟨k,c⟩:=ahq ⟨x,a,e⟩;refine⟨k+1, ?_⟩;show(if eE nm l<0 then -1 else eE nm l+1:Int)=_;rw[c,bv (by omega)];omega
def ahr{l:List Pk}(d:∀p∈l,∀x∈p.its,fS 7 x){nm:Int}:(bB 7 (aX l) nm).2=true↔nm∈eY l:=by
 rw[lr];constructor
 .rintro⟨p,a,g⟩;obtain⟨q,n,rfl⟩:=mc.1 a;obtain⟨k,x, -,b,f, -⟩:=afT g;rw[aiL] at b;obtain⟨y,c,rfl⟩:=iS.1 b;exact ph.2 ⟨q,n,mc.2 ⟨y,aE c,f⟩⟩
 .intro h;obtain⟨p,a,j⟩:=ph.1 h;obtain⟨x,i,e⟩:=mc.1 j;obtain⟨k,m⟩:=ahq (nm:=nm) (l:=(pkd p).2) ⟨(x.n,x.b),mc.2 ⟨x,i,rfl⟩,e⟩;exact⟨pkd p,tO a,afU (d p a) m⟩
def adO{l:List Pk}(f:∀p∈l,∀x∈p.its,fS 7 x){p:ByteArray}(d:aR (bs p))(h:bG 7 (bs p)∈eY l):bB 7 (aX l) (bG 7 (bs p))=(p,true):=by
 have c:=(ahr f).2 h;obtain⟨a,b⟩:=jB c;have e:=jm (abp a d b);generalize bB 7 (aX l) (bG 7 (bs p))=r at c e;obtain⟨i,g⟩:=r;dsimp only at c e;rw[c,e]
def aqf{l:List Pk}(d:∀p∈l,∀x∈p.its,fS 7 x){f:Nd}(c:agn f)(h:∀p∈fY f.b,bG 7 (bs p)∈eY l):et 7 (aX l) (fT 7 f)=some f:=by
 have b:=ju (fM c.2).2;have g:agh 7 (aX l) (fT 7 f).ns:=λn i=>by
  obtain⟨p,a,rfl⟩:=mc.1 i;rw[adO d (b p a) (h p a)]
 have e:fO 7 (aX l) (fT 7 f).ns=fY f.b:=by
  unfold fO fT;rw[tV]
  conv=>rhs;rw[<-List.map_id (fY f.b)]
  exact tP λp a=>by
   show(bB 7 (aX l) (bG 7 (bs p))).1=p;rw[adO d (b p a) (h p a)]
 unfold et;rw[e,aqe c.2,dj ⟨g,rfl⟩];rfl
def aqg{l:List Pk}(e:∀p∈l,∀x∈p.its,fS 7 x){t:List Nd}(b:kC t)(h:∀f∈t,∀p∈fY f.b,bG 7 (bs p)∈eY l):dx 7 (aX l) (t.map (fT 7))=some t:=by
 have c:∀f∈t,et 7 (aX l) (fT 7 f)=some f:=λf a=>aqf e (b.1 f a) (h f a);have d:df 7 (aX l) (t.map (fT 7))=t:=by
  clear h b;unfold df
  induction t with
  |nil=>rfl
  |cons f t k=>
   rw[qK,te,c f (by simp)];show f::_=_;rw[k λg i=>c g (by simp[i])]
 unfold dx;rw[d,dj ⟨λx j=>by
  obtain⟨f,a,rfl⟩:=mc.1 j;rw[c f a];rfl,adg.2 (ajL.2 b)⟩]
def am3{l:List Pk}(c:∀p∈l,∀x∈p.its,fS 7 x){xs:List Ls}{x:Ls}{n:Int}(d:x∈xs)(e:n∈x.ns)(h:n∉eY l):dx 7 (aX l) xs=none:=by
 unfold dx;rw[bv];rintro⟨a, -⟩;have a:=a x d;unfold et at a;split at a
 .rename_i b;exact h ((ahr c).1 (b.1 n e))
 .cases a
def axt(s:dJ)(no:Int):dJ:=kP s ⟨1,no,0,⟨#[]⟩⟩
def mE(x:Sn):List Int:=x.all.flatMap λy=>y.ns
def afZ{l:List Pk}(v:l.Pairwise λa b=>a.no<b.no)(B:(eY l).Nodup){p:Pk}(o:p∈l){n:Int} :
  n∈eY (l.filter λq=>!(q.no ==p.no))↔n∈eY l/\n∉p.its.map (·.n):=by
 constructor
 .intro h;obtain⟨q,d,k⟩:=ph.1 h;obtain⟨g,c⟩:=sJ.1 d;have c:q.no≠p.no:=by simpa using c
  refine⟨ph.2 ⟨q,g,k⟩,λs=>c ?_⟩;clear v c h d
  induction l with
  |nil=>cases g
  |cons y l C=>
   obtain⟨D,A,w⟩:=qY.1 (show(y.its.map (·.n)++eY l).Nodup from B);rcases me.1 g with rfl|d<;>rcases me.1 o with rfl|o
   .rfl
   .exact absurd rfl (w n k n (ph.2 ⟨p,o,s⟩))
   .exact absurd rfl (w n s n (ph.2 ⟨q,d,k⟩))
   .exact C A o d
 .rintro⟨h,s⟩;obtain⟨q,d,k⟩:=ph.1 h;refine ph.2 ⟨q,sJ.2 ⟨d, ?_⟩,k⟩;rw[tD,du];intro e;have:q=p:=by
   obtain⟨i,x⟩:=rq d;obtain⟨j,z⟩:=rq o;have r:=aI x;have m:=aI z;have u:=(li.1 x).2;have t:=(li.1 z).2;rcases ui i j with f|rfl|f
   .have:=qm.1 v i j r m f;rw[u,t] at this;omega
   .rw[<-u,<-t]
   .have:=qm.1 v j i m r f;rw[u,t] at this;omega
  exact s (this▸k)
def other(h:eC s){p:Pk}(k:p∈s.pk){x:Sn}(r:x∈s.sn):(adL 7 (axt s p.no) x.no).isSome=true↔∀n∈mE x,n∉p.its.map (·.n):=by
 have d:=h.whole;obtain⟨t,w,i,z⟩:=d.trees x r;have e:axt s p.no=⟨s.pk.filter λq=>!(q.no ==p.no),s.sn,s.lg⟩:=aip rfl;have m:∀q∈s.pk.filter λq=>!(q.no ==p.no),∀y∈q.its,fS 7 y:=λq c=>h.items q (sJ.1 c).1;have a:x.all=t.map (fT 7):=by rw[i];rfl
 rw[e];unfold adL;show(match s.sn.find? (λy=>y.no ==x.no) with|some y=>dx 7 (aX _) y.all|none=>none:Option (List Nd)).isSome=true↔_;rw[ahn (λy:Sn=>y.no) h.aBu r];show(dx 7 (aX (s.pk.filter λq=>!(q.no ==p.no))) x.all).isSome=true↔_;constructor
 .intro o n A j;obtain⟨y,u,g⟩:=ph.1 A;rw[am3 m u g λv=>((afZ h.axs d.once k).1 v).2 j] at o;cases o
 .intro b;rw[a,aqg m w λf l q c=>(afZ h.axs d.once k).2 ⟨z f l q c,b _ (ph.2 ⟨fT 7 f,by rw[a];exact tO l,mc.2 ⟨q,c,rfl⟩⟩)⟩];rfl
end
section
variable {β:Bool}
open Go.RowKit
def nj(s:ByteArray)(f:s.size<=maxLen)(w:World) :
  Calls (ai β) 113 #[.string s] w λe d=>e=.returned (.bool (dE s))/\w=d:=by
 by_cases b:s.size<=40
 .have a:(bs s).all oU=dE s:=by unfold dE;rw[de b,ur]
  replace a:=ab a;have c:=de (show(s.size:Int)<=40 by omega);go_enter xj,ntmps113;go_wp2;refine(ahb s f w).mono ?_;rintro e g ⟨rfl,rfl⟩;rw[a.out];go_wp2;go_ret;exact⟨rfl,rfl⟩
 .have c:=da (show ¬((s.size:Int)<=40) by omega);have e:dE s=false:=by unfold dE;rw[da b,uc]
  rw[e];clear e;go_enter xj,ntmps113;go_wp2;go_ret;exact⟨rfl,rfl⟩
def am4(s:ByteArray)(p:Nat)(v:3<=p/\p<s.size)(r:s.size<=maxLen)(w:World) :
  Calls (ai β) 211 #[.string s,.int .i64 p] w λe o=>e=.returned (.bool (pJ (bs s) p))/\Below w.heap.size w o:=by
 unfold maxLen at r;obtain⟨a,k⟩:∃a,a=p-1:=⟨_,rfl⟩;obtain⟨b,i⟩:∃b,b=p-2:=⟨_,rfl⟩;obtain⟨c,n⟩:∃c,c=p-3:=⟨_,rfl⟩;have m:a<s.size:=by omega
 have f:b<s.size:=by omega
 have g:c<s.size:=by omega
 have y:(p:Int)-1=((a:Nat):Int):=by omega
 have x:(p:Int)-2=((b:Nat):Int):=by omega
 have z:(p:Int)-3=((c:Nat):Int):=by omega
 have t:(p:Int)<=9223372036854775807:=by omega
 have j:pJ (bs s) p=((dig (s[a]'m).toNat+2*dig (s[b]'f).toNat+3*dig (s[c]'g).toNat) % 5 ==0):=by unfold pJ;rw[<-k,<-i,<-n,aag m,aag f,aag g]
 rw[j];clear k i n j;go_enter xU,ntmps211;go_wp2;refine aZ 21 [0,1,2,3,4,5,6,7,8,9,10,11,12,13,14,15,16,17,18,19,20] [] (h:= ?_);simp only[pick,List.map,mx,mT];repeat(go_big_quiet_step (fail))
 refine gE ?_;apply Exists.intro;refine cV ?_;intro A u q l d;dsimp only[iv] at d;try rw[l] at d
 clear l q;simp only[List.drop];clear d;go_wp2;go_ret;exact⟨av (by rw[qc];simp only[mt];unfold dig;omega),u⟩
def avW(s:ByteArray)(p:Nat)(C:p<s.size)(E:s.size<=1000000)(w:World) :
  Calls (ai β) 201 #[.string s,.int .i64 p] w λe v=>e=.returned (.int .i64 (oW (bs s) p:Nat))/\Below w.heap.size w v:=by
 have o:s.size<=maxLen:=by unfold maxLen;omega
 go_enter xZ,ntmps201;go_wp2;go_loopw [5] (λr wr=>∃k f:Nat,k+f=8/\3<=k/\r=.int .i64 ((p+k:Nat):Int)/\oW (bs s) p=atF (bs s) p f k/\Below w.heap.size w wr) (λr _=>p+8-(intOf r).toNat)
 case atStart=>exact⟨3,5,rfl,by omega,by go_num,rfl,fm _ _⟩
 case round=>
  obtain⟨k,f,z,D,rfl,b,g⟩:=hrel;replace b:=ab b;by_cases B:k<8
  .obtain⟨j,rfl⟩:∃j,f=j+1:=⟨f-1,by omega⟩;have a:atF (bs s) p (j+1) k=if s.size<=p+k then s.size else if pJ (bs s) (p+k)=true then p+k else atF (bs s) p j (k+1):=by
    show(if(bs s).length<=p+k then(bs s).length else _)=_;rw[aM]
   have HS:=ab a;clear a;obtain⟨d,i⟩:∃m,m=p+k:=⟨_,rfl⟩;rw[<-i] at HS ⊢;have q:3<=d/\d<p+8:=by omega
   have x:=de (show(d:Int)<(p:Int)+8 by omega);by_cases n:s.size<=d
   .have y:=da (show ¬(d<s.size) by omega);rw[dj n] at HS;have c:=ab (b.out.trans HS.out);have t:=da (show ¬((p:Int)+8<=(s.size:Int)) by omega);clear i;go_wp2;go_ret;exact⟨by rw[c.out];simp,g⟩
   .have y:=de (show d<s.size by omega);rw[bv n] at HS;replace i:=ab i;go_wp2;refine(am4 s d ⟨q.1,by omega⟩ o wr).mono ?_;rintro e A ⟨rfl,u⟩;cases l:pJ (bs s) d with
    |true=>
     have c:=ab (b.out.trans (HS.out.trans (dj l)));clear l;go_wp2;go_ret;exact⟨by rw[c.out];rfl,ae g u⟩
    |false=>
     have c:=ab (b.out.trans (HS.out.trans (bv (by rw[l];exact qp))));clear l;go_wp2;go_roundw
     case rel=>exact⟨k+1,j,by omega,by omega,by have:=i.out;go_num,c.out,ae g u⟩
     simp[intOf];omega
  .obtain rfl:k=8:=by omega
   obtain rfl:f=0:=by omega
   have a:atF (bs s) p 0 8=min (p+8) s.size:=by
    show min (p+8) (bs s).length=_;rw[aM]
   have c:=ab (b.out.trans a);clear a b;have x:=da (show ¬(((p+8:Nat):Int)<(p:Int)+8) by omega);by_cases n:p+8<=s.size
   .have t:=de (show(p:Int)+8<=(s.size:Int) by omega);rw[rh n] at c;go_wp2;go_ret;exact⟨by rw[c.out];simp,g⟩
   .have t:=da (show ¬((p:Int)+8<=(s.size:Int)) by omega);rw[Nat.min_eq_right (by omega)] at c;go_wp2;go_ret;exact⟨by rw[c.out];simp,g⟩
end
section
variable {β:Bool}
open Go.RowKit
def akz(s:ByteArray)(w:World) :
  Calls (ai β) 219 #[.string s,.int .u8 47] w λe a=>e=.returned (.int .i64 (Lib.indexByte s.data.toList 47))/\w=a:=by
 go_enter xR,ntmps219;go_wp2;rw[run_callFunc_extern xQ (by kernel_rfl) (by kernel_rfl) (by kernel_rfl) (e:=Extern.BytealgIndexByte.indexByte) (by kernel_rfl),Lib.run_indexByteString];simp only[Result.andThen];rw[Oper.upon_value];go_wp2;go_ret;exact⟨rfl,rfl⟩
noncomputable def am5:Code:=gP (f212.body.getD .skip)
def aDs:Code->Code
 |.seq a _=>a
 |c=>c
def as3:Code->Code
 |.cond _ _ b=>b
 |c=>c
def aze:Code->Code
 |.block _ b=>b
 |c=>c
noncomputable def aBv:Code:=cj (cj (cj am5))
noncomputable def aBw:Code:=as3 (cj (as3 (cj (aze (aDs (cj (cj am5)))))))
noncomputable def xIx:Func:={f212 with body:=some ((Code.region 0 #[⟨some 4,Op.assign (Operand.const (Value.int IntKind.i64 0)),3,"strings.go:28",#[],none⟩] false).seq ((Code.region 1 #[⟨some 14,Op.move (Operand.tmp 1),9,"strings.go:29",#[],none⟩,⟨some 15,Op.call ⟨Callee.builtin Builtin.len,#[Operand.tmp 14],#[9]⟩,3,"strings.go:29",#[⟨0,Ground.data⟩],none⟩,⟨some 5,Op.assign (Operand.tmp 15),3,"strings.go:29",#[⟨1,Ground.data⟩,⟨0,Ground.phase⟩,⟨1,Ground.phase⟩],none⟩] false).seq ((Code.block 0 ((Code.region 2 #[⟨some 17,Op.move (Operand.tmp 5),3,"strings.go:31",#[],none⟩,⟨some 18,Op.binOp BinOp.eql 3 (Operand.tmp 17) (Operand.const (Value.int IntKind.i64 0)) 3,4,"strings.go:31",#[⟨0,Ground.data⟩],none⟩,⟨some 19,Op.move (Operand.tmp 18),4,"strings.go:31",#[⟨1,Ground.data⟩],none⟩,⟨some 20,Op.move (Operand.tmp 1),9,"strings.go:31",#[⟨2,Ground.guard⟩],some (2,false)⟩,⟨some 21,Op.move (Operand.tmp 0),9,"strings.go:31",#[⟨2,Ground.guard⟩],some (2,false)⟩,⟨some 22,Op.binOp BinOp.eql 9 (Operand.tmp 20) (Operand.tmp 21) 9,4,"strings.go:31",#[⟨3,Ground.data⟩,⟨4,Ground.data⟩,⟨2,Ground.guard⟩],some (2,false)⟩,⟨some 23,Op.pick (Operand.tmp 19) (Operand.const (Value.bool true)) (Operand.tmp 22),4,"strings.go:31",#[⟨2,Ground.data⟩,⟨5,Ground.data⟩],none⟩,⟨some 16,Op.assign (Operand.tmp 23),4,"strings.go:31",#[⟨6,Ground.data⟩,⟨2,Ground.chain⟩],none⟩] false).seq (Code.cond (Operand.tmp 16) ((Code.region 3 #[⟨some 4,Op.assign (Operand.const (Value.int IntKind.i64 0)),3,"strings.go:32",#[],none⟩] false).seq Code.ret) ((Code.region 4 #[⟨some 25,Op.move (Operand.tmp 5),3,"strings.go:33",#[],none⟩,⟨some 26,Op.binOp BinOp.eql 3 (Operand.tmp 25) (Operand.const (Value.int IntKind.i64 1)) 3,4,"strings.go:33",#[⟨0,Ground.data⟩],none⟩,⟨some 24,Op.assign (Operand.tmp 26),4,"strings.go:33",#[⟨1,Ground.data⟩],none⟩] false).seq (Code.cond (Operand.tmp 24) ((Code.region 5 #[⟨some 27,Op.move (Operand.tmp 0),9,"strings.go:34",#[],none⟩,⟨some 28,Op.move (Operand.tmp 1),9,"strings.go:34",#[],none⟩,⟨some 29,Op.index 9 (Operand.tmp 28) (Operand.const (Value.int IntKind.i64 0)),5,"strings.go:34",#[⟨1,Ground.data⟩],none⟩,⟨some 30,Op.call ⟨Callee.value (Operand.func 219),#[Operand.tmp 27,Operand.tmp 29],#[9,5]⟩,3,"strings.go:34",#[⟨0,Ground.data⟩,⟨2,Ground.data⟩],none⟩,⟨some 4,Op.assign (Operand.tmp 30),3,"strings.go:34",#[⟨3,Ground.data⟩,⟨3,Ground.chain⟩,⟨0,Ground.phase⟩,⟨1,Ground.phase⟩,⟨2,Ground.phase⟩,⟨3,Ground.phase⟩],none⟩] false).seq Code.ret) aBw))))).seq aBv)))}
def as4:f212.body.map gP=xIx.body:=by
 unfold xIx aBw aBv am5 gP
 kernel_rfl
def am6:(ai β).funcs[212]?=some xIx:=by
 refine(alF β (by decide) (by decide)).trans ?_;have e:Option.map pf (prog.funcs[212]?)=Option.map pf (some f212):=gn _ func212;rw[e,qe];unfold pf;rw[as4];rfl
@[go_sem] theorem aBx(args:Array Value)(w:World):(callFunc 212 args).run (ai β) w=.ok (.enter 212 args) w:=by
 have a:=cL func212;exact lu am6 a rfl args w
def avX(s:ByteArray)(w:World) :
  Calls (ai β) 212 #[.string s,.string ⟨#[47]⟩] w λe g=>e=.returned (.int .i64 (Lib.indexByte s.data.toList 47))/\w=g:=by
 have d:xIx.ntmps=143:=ntmps212;have c:xIx.results=#[.tmp 4]:=results212;by_cases a:s.toList=[47]
 .have f:([47] ==s.toList)=true:=by rw[a];rfl
  have b:Lib.indexByte s.data.toList 47=0:=by
   rw[show s.data.toList=s.toList by rw[qT],a];rfl
  replace b:=ab b;clear a;go_enter am6,d;go_wp2;exact oR (v:=.int .i64 0) (by simp[results,c,go_sem]) rfl ⟨by rw[b.out],rfl⟩
 .have f:([47] ==s.toList)=false:=du.2 λe=>a e.symm;clear a;go_enter am6,d;go_wp2;refine(akz s w).mono ?_;rintro e i ⟨rfl,rfl⟩;go_wp2;exact oR (v:=.int .i64 (Lib.indexByte s.data.toList 47)) (by simp[results,c,go_sem]) rfl ⟨rfl,rfl⟩
open Classical in
noncomputable def dw(s:ByteArray):ByteArray×ByteArray×Bool:=if Lib.indexByte s.data.toList 47<0 then(s,⟨#[]⟩,false) else(s.extract 0 (Lib.indexByte s.data.toList 47).toNat,s.extract ((Lib.indexByte s.data.toList 47).toNat+1) s.size,true)
def akA(s:ByteArray):Lib.indexByte s.data.toList 47=-1\/∃k:Nat,Lib.indexByte s.data.toList 47=k/\k<s.size:=by
 rcases Int.lt_or_le (Lib.indexByte s.data.toList 47) 0 with h|h
 .left;have:=Lib.indexByte_ge s.data.toList 47;omega
 .right;obtain⟨k,a⟩:=qu h;refine⟨k,a, ?_⟩;have:=aI (Lib.indexByte_some a).1;rw[qX] at this;exact this
def azf(s:ByteArray)(j:s.size<=maxLen)(w:World) :
  Calls (ai β) 202 #[.string s,.string ⟨#[47]⟩] w λe g=>e=.returned (.tuple #[.string (dw s).1,.string (dw s).2.1,.bool (dw s).2.2])/\Below w.heap.size w g:=by
 unfold maxLen at j;have HC:=ab (avX (β:=β) s w);rcases akA s with h|⟨k,h,n⟩
 .have a:dw s=(s,⟨#[]⟩,false):=by unfold dw;rw[dj (by omega)]
  have b:=ab a;clear a;rw[h] at HC;clear h;go_enter xe,ntmps202;go_wp2;refine HC.out.mono ?_;rintro e f ⟨rfl,rfl⟩;go_wp2
  go_ret3
  rw[b.out];exact⟨rfl,fm _ _⟩
 .have a:dw s=(s.extract 0 k,s.extract (k+1) s.size,true):=by unfold dw;rw[bv (by omega),h];rfl
  have b:=ab a;clear a;rw[h] at HC;have m:=de (show 0<=(k:Int) by omega);clear h;go_enter xe,ntmps202;go_wp2;refine HC.out.mono ?_;rintro e f ⟨rfl,rfl⟩;go_wp2;refine aZ 12 [0,1,2,3,4,5,6,7,8,9,10,11] [] (h:= ?_);simp only[pick,List.map,mx,mT];repeat(go_big_quiet_step (fail))
  refine gE ?_;apply Exists.intro;refine cV ?_;intro o l i d c;dsimp only[iv] at c;try rw[d] at c
  clear d i;simp only[List.drop];clear c;go_wp2
  go_ret3
  rw[b.out];exact⟨rfl,l⟩
def aBy(s:ByteArray)(c:s.size<=maxLen)(w:World) :
  Calls (ai β) 174 #[.string s,.string ⟨#[47]⟩] w λe a=>e=.returned (.tuple #[.string (dw s).1,.string (dw s).2.1,.bool (dw s).2.2])/\Below w.heap.size w a:=by
 go_enter yh,ntmps174;go_wp2;refine(azf s c w).mono ?_;rintro e d ⟨rfl,b⟩;go_wp2
 go_ret3
 exact⟨rfl,b⟩
def acC(s:ByteArray):Bool:=if h:s.size=1 then nm (s[0]'(by omega)).toNat else false
def pT(s:ByteArray)(m:s.size<=maxLen)(w:World) :
  Calls (ai β) 175 #[.string s] w λe l=>e=.returned (.bool (acC s))/\w=l:=by
 unfold maxLen at m;by_cases d:s.size=1
 .have a:0<s.size:=by omega
  have k:((s.size:Int) ==1)=true:=by rw[d];rfl
  have b:acC s=nm (s[0]'a).toNat:=by unfold acC;rw[tF d]
  rw[b];clear b;by_cases g:97<=(s[0]'a).toNat
  .by_cases i:(s[0]'a).toNat<=101
   .have e:nm (s[0]'a).toNat=true:=by unfold nm;rw[de g,de i];rfl
    have c:=ab e;clear e;have j:=de (show((s[0]'a).toNat:Int)<=101 by omega);have f:=de (show 97<=((s[0]'a).toNat:Int) by omega);go_enter wD,ntmps175;go_wp2;go_ret;exact⟨by rw[c.out];rfl,rfl⟩
   .have e:nm (s[0]'a).toNat=false:=by unfold nm;rw[da i,Bool.and_false]
    have c:=ab e;clear e;have j:=da (show ¬(((s[0]'a).toNat:Int)<=101) by omega);have f:=de (show 97<=((s[0]'a).toNat:Int) by omega);go_enter wD,ntmps175;go_wp2;go_ret;exact⟨by rw[c.out];rfl,rfl⟩
  .have e:nm (s[0]'a).toNat=false:=by unfold nm;rw[da g,uc]
   have c:=ab e;clear e;have f:=da (show ¬(97<=((s[0]'a).toNat:Int)) by omega);go_enter wD,ntmps175;go_wp2;go_ret;exact⟨by rw[c.out];rfl,rfl⟩
 .have k:((s.size:Int) ==1)=false:=du.2 (by omega);have b:acC s=false:=by unfold acC;rw[dif_neg d]
  have n:=ab b;clear b;go_enter wD,ntmps175;go_wp2;go_ret;exact⟨by rw[n.out];rfl,rfl⟩
def adh{s:ByteArray}:acC s=match s.toList with|[a]=>nm a.toNat|_=>false:=by
 have c:=lH s;unfold acC;split
 .rename_i h;rw[h] at c;obtain⟨a,d⟩:=tC.1 c;have:=jX (s:=s) (k:=0) (by omega);rw[d] at this ⊢;simp only[th,jt] at this;rw[<-this]
 .rename_i h
  match hs:s.toList,c with
  |[],_=>rfl
  |[a],c=>exact absurd c.symm h
  |a::b::l,_=>rfl
def af0{s:ByteArray}:gS s=match s.toList with|[a]=>nm a.toNat|[a,b,c]=>nm a.toNat&&(decide (b=47)&&nm c.toNat)|_=>false:=by
 have e:=lH s;unfold gS;split
 .rename_i h;rw[h] at e;obtain⟨a,m⟩:=tC.1 e;have:=jX (s:=s) (k:=0) (by omega);rw[m] at this ⊢;simp only[th,jt] at this;rw[<-this]
 .rename_i n;split
  .rename_i j;have i:=jX (s:=s) (k:=0) (by omega);have g:=jX (s:=s) (k:=1) (by omega);have f:=jX (s:=s) (k:=2) (by omega)
   match hs:s.toList,e,i,g,f with
   |[a,b,c],_,i,g,f=>
    simp at i g f;show _=(nm a.toNat&&(decide (b=47)&&nm c.toNat));rw[i,g,f]
    congr 2
    rw[uz,<-sG];exact Iff.rfl
   |[],e,_,_,_=>simp at e;omega
   |[a],e,_,_,_=>simp at e;omega
   |[a,b],e,_,_,_=>simp at e;omega
   |a::b::c::d::l,e,_,_,_=>simp at e;omega
  .rename_i j
   match hs:s.toList,e with
   |[],_=>rfl
   |[a],e=>exact absurd e.symm n
   |[a,b],_=>rfl
   |[a,b,c],e=>exact absurd e.symm j
   |a::b::c::d::l,_=>rfl
def akB(s:ByteArray)(a b:Nat):(s.extract a b).toList=(s.toList.take b).drop a:=by
 rw[qT,qT,vM,tL,vk,List.take_drop];by_cases h:a<=b
 .congr 2;omega
 .have:b-a=0:=by omega
  rw[this,rv (by simp;omega),rv (by simp;omega)]
def akC(s:ByteArray):gS s=(acC (dw s).1&&(!(dw s).2.2||acC (dw s).2.1)):=by
 have hd:s.data.toList=s.toList:=by rw[qT]
 rcases akA s with h|⟨k,h,f⟩
 .have i:dw s=(s,⟨#[]⟩,false):=by unfold dw;rw[dj (by omega)]
  rw[i];show _=(acC s&&true);rw[uv,adh,af0];have m:=Lib.indexByte_none h;rw[hd] at m
  match hs:s.toList with
  |[]=>rfl
  |[a]=>rfl
  |[a,b]=>rfl
  |[a,b,c]=>
   have:=m 1;rw[hs] at this;have j:b≠47:=by simpa using this
   show(nm a.toNat&&(decide (b=47)&&nm c.toNat))=false;rw[da j];simp
  |a::b::c::d::l=>rfl
 .have i:dw s=(s.extract 0 k,s.extract (k+1) s.size,true):=by unfold dw;rw[bv (by omega),h];rfl
  rw[i];show _=(acC (s.extract 0 k)&&(false||acC (s.extract (k+1) s.size)));rw[uu,adh,adh,akB,akB,af0,rc,<-lH,ga];obtain⟨e,g⟩:=Lib.indexByte_some h;rw[hd] at e g;rw[<-lH] at f
  match hs:s.toList,k,e,g,f with
  |[],_,_,_,f=>simp at f
  |[a],0,e,_,_=>
   simp at e;subst e;rfl
  |[a],k+1,_,_,f=>simp at f
  |[a,b],0,_,_,_=>rfl
  |[a,b],1,_,_,_=>simp
  |[a,b],k+2,_,_,f=>simp at f;omega
  |[a,b,c],0,e,_,_=>
   simp at e;subst e;rfl
  |[a,b,c],1,e,_,_=>
   simp at e;subst e;simp
  |[a,b,c],2,e,g,_=>
   have:=g 1 (by omega);have j:b≠47:=by simpa using this
   simp[j]
  |[a,b,c],k+3,_,_,f=>simp at f;omega
  |a::b::c::d::l,0,_,_,_=>rfl
  |a::b::c::d::l,1,_,_,_=>simp
  |a::b::c::d::l,k+2,_,_,_=>simp
def pU(s:ByteArray)(i:s.size<=maxLen)(w:World) :
  Calls (ai β) 116 #[.string s] w λe l=>e=.returned (.bool (gS s))/\Below w.heap.size w l:=by
 have d:(dw s).1.size<=maxLen/\(dw s).2.1.size<=maxLen:=by
  unfold dw;split
  .exact⟨i,fa _⟩
  .refine⟨?_, ?_⟩
   .show(s.extract _ _).size<=_;rw[<-aM,cI,pi,ff,aM];omega
   .show(s.extract _ _).size<=_;rw[<-aM,cI,pi,ff,aM];omega
 have c:=ab (akC s);have HC:=ab (aBy (β:=β) s i w);clear i;generalize dw s=r at c HC d;obtain⟨a,b,q⟩:=r;dsimp only at c HC d;have n:=ab d.1;have m:=ab d.2;clear d;go_enter yF,ntmps116;go_wp2;refine HC.out.mono ?_;rintro e j ⟨rfl,f⟩;go_wp2;refine(pT a n.out j).mono ?_;rintro e o ⟨rfl,rfl⟩;cases g:acC a
 .rw[g] at c;clear g;go_wp2;go_ret;exact⟨by rw[c.out];simp,f⟩
 .rw[g] at c;clear g;cases q
  .go_wp2;go_ret;exact⟨by rw[c.out];simp,f⟩
  .go_wp2;refine(pT b m.out j).mono ?_;rintro e o ⟨rfl,rfl⟩;cases k:acC b<;>rw[k] at c<;>clear k
   .go_wp2;go_ret;exact⟨by rw[c.out];simp,f⟩
   .go_wp2;go_ret;exact⟨by rw[c.out];simp,f⟩
end
section
variable {β:Bool}
open Go.RowKit
def aiP{s t:ByteArray}(h:s=t):(s.toList ==t.toList)=true:=by subst h;exact sg _
def am7(xs f:List ByteArray)(L O:Value)(w:World)(lo hi H I:Nat)(C:cH w lo hi xs [L])(J:cH w H I f [O])(D:hi<=w.heap.size)(E:I<=w.heap.size)(q:Bool)(j:q=true↔xs=f) :
  Calls (ai β) 114 #[L,O] w λe R=>e=.returned (.bool q)/\Below w.heap.size w R:=by
 have z:=ab j;clear j;obtain⟨A,c,rfl⟩:=C.form;obtain⟨B,d,rfl⟩:=J.form;obtain⟨_,hc,Y⟩:=C.len_;unfold maxLen at Y;go_enter yH,ntmps114;by_cases a:xs.length=f.length
 .have W:((xs.length:Int) !=f.length)=false:=by rw[bne_eq_false_iff_eq];omega
  replace a:=ab a;go_wp2;go_loopw [13] (λi wr=>∃k:Nat,k<=xs.length/\i=.int .i64 k/\xs.take k=f.take k/\Below w.heap.size w wr) (λi _=>xs.length-(intOf i).toNat)
  case atStart=>exact⟨0,fa _,rfl,rfl,fm _ _⟩
  case round=>
   obtain⟨k,hk,rfl,g,b⟩:=hrel;have P:=ab g;clear g;by_cases u:k<xs.length
   .obtain⟨x,r⟩:=ak u;obtain⟨y,o⟩:=ak (l:=f) (k:=k) (by have:=a.out;omega);obtain⟨Z,X,rfl,_,_,T,M⟩:=iV (cH.az.below C b D) r;obtain⟨b2,mV,rfl,_,_,U,N⟩:=iV (cH.az.below J b E) o;have V:(k:Int)<(f.length:Int):=by have:=a.out;omega
    replace r:=ab r;replace o:=ab o;by_cases g:x=y
    .have Q:=aiP g;have v:xs.take (k+1)=f.take (k+1):=by rw[mp r.out,mp o.out,P.out,g]
     replace v:=ab v;clear g;go_wp2;have F:=ag M;have G:=ag N;refine aB (by kernel_rfl) (by kernel_rfl) ?_;repeat(go_big_quiet_step (fail))
     refine gE ?_;intro S n;have j:=aN n;clear n F G;go_wp2;go_roundw
     case rel=>exact⟨k+1,by omega,by go_num,v.out,ae b j⟩
     simp[intOf];omega
    .have Q:=aa7 (s:=y) (t:=x) g;have p:q=false:=by
      rw[<-gc,z.out];rintro rfl;exact g (ef (r.out.symm.trans o.out))
     have m:=ab p;clear p g;go_wp2;have F:=ag M;have G:=ag N;refine aB (by kernel_rfl) (by kernel_rfl) ?_;repeat(go_big_quiet_step (fail))
     refine gE ?_;intro S n;have j:=aN n;clear n F G;go_wp2;go_ret;exact⟨av m.out.symm,ae b j⟩
   .obtain rfl:k=xs.length:=by omega
    have K:q=true:=by
     rw[z.out];have:=P.out
     rwa [ga,qj (by have:=a.out;omega)] at this
    have m:=ab K;clear K;go_wp2;go_ret;exact⟨av m.out.symm,b⟩
 .have W:((xs.length:Int) !=f.length)=true:=by rw[uI];omega
  have p:q=false:=by
   rw[<-gc,z.out];rintro rfl;exact a rfl
  have m:=ab p;clear p;replace a:=ab a;go_wp2;go_ret;exact⟨av m.out.symm,fm _ _⟩
end
section
variable {β:Bool}
open Go.RowKit
def avY(p s:ByteArray):(bs p).isPrefixOf (bs s)=true↔p.size<=s.size/\s.extract 0 p.size=p:=by
 rw[List.isPrefixOf_iff_prefix,List.prefix_iff_eq_take,aM];constructor
 .intro h;have a:=gn List.length h;rw[ff,aM,aM] at a;exact⟨by omega,jm (by rw[cI,rc];exact h.symm)⟩
 .rintro⟨-,h⟩;have:=gn bs h;rw[cI,rc] at this;exact this.symm
def aiQ(s p:ByteArray)(m:s.size<=100)(l:p.size<=100)(w:World)(q:Bool)(g:q=(bs p).isPrefixOf (bs s)) :
  Calls (ai β) 177 #[.string s,.string p] w λe k=>e=.returned (.bool q)/\w=k:=by
 have c:q=true↔p.size<=s.size/\s.extract 0 p.size=p:=by rw[g,avY]
 replace c:=ab c;clear g;by_cases f:p.size<=s.size
 .have j:decide (p.size<=s.size)=true:=de f;by_cases b:s.extract 0 p.size=p
  .have i:=aiP b;have a:q=true:=c.out.2 ⟨f,b⟩;have d:=ab a;clear a b;go_enter wM,ntmps177;go_wp2;go_ret;exact⟨by rw[d.out];rfl,rfl⟩
  .have i:=aa7 (s:=p) (t:=s.extract 0 p.size) b;have a:q=false:=by
    rw[<-gc,c.out];exact λh=>b h.2
   have d:=ab a;clear a b;go_enter wM,ntmps177;go_wp2;go_ret;exact⟨by rw[d.out];rfl,rfl⟩
 .have j:decide (p.size<=s.size)=false:=da f;have a:q=false:=by
   rw[<-gc,c.out];exact λh=>f h.1
  have d:=ab a;clear a;go_enter wM,ntmps177;go_wp2;go_ret;exact⟨by rw[d.out];rfl,rfl⟩
def akD(s p:ByteArray)(d:s.size<=100)(b:p.size<=100)(w:World)(q:Bool)(a:q=(bs p).isPrefixOf (bs s)) :
  Calls (ai β) 119 #[.string s,.string p] w λe c=>e=.returned (.bool q)/\w=c:=by
 replace a:=ab a;go_enter yD,ntmps119;go_wp2;refine(aiQ s p d b w q a.out).mono ?_;rintro e f ⟨rfl,rfl⟩;go_wp2;go_ret;exact⟨rfl,rfl⟩
def aBz:bs ⟨#[47]⟩=[47]:=rfl
def aqh(y f:Nd)(n:y.p.size<=3)(l:f.p.size<=3)(g:Nat)(w:World)(i:w.cell? ⟨g,0,none⟩=some (.string f.p)) :
  Calls (ai β) 118 #[.agg #[.string y.p,.string y.b],.pointer (some ⟨g,0,none⟩)] w λe j=>e=.returned (.bool (aaz y.p f.p))/\Below w.heap.size w j:=by
 have d:=aC w (.cells #[.string y.p,.string y.b] 122);have k:(w.alloc (.cells #[.string y.p,.string y.b] 122)).cell? ⟨g,0,none⟩=some (.string f.p):=(qy (d.block g (gO i))).trans i;have a:(y.p++⟨#[47]⟩:ByteArray).size<=100:=by
  rw[<-aM,gG,ap,aM,aBz,oE];omega
 have c:aaz y.p f.p=(bs (y.p++⟨#[47]⟩)).isPrefixOf (bs f.p):=by rw[gG,aBz];unfold aaz;exact Eq.refl _
 replace c:=ab c;replace a:=ab a;go_enter xi,ntmps118;go_wp2;have b:f.p.size<=100:=by omega
 have HC:=akD (β:=β) f.p (y.p++⟨#[47]⟩) b a.out (w.alloc (.cells #[.string y.p,.string y.b] 122)) (aaz y.p f.p) c.out;refine HC.mono ?_;rintro e m ⟨rfl,rfl⟩;go_wp2;go_ret;exact⟨rfl,d⟩
def avZ:auX (β:=β) 118:=ayl xi (by kernel_rfl) rfl
def aiR(f:Nd)(H:f.p.size<=3)(xs:List Nd)(n:Nat)(P:n<=xs.length)(z:∀y∈xs.take n,y.p.size<=3)(A:Option Addr)(c g:Nat)(w:World)(lo hi:Nat)(h:fG w lo hi xs [.slice A xs.length c])(J:hi<=w.heap.size)(C:w.cell? ⟨g,0,none⟩=some (.string f.p)) :
  Calls (ai β) 176 #[.slice A n c,.func (.func 118) #[] #[.pointer (some ⟨g,0,none⟩)]] w λe B=>∃j:Int,e=.returned (.int .i64 j)/\((0<=j/\∃k y,k<n/\xs[k]?=some y/\aaz y.p f.p=true)\/(j=-1/\∀k y,k<n->xs[k]?=some y->aaz y.p f.p=false))/\Below w.heap.size w B:=by
 obtain⟨_,N,K⟩:=h.1.len_;unfold maxLen at K;have t:=gO C;replace z:=ab z;go_enter yg,ntmps176;go_wp2;go_loopw [8] (λi wr=>∃k:Nat,k<=n/\i=.int .i64 k/\(∀j y,j<k->xs[j]?=some y->aaz y.p f.p=false)/\Below w.heap.size w wr) (λi _=>n-(intOf i).toNat)
 case atStart=>exact⟨0,fa _,rfl,λj y E=>absurd E (sI j),fm _ _⟩
 case round=>
  obtain⟨k,M,rfl,d,q⟩:=hrel;replace d:=ab d;have v:wr.cell? ⟨g,0,none⟩=some (.string f.p):=(qy (q.block g t)).trans C;by_cases p:k<n
  .obtain⟨x,o⟩:=ak (l:=xs) (k:=k) (by omega);obtain⟨b,I,rfl,_,_,F,G,L⟩:=lA (fG.az.below h q J) o;have r:x.p.size<=3:=z.out x (by
    have:(xs.take n)[k]?=some x:=by rw[rj,dj p];exact o
    exact aE this)
   replace o:=ab o;have O:=avZ (β:=β) (#[.agg #[.string x.p,.string x.b]]++#[.pointer (some ⟨g,0,none⟩)]) wr;go_wp2;refine(aqh x f r H g wr v).mono ?_;rintro e B ⟨rfl,m⟩;replace m:=ae q m;cases a:aaz x.p f.p
   .have s:∀j y,j<k+1->xs[j]?=some y->aaz y.p f.p=false:=λj y E u=>by
     rcases pm j k with D|D
     .exact d.out j y D u
     .obtain rfl:j=k:=by omega
      rw[o.out] at u;cases u;exact a
    replace s:=ab s;clear a;go_wp2;go_roundw
    case rel=>exact⟨k+1,by omega,by go_num,s.out,m⟩
    simp[intOf];omega
   .replace a:=ab a;go_wp2;go_ret;exact⟨k,rfl,.inl ⟨by omega,k,x,p,o.out,a.out⟩,m⟩
  .obtain rfl:k=n:=by omega
   go_wp2;go_ret;exact⟨-1,rfl,.inr ⟨rfl,d.out⟩,q⟩
def oH(f:Nd)(l:f.p.size<=3)(xs:List Nd)(n:Nat)(r:n<=xs.length)(b:∀y∈xs.take n,y.p.size<=3)(A:Option Addr)(c g:Nat)(w:World)(lo hi:Nat)(h:fG w lo hi xs [.slice A xs.length c])(o:hi<=w.heap.size)(p:w.cell? ⟨g,0,none⟩=some (.string f.p)) :
  Calls (ai β) 117 #[.slice A n c,.func (.func 118) #[] #[.pointer (some ⟨g,0,none⟩)]] w λe m=>∃q:Bool,e=.returned (.bool q)/\((q=true/\∃k y,k<n/\xs[k]?=some y/\aaz y.p f.p=true)\/(q=false/\∀k y,k<n->xs[k]?=some y->aaz y.p f.p=false))/\Below w.heap.size w m:=by
 replace b:=ab b;go_enter yE,ntmps117;go_wp2;refine(aiR f l xs n r b.out A c g w lo hi h o p).mono ?_;rintro e t ⟨j,rfl,s,i⟩;rcases s with⟨d,a⟩|⟨rfl,a⟩
 .have u:decide (0<=j)=true:=de d;replace a:=ab a;clear d;go_wp2;go_ret;exact⟨true,rfl,.inl ⟨rfl,a.out⟩,i⟩
 .replace a:=ab a;go_wp2;go_ret;exact⟨false,rfl,.inr ⟨rfl,a.out⟩,i⟩
end
section
variable {β:Bool}
open Go.RowKit
def eZ(l:List ByteArray):List UInt8:=l.flatMap λs=>s.data.toList
def ahs(l:List ByteArray):(eZ l).map UInt8.toNat=dc l:=by
 unfold eZ dc;rw[List.map_flatMap];rfl
def lI(l:List ByteArray):∀b∈dc l,b<256:=λb a=>by
 obtain⟨s,_,a⟩:=ph.1 a;exact arD b a
def aqi(l:List ByteArray):(⟨(eZ l).toArray⟩:ByteArray)=qU (dc l):=jm (by
 rw[afd (lI l),<-ahs];rfl)
def abq{l:List ByteArray}{x:ByteArray}(h:l[k]?=some x):eZ (l.take (k+1))=eZ (l.take k)++x.data.toList:=by
 rw[mp h];unfold eZ;rw[qC];simp
def adi:∀{l:List ByteArray},(∀s∈l,s.size<=8)->(eZ l).length<=8*l.length
 |[],_=>fa _
 |x::l,h=>by
  have b:=adi (l:=l) λs a=>h s (by simp[a]);have d:=h x (by simp);show(x.data.toList++eZ l).length<=_;have c:x.data.toList.length=x.size:=by rw[qX];rfl
  rw[ap,fi];omega
def dT{s:ByteArray}(h:aR (bs s)):1<=s.size/\s.size<=8:=by have:=h.1;rw[aM] at this;exact this
def as5(x:ByteArray):x.data.toList.length=x.size:=by rw[qX];rfl
def axu(x:ByteArray)(l:List UInt8):Lib.byteCells l++Lib.strCells x=Lib.byteCells (l++x.data.toList):=by
 simp[Lib.byteCells,Lib.strCells]
def azg(l:List ByteArray)(B:∀s∈l,aR (bs s))(hl:l.length<=2147483647)(v:Value)(w:World)(lo hi:Nat)(h:cH w lo hi l [v])(X:hi<=w.heap.size) :
  Calls (ai β) 112 #[v,.string ⟨#[]⟩] w λe w'=>e=.returned (.string (qU (dc l)))/\Below w.heap.size w w':=by
 obtain⟨A,c,rfl⟩:=h.form;obtain⟨_,hc,M⟩:=h.len_;unfold maxLen at M;replace B:=ab B;rcases pm l.length 2 with I|oM
 .rcases nf l.length with N|N
  .obtain rfl:=pu.1 N;go_enter wR,ntmps112;go_wp2;exact oR (v:=.string ⟨#[]⟩) (by simp[results,results112,go_sem]) rfl ⟨rfl,fm _ _⟩
  .obtain⟨x,rfl⟩:=tC.1 (show l.length=1 by omega);obtain⟨b,p,rfl,_,_,G,H⟩:=iV h (k:=0) rfl;rw[rO] at H;have Q:qU (dc [x])=x:=by show qU (bs x++[])=x;rw[sM,aw1]
   replace Q:=ab Q;go_enter wR,ntmps112;go_wp2;exact oR (v:=.string x) (by simp[results,results112,go_sem]) rfl ⟨by rw[Q.out],fm _ _⟩
 .have t0:((l.length:Int) ==0)=false:=du.2 (by omega);have t1:((l.length:Int) ==1)=false:=du.2 (by omega);go_enter wR,ntmps112;go_wp2
  go_loop [5,41] (λnn E=>∃k:Nat,k<=l.length/\E=.int .i64 k/\nn=.int .i64 (eZ (l.take k)).length/\(eZ (l.take k)).length<=8*k) (λ_ E=>l.length-(intOf E).toNat)
  case atStart=>exact⟨0,fa _,rfl,rfl,fa _⟩
  case round=>
   obtain⟨k,hk,rfl,rfl,D⟩:=hrel;by_cases I:k<l.length
   .obtain⟨x,O⟩:=ak I;obtain⟨b,p,rfl,_,_,G,H⟩:=iV h O;have S:=(dT (B.out x (aE O))).2;have d:(eZ (l.take (k+1))).length=(eZ (l.take k)).length+x.size:=by rw[abq O,ap,as5]
    have HST:=ab d;clear d O;obtain⟨n,F⟩:∃n,n=(eZ (l.take k)).length:=⟨_,rfl⟩;rw[<-F] at D HST ⊢;clear F;have t3:=da (show ¬(9223372036854775807-(n:Int)<(x.size:Int)) by omega);go_wp2
    go_round
    case rel=>exact⟨k+1,by omega,by go_num,by rw[HST.out];go_num,by rw[HST.out];omega⟩
    simp[intOf];omega
   .obtain rfl:k=l.length:=by omega
    rw[ga] at D ⊢;obtain⟨n,F⟩:∃n,n=(eZ l).length:=⟨_,rfl⟩;rw[<-F] at D ⊢;have HN:=ab F;clear F;go_wp2;generalize z:w.alloc (.cells #[.pointer none,.slice none 0 0] 227)=w0;have V:w0.heap[w.heap.size]?=some (.cells #[.pointer none,.slice none 0 0] 227 (0,0)):=by
     rw[<-z];show(w.heap.push _)[w.heap.size]?=_;rw[qS]
    have C:Below w.heap.size w w0:=by rw[<-z];exact(fm _ w).alloc (am _) _
    refine(aom w.heap.size w.heap.size n w0 (am _) V C.size (by omega)).mono ?_;rintro e w2 ⟨rfl,f,g⟩;replace g:=C.trans g;clear C V z;obtain⟨x,a⟩:=ak (l:=l) (k:=0) (by omega);obtain⟨b,p,rfl,_,_,G,H⟩:=iV (cH.az.below h g X) a;rw[rO] at H;have S:=(dT (B.out x (aE a))).2;have d:x.data.toList=eZ (l.take 1):=by rw[abq (k:=0) a];simp[eZ]
    have K:1<=x.size:=(dT (B.out x (aE a))).1;have T:=ab K;have r:x=l.headD ⟨#[]⟩:=by
     cases l with
     |nil=>simp at a
     |cons y m=>simp at a;rw[a];rfl
    replace r:=ab r;have HST:=ab d;clear d a K;go_wp2;refine(pO w.heap.size w.heap.size [] x w2 (.inr (.of f)) (by show 0+x.size<=_;omega) g.size).mono ?_;rintro e w3 ⟨rfl,t,q⟩;replace q:=g.trans q;have e3:([]:List Value)++Lib.strCells x=Lib.byteCells (eZ (l.take 1)):=by
     have:=axu x [];rw[ry,HST.out] at this;exact this
    rw[e3] at t;clear g f e3 H HST;go_wp2;have R:l.length-1+1=l.length:=by omega
    go_loopw [65] (λE wr=>∃k:Nat,k+1<=l.length/\E=.int .i64 k/\Lib.IsBuilderF 227 5 w.heap.size w.heap.size (Lib.byteCells (eZ (l.take (k+1)))) wr/\Below w.heap.size w wr) (λE _=>l.length-(intOf E).toNat)
    case atStart=>exact⟨0,by omega,rfl,.inr t,q⟩
    case round=>
     clear t q;obtain⟨k,hk,rfl,f,j⟩:=hrel;have W:(Lib.byteCells (eZ (l.take (k+1)))).length<=8*l.length:=by
      rw[rK];refine db (adi λs hs=>(dT (B.out s (oS hs))).2) ?_;rw[ff];omega
     by_cases a3:k<l.length-1
     .obtain⟨y,L⟩:=ak (l:=l) (k:=k+1) (by omega);obtain⟨b1,a1,U,_,_,a2,d0⟩:=iV (cH.az.below h j X) L;simp only[jt,qd,qh] at U;obtain⟨rfl,rfl⟩:=U;rw[show p+(k+1)=p+1+k by omega] at d0;have a0:=(dT (B.out y (aE L))).2;have d:=abq L;have HST:=ab d;clear d L;go_wp2;refine(pO w.heap.size w.heap.size _ ⟨#[]⟩ wr f (by show _+0<=_;omega) j.size).mono ?_;rintro e w4 ⟨rfl,u,o⟩;replace o:=j.trans o;have Y:Lib.byteCells (eZ (l.take (k+1)))++Lib.strCells ⟨#[]⟩=Lib.byteCells (eZ (l.take (k+1))):=sM _;rw[Y] at u;clear f j Y;go_wp2;refine(pO w.heap.size w.heap.size _ y w4 (.inr u) (by omega) o.size).mono ?_;rintro e w5 ⟨rfl,J,i⟩;replace i:=o.trans i;rw[axu,<-HST.out] at J;clear u o;go_wp2;go_roundw
      case rel=>exact⟨k+1,by omega,by go_num,.inr J,i⟩
      simp[intOf];omega
     .obtain rfl:k=l.length-1:=by omega
      rw[R,ga] at f;have P:eZ l≠[]:=by
       intro N;have M:x.data.toList <+: eZ l:=by
        obtain⟨y,m,rfl⟩:∃y m,l=y::m:=by
         cases l with
         |nil=>simp at oM
         |cons y m=>exact⟨y,m,rfl⟩
        have e:=r.out;show x.data.toList <+: _;have e:x=y:=e;rw[e];exact⟨eZ m,by simp[eZ]⟩
       rw[N] at M;have:=List.prefix_nil.1 M;have Z:=as5 x;rw[this] at Z;have:=T.out;simp at Z;omega
      have HJ:=ab (aqi l);go_wp2;refine(ac9 w.heap.size w.heap.size (eZ l) wr f P).mono ?_;rintro e w5 ⟨rfl, -,i⟩;go_wp2;exact oR (v:=.string ⟨(eZ l).toArray⟩) (by simp[results,results112,go_sem]) rfl ⟨by rw[HJ.out],j.trans i⟩
end
section
variable {β:Bool}
open Go.RowKit
def adj:Op->Bool
 |.move .. | .assign .. | .load .. | .slice .. | .buildSlice .. | .store .. =>true
 |.call c=>match c.callee with
  |.builtin .append=>true
  |_=>false
 |_=>false
def as6{P:Program}(h:adj o.op=true){ρ:Operand->Value}{i:Next}(d:(execOp ρ o).run P w=.ok i w'):(∃v,i=.value v)\/i=.skip:=by
 obtain⟨dst,op,j,k,after,g⟩:=o;cases op<;>simp only[adj,jp] at h
 case call c=>
  obtain⟨a,args,e⟩:=c;cases a with
  |value x=>cases h
  |invoke x n=>cases h
  |builtin b=>
   cases b<;>first
    |(exfalso;cases h;done)
    |(revert d
      simp only[execOp,resolve,invoke,builtin,tG,tT,uh];generalize (Sem.run P (Builtin.append_ _ _ _) w:Result _)=r;cases r with
      |ok v f=>simp only[Result.andThen];intro d;cases d;exact .inl ⟨_,rfl⟩
      |halt x f=>simp[Result.andThen])
 all_goals
  revert d;simp only[execOp,tG,tT]
 all_goals
  first
   |(intro d;cases d;exact .inl ⟨_,rfl⟩)
   |(generalize (Sem.run P _ w:Result _)=r
     cases r with
     |ok v f=>simp only[Result.andThen];intro d;cases d;first|exact .inl ⟨_,rfl⟩|exact .inr rfl
     |halt x f=>simp[Result.andThen])
section
variable {F:Fence} {m:Nat} {P:Program} {Q:Exit->Act->World->Prop} {md:Region.Mode} {ops:Array Oper}
def av0{r:Result Next}(e:∀b c,r=.ok b c->(∃v,b=.value v)\/b=.skip)(d:∀a w,U a w->S a w)(h:o.upon P a U Q r):o.uponIn F m P a S Q r:=by
 cases r with
 |ok b c=>
  rcases e b c rfl with⟨v,rfl⟩|rfl
  .exact d _ _ h
  .exact d _ _ h
 |halt x c=>cases x<;>first|exact h|exact h.elim
def av1(k:∀f,F.fn f)(p:∀o∈ops,adj o.op=true)(n:¬LetsOut Q){i:Nat}(j:∀a w,U a w->S a w)(h:wpOp P ops Q i U a w):wpOpIn F m P ops Q i S a w:=by
 unfold wpOp at h;unfold wpOpIn;cases e:ops[i]? with
 |none=>rw[e] at h;exact j _ _ h
 |some o=>
  rw[e] at h;have b:=p o (qB e);dsimp only at h ⊢;split
  .rename_i d;rw[dj d] at h;rcases h with h|h
   .refine⟨λf _=>k f, ?_⟩;rw[Oper.semAt_plain F _ _ (by intro c g;rw[g] at b;cases b)];exact av0 (λr q l=>as6 b l) j h
   .exact absurd h.2 n
  .rename_i d;rw[bv d] at h;exact⟨λf _=>k f,j _ _ h⟩
def akE(e:∀f,F.fn f)(d:∀o∈ops,adj o.op=true)(c:¬LetsOut Q):∀(k:Nat) (b:Array Bool) (a:Act) (w:World),wpAny P md ops Q k b a w->wpAnyIn F m P md ops Q k b a w
 |0,_,_,_,h=>h
 |k+1,b,a,w,h=>⟨h.1,λi g=>av1 e d c (λa w h=>akE e d c k _ a w h) (h.2 i g)⟩
end
section
variable {F:Fence} {m:Nat} {P:Program} {Q:Exit->Act->World->Prop} {X:Type} [Nonempty X] [bh X]
def akF (A:∀f,F.fn f) {l:List Oper} (g:(l.all λo=>adj o.op)=true) (s:¬LetsOut Q)  (to:X->World) (le:X->X->Prop) (j:∀x,le x x) (n:Nat) (d k:List Nat) (v:P.follows .mixedOrders=true) (z:ajz l n d k=true) (p:afh l.toArray n a.tmps.size=true)
  (b:X) (c:∀m,m<=n->bh.live m b) (e:∀i,i<n->bh.pend i b) (t:to b=w.drew)
  (h:wpQuiet P l.toArray (λr=>∃x,r=to x) (λy=>∃u,cN P l.toArray to le (wpList P l.toArray Q (l.drop n)) (pick l k) [] u y) ((pick l d).map (·.2)) a):(Code.region W l.toArray true).wpIn F m P Q a w:=
 wpIn_region_any v (akE A (λo q=>lc.1 g o (by simpa using q)) s _ _ _ _ (ajA to le j n d k z p b c e t h))
def agy (r:∀f,F.fn f) {l:List Oper} (c:(l.all λo=>adj o.op)=true) (i:¬LetsOut Q)  (n:Nat) (b d:List Nat) (k:P.follows .mixedOrders=true) (q:ajz l n b d=true) (e:afh l.toArray n a.tmps.size=true)
  (h:wpQuiet P l.toArray (λg=>∃x:gh w,g=x.to) (λp=>∃j:List (iR (gh w)),cN P l.toArray (gh.to (w:=w)) (gh.le (w:=w)) (wpList P l.toArray Q (l.drop n)) (pick l d) [] j p) ((pick l b).map (·.2)) a):(Code.region W l.toArray true).wpIn F m P Q a w:=
 akF r c i (gh.to (w:=w)) (gh.le (w:=w)) gh.le_refl n b d k q e ⟨w.drew,⟨rfl,rfl,rfl,am _,λ_ _=>rfl⟩⟩ (λ_ _=>trivial) (λ_ _=>trivial) rfl h
end
end
section
variable {β:Bool}
open Go.RowKit Go.Shelf
attribute [local go_sem] Oper.semAt_some
def Prs(l:List Nat):Nat->List (Nat×Nat)->Nat->Prop
 |a,[],b=>a=b
 |a,x::xs,b=>a<l.length/\x=(a,oW l a)/\Prs l (oW l a) xs b
def Prs.snoc{l:List Nat}:∀{a:Nat} {c:List (Nat×Nat)} {b:Nat},Prs l a c b->b<l.length->Prs l a (c++[(b,oW l b)]) (oW l b)
 |a,[],b,h,h1=>by
  have h:a=b:=h;subst h;exact⟨h1,rfl,rfl⟩
 |a,x::c,b,⟨h2,h3,h4⟩,h1=>⟨h2,h3,h4.snoc h1⟩
def Prs.len{l:List Nat}:∀{a:Nat} {c:List (Nat×Nat)} {b:Nat},Prs l a c b->a+c.length<=b
 |a,[],b,h=>by
  have h:a=b:=h;simp;omega
 |a,x::c,b,⟨h1,_,h⟩=>by
  have:=h.len;have:=(eH h1).1;simp only[fi];omega
def Prs.ends{l:List Nat}:∀{a:Nat} {c:List (Nat×Nat)} {b:Nat},Prs l a c b->dA l a (c.map λx=>(x.2:Int)) b
 |a,[],b,h=>h
 |a,x::c,b,⟨h1,e,h⟩=>⟨h1,by rw[e],h.ends⟩
def dV(s:ByteArray)(xs:List (Nat×Nat)):List ByteArray:=xs.map λx=>s.extract x.1 x.2
def Prs.pieces{s:ByteArray}{l:List Nat}:∀{a:Nat} {c:List (Nat×Nat)} {b:Nat},Prs l a c b->dV s c=bY s a (c.map λx=>(x.2:Int))
 |a,[],b,h=>rfl
 |a,x::c,b,⟨h1,e,h⟩=>by
  show s.extract x.1 x.2::dV s c=s.extract a (x.2:Int).toNat::bY s (x.2:Int).toNat _;rw[e,sT,h.pieces]
def Prs.cut{s:ByteArray}{xs:List (Nat×Nat)}(h:Prs (bs s) 0 xs s.size):dV s xs=fY s:=by
 rw[h.pieces,aob h.ends]
def wF(h:Below w.heap.size w w'):w.grownBy w' none:=⟨h.os,h.tape,h.output,h.size,λk a _=>h.block k a⟩
def aqj {W : World} {t e:TypeId} {v' : Value} {m : Nat} {xs : List Value}
  (z:Boxed W B t v) (n:t≠e) (d:W.ownsRow c e g v k xs) (u:n₀<=W.heap.size) (y:n₀<=c) (D:n₀<=B)
  (b:w.ownsRow c e g v' m cs) (a:W.grownBy w v.ownBlock) :
  Boxed w B t v/\Boxed (w.setCell ⟨B,0,none⟩ v') B t v'/\(w.setCell ⟨B,0,none⟩ v').ownsRow c e g v' m cs/\KeepsOthers W (w.setCell ⟨B,0,none⟩ v')/\Below n₀ W (w.setCell ⟨B,0,none⟩ v')/\(∀k,k<c->k<W.heap.size->k≠B->(w.setCell ⟨B,0,none⟩ v').heap[k]?=W.heap[k]?):=by
 have i:Boxed w B t v:=z.kept a (z.not_row n d);have l:∀j,v.ownBlock=some j->c<=j:=λj f=>by
  rcases d.2 with⟨rfl,_⟩|⟨g,cap,s,rfl,C,_,_⟩
  .simp[Value.ownBlock] at f
  .obtain rfl:g=j:=by simpa[Value.ownBlock] using f
   exact C
 refine⟨i,i.set v',b.kept (grownBy_setCell' w B v') (.inr (i.not_row n b).symm), ?_, ?_, ?_⟩
 .refine(vL a λj o f A=> ?_).trans (KeepsOthers.setCell _ _ _);rcases d.2 with⟨rfl,_⟩|⟨g,cap,s,rfl,_,x,_⟩
  .simp[Value.ownBlock] at f
  .obtain rfl:g=j:=by simpa[Value.ownBlock] using f
   rw[x] at A;cases A;rfl
 .exact((fm n₀ W).grown a u λj f=>db y (l j f)).setCell (p:=⟨B,0,none⟩) D v'
 .intro k E r q;exact(qw _ _ _ k q).trans (a.block k r λf=>by have:=l k f.symm;omega)
def aqk(h:bV (λb=>v.ownBlock=some b) w w'):w.grownBy w' v.ownBlock:=⟨h.os,h.tape,h.output,h.size,λk c a=>h.block k c λe=>a e.symm⟩
structure PrC (n:Nat) where
 p:Nat×Nat
 le:p.1<=p.2/\p.2<=n
abbrev azi{n:Nat}(x:PrC n):Array Value:=#[.int .i64 x.p.1,.int .i64 x.p.2]
abbrev mO{n:Nat}(xs:List (PrC n)):List (Nat×Nat):=xs.map PrC.p
def as8 (n:Nat) (hn:2<=n) (l o n₀:Nat) (s:ByteArray) (V:s.size<=1000000) (J L:List (PrC s.size)->World->Prop) (W:World) (U:AbidesFrom W.heap.size J)
  (Q:∀b x W,J b W->b.length<s.size->YieldAt Fence.wide (n-1) (ai β) l (azi x) W λe W'=>
   (e=.returned (.bool true)/\J (b++[x]) W'/\KpB n₀ o W W')\/(e=.returned (.bool false)/\L (b++[x]) W'))
  (t:Boxed W o 9 (.string s)) (T:n₀<=W.heap.size) (O:J [] W) :
  CallsIn Fence.wide n (ai β) 200 #[.func (.yield l) #[] #[],.pointer (some ⟨o,0,none⟩)] W λe W'=>(∃v,e=.returned v)/\
   ((∃N,Prs (bs s) 0 (mO N) s.size/\J N W')\/(∃b,(∃m,Prs (bs s) 0 (mO b) m)/\L b W')):=by
 refine callsIn_of_wp xf rfl trivial ?_ rfl;simp only[ntmps200,uj,fi,lP,Nat.reduceAdd,Nat.reduceSub,uN,uM,vf,uQ,ry,qR];have Z:=t.lt;have S:Fence.wide.fn 201:=trivial;have Y:1<=n:=by omega
 gi_wp2
 gi_loopw [3] (λi wr=>∃(k:Nat) (f:List (PrC s.size)),k<=s.size/\i=.int .i64 k/\Prs (bs s) 0 (mO f) k/\J f wr/\KpB n₀ o W wr/\W.heap.size<=wr.heap.size) (λi _=>s.size-(intOf i).toNat)
 case atStart=>exact⟨0,[],fa _,rfl,rfl,O,KpB.refl,am _⟩
 case round=>
  obtain⟨k,f,hk,rfl,B,j,D,R⟩:=hrel;have q:Boxed wr o 9 (.string s):=D.2.trans t;have E:=q.cell;by_cases g:k<s.size
  .gi_wp2_with (gi_at_call 201;refine(callsIn_wide.2 (avW s k g V wr)).mono ?_;rintro e y ⟨rfl,z⟩)
   have p:J f y:=U f wr y none j (wF z) (λr e=>by cases e);have C:KpB n₀ o W y:=D.t ⟨z.mono (by omega),z.block o (by omega)⟩;have P:=z.size;have w:=B.snoc (by rw[aM];exact g);have G:=eH (l:=bs s) (a:=k) (by rw[aM];exact g);rw[aM] at G;obtain⟨fn,M,A,K,I,X⟩:=Q f ⟨(k,oW (bs s) k),by show k<=oW (bs s) k/\oW (bs s) k<=s.size;omega⟩ y p (by have:=B.len;rw[pZ] at this;omega);dsimp only[azi] at I;rw[I];have d:Prs (bs s) 0 (mO (f++[⟨(k,oW (bs s) k),by show k<=oW (bs s) k/\oW (bs s) k<=s.size;omega⟩])) (oW (bs s) k):=by
    show Prs (bs s) 0 (List.map PrC.p (f++_)) _;rw[qs];exact w
   replace d:=ab d;clear w p j B I D q E;gi_wp2;refine X.mono ?_;rintro e W3 (⟨rfl,H,u⟩|⟨rfl,F⟩)
   .gi_wp2;go_roundw
    case rel=>exact⟨oW (bs s) k,_,by omega,rfl,d.out,H,C.t u,by have:=u.1.size;omega⟩
    simp[intOf];omega
   .gi_wp2;refine oR (results_none rfl _ _ _) rfl ?_;exact⟨⟨_,rfl⟩,.inr ⟨_,⟨_,d.out⟩,F⟩⟩
  .obtain rfl:k=s.size:=by omega
   gi_wp2
   go_end0
   exact⟨⟨_,rfl⟩,.inl ⟨_,B,j⟩⟩
def am8(n:Nat)(k:2<=n)(a n₀:Nat)(s:ByteArray)(i:s.size<=1000000)(w:World)(c:a<w.heap.size)(b:n₀<=w.heap.size)(p:Boxed w a 9 (.string s)) :
  SeqStopsK Fence.wide n (ai β) 200 #[.pointer (some ⟨a,0,none⟩)] azi (KpB n₀ a) (λo:List (PrC s.size)=>Prs (bs s) 0 (mO o) s.size) (λd=>∃m,Prs (bs s) 0 (mO d) m) s.size w:=λl J j W e f _ q g=>
 as8 n k l a n₀ s i J j W f q ((e.block a c).trans p) (db b e.size) g
def av2(n:Nat)(s:ByteArray)(w:World) :
  CallsIn Fence.wide n (ai β) 173 #[.string s] w λe a=>e=.returned (.func (.func 200) #[] #[.pointer (some ⟨w.heap.size,0,none⟩)])/\a=w.alloc (.cells #[.string s] 9):=by
 refine callsIn_of_wp yi rfl trivial ?_ rfl;simp only[ntmps173,uj,fi,lP,Nat.reduceAdd,Nat.reduceSub,uN,uM,vf,uQ,ry,qR];gi_wp2;go_ret;exact⟨rfl,rfl⟩
def aql(n:Nat)(hn:6<=n)(s:ByteArray)(C:dE s=true)(w:World) :
  CallsIn Fence.wide n (ai β) 115 #[.string s] w λe W'=>∃v,e=.returned v/\aD ib 9 W' w.heap.size v (fY s)/\Below w.heap.size w W':=by
 have h1:1<=n:=by omega
 have ad:Fence.wide.fn 113:=trivial;have aP:Fence.wide.fn 173:=trivial;have af:s.size<=40:=by unfold dE at C;rw[fk] at C;exact sR C.1
 have G:s.size<=maxLen:=by unfold maxLen;omega
 have HS:=ab C;clear C;replace G:=ab G;refine callsIn_of_wp_marks yG rfl trivial ?_ rfl;simp only[ntmps115,uj,fi,lP,Nat.reduceAdd,Nat.reduceSub,uN,uM,vf,uQ,ry,qR]
 gi_wp2_with (first|(gi_at_call 113;refine(callsIn_wide.2 (nj s G.out _)).mono ?_;rintro e w' ⟨rfl,rfl⟩;rw[HS.out])|(gi_at_call 173;refine(av2 (n-1) s _).mono ?_;rintro e w' ⟨rfl,rfl⟩))
 have bS:=((Boxed.new w 9 (.string s)).alloc (.cells #[.slice none 0 0] 117)).alloc (.cells #[.string s] 9);have bO:=(Boxed.new (w.alloc (.cells #[.string s] 9)) 117 (.slice none 0 0)).alloc (.cells #[.string s] 9);have U:=Boxed.new ((w.alloc (.cells #[.string s] 9)).alloc (.cells #[.slice none 0 0] 117)) 9 (.string s);simp only[mw] at bO U;have N:Below w.heap.size w (((w.alloc (.cells #[.string s] 9)).alloc (.cells #[.slice none 0 0] 117)).alloc (.cells #[.string s] 9)):=(((fm _ w).alloc (am _) _).alloc (by simp) _).alloc (by simp;omega) _;have hz:(((w.alloc (.cells #[.string s] 9)).alloc (.cells #[.slice none 0 0] 117)).alloc (.cells #[.string s] 9)).heap.size=w.heap.size+3:=by simp
 obtain⟨W0,L⟩:∃W0,((w.alloc (.cells #[.string s] 9)).alloc (.cells #[.slice none 0 0] 117)).alloc (.cells #[.string s] 9)=W0:=⟨_,rfl⟩;try simp only[mw]
 rw[L] at bS bO U N hz ⊢;clear L;refine wpIn_rangeFunc_ownH rfl h1 (gf:=200) (lb:=#[.pointer (some ⟨w.heap.size+1+1,0,none⟩)]) rfl trivial (enters_of xf (by kernel_rfl) rfl)
  (am8 (n-1) (by omega) (w.heap.size+1+1) w.heap.size s (by omega) W0 (by omega) (by omega) U) KpB.t
  (λW l o o' hl h hc hw=>⟨belowK_b (w:=w) (am _) W l o o' (by omega) h hc hw,World.putObj_heap_other (by omega)⟩) (fm _ _) (λ_=>rfl)
  (λb W=>(((∃v,Boxed W (w.heap.size+1) 117 v/\W.ownsRow W0.heap.size 9 1 v b.length (dL ib (dV s (mO b)))/\True)/\Boxed W w.heap.size 9 (.string s))/\Boxed W (w.heap.size+1+1) 9 (.string s))/\Below w.heap.size w W)
  (λ_ _ _=>False)
  (OwnFrom.and (OwnFrom.and (OwnFrom.and (Own.from (holdsRow_own W0.heap.size (w.heap.size+1) 117 9 1 (λb:List (PrC s.size)=>b.length) (λb=>dL ib (dV s (mO b))) (λ_ _=>True)) _) (Own.from (boxed_own _ _ _) _)) (Own.from (boxed_own _ _ _) _)) (ownFrom_below (am _) (by omega)))
  (λ_ _ _ _ _ C _ _=>C)
  ⟨⟨⟨⟨_,bO,vd _ _ _ _,trivial⟩,bS⟩,U⟩,N⟩
  (λx a' W=>a'={tmps:=#[.string s,.pointer (some ⟨w.heap.size,0,none⟩),.slice none 0 0,.pointer (some ⟨w.heap.size+1,0,none⟩),.int .i64 x.p.1,.int .i64 x.p.2,.string s,.bool true,.bool false,.string s,.func (.func 200) #[] #[.pointer (some ⟨w.heap.size+1+1,0,none⟩)],.int .i64 x.p.1,.int .i64 x.p.2,undef,undef,undef,undef,undef,undef,undef,undef],defers:=[]})
  (λx a' _ X Y al C hg hr=>C)
  ?assign ?body ?done ?stop
 case assign=>
  rintro l b x W K ⟨⟨⟨⟨v,f,d, -⟩,t⟩,u⟩,i⟩ O;gi_wp2;exact O _ _ ((KeepsOthers.refl _).from _) KpB.refl ⟨⟨⟨⟨v,f,d,trivial⟩,t⟩,u⟩,i⟩ rfl
 case body=>
  rintro l b x a' W hl ⟨r,hr⟩ ⟨⟨⟨⟨v,f,d, -⟩,t⟩,u⟩,i⟩ rfl an;obtain⟨⟨B,z⟩,m,q⟩:=x;dsimp only at m q ⊢;have a1:dV s (mO (b++[⟨(B,z),m,q⟩]))=dV s (mO b)++[s.extract B z]:=by simp[dV,mO]
  have cO:W.cell? ⟨w.heap.size+1,0,none⟩=some v:=f.cell;have cS:W.cell? ⟨w.heap.size,0,none⟩=some (.string s):=t.cell;have H:=aer (β:=β);have a0:=i.size;gi_wp2;have aG:=ag cO;have aK:=ag cS;refine agy (λ_=>trivial) (by kernel_rfl) (by rintro⟨a,w,h⟩;exact h) 6 [0,1,2,3,4] [5] H (by kernel_rfl) (by kernel_rfl) ?_;simp only[pick,List.map,mx,mT];repeat(go_big_quiet_step (fail))
  refine gE ?_;clear aG aK;apply Exists.intro;apply dy (alO W.heap.size 9 #[.string (s.extract B z)])
  .rfl
  .exact λv x y h a8=>h.keep a8
  .intro x _ Qx hQ;go_wp2;exact hQ _ _ (aC _ _) (alO.new _ _ _ x.ok.size)
  intro v5;refine cV ?_;intro w2 p xx je hF;dsimp only[iv] at hF;try rw[je] at hF
  clear je xx;obtain⟨⟨g,rfl,hg,a2⟩, -⟩:=hF;simp only[List.drop];have a9:=p.size;have ax:l<W.heap.size:=(dq.1 hr).1;have J:=afg d p;have a5:Boxed w2 (w.heap.size+1) 117 v:=(p.block _ f.lt).trans f;obtain⟨A,c,rfl⟩:=jR d;refine ag0 (F:=ib) (base:=W0.heap.size) (v:=.slice A b.length c) (xs:=dV s (mO b)) rfl (.tmp 13) (.tmp 18) 117 rfl pL (s.extract B z) rfl (by unfold aD;rw[show(dV s (mO b)).length=b.length from by simp[dV,mO]];exact J) rfl a2 rfl (by rw[show(dV s (mO b)).length=b.length from by simp[dV,mO]];omega) (by omega) ?_;intro v3 w3 S lz aa;have ay:(dV s (mO b)++[s.extract B z]).length=(b++[(⟨(B,z),m,q⟩:PrC s.size)]).length:=by simp[dV,mO]
  unfold aD at S;rw[<-a1,show(dV s (mO (b++[⟨(B,z),m,q⟩]))).length=(b++[(⟨(B,z),m,q⟩:PrC s.size)]).length from by simp[dV,mO]] at S;obtain⟨R,Q,P,nG,a6,a4⟩:=aqj (W:=w2) (n₀:=w.heap.size) a5 (by decide) J (by omega) (by omega) (by omega) S (aqk lz);have aQ:=R.cell;have ao:=R.frozen;obtain⟨A3,c3,rfl⟩:=jR S;go_wp2;have a7:KeepsOthers W w2:=vL (wF p) λj o ej _=>by cases ej
  have T:∀k,k<W0.heap.size->k≠w.heap.size+1->(w3.setCell ⟨w.heap.size+1,0,none⟩ (.slice A3 (b++[(⟨(B,z),m,q⟩:PrC s.size)]).length c3)).heap[k]?=W.heap[k]?:=λk hk V=>(a4 k hk (by omega) V).trans (p.block k (by omega));have I:=(p.mono a0).trans a6;simp only[ap,fi,lP,lm] at Q P nG T I;refine⟨(a7.trans nG).from _,⟨I,T _ (by omega) (by omega)⟩,⟨⟨⟨_,Q, ?_,trivial⟩,(T _ (by omega) (by omega)).trans t⟩,(T _ (by omega) (by omega)).trans u⟩,i.trans I⟩;simp only[ap,fi,lP,lm];exact P
 case done=>
  rintro D zs W hD a3 ⟨⟨⟨⟨v,f,d, -⟩,t⟩,u⟩,i⟩ O;have cO:=f.cell;obtain⟨A,c,rfl⟩:=jR d;gi_wp2;refine⟨by simp,.inl ⟨_,_,rfl,run_takeDeferred O, ?_⟩⟩;have Z:=belowK_b (w:=w) (am _) W D _ (.deferred none) (by omega) O rfl rfl;have E:=a3.cut;have M:(fY s).length=zs.length:=by rw[<-E];simp[dV,mO]
  refine⟨_,results_tmp rfl _ _ _,_,rfl, ?_,i.trans Z⟩;have:=ownsRow_putObj d (.deferred none) O rfl;unfold aD;rw[M,<-E];exact ajB this (by omega)
 case stop=>
  rintro D c b W _ _ h _;exact h.elim
def as9(s:ByteArray)(a:dE s=true)(w:World) :
  Calls (ai β) 115 #[.string s] w λe W'=>∃v,e=.returned v/\aD ib 9 W' w.heap.size v (fY s)/\Below w.heap.size w W':=
 callsIn_wide.1 (aql 6 (am _) s a w)
end
section
variable {β:Bool}
open Go.RowKit
def aht{l:List ByteArray}(a:dE (qU (dc l))=true)(b:fY (qU (dc l))=l):fJ l=(qU (dc l),true):=by unfold fJ;rw[dj ⟨a,b⟩]
def af1{l:List ByteArray}(h:¬(dE (qU (dc l))=true/\fY (qU (dc l))=l)):fJ l=(⟨#[]⟩,false):=by unfold fJ;rw[bv h]
def aoF(l:List ByteArray)(b:∀s∈l,aR (bs s)):(qU (dc l)).size<=8*l.length:=by
 rw[<-aM,afd (lI l),<-ahs,pZ];exact adi λs a=>(dT (b s a)).2
def aqm(l:List ByteArray)(o:∀s∈l,aR (bs s))(I:l.length<=2147483647)(v:Value)(w:World)(lo hi:Nat)(h:cH w lo hi l [v])(z:hi<=w.heap.size) :
  Calls (ai β) 68 #[v] w λe C=>e=.returned (.tuple #[.string (fJ l).1,.bool (fJ l).2])/\Below w.heap.size w C:=by
 have n:=aoF l o;have f:(qU (dc l)).size<=maxLen:=by unfold maxLen;omega
 have p:=ab (λG D=>aht (l:=l) G D);have i:=ab (af1 (l:=l));have u:=ab (azg (β:=β) l o I v w lo hi h z);clear o;generalize qU (dc l)=s at p i u n f;generalize fJ l=r at p i ⊢;go_enter zm,ntmps68;go_wp2;refine u.out.mono ?_;rintro e A ⟨rfl,g⟩;go_wp2;refine(nj (β:=β) s f _).mono ?_;rintro e N ⟨rfl,rfl⟩;by_cases a:dE s=true
 .rw[a];go_wp2;refine(as9 (β:=β) s a _).mono ?_;rintro e M ⟨E,rfl,H,k⟩;have m:∀x∈fY s,x.size<=maxLen:=λx j=>by have:=(dT (ju (fM a).2 x j)).2;unfold maxLen;omega
  have B:=afn.sl (aD.deep H m A.heap.size) (am _);have F:=k.size;have y:=g.size;have K:=cH.az.below h (g.trans (k.mono y)) z;obtain⟨q,d⟩:∃q:Bool,q=true↔fY s=l:=by
   by_cases j:fY s=l
   .exact⟨true,by simp[j]⟩
   .exact⟨false,by simp[j]⟩
  replace d:=ab d;go_wp2;refine(am7 (β:=β) (fY s) l E v _ _ _ lo hi B K (am _) (by omega) q d.out).mono ?_;rintro e L ⟨rfl,J⟩;have c:=g.trans ((k.mono y).trans (J.mono (by omega)));cases q with
  |true=>
   have b:=p.out a (d.out.1 rfl);go_wp2;go_ret2;exact⟨by rw[b];rfl,c⟩
  |false=>
   have b:=i.out λt=>by have:=d.out.2 t.2;cases this
   go_wp2;go_ret2;exact⟨by rw[b];rfl,c⟩
 .have b:=i.out λt=>a t.1;rw[vh.2 a];go_wp2;go_ret2;exact⟨by rw[b];rfl,g⟩
end
section
variable {β:Bool}
open Go.RowKit
def atc(t:List Nd)(i:Nat)(x:Nd):Prop:=agn x/\(∀y,0<i->t[i-1]?=some y->Op.bytesLess y.p.toList x.p.toList=true)/\∀k y,k<i->t[k]?=some y->aaz y.p x.p=false
def aet{s:ByteArray}(h:gS s=true):s.size<=3:=by rcases ly h with h|h<;>omega
def atd(xs:List Nd)(v:Value)(w:World)(lo hi:Nat)(h:fG w lo hi xs [v])(U:hi<=w.heap.size)(q:Bool)(p:q=true↔aeZ xs) :
  Calls (ai β) 69 #[v] w λe w'=>e=.returned (.bool q)/\Below w.heap.size w w':=by
 have K:=ab p;clear p;obtain⟨A,c,rfl⟩:=h.form;obtain⟨_,hc,hx⟩:=h.1.len_;unfold maxLen at hx;go_enter zl,ntmps69;go_wp2;go_loopw [7] (λii wr=>∃k:Nat,k<=xs.length/\ii=.int .i64 k/\(∀i x,i<k->xs[i]?=some x->atc xs i x)/\Below w.heap.size w wr) (λii _=>xs.length-(intOf ii).toNat)
 case atStart=>exact⟨0,fa _,rfl,λi x hi=>absurd hi (sI i),fm _ _⟩
 case round=>
  obtain⟨k,hk,rfl,l,hb⟩:=hrel;replace l:=ab l;by_cases C:k<xs.length
  .obtain⟨x,G⟩:=ak C;obtain⟨b0,a5,rfl,_,a4,J,c0,c1⟩:=lA (fG.az.below h hb U) G;replace G:=ab G;go_wp2;have kb:=cg.new wr 122 #[.string x.p,.string x.b];have ba:=aC wr (.cells #[.string x.p,.string x.b] 122);have a3:wr.heap.size+1=(wr.alloc (.cells #[.string x.p,.string x.b] 122)).heap.size:=by simp
   generalize wr.alloc (.cells #[.string x.p,.string x.b] 122)=wf at *;have g:wf.cell? ⟨wr.heap.size,0,none⟩=some (.string x.p):=kb.cell 0;have u:wf.cell? ⟨wr.heap.size,1,none⟩=some (.string x.b):=kb.cell 1;have r:=ae hb ba;clear kb c0 c1;cases a:gS x.p
   .replace a:=ab a;have d:q=false:=by
     rw[<-gc,K.out];rintro⟨-,h⟩;replace h:=h _ _ G.out;have h:=h.1.1;rw[a.out] at h;cases h
    have s:=ab d;clear d;have H:=ag g;have I:=ag u;refine aB (by kernel_rfl) (by kernel_rfl) ?_;repeat(go_big_quiet_step (first|(go_at_call 116;refine bH (v:=.bool false) ?_;rw[<-a.out];exact pU (β:=β) x.p J.1 _)))
    refine gE ?_;intro wq o;have p:=aN o;clear o H I;go_wp2;go_ret;exact⟨av s.out.symm,ae r p⟩
   .replace a:=ab a;cases b:dE x.b
    .replace b:=ab b;have d:q=false:=by
      rw[<-gc,K.out];rintro⟨-,h⟩;replace h:=h _ _ G.out;have h:=h.1.2;rw[b.out] at h;cases h
     have s:=ab d;clear d;have H:=ag g;have I:=ag u;refine aB (by kernel_rfl) (by kernel_rfl) ?_;repeat(go_big_quiet_step (first|(go_at_call 116;refine bH (v:=.bool true) ?_;rw[<-a.out];exact pU (β:=β) x.p J.1 _)|(go_at_call 113;refine dD (v:=.bool false) ?_;rw[<-b.out];exact nj (β:=β) x.b J.2 _)))
     refine gE ?_;intro wq o;have p:=aN o;clear o H I;go_wp2;go_ret;exact⟨av s.out.symm,ae r p⟩
    .replace b:=ab b;by_cases dC:k=0
     .have t1:=da (show ¬(0<k) by omega);have Y:agn x/\∀y,0<k->xs[k-1]?=some y->Op.bytesLess y.p.toList x.p.toList=true:=⟨⟨a.out,b.out⟩,λy h0=>by omega⟩;have Z:=ab Y;clear Y;clear dC;have H:=ag g;have I:=ag u;refine aB (by kernel_rfl) (by kernel_rfl) ?_;repeat(go_big_quiet_step (first|(go_at_call 116;refine bH (v:=.bool true) ?_;rw[<-a.out];exact pU (β:=β) x.p J.1 _)|(go_at_call 113;refine dD (v:=.bool true) ?_;rw[<-b.out];exact nj (β:=β) x.b J.2 _)))
      refine gE ?_;intro wq o;have p:=aN o;clear o H I;have X:∀y∈xs.take k,y.p.size<=3:=λy f=>by
       obtain⟨i,hi⟩:=rb.1 f;rw[rj] at hi;split at hi
       .rename_i Q;exact aet (l.out i y Q hi).1.1
       .cases hi
      have O:=ab X;clear X;have cz:=fL p g;have n:=ae r p;have P:=aet a.out;go_wp2;refine(oH (β:=β) x P xs k hk O.out _ c wr.heap.size _ lo hi (fG.az.below h n U) (db U n.size) cz).mono ?_;rintro e w4 ⟨q4,rfl,N,b4⟩;have t:=ae n b4;rcases N with⟨rfl,j,y,M,f,R⟩|⟨rfl,B⟩
      .have HY:=ab f;replace R:=ab R;clear f;have d:q=false:=by
        rw[<-gc,K.out];rintro⟨-,h⟩;replace h:=h _ _ G.out;have h:=h.2.2 j y M HY.out;rw[R.out] at h;cases h
       have s:=ab d;clear d;go_wp2;go_ret;exact⟨av s.out.symm,t⟩
      .have D:∀i z,i<k+1->xs[i]?=some z->atc xs i z:=λi z hi L=>by
        rcases pm i k with C|oM
        .exact l.out i z C L
        .obtain rfl:i=k:=by omega
         rw[G.out] at L;cases L;exact⟨Z.out.1,Z.out.2,λj y M f=>B j y M f⟩
       have T:=ab D;clear D B;go_wp2;go_roundw
       case rel=>exact⟨k+1,by omega,by go_num,T.out,t⟩
       simp[intOf];omega
     .obtain⟨k',V⟩:∃m,m=k-1:=⟨_,rfl⟩;have e1:(k:Int)-1=((k':Nat):Int):=by omega
      have a1:k'<xs.length:=by omega
      have t1:=de (show 0<k by omega);obtain⟨z,F⟩:=ak a1;obtain⟨b1,a2,e0,_,_,a6,d0,_⟩:=lA (fG.az.below h r U) F;simp only[jt,qd,qh] at e0;obtain⟨rfl,rfl⟩:=e0;replace F:=ab F;have W:=ab V;have a0:0<k:=by omega
      clear V;cases E:Op.bytesLess z.p.toList x.p.toList
      .have S:=ab E;have tr:=mN x.p.toList z.p.toList;rw[E,Bool.not_false] at tr;have d:q=false:=by
        rw[<-gc,K.out];rintro⟨-,h⟩;replace h:=h _ _ G.out;have h:=h.2.1 z a0 (by rw[<-W.out];exact F.out);rw[S.out] at h;cases h
       have s:=ab d;clear d;have H:=ag g;have I:=ag u;have bc:=ag d0;refine aB (by kernel_rfl) (by kernel_rfl) ?_;repeat(go_big_quiet_step (first|(go_at_call 116;refine bH (v:=.bool true) ?_;rw[<-a.out];exact pU (β:=β) x.p J.1 _)|(go_at_call 113;refine dD (v:=.bool true) ?_;rw[<-b.out];exact nj (β:=β) x.b J.2 _)))
       refine gE ?_;intro wq o;have p:=aN o;clear o H I bc;go_wp2;go_ret;exact⟨av s.out.symm,ae r p⟩
      .have S:=ab E;have tr:=mN x.p.toList z.p.toList;rw[E,uY] at tr;have Y:agn x/\∀y,0<k->xs[k-1]?=some y->Op.bytesLess y.p.toList x.p.toList=true:=⟨⟨a.out,b.out⟩,λy h0 f=>by
        rw[<-W.out,F.out] at f;cases f;exact S.out⟩
       have Z:=ab Y;clear Y;have H:=ag g;have I:=ag u;have bc:=ag d0;refine aB (by kernel_rfl) (by kernel_rfl) ?_;repeat(go_big_quiet_step (first|(go_at_call 116;refine bH (v:=.bool true) ?_;rw[<-a.out];exact pU (β:=β) x.p J.1 _)|(go_at_call 113;refine dD (v:=.bool true) ?_;rw[<-b.out];exact nj (β:=β) x.b J.2 _)))
       refine gE ?_;intro wq o;have p:=aN o;clear o H I bc;clear d0 E e1 tr;have X:∀y∈xs.take k,y.p.size<=3:=λy f=>by
        obtain⟨i,hi⟩:=rb.1 f;rw[rj] at hi;split at hi
        .rename_i Q;exact aet (l.out i y Q hi).1.1
        .cases hi
       have O:=ab X;clear X;have cz:=fL p g;have n:=ae r p;have P:=aet a.out;go_wp2;refine(oH (β:=β) x P xs k hk O.out _ c wr.heap.size _ lo hi (fG.az.below h n U) (db U n.size) cz).mono ?_;rintro e w4 ⟨q4,rfl,N,b4⟩;have t:=ae n b4;rcases N with⟨rfl,j,y,M,f,R⟩|⟨rfl,B⟩
       .have HY:=ab f;replace R:=ab R;clear f;have d:q=false:=by
         rw[<-gc,K.out];rintro⟨-,h⟩;replace h:=h _ _ G.out;have h:=h.2.2 j y M HY.out;rw[R.out] at h;cases h
        have s:=ab d;clear d;go_wp2;go_ret;exact⟨av s.out.symm,t⟩
       .have D:∀i z,i<k+1->xs[i]?=some z->atc xs i z:=λi z hi L=>by
         rcases pm i k with C|oM
         .exact l.out i z C L
         .obtain rfl:i=k:=by omega
          rw[G.out] at L;cases L;exact⟨Z.out.1,Z.out.2,λj y M f=>B j y M f⟩
        have T:=ab D;clear D B;go_wp2;go_roundw
        case rel=>exact⟨k+1,by omega,by go_num,T.out,t⟩
        simp[intOf];omega
  .obtain rfl:k=xs.length:=by omega
   by_cases h6:xs.length<=6
   .have t1:=de (show(xs.length:Int)<=6 by omega);have d:q=true:=K.out.2 ⟨h6,λi x hx=>l.out i x (aI hx) hx⟩;have s:=ab d;clear d;go_wp2;go_ret;exact⟨av s.out.symm,hb⟩
   .have t1:=da (show ¬((xs.length:Int)<=6) by omega);have d:q=false:=by
     rw[<-gc,K.out];rintro⟨h, -⟩;exact h6 h
    have s:=ab d;clear d;go_wp2;go_ret;exact⟨av s.out.symm,hb⟩
end
section
variable {β:Bool}
open Go.RowKit
noncomputable def xFA:Func:=by
 apply(λ(x:Func) (_:{f67 with body:=some ki}=x)=>x)
 case x=>dsimp only[ki,aa1,auD,awJ,awK,awL,awM,awN,awO,awP,awQ,awR,awW,az7,awS,awT,awU,awV,ars,art,aru,anQ,ajn,adu,awX,awY,ajl,ajm,iE,aa2,auE,auF,auG,arq,auH,apm,kOp,aa4,aa3,mJ,cU,cT,cj,f67,Option.getD,List.map]
def azj:qFA true=xFA:=by kernel_rfl
def ate:(ai true).funcs[67]?=some xFA:=(acU true).trans (gn some azj)
@[go_sem] theorem aBB(args:Array Value)(w:World):(callFunc 67 args).run (ai true) w=.ok (.enter 67 args) w:=by
 have a:=cL func67;exact lu ate a rfl args w
end
section
variable {β:Bool}
open Go.RowKit
def FFe:Flat (ByteArray×Bool):=⟨2,λx=>[.string x.1,.bool x.2],λx=>x.1.size<=maxLen,λ_=>rfl,λx u a=>by
 simp only[me,rQ,uw] at a;rcases a with rfl|rfl<;>rfl,by decide⟩
def av3:((ai true).info? 171).map (λi=>(i.zero,i.size,i.bytes))=some (some (.agg #[.string ⟨#[]⟩,.bool false]),2,24):=by kernel_rfl
@[go_sem] theorem aCo(n:Int)(B:Option Addr)(m c:Nat)(w:World):(Instr.field 40 (.agg #[.int .i64 n,.slice B m c]) 0).run (ai true) w=.ok (.int .i64 n) w:=by simp[Instr.field,lw xt,asAgg,go_sem]
@[go_sem] theorem aCp(n:Int)(B:Option Addr)(m c:Nat)(w:World):(Instr.field 40 (.agg #[.int .i64 n,.slice B m c]) 1).run (ai true) w=.ok (.slice B m c) w:=by simp[Instr.field,lw xt,asAgg,go_sem]
@[go_sem] theorem aCq(n:Int)(s:ByteArray)(w:World):(Instr.field 64 (.agg #[.int .i64 n,.string s]) 0).run (ai true) w=.ok (.int .i64 n) w:=by simp[Instr.field,lw xr,asAgg,go_sem]
@[go_sem] theorem aCr(n:Int)(s:ByteArray)(w:World):(Instr.field 64 (.agg #[.int .i64 n,.string s]) 1).run (ai true) w=.ok (.string s) w:=by simp[Instr.field,lw xr,asAgg,go_sem]
def azk(key:Int)(l:List ig)(dI:List Int)(w:World)(e:Ending)(w':World):Prop:=
 ∃v b,e=.returned (.tuple #[v,.bool b])/\(b=true↔∀n∈dI,(bB key l n).2=true)/\(b=true->aD ib 9 w' w.heap.size v (dI.map λn=>(bB key l n).1))/\Below w.heap.size w w'
noncomputable def am9(key:Int)(l:List ig)(ns:List Int):List ByteArray:=ns.map λn=>(bB key l n).1
noncomputable def aaA(key:Int)(l:List ig)(dI:List Int)(k:Nat):List (ByteArray×Bool):=(dI.take k).map (bB key l)++List.replicate (dI.length-k) (⟨#[]⟩,false)
def av4{l:List ig}(h:k<dI.length):(aaA key l dI k)[k]?=some (⟨#[]⟩,false):=by
 unfold aaA;have a:((dI.take k).map (bB key l)).length=k:=by rw[pZ,ff];omega
 rw[qr (by omega),a,uJ,ue,dj (by omega)]
def atf{l:List ig}{n:Int}(h:dI[k]?=some n):(aaA key l dI k).set k (bB key l n)=aaA key l dI (k+1):=by
 have b:=aI h;unfold aaA;have c:((dI.take k).map (bB key l)).length=k:=by rw[pZ,ff];omega
 rw[vQ _ _ (by omega),c,uJ,mp h,qs,rY]
 congr 1
 obtain⟨m,a⟩:∃m,dI.length-k=m+1:=⟨dI.length-k-1,by omega⟩;rw[a,List.replicate_succ,dk,show dI.length-(k+1)=m by omega];rfl
def aqn:∀n:Nat,(madeCells #[.string ⟨#[]⟩,.bool false] (n*2)).toList=dL FFe (List.replicate n (⟨#[]⟩,false)):=λn=>by
 apply List.ext_getElem?;intro j;rcases pm j (n*2) with h|h
 .have d:j / 2<n:=by omega
  have b:(List.replicate n ((⟨#[]⟩,false):ByteArray×Bool))[j / 2]?=some (⟨#[]⟩,false):=by rw[ue,dj d]
  have e:j=j / 2*2+j % 2:=by omega
  rw[eg];have c:(madeCells #[.string ⟨#[]⟩,.bool false] (n*2))[j]?=some (#[Value.string ⟨#[]⟩,Value.bool false][j % 2]!):=by
   unfold madeCells;simp[h]
  rw[c];rcases uV j with a|a
  .have:=iF FFe _ (j / 2) 0 _ (.string ⟨#[]⟩) b rfl;rw[show j / 2*FFe.sz+0=j by show j / 2*2+0=j;omega] at this;rw[this,a];rfl
  .have:=iF FFe _ (j / 2) 1 _ (.bool false) b rfl;rw[show j / 2*FFe.sz+1=j by show j / 2*2+1=j;omega] at this;rw[this,a];rfl
 .rw[eg,qg (by rw[size_madeCells];exact h),sK (by rw[eT,qv];exact h)]
def atg{l:List ig}(w:World)(n:Nat)(a:n<=maxLen)(h:dI.length=n:=by rfl) :
  aD FFe 171 (w.alloc (.cells (madeCells #[.string ⟨#[]⟩,.bool false] (n*2)) 171)) w.heap.size (.slice (some ⟨w.heap.size,0,none⟩) n n) (aaA key l dI 0):=by
 have e:aaA key l dI 0=List.replicate n (⟨#[]⟩,false):=by unfold aaA;rw[h];rfl
 rw[e];refine⟨eT FFe _,.inr ⟨w.heap.size,n,_,by rw[qv],am _,cg.new _ _ _,by rw[qv];exact am _,a,by rw[size_madeCells];rfl, ?_⟩⟩;rw[aqn,qv];exact qj (by rw[eT,qv];exact am _)
def aoG{base : Nat}{xs:List (ByteArray×Bool)}(h:aD FFe 171 w base (.slice (some ⟨g,0,none⟩) n n) xs){x:ByteArray×Bool}(a:xs[k]?=some x) :
  w.cell? ⟨g,k*2,none⟩=some (.string x.1)/\w.cell? ⟨g,k*2+1,none⟩=some (.bool x.2):=by
 obtain⟨A,c,e⟩:=aD.form h;simp only[qa] at e;obtain⟨-,rfl, -⟩:=e;exact⟨h.cell a (j:=0) rfl,h.cell a (j:=1) rfl⟩
def av5{l:List ig}{base : Nat}(h:aD FFe 171 w base (.slice (some ⟨g,0,none⟩) n n) (aaA key l dI k))(m:k<dI.length) :
  w.cell? ⟨g,k*2,none⟩=some (.string ⟨#[]⟩)/\w.cell? ⟨g,k*2+1,none⟩=some (.bool false)/\(∀j,w.frozen? ⟨g,j,none⟩=false)/\(∀j (p:Addr) u,(w.setCell p u).frozen? ⟨g,j,none⟩=false)/\
  ∀y:ByteArray×Bool,aD FFe 171 ((w.setCell ⟨g,k*2,none⟩ (.string y.1)).setCell ⟨g,k*2+1,none⟩ (.bool y.2)) base (.slice (some ⟨g,0,none⟩) n n) ((aaA key l dI k).set k y):=by
 obtain⟨A,c,e⟩:=aD.form h;simp only[qa] at e;obtain⟨-,rfl, -⟩:=e;have a:=av4 (key:=key) (l:=l) m;obtain⟨o,q⟩:=aoG h a;refine⟨o,q,λj=>h.frozen rfl j,λj p u=> ?_,λy=> ?_⟩
 .rw[uD];exact h.frozen rfl j
 .have d:=h.put a (j:=0) (y:=(y.1,false)) (u:=.string y.1) (by decide) rfl;have f:aD FFe 171 (w.setCell ⟨g,k*FFe.sz+0,none⟩ (.string y.1)) base (.slice (some ⟨g,0,none⟩) ((aaA key l dI k).set k (y.1,false)).length (aaA key l dI k).length) ((aaA key l dI k).set k (y.1,false)):=by rw[qP];exact d
  have b:=f.put (i:=k) (x:=(y.1,false)) (by rw[sx (aI a)]) (j:=1) (y:=y) (u:=.bool y.2) (by decide) rfl;rw[qP,aci] at b;exact b
def ana (key:Int) (hk:1<=key/\key<=99) (l:List ig) (A:Option Addr) (c:Nat) (dI:List Int) (v2:Value) (lo hi:Nat) (w:World) (x0 x1:Value)
  (bE:hi<=w.heap.size) (hl:PkL w A l) (a6:l.length<=c) (hc:c<=maxLen) (iu:∀p∈l,1<=p.2.length/\bX p.1) (G:cB pC 1 w lo hi dI [v2]) (b4:dI.length<=2147483647)
  (e0:w.cell? ⟨0,0,none⟩=some x0) (e1:w.cell? ⟨1,0,none⟩=some x1) :
  Calls (ai true) 67 #[.int .i64 key,.slice A l.length c,v2] w (azk key l dI w):=by
 obtain⟨A2,c2,rfl⟩:=G.form;obtain⟨-,ao,a5⟩:=G.len_;have HC:=ab hc;unfold maxLen at hc a5;have ay:=apM (P:=ai true) 160 171 _ 2 24 xH av3 dI.length (by omega) (by omega);have a8:xFA.ntmps=45:=ntmps67;have V:xFA.results=#[.tmp 6,.tmp 7]:=results67;go_enter ate,a8;go_wp2
 go_loop [20] (λi=>∃k:Nat,k<=l.length/\i=.int .i64 k) (λi=>l.length-(intOf i).toNat)
 case atStart=>exact⟨0,fa _,rfl⟩
 case round=>
  obtain⟨k,ad,rfl⟩:=hrel;by_cases a2:k<l.length
  .obtain⟨p,eP⟩:=ak a2;obtain⟨b,an,B,c3,rfl,b0,aK,al,aG,a7,a4⟩:=hl k p eP;have R:=iu p (aE eP);obtain⟨R,a9⟩:=R;unfold bX at a9;unfold maxLen at a7;obtain⟨X,Y⟩:=p;dsimp only at *;have w1:wrap64 (X*1)=X:=by unfold wrap64;omega
   have t1:(X ==X)=true:=sg _;clear eP;go_wp2
   go_loop [5] (λjj=>∃j:Nat,j<=Y.length/\jj=.int .i64 j) (λjj=>Y.length-(intOf jj).toNat)
   case atStart=>exact⟨0,fa _,rfl⟩
   case round=>
    obtain⟨j,b7,rfl⟩:=hrel;by_cases a0:j<Y.length
    .obtain⟨x,U⟩:=ak a0;obtain⟨b2,mV,rfl,aP,b1,aa,a3,oL⟩:=a4 j x U;unfold bX at a3;unfold maxLen at oL;obtain⟨W,xb⟩:=x;dsimp only at *;have w2:wrap64 (W*1)=W:=by unfold wrap64;omega
     have t2:(W ==W)=true:=sg _;clear U;go_wp2
     go_round
     case rel=>exact⟨j+1,by omega,by go_num⟩
     simp[intOf];omega
    .obtain rfl:j=Y.length:=by omega
     go_wp2
     go_round
     case rel=>exact⟨_,_,_,_,_,_,_,_,_,⟨k+1,by omega,rfl⟩,rfl,rfl,rfl,rfl,rfl,rfl,rfl,rfl,by go_num⟩
     show l.length-((k:Int)+1).toNat<l.length-(k:Int).toNat;omega
  .obtain rfl:k=l.length:=by omega
   clear iu;go_wp2;have s:=atg (key:=key) (l:=l) (dI:=dI) w dI.length (by unfold maxLen;omega);have N:=aC w (.cells (madeCells #[.string ⟨#[]⟩,.bool false] (dI.length*2)) 171);generalize w.alloc (.cells (madeCells #[.string ⟨#[]⟩,.bool false] (dI.length*2)) 171)=w0 at *;go_loopw [28] (λH wr=>∃k:Nat,k<=dI.length/\H=.int .i64 k/\aD FFe 171 wr w.heap.size (.slice (some ⟨w.heap.size,0,none⟩) dI.length dI.length) (aaA key l dI k)/\Below w.heap.size w wr) (λH _=>dI.length-(intOf H).toNat)
   case atStart=>exact⟨0,fa _,rfl,s,N⟩
   case round=>
    clear s N;obtain⟨k,aV,rfl,r,a⟩:=hrel;by_cases q:k<dI.length
    .obtain⟨n,f⟩:=ak q;obtain⟨b3,a1,es,rfl,b6,aQ,_,⟨rfl,S⟩,T⟩:=((cB.loc pC.loc).below G a bE).at_ f;have d0:wr.cell? ⟨b3,a1+k,none⟩=some (.int .i64 n):=by simpa using T 0 _ rfl
     unfold bX at S;have w3:wrap64 (n*1)=n:=by unfold wrap64;omega
     have t3:(n ==n)=true:=sg _;have z:=atf (key:=key) (l:=l) f;replace z:=ab z;clear T f;go_wp2;refine(aoB wr key A c l n hk.1 hk.2 a6 (by omega) (hl.below a) S).mono ?_;rintro e w5 ⟨v,rfl,rfl,E⟩;have K:=r.below E;obtain⟨f0,f1,z0,z1,t⟩:=av5 K q;have nG:=ae a E;have HP:=ab (t (bB key l n));clear r a E K t d0;go_wp2;go_roundw
     case rel=>exact⟨k+1,by omega,by go_num,by rw[<-z.out];exact HP.out,(nG.setCell (by dsimp only;omega) _).setCell (by dsimp only;omega) _⟩
     simp[intOf];omega
    .obtain rfl:k=dI.length:=by omega
     replace G:=ab G;clear hl;go_wp2;have jb:=aC wr (.cells #[.slice (some ⟨w.heap.size,0,none⟩) dI.length dI.length] 160);have o:=r.below jb;have g:=ae a jb;have e1:aaA key l dI dI.length=dI.map (bB key l):=by unfold aaA;rw[ga,uJ,List.replicate_zero,sM]
     rw[e1] at o;clear r a jb e1;generalize wr.alloc (.cells #[.slice (some ⟨w.heap.size,0,none⟩) dI.length dI.length] 160)=w1 at *;go_loopw [12,31] (λoo H wr=>∃k:Nat,k<=dI.length/\H=.int .i64 k/\aD ib 9 wr w.heap.size oo (am9 key l (dI.take k))/\aD FFe 171 wr w.heap.size (.slice (some ⟨w.heap.size,0,none⟩) dI.length dI.length) (dI.map (bB key l))/\(∀n∈dI.take k,(bB key l n).2=true)/\Below w.heap.size w wr) (λ_ H _=>dI.length-(intOf H).toNat)
     case atStart=>exact⟨0,fa _,rfl,aD.nil _ _ _,o,λn G=>(by simp at G),g⟩
     case round=>
      clear o g;obtain⟨k,b5,rfl,I,r,d,a⟩:=hrel;replace d:=ab d;obtain⟨So,sc,rfl⟩:=I.form;by_cases q:k<dI.length
      .obtain⟨n,f⟩:=ak q;have L:(dI.map (bB key l))[k]?=some (bB key l n):=by rw[qz,f];rfl
       obtain⟨f0,f1⟩:=aoG r L;have y:(am9 key l (dI.take k)).length=k:=by unfold am9;rw[pZ,ff];omega
       have fh:am9 key l (dI.take (k+1))=am9 key l (dI.take k)++[(bB key l n).1]:=by unfold am9;rw[mp f,qs];rfl
       have C:=apB r I (by decide);replace C:=ab C;have Q:=ab f;replace y:=ab y;clear L f;cases D:(bB key l n).2 with
       |false=>
        rw[D] at f1;replace D:=ab D;go_wp2;refine oR (v:=.tuple #[.slice none 0 0,.bool false]) (by simp[results,V,go_sem]) rfl ⟨_,false,rfl, ?_,λh=>(by cases h),a.alloc a.size _⟩;simp only[jp,uC];intro h;have:=h n (aE Q.out);rw[D.out] at this;cases this
       |true=>
        rw[D] at f1;have u:∀m∈dI.take (k+1),(bB key l m).2=true:=λm J=>by
         rw[mp Q.out,io] at J;rcases J with J|J
         .exact d.out m J
         .rw[ge.1 J];exact D
        replace u:=ab u;clear D;replace fh:=ab fh;have ax:=aC wr (.cells #[.string (bB key l n).1,.bool true] 171);have Z:=aC (wr.alloc (.cells #[.string (bB key l n).1,.bool true] 171)) (.cells #[.string (bB key l n).1] 9);have kB:=cg.new (wr.alloc (.cells #[.string (bB key l n).1,.bool true] 171)) 9 #[.string (bB key l n).1];simp only[mw] at kB;have O:=(I.below ax).below Z;have o:=(r.below ax).below Z;have g:=ae (ae a ax) Z;clear I r a ax Z;go_wp2_with(at_builtin;refine ag0 (F:=ib) (v:=.slice So (am9 key l (dI.take k)).length sc) rfl (.tmp 38) (.tmp 41) 117 rfl pL (bB key l n).1 rfl O rfl kB rfl (by have:=y.out;omega) g.size ?_;intro va wa oa M af;obtain⟨Aa,ca,rfl⟩:=oa.form);go_roundw
        case rel=>exact⟨k+1,by omega,by go_num,by rw[fh.out];rw[ap] at oa;exact oa,o.fP M λb hb=>C.out b hb,u.out,g.trans (M.below g.size λi hi hx=>by have:=(O.at_ hx).1;omega)⟩
        simp[intOf];omega
      .obtain rfl:k=dI.length:=by omega
       rw[ga] at I d;go_wp2;refine oR (v:=.tuple #[_,.bool true]) (by simp[results,V,go_sem]) rfl ⟨_,true,rfl,by simp only[sO];exact d.out,λ_=>I,a⟩
end
section
open Go.RowKit
structure Glo (w:World):Prop where
 key:∃x,w.cell? ⟨0,0,none⟩=some x
 piece:∃x,w.cell? ⟨1,0,none⟩=some x
def Glo.below(h:Glo w)(b:Below w.heap.size w w'):Glo w':=by
 obtain⟨⟨x,c⟩,y,a⟩:=h;exact⟨⟨x,(qy (b.block _ (gO c))).trans c⟩,⟨y,(qy (b.block _ (gO a))).trans a⟩⟩
end
end Go.Proofs.YtlggbfanooejbaaGreatDoor