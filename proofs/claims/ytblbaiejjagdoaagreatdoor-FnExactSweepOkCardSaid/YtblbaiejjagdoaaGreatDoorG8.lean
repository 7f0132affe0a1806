/- A part. -/
import Derived.Test.YtblbaiejjagdoaaGreatDoorG7
import Derived.RangeFuncNested
import Derived.RangeFuncBound
import Derived.RangeFuncCalls
import Derived.RangeFuncLeaves
import Derived.Shelf.Abstract
import Derived.Shelf.RegionOpen
import Derived.OwnWalkIn
import Derived.TacticsInMore
import Derived.LoopNIn
import Derived.LoopIn
import Derived.Lib.IndexLaws
import Derived.Lib.Bytealg
import Derived.OrdersIn
import Derived.Maps.OwnSet
set_option maxRecDepth 100000
set_option maxHeartbeats 8000000
set_option linter.all false
open Go Go.RowKit Go.Proofs.Tryz Go.Proofs.YtblbaiejjagdoaaGreatDoor
variable {p:Pk} {x:Ls} {Z Y b c k n n₀:Nat} {a:Act} {key:Int} {U:Type} {o:Oper} {v:Value} {w w':World} {l l':List gz} {xs:List Ls} {X di:List Int} {f g s:ByteArray} {A:Option Addr} {W V:Act→World→Prop}
namespace Go.Proofs.YtblbaiejjagdoaaGreatDoor
def rF:=@beq_self_eq_true
def rR:=@List.find?_cons
def sI:=@List.append_nil
def sP:=@List.length_eq_one_iff
def th:=@List.mem_map_of_mem
def uh:=@Array.replicate_zero
def ui:=@Array.replicate_succ
def uj:=@Int.mul_le_mul_of_nonneg_left
def um:=@List.filterMap_cons
def un:=@List.append_toArray
def uB:=@List.push_toArray
def uU:=@List.length_pos_of_mem
def uV:=@Go.KeepsOthers.of_grownBy
def vh:=@Int.emod_add_mul_ediv
def vu:=@List.reverse_reverse
section
variable {β:Bool}
open Go.RowKit
def pkd(p:Pk):gz:=(p.no,p.its.map λx=>(x.n,x.b))
def bV(l:List Pk):List gz:=l.map pkd
open Classical in
noncomputable def eR(l:List ByteArray):ByteArray×Bool:=if eB (qF (cN l))=true/\gI (qF (cN l))=l then(qF (cN l),true) else(⟨#[]⟩,false)
def ajX(key:Int)(l:List gz)(ns:List Int):Prop:=∀n∈ns,(bP key l n).2=true
noncomputable def fB(key:Int)(l:List gz)(ns:List Int):List ByteArray:=ns.map λn=>(bP key l n).1
open Classical in
noncomputable def gb(key:Int)(l:List gz)(x:Ls):Option Nd:=if ajX key l x.ns/\(eR (fB key l x.ns)).2=true then some ⟨x.p,(eR (fB key l x.ns)).1⟩ else none
noncomputable def dm(key:Int)(l:List gz)(xs:List Ls):List Nd:=xs.filterMap (gb key l)
def pC(g f:ByteArray):Bool:=(bs g++[47]).isPrefixOf (bs f)
def agD(t:List Nd):Prop:=t.length<=6/\∀i x,t[i]?=some x->ahX x/\(∀y,0<i->t[i-1]?=some y->Op.bytesLess y.p.toList x.p.toList=true)/\∀k y,k<i->t[k]?=some y->pC y.p x.p=false
open Classical in
noncomputable def dD(key:Int)(l:List gz)(xs:List Ls):Option (List Nd):=if(∀x∈xs,(gb key l x).isSome=true)/\agD (dm key l xs) then some (dm key l xs) else none
noncomputable def adn(key:Int)(s:ib)(no:Int):Option (List Nd):=match s.sn.find? (λx=>x.no ==no) with
 |some x=>dD key (bV s.pk) x.all
 |none=>none
def ma{key nm:Int}:∀{l:List gz},(bP key l nm).2=true↔∃p∈l,(eQ key p.2 nm).2=true
 |[]=>by simp[bP]
 |p::l=>by
  show(if(eQ key p.2 nm).2=true then((eQ key p.2 nm).1,true) else bP key l nm:ByteArray×Bool).2=true↔_;by_cases h:(eQ key p.2 nm).2=true
  .rw[dl h];exact⟨λ_=>⟨p,by simp,h⟩,λ_=>rfl⟩
  .rw[bd h,ma];constructor
   .rintro⟨q,a,b⟩;exact⟨q,by simp[a],b⟩
   .rintro⟨q,a,b⟩;rcases lE.1 a with rfl|a
    .exact absurd b h
    .exact⟨q,a,b⟩
def ae9{nm:Int}:∀{l:List (Int×ByteArray)} {k:Nat} {x:Int×ByteArray},dO nm l=k->l[k]?=some x->x.1=nm
 |[],k,x,_,h=>by simp at h
 |y::l,k,x,h,hx=>by
  have h:(if y.1=nm then 0 else let j:=dO nm l;if j<0 then -1 else j+1:Int)=k:=h;by_cases a:y.1=nm
  .rw[dl a] at h;obtain rfl:k=0:=by omega
   simp at hx;subst hx;exact a
  .rw[bd a] at h;by_cases b:dO nm l<0
   .have h:(if dO nm l<0 then -1 else dO nm l+1:Int)=k:=h;rw[dl b] at h;omega
   .have h:(if dO nm l<0 then -1 else dO nm l+1:Int)=k:=h;rw[bd b] at h;obtain⟨m,rfl⟩:∃m,k=m+1:=⟨k-1,by omega⟩;exact ae9 (l:=l) (k:=m) (by omega) (by simpa using hx)
def ah2{nm : Int}{l:List (Int×ByteArray)}{x:Int×ByteArray}(h:dO nm l=k)(a:l[k]?=some x):eQ key l nm=dC key x:=by
 unfold eQ;rw[h,show((k:Nat):Int).toNat=k from rfl,a];show(if((k:Nat):Int)<0 then _ else _)=_;rw[bd (by omega)]
def agE{nm : Int}{l:List (Int×ByteArray)}(h:dO nm l=-1):eQ key l nm=(⟨#[]⟩,false):=by
 unfold eQ;rw[h];split
 .rw[dl (by omega)]
 .rfl
def afa{nm : Int}{l:List (Int×ByteArray)}(h:(eQ key l nm).2=true):∃(k:Nat) (x:Int×ByteArray),dO nm l=k/\l[k]?=some x/\x.1=nm/\eQ key l nm=dC key x:=by
 rcases abR nm l with a|⟨k,x,a,b⟩
 .rw[agE a] at h;cases h
 .exact⟨k,x,a,b,ae9 a b,ah2 a b⟩
def al9{x:Int×ByteArray}(h:(dC key x).2=true):aZ (bs (dC key x).1)/\cq key (bs (dC key x).1)=x.1:=by
 unfold dC at h ⊢;split
 .rename_i a;exact⟨agx a.1,a.2⟩
 .rename_i a;rw[bd a] at h;cases h
def ama{nm : Int}{l:List (Int×ByteArray)}(h:(eQ key l nm).2=true):aZ (bs (eQ key l nm).1)/\cq key (bs (eQ key l nm).1)=nm:=by
 obtain⟨k,x,d,c,b,a⟩:=afa h;rw[a] at h ⊢;have:=al9 h;exact⟨this.1,this.2.trans b⟩
def iT{key nm:Int}:∀{l:List gz},(bP key l nm).2=true->aZ (bs (bP key l nm).1)/\cq key (bs (bP key l nm).1)=nm
 |[],h=>by cases h
 |p::l,h=>by
  have e:bP key (p::l) nm=if(eQ key p.2 nm).2=true then((eQ key p.2 nm).1,true) else bP key l nm:=rfl
  rw[e] at h ⊢;by_cases a:(eQ key p.2 nm).2=true
  .rw[dl a];exact ama a
  .rw[bd a] at h ⊢;exact iT h
def ash{x y k m r:Int}(g:r+999999999989*k=15*x+55433)(l:r+999999999989*m=15*y+55433)(j:0<=x/\x<282429536481)(i:0<=y/\y<282429536481):x=y:=by
 have a:15*(x-y)=999999999989*(k-m):=by
  rw[Int.mul_sub 999999999989];generalize 999999999989*k=A at *;generalize 999999999989*m=B at *;omega
 clear g l;generalize k-m=d at *;have f:x-y<282429536481/\ -282429536481<x-y:=by clear a;omega
 have e:x-y=0->x=y:=by clear a;omega
 clear j i;generalize x-y=z at *;have c:d<5:=by
  refine Int.lt_of_not_ge λh=> ?_;have:=uj h (show(0:Int)<=999999999989 by decide);rw[<-a] at this;clear a;omega
 have b : -5<d:=by
  refine Int.lt_of_not_ge λh=> ?_;have:=uj h (show(0:Int)<=999999999989 by decide);rw[<-a] at this;clear a;omega
 have:d=-4\/d=-3\/d=-2\/d=-1\/d=0\/d=1\/d=2\/d=3\/d=4:=by clear a f e;omega
 rcases this with rfl|rfl|rfl|rfl|rfl|rfl|rfl|rfl|rfl<;>(first|(exact e (by omega))|(exfalso;clear c b f e;omega))
def asi{x y:Int}(b:0<=x/\x<282429536481)(d:0<=y/\y<282429536481)(h:(15*x+55433) % 999999999989=(15*y+55433) % 999999999989):x=y:=by
 have a:=vh (15*x+55433) 999999999989;have c:=vh (15*y+55433) 999999999989;rw[h] at a;exact ash a c b d
def aaW{a b:List Nat}(c:aZ a)(d:aZ b)(h:cq 7 a=cq 7 b):a=b:=by
 have i:=abH c;have f:=abH d;have e:∀l,cq 7 l=(15*(code l:Int)+55433) % 999999999989:=λl=>by
  unfold cq;rw[show(code l:Int)*(2*7+1)+7*7919=15*(code l:Int)+55433 by clear h i f;generalize (code l:Int)=z;omega]
 rw[e,e] at h;have j:(code a:Int)<282429536481:=by clear h e;omega
 have g:(code b:Int)<282429536481:=by clear h e;omega
 have k:(code a:Int)=code b:=asi ⟨Int.natCast_nonneg _,j⟩ ⟨Int.natCast_nonneg _,g⟩ h;refine aoT c.2 d.2 ?_;show code a=code b;exact Int.ofNat_inj.1 k
def api{nm:Int}(h:(bP 7 l nm).2=true)(e:(bP 7 l' nm).2=true):(bP 7 l nm).1=(bP 7 l' nm).1:=by
 obtain⟨a,b⟩:=iT h;obtain⟨c,d⟩:=iT e;exact jA (aaW a c (b.trans d.symm))
def apj(b:∀nm,(bP 7 l' nm).2=true->(bP 7 l nm).2=true)(h:ajX 7 l' X):ajX 7 l X/\fB 7 l X=fB 7 l' X:=
 ⟨λn a=>b n (h n a),ul λn a=>api (b n (h n a)) (h n a)⟩
def amb(d:∀nm,(bP 7 l' nm).2=true->(bP 7 l nm).2=true){y:Nd}(h:gb 7 l' x=some y):gb 7 l x=some y:=by
 unfold gb at h ⊢;split at h
 .rename_i b;obtain⟨c,a⟩:=apj d b.1;rw[dl ⟨c,by rw[a];exact b.2⟩,a];exact h
 .cases h
def ado{l l':List gz}(e:∀nm,(bP 7 l' nm).2=true->(bP 7 l nm).2=true):∀{xs:List Ls},(∀x∈xs,(gb 7 l' x).isSome=true)->(∀x∈xs,(gb 7 l x).isSome=true)/\dm 7 l xs=dm 7 l' xs
 |[],_=>⟨λx g=>(by cases g),rfl⟩
 |x::xs,h=>by
  obtain⟨y,d⟩:=qP.1 (h x (by simp));have b:=amb e d;obtain⟨f,c⟩:=ado e (xs:=xs) λz a=>h z (by simp[a]);refine⟨λz a=> ?_, ?_⟩
  .rcases lE.1 a with rfl|a
   .rw[b];rfl
   .exact f z a
  .unfold dm at c ⊢;rw[um,um,d,b,c]
def amc(d:∀nm,(bP 7 l' nm).2=true->(bP 7 l nm).2=true){t:List Nd}(h:dD 7 l' xs=some t):dD 7 l xs=some t:=by
 unfold dD at h ⊢;split at h
 .rename_i b;obtain⟨c,a⟩:=ado d b.1;rw[dl ⟨c,by rw[a];exact b.2⟩,a];exact h
 .cases h
def mN{x:It}:eZ key x↔(dC key (x.n,x.b)).2=true:=by
 have e:∀s,(dN s).2=true↔cJ (bs s)=some (bs (dN s).1):=λs=>by
  unfold dN cJ;rw[abL];by_cases h:aZ (sD (bs s))/\fP (sD (bs s))=bs s
  .rw[dl h,dl h];simp only[qj];rw[abL]
  .rw[bd h,bd h];simp
 unfold eZ dC;constructor
 .rintro⟨p,c,f⟩;have d:(dN x.b).2=true:=by
   unfold dN;rw[abL];unfold cJ at c;split at c
   .rename_i b;rw[dl b]
   .cases c
  have a:=(e x.b).1 d;rw[c] at a;have a:=dj a;rw[dl ⟨d,by rw[<-a];exact f⟩]
 .intro h;split at h
  .rename_i b;exact⟨_,(e x.b).1 b.1,b.2⟩
  .cases h
def asj(h:aZ (bs s)):eZ key (og key s):=⟨bs s,by show cJ (bs (qF (fP (bs s))))=_;rw[arz,ajn h],rfl⟩
def ah3(p:Pk)(i:Nat):(pkd p).2[i]?=(p.its[i]?).map λx=>(x.n,x.b):=by show(p.its.map _)[i]?=_;rw[qi]
def afb{nm : Int}(c:∀x∈p.its,eZ key x)(h:dO nm (pkd p).2=k):(eQ key (pkd p).2 nm).2=true:=by
 rcases abR nm (pkd p).2 with b|⟨e,x,b,a⟩
 .omega
 .rw[ah2 b a];rw[ah3] at a;obtain⟨y,d,rfl⟩:=io.1 a;exact mN.1 (c y (be d))
def ajY{nm:Int}:∀{l a:List (Int×ByteArray)},l.map (·.1)=a.map (·.1)->dO nm l=dO nm a
 |[],[],_=>rfl
 |[],_::_,h=>by simp at h
 |_::_,[],h=>by simp at h
 |x::l,y::a,h=>by
  simp only[pK,qz] at h;show(if x.1=nm then 0 else let j:=dO nm l;if j<0 then -1 else j+1:Int)=(if y.1=nm then 0 else let j:=dO nm a;if j<0 then -1 else j+1:Int);rw[h.1,ajY h.2]
def apk{β : Type}(g:U->β)(f:U->U)(c:∀x,g (f x)=g x)(l:List U)(i:Nat):(tw l i f).map g=l.map g:=by
 unfold tw;split
 .rename_i x b;apply tJ;intro j;rw[qi,qi];by_cases a:i=j
  .subst a;rw[rJ (aI b),b];simp[c]
  .rw[rX a]
 .rfl
def auO{s:ib}(m:∀p∈s.pk,∀x∈p.its,eZ 7 x)(L:ab1)(nm:Int)(h:(bP 7 (bV (jL s L).pk) nm).2=true):(bP 7 (bV s.pk) nm).2=true:=by
 have same:(jL s L).pk=s.pk->(bP 7 (bV s.pk) nm).2=true:=λe=>by rw[e] at h;exact h
 by_cases l:L.k=1
 .rw[ahZ l] at h;obtain⟨p,c,f⟩:=ma.1 h;refine ma.2 ⟨p, ?_,f⟩;obtain⟨q,g,rfl⟩:=lP.1 c;exact th ((rQ.1 g).1)
 by_cases d:L.k=2
 .by_cases b:0<=L.n/\L.n<=s.lg.length
  .exact same (by rw[ae8 d b])
  .exact same (by rw[ah0 d b])
 by_cases j:L.k=3
 .rw[al1 j] at h;obtain⟨p,c,f⟩:=ma.1 h;obtain⟨q,g,rfl⟩:=lP.1 c;obtain⟨r,a,rfl⟩:=lP.1 g;obtain⟨k,x,n, -, -, -⟩:=afa f;refine ma.2 ⟨pkd r,th a,afb (m r a) (k:=k) ?_⟩;rw[<-n];refine ajY ?_;show(r.its.map _).map _=((anP L r).its.map _).map _;rw[tp,tp];unfold anP;split
  .exact(apk (λx:It=>x.n) (λx=>(⟨x.n,L.b⟩:It)) (λ_=>rfl) r.its L.m.toNat).symm
  .rfl
 by_cases i:L.k=4
 .by_cases b:0<=L.n/\L.n<s.lg.length
  .exact same (by rw[al3 i b])
  .exact same (by rw[ah1 i b])
 exact same (by rw[al4 l d j i])
def fZ.items{s:ib}(h:fZ s):∀p∈s.pk,∀x∈p.its,eZ 7 x:=by
 induction h with
 |nil=>exact λp a=>(by cases a)
 |save _ l d k i=>
  intro p a x b;rcases gt.1 a with a|a
  .exact i p a x b
  .obtain⟨n,j,c,e,m,o,f⟩:=kE 7 _ _ _ (am _) p a;rw[e] at b;obtain⟨q,g,rfl⟩:=agB.1 b;exact asj (aaV (acH d) q (f q g))
def adp{e:Type}(q:e->Bool)(f:Int->Bool)(a:e->Int)(n:Int)(i:∀x,q x=f (a x)):∀{l:List e} {x:e},(l.filter q).find? (λx=>a x ==n)=some x->l.find? (λx=>a x ==n)=some x
 |[],x,h=>by simp at h
 |y::l,x,h=>by
  rw[rR];by_cases d:a y=n
  .rw[show(a y ==n)=true from mx.2 d];by_cases c:q y=true
   .rw[rh,dl c,rR,show(a y ==n)=true from mx.2 d] at h;exact h
   .exfalso;have j:=List.mem_of_find?_eq_some h;have g:=List.find?_some h;have b:=(rQ.1 j).2;rw[i] at b c;rw[mx.1 g] at b;rw[d] at c;exact c b
  .rw[show(a y ==n)=false from kw.2 d];refine adp q f a n i (l:=l) ?_;by_cases c:q y=true
   .rw[rh,dl c,rR,show(a y ==n)=false from kw.2 d] at h;exact h
   .rw[rh,bd c] at h;exact h
def axy{s:ib}(L:ab1){x:Sn}(h:(jL s L).sn.find? (λx=>x.no ==key)=some x):s.sn.find? (λx=>x.no ==key)=some x:=by
 by_cases d:L.k=1
 .rw[ahZ d] at h;exact h
 by_cases b:L.k=2
 .by_cases a:0<=L.n/\L.n<=s.lg.length
  .rw[ae8 b a] at h;exact adp (λx:Sn=>!((s.lg.drop L.n.toNat).any λh=>h.s ==x.no)) (λm=>!((s.lg.drop L.n.toNat).any λh=>h.s ==m)) (λx:Sn=>x.no) key (λ_=>rfl) h
  .rw[ah0 b a] at h;exact h
 by_cases e:L.k=3
 .rw[al1 e] at h;exact h
 by_cases c:L.k=4
 .by_cases a:0<=L.n/\L.n<s.lg.length
  .rw[al3 c a] at h;exact h
  .rw[ah1 c a] at h;exact h
 rw[al4 d b e c] at h;exact h
def Bw{s:ib}(h:fZ s)(L:ab1){t:List Nd}(a:adn 7 (jL s L) key=some t):adn 7 s key=some t:=by
 unfold adn at a ⊢;split at a
 .rename_i x b;rw[axy L b];exact amc (auO h.items L) a
 .cases a
end
section
variable {β:Bool}
open Go.RowKit Go.Shelf
attribute [local go_sem] Oper.semAt_some
def KpB(n₀ Bs:Nat)(A B:World):Prop:=Below n₀ A B/\B.heap[Bs]?=A.heap[Bs]?
def KpB.refl{A:World}:KpB n₀ Z A A:=⟨db _ _,rfl⟩
def KpB.t{A B C:World}(h:KpB n₀ Z A B)(k:KpB n₀ Z B C):KpB n₀ Z A C:=⟨h.1.trans k.1,k.2.trans h.2⟩
end
section
variable {β:Bool}
open Go.RowKit
def nk(x:Hd):Prop:=(1<=x.b/\x.b<=2)/\1<=x.s/\x.s<=20
def aav(l:List Hd):Prop:=l.length<=9/\∀x∈l,nk x
def auP:ajD (β:=β) 76:=arT xk (by kernel_rfl) rfl
end
section
variable {β:Bool}
open Go.RowKit
def aaT.form{s:ib}{e d : Value}(h:aaT w Z Y s v e d):(∃A a,v=.slice A s.pk.length a)/\(∃B b,e=.slice B s.sn.length b)/\∃C c,d=.slice C s.lg.length c:=⟨h.pk.form,h.sn.form,h.lg.form⟩
def aaT.chg{s:ib}{c a : Value}(h:aaT w Z Y s v c a){S:Nat->Prop}(g:gq S w w')(e:∀b,Z<=b->b<Y->b<w.heap.size/\¬S b):aaT w' Z Y s v c a:=
 h.go (λb f d=>g.block b (e b f d).1 (e b f d).2) (am _) (am _)
def apl(w:World)(g:Nat)(a b c:Value):gq (λx=>x=g) w (((w.setCell ⟨g,0,none⟩ a).setCell ⟨g,1,none⟩ b).setCell ⟨g,2,none⟩ c):=(((gq.refl (λx=>x=g) w).setCell (S:=λx=>x=g) (p:=⟨g,0,none⟩) (.inl rfl) a).setCell (S:=λx=>x=g) (p:=⟨g,1,none⟩) (.inl rfl) b).setCell (S:=λx=>x=g) (p:=⟨g,2,none⟩) (.inl rfl) c
section
variable {w:World} {lo hi g:Nat} {l:List Int} {N s ia ic bk:Nat} {fx:Bool} {ty:TypeId} {n:Nat} {S:Nat->Prop} {pre:List Nat}
end
end
section
variable {β:Bool}
open Go.RowKit
def apm:List ByteArray:=[⟨#[122,122]⟩,⟨#[98,46]⟩,⟨#[97,98,99,46]⟩,⟨#[104,101,108,108,111,46,46,46]⟩,⟨#[]⟩]
structure aBI (L:ab1) (nc:Nat):Prop where
 k:0<=L.k/\L.k<=5
 n:0<=L.n/\L.n<=20
 nl:L.k=2\/L.k=4->L.n<=nc
 m:0<=L.m/\L.m<=3
 b:L.b∈apm
end
section
open Go.RowKit
def ah4{z:Int}(a:0<=z)(b:z<3):wrap64 z=z:=by unfold wrap64;omega
def auQ{x:Hd}(h:nk x):(adk x).b=3-x.b/\(adk x).s=x.s:=by
 have:=h.1;exact⟨ah4 (by omega) (by omega),rfl⟩
def amd(x:U)(l:List U)(f:U->U):tw (x::l) 0 f=f x::l:=rfl
def ame(x:U)(l:List U)(n:Nat)(f:U->U):tw (x::l) (n+1) f=x::tw l n f:=by
 unfold tw;simp only[List.getElem?_cons_succ];cases l[n]?<;>rfl
def afN:Int->List Hd->Int
 |a,[]=>a
 |a,x::l=>afN (a*64+21*x.b+x.s) l
def amf(l:List Hd):Int:=afN 0 l
def ajZ:∀{l:List Hd} {a b:Int},afN a l=afN b l->a=b
 |[],_,_,h=>h
 |x::l,a,b,h=>by
  have h:afN (a*64+21*x.b+x.s) l=afN (b*64+21*x.b+x.s) l:=h;have:=ajZ h;omega
def agF:∀{l:List Hd} {n:Nat} {a:Int},(∀x∈l,nk x)->n<l.length->afN a (tw l n adk)≠afN a l
 |[],n,_,_,h=>by simp at h
 |x::l,0,a,hk,_=>λe=>by
  rw[amd] at e;have e:afN (a*64+21*(adk x).b+(adk x).s) l=afN (a*64+21*x.b+x.s) l:=e;have:=ajZ e;obtain⟨i,g⟩:=auQ (hk x (by simp));have:=hk x (by simp);obtain⟨⟨c,d⟩,f,j⟩:=this;omega
 |x::l,n+1,a,hk,h=>λe=>by
  rw[ame] at e;exact agF (l:=l) (n:=n) (λy b=>hk y (by simp[b])) (by simpa using h) e
def auR(long sum:Int)(l:List Hd):Int×Int×Int:=if(l.length:Int)<long\/long<0 then(long,sum,1) else if amf (l.take long.toNat)=sum then((l.length:Int),amf l,0) else(long,sum,2)
end
section
variable {β:Bool}
open Go.RowKit
def anQ:∀(l:List Hd) (a:Int),a<=l.foldl (λa h=>max a (h.s+1)) a/\∀x∈l,x.s+1<=l.foldl (λa h=>max a (h.s+1)) a
 |[],a=>⟨uq _,λx b=>(by cases b)⟩
 |y::l,a=>by
  obtain⟨d,c⟩:=anQ l (max a (y.s+1));show a<=l.foldl (λa h=>max a (h.s+1)) (max a (y.s+1))/\∀x∈y::l,x.s+1<=l.foldl (λa h=>max a (h.s+1)) (max a (y.s+1));refine⟨by omega,λx b=> ?_⟩;rcases lE.1 b with rfl|b
  .omega
  .exact c x b
def auS{s:ib}:∀x∈s.lg,x.s<lF s:=λx a=>by
 have b:x.s+1<=adl s.lg:=(anQ s.lg 1).2 x a;unfold lF;cases s.sn.getLast? with
 |none=>show x.s<adl s.lg;omega
 |some y=>show x.s<max (adl s.lg) (y.no+1);omega
def fZ.asc{s:ib}(h:fZ s):s.lg.Pairwise λa b=>a.s<b.s:=by
 induction h with
 |nil=>exact .nil
 |save j i g f c=>
  refine rV.2 ⟨c,su _ _,λx e y d=> ?_⟩;rw[ga.1 d];exact auS x e
def found{s:ib}(h:fZ s){L:ab1}(k:aBI L s.lg.length) :
  (L.k=2->L.n<s.lg.length->auR s.lg.length (amf s.lg) (jL s L).lg=((s.lg.length:Int),amf s.lg,1))/\
  (L.k=4->L.n<s.lg.length->auR s.lg.length (amf s.lg) (jL s L).lg=((s.lg.length:Int),amf s.lg,2))/\
  (¬(L.k=2/\L.n<s.lg.length)->¬(L.k=4/\L.n<s.lg.length)->(jL s L).lg=s.lg):=by
 refine⟨λe b=> ?_,λf b=> ?_,λe f=> ?_⟩
 .by_cases g:0<=L.n
  .rw[ae8 e ⟨g,by omega⟩];unfold auR;rw[dl (.inl (by rw[lc];omega))]
  .exfalso;have:=k.n.1;omega
 .have g:=k.n.1;rw[al3 f ⟨g,b⟩];unfold auR;rw[bd (by rw[agC];omega),bd];show ¬amf ((tw s.lg L.n.toNat adk).take (s.lg.length:Int).toNat)=_;rw[rU,nq (by rw[agC];exact am _)];exact agF h.wf.lg (by omega)
 .by_cases i:L.k=1
  .rw[ahZ i]
  by_cases a:L.k=2
  .by_cases b:0<=L.n/\L.n<=s.lg.length
   .rw[ae8 a b];have:L.n.toNat=s.lg.length:=by
     by_cases d:L.n<s.lg.length
     .exact absurd ⟨a,d⟩ e
     .omega
    rw[this,dk]
   .rw[ah0 a b]
  by_cases j:L.k=3
  .rw[al1 j]
  by_cases c:L.k=4
  .by_cases b:0<=L.n/\L.n<s.lg.length
   .exact absurd ⟨c,b.2⟩ f
   .rw[ah1 c b]
  rw[al4 i a j c]
def agG{c:Type}(q:c->Bool)(a:c->Int)(n:Int)(d:∀x,a x=n->q x=true):∀l:List c,(l.filter q).find? (λx=>a x ==n)=l.find? (λx=>a x ==n)
 |[]=>rfl
 |y::l=>by
  rw[rR];by_cases b:a y=n
  .rw[rh,dl (d y b),rR,show(a y ==n)=true from mx.2 b]
  .rw[show(a y ==n)=false from kw.2 b,<-agG q a n d l];by_cases e:q y=true
   .rw[rh,dl e,rR,show(a y ==n)=false from kw.2 b]
   .rw[rh,bd e]
def old{s:ib}(h:fZ s){i : Nat}{x:Hd}(n:k<=s.lg.length)(m:i<k)(c:s.lg[i]?=some x):adn 7 (jL s ⟨2,k,0,⟨#[]⟩⟩) x.s=adn 7 s x.s/\(jL s ⟨2,k,0,⟨#[]⟩⟩).lg=s.lg.take k:=by
 rw[ae8 rfl ⟨by show(0:Int)<=k;omega,by show(k:Int)<=_;omega⟩];refine⟨?_,rfl⟩;unfold adn;show(match(s.sn.filter λy=>!((s.lg.drop k).any λh=>h.s ==y.no)).find? (λy=>y.no ==x.s) with|some y=>dD 7 (bV s.pk) y.all|none=>none)=_
 suffices abK:∀y:Sn,y.no=x.s->(!((s.lg.drop k).any λh=>h.s ==y.no))=true by
  rw[agG _ (λy:Sn=>y.no) x.s abK s.sn];all_goals(cases s.sn.find? (λy=>y.no ==x.s)<;>rfl)
 intro y a;have a:y.no=x.s:=a;rw[a,tL,<-bv,tW];rintro⟨z,l,d⟩;have d:=mx.1 d;obtain⟨j,b⟩:=qT l;rw[ur] at b;have e:=pv.1 h.asc i (k+j) (aI c) (aI b) (by omega);have f:=(jt.1 c).2;have g:=(jt.1 b).2;rw[f,g] at e;omega
end
section
variable {β:Bool}
open Go.RowKit
def lG:∀(a b:List UInt8),(Op.bytesLess a b||a ==b)=!(Op.bytesLess b a)
 |[],[]=>by simp[Op.bytesLess]
 |[],_::_=>by simp[Op.bytesLess]
 |_::_,[]=>by simp[Op.bytesLess]
 |x::a,y::b=>by
  have j:=lG a b;by_cases i:x.toNat<y.toNat
  .have c:decide (x<y)=true:=dq (qL.2 i);have g:decide (y<x)=false:=da λh=>by have:=qL.1 h;omega
   have d:(y ==x)=false:=kw.2 λh=>by rw[h] at i;omega
   simp[Op.bytesLess,c,g,d]
  .by_cases e:y.toNat<x.toNat
   .have c:decide (y<x)=true:=dq (qL.2 e);have g:decide (x<y)=false:=da λh=>by have:=qL.1 h;omega
    have d:(x ==y)=false:=kw.2 λh=>by rw[h] at e;omega
    have f:(x::a ==y::b)=false:=kw.2 λh=>by rw[qz] at h;rw[h.1] at e;omega
    rw[f];simp[Op.bytesLess,c,g,d]
   .obtain rfl:x=y:=rN.1 (by omega);have c:decide (x<x)=false:=da λh=>by have:=qL.1 h;omega
    have f:(x::a ==x::b)=(a ==b):=by rw[List.cons_beq_cons,rF,tQ]
    rw[f];simp only[Op.bytesLess,c,tR,rF,tQ];exact j
def agH(s:ByteArray):bs s=s.toList.map UInt8.toNat:=by rw[qo];rfl
def jr(h:k<s.size):s.toList[k]?=some (s[k]'h):=by
 rw[qo,ef];exact fi h
def kF(s:ByteArray):s.toList.length=s.size:=by rw[qo,qJ];rfl
def agI(h:fX s=true):(∃a,s.toList=[a])\/∃a c,s.toList=[a,47,c]:=by
 have e:=kF s;unfold fX at h;split at h
 .rename_i i;left;rw[i] at e;obtain⟨a,g⟩:=sP.1 e;exact⟨a,g⟩
 .split at h
  .rename_i j;right;simp only[fb,qq] at h;have d:=jr (s:=s) (k:=1) (by omega);have f:s[1]'(by omega)=47:=rN.1 (by rw[h.2.1];rfl);rw[f] at d;rw[j] at e
   match hs:s.toList,e,d with
   |[a,b,c],_,d=>
    simp at d;subst d;exact⟨a,c,rfl⟩
  .cases h
def amg{a b:UInt8}{x y:List UInt8}(j:g.toList=a::x)(e:f.toList=b::y):iQ g f=(decide (x.length≠y.length)&&(a ==b)):=by
 have l:=kF g;have i:=kF f;rw[j] at l;rw[e] at i;simp only[mp] at l i;have c:=jr (s:=g) (k:=0) (by omega);have d:=jr (s:=f) (k:=0) (by omega);rw[j] at c;rw[e] at d;simp only[sx,lw] at c d;unfold iQ;rw[sU ⟨by omega,by omega⟩];by_cases h:g.size=f.size
 .rw[dl h,da (by omega),tC]
 .rw[bd h,dq (by omega),tQ,<-c,<-d,oi,mx,mx,<-rN];omega
def agJ(n:fX g=true)(m:fX f=true)(k:Op.bytesLess g.toList f.toList=true):pC g f=iQ g f:=by
 have e:pC g f=(g.toList++[47]).isPrefixOf f.toList:=by
  unfold pC;rw[agH,agH];generalize g.toList=x;generalize f.toList=y;have l:([47]:List Nat)=[(47:UInt8)].map UInt8.toNat:=rfl;rw[l,<-oR];generalize x++[47]=x
  induction x generalizing y with
  |nil=>rfl
  |cons a x o=>
   cases y with
   |nil=>rfl
   |cons b y=>
    simp only[pK,List.isPrefixOf_cons₂,o]
    congr 1
    rw[oi,mx,mx,rN]
 rw[e];rcases agI n with⟨a,i⟩|⟨a,c,i⟩<;>rcases agI m with⟨b,j⟩|⟨b,d,j⟩<;>rw[amg i j,i,j]
 .simp[List.isPrefixOf]
 .simp[List.isPrefixOf]
 .rw[i,j] at k;have:(a ==b)=false:=by
   simp[Op.bytesLess] at k;exact kw.2 λh=>by rw[h,qL] at k;omega
  simp[List.isPrefixOf,this]
 .simp[List.isPrefixOf]
def acI{t:List Nd}:agD t↔agA t:=by
 unfold agD agA anN;constructor
 .rintro⟨d,h⟩;refine⟨d,λi x a=>⟨(h i x a).1,(h i x a).2.1,λk y c b=> ?_⟩⟩;rw[<-agJ (h k y b).1.1 (h i x a).1.1 (adX (λi x a=>(h i x a).2.1) (i-k-1) k (by rw[show k+(i-k-1)+1=i by omega];exact a) b)];exact(h i x a).2.2 k y c b
 .rintro⟨d,h⟩;refine⟨d,λi x a=>⟨(h i x a).1,(h i x a).2.1,λk y c b=> ?_⟩⟩;rw[agJ (h k y b).1.1 (h i x a).1.1 (adX (λi x a=>(h i x a).2.1) (i-k-1) k (by rw[show k+(i-k-1)+1=i by omega];exact a) b)];exact(h i x a).2.2 k y c b
end
section
variable {β:Bool}
open Go.RowKit
def auT{l:List Pk}(h:l.Pairwise λa b=>a.no<b.no):∀p∈l,p.no<om l:=by
 intro p j;unfold om;obtain⟨z,c,e⟩:=vU (l:=l) (uU j);rw[e];show p.no<z.no+1;obtain⟨i,d⟩:=qT j;have g:=aI d;rcases nf i (l.length-1) with f|k
 .have:=pv.1 h i (l.length-1) g (by omega) f;rw[(jt.1 d).2,(jt.1 c).2] at this;omega
 .have:i=l.length-1:=by omega
  subst this;rw[c] at d;cases d;omega
def afc(key:Int):∀(n:Nat) (no:Int) (l:List ByteArray),l.length<=n->(jD key no l).Pairwise λa b=>a.no<b.no
 |0,no,l,h=>by rw[pI.1 (by omega:l.length=0),iR];exact .nil
 |n+1,no,l,h=>by
  rcases mu l.length with c|c
  .rw[pI.1 c,iR];exact .nil
  .rw[oq key no c];refine .cons (λp d=> ?_) (afc key n (no+1) (l.drop 4) (by rw[pU];omega));have:=(kE key n (no+1) (l.drop 4) (by rw[pU];omega) p d).1;show no<p.no;omega
def fZ.av6{s:ib}(h:fZ s):s.pk.Pairwise λa b=>a.no<b.no:=by
 induction h with
 |nil=>exact .nil
 |save l k j g c=>
  refine rV.2 ⟨c,afc 7 _ _ _ (am _),λp d q e=> ?_⟩;have i:=auT c p d;have f:=(kE 7 _ _ _ (am _) q e).1;omega
def auU{s:ib}(h:s.sn.Pairwise λa b=>a.no<b.no):∀x∈s.sn,x.no<lF s:=by
 intro p k;obtain⟨z,c,e⟩:=vU (l:=s.sn) (uU k);have g:z.no<lF s:=by
  unfold lF;rw[e];show z.no<max (adl s.lg) (z.no+1);omega
 obtain⟨i,d⟩:=qT k;have j:=aI d;rcases nf i (s.sn.length-1) with f|m
 .have:=pv.1 h i (s.sn.length-1) j (by omega) f;rw[(jt.1 d).2,(jt.1 c).2] at this;omega
 .have:i=s.sn.length-1:=by omega
  subst this;rw[c] at d;cases d;exact g
def fZ.azH{s:ib}(h:fZ s):s.sn.Pairwise λa b=>a.no<b.no:=by
 induction h with
 |nil=>exact .nil
 |save j i g f c=>
  refine rV.2 ⟨c,su _ _,λx e y d=> ?_⟩;rw[ga.1 d];exact auU c x e
def agK{d:Type}(c:d->Int):∀{l:List d} {x:d},l.Pairwise (λa b=>c a<c b)->x∈l->l.find? (λy=>c y ==c x)=some x
 |[],_,_,h=>by cases h
 |y::l,x,hp,h=>by
  rw[rR];rcases lE.1 h with rfl|h
  .rw[rF]
  .have e:=(List.pairwise_cons.1 hp).1 x h;rw[show(c y ==c x)=false from kw.2 (by omega)];exact agK c (List.pairwise_cons.1 hp).2 h
def eC(l:List Pk):List Int:=l.flatMap λp=>p.its.map (·.n)
def ah5(l:List Pk):eC l=(adb l).map (·.n):=by
 unfold eC adb arZ;rw[List.map_flatMap]
 congr 1
 funext p
 rw[tp];rfl
def afd{n:Int}:∀{a:List Sp} {l:List Sp},(∀x∈a,¬x.p=0)->(∃x∈a,x.n=n)\/¬gV n l=0->¬gV n (agy a l)=0
 |[],l,_,h=>by
  rcases h with⟨x,b,_⟩|h
  .cases b
  .exact h
 |y::a,l,hz,h=>by
  show ¬gV n (agy a (ahM y l))=0;refine afd (λx b=>hz x (by simp[b])) ?_;rw[acD];by_cases c:y.n=n
  .rw[dl c];exact .inr (hz y (by simp))
  .rw[bd c];rcases h with⟨x,b,d⟩|h
   .rcases lE.1 b with rfl|b
    .exact absurd d c
    .exact .inl ⟨x,b,d⟩
   .exact .inr h
def afe{n:Int}:∀{a:List Sp} {l:List Sp},(∀x∈a,¬x.n=n)->gV n (agy a l)=gV n l
 |[],l,_=>rfl
 |y::a,l,h=>by
  show gV n (agy a (ahM y l))=_;rw[afe λx b=>h x (by simp[b]),acD,bd (h y (by simp))]
def anR{l:List Pk}(h:∀s∈adb l,spP s){n:Int}:gV n (al5 l)=0↔n∉eC l:=by
 unfold al5;rw[dl h,ah5];constructor
 .intro d a;obtain⟨x,b,rfl⟩:=lP.1 a;exact afd (l:=[]) (λy c=>by have:=(h y c).2;omega) (.inl ⟨x,b,rfl⟩) d
 .intro a;rw[afe (l:=[]) λx b e=>a (lP.2 ⟨x,b,e⟩)];rfl
def afO{ix:List Sp}{o:List ByteArray}{p:ByteArray}(h:o.Nodup):(jb key ix o p).Nodup:=by
 unfold jb;split
 .rename_i d;exact qW.2 ⟨h,by simp,λa c b f e=>by rw[ga.1 f] at e;rw[e] at c;exact d.2 c⟩
 .exact h
def aff{key:Int}{ix:List Sp}:∀{l o:List ByteArray},o.Nodup->(al0 key ix o l).Nodup
 |[],_,h=>h
 |p::l,o,h=>aff (l:=l) (afO h)
def aj0{key:Int}{ix:List Sp}{x:ByteArray}:∀{l o:List ByteArray},x∈o->x∈al0 key ix o l
 |[],_,h=>h
 |p::l,o,h=>aj0 (l:=l) (by
  unfold jb;split
  .exact rv _ h
  .exact h)
def agL{key:Int}{ix:List Sp}{x:ByteArray}:∀{l o:List ByteArray},(x∈o->gV (cq key (bs x)) ix=0)->x∈al0 key ix o l->gV (cq key (bs x)) ix=0
 |[],_,h,hx=>h hx
 |p::l,o,h,hx=>agL (l:=l) (o:=jb key ix o p) (λa=>by
  unfold jb at a;split at a
  .rename_i b;rcases gt.1 a with a|a
   .exact h a
   .rw[ga.1 a];exact b.1
  .exact h a) hx
def aj1{key:Int}{ix:List Sp}:∀{l o:List ByteArray},∀p∈l,¬gV (cq key (bs p)) ix=0\/p∈al0 key ix o l
 |[],_,p,h=>by cases h
 |q::l,o,p,h=>by
  show _\/p∈al0 key ix (jb key ix o q) l;rcases lE.1 h with rfl|h
  .by_cases b:gV (cq key (bs p)) ix=0
   .refine .inr (aj0 ?_);unfold jb;by_cases a:p∈o
    .rw[bd λc=>c.2 a];exact a
    .rw[dl ⟨b,a⟩];simp
   .exact .inl b
  .exact aj1 p h
def apn(x:It):∀l:List It,(ajR x l).Perm (x::l):=by
 intro l
 induction l with
 |nil=>exact .refl _
 |cons y l a=>
  unfold ajR;split
  .exact .refl _
  .exact((a.cons y).trans (.swap _ _ _))
def amh(key:Int)(l:List ByteArray):(oh key l).Perm (l.map (og key)):=by
 induction l using kS with
 |h0=>exact .refl _
 |h1 l s a=>
  rw[aaU,oR];exact(apn _ _).trans ((a.cons _).trans (by simpa using(List.perm_append_singleton (og key s) (l.map (og key))).symm))
def ab2(key:Int):∀(n:Nat) (no:Int) (l:List ByteArray),l.length<=n->(eC (jD key no l)).Perm (l.map λp=>cq key (bs p))
 |0,no,l,h=>by rw[pI.1 (by omega:l.length=0),iR];exact .refl _
 |n+1,no,l,h=>by
  rcases mu l.length with a|a
  .rw[pI.1 a,iR];exact .refl _
  .rw[oq key no a];have c:=ab2 key n (no+1) (l.drop 4) (by rw[pU];omega);have d:((oh key (l.take 4)).map (·.n)).Perm ((l.take 4).map λp=>cq key (bs p)):=by
    have:=(amh key (l.take 4)).map (·.n);rw[tp] at this;exact this
   have b:=d.append c;rw[<-oR,pJ] at b;exact b
def agM{d β:Type}{f:d->β}:∀{l:List d},l.Nodup->(∀x∈l,∀y∈l,f x=f y->x=y)->(l.map f).Nodup
 |[],_,_=>.nil
 |x::l,h,hf=>by
  obtain⟨k,j⟩:=sF.1 h;refine sF.2 ⟨λg=> ?_,agM j λa i b m=>hf a (by simp[i]) b (by simp[m])⟩;obtain⟨y,c,e⟩:=lP.1 g;exact k (hf x (by simp) y (by simp[c]) e.symm▸c)
def fZ.adb{s:ib}(h:fZ s):∀x∈adb s.pk,spP x:=λx a=>by
 obtain⟨p,b,a⟩:=pb.1 a;obtain⟨y,c,rfl⟩:=lP.1 a;have e:=(h.wf.pn p b).1;obtain⟨q,d,f⟩:=h.items p b y c;have:=ajl (key:=7) (l:=q);exact⟨by show 0<=y.n/\y.n<=_;omega,by show 1<=p.no/\p.no<=99;omega⟩
structure Whole (s:ib):Prop where
 once:(eC s.pk).Nodup
 trees:∀x∈s.sn,∃t,alZ t/\x=av4 x.no 7 t/\∀f∈t,∀p∈gI f.b,cq 7 (bs p)∈eC s.pk
def fZ.whole{s:ib}(h:fZ s):Whole s:=by
 induction h with
 |nil=>exact⟨.nil,λx d=>(by cases d)⟩
 |@save s b t C G r H u=>
  have m:=C.adb;have k:=aaV (key:=7) (ix:=al5 s.pk) (acH r);have i:=ab2 7 _ (om s.pk) (auN 7 (al5 s.pk) t) (am _);have g:eC (al6 7 s b t).pk=eC s.pk++eC (acG 7 s t):=by
   show eC (s.pk++acG 7 s t)=_;unfold eC;rw[qI]
  refine⟨?_,λx d=> ?_⟩
  .rw[g];refine qW.2 ⟨u.once, ?_,λa E c F e=> ?_⟩
   .refine i.nodup_iff.2 (agM (aff .nil) λx d y A e=>jA (aaW (k x d) (k y A) e))
   .subst e;obtain⟨p,j,rfl⟩:=lP.1 (i.mem_iff.1 F);exact(anR m).1 (agL (l:=anO t) (o:=[]) (λh=>by cases h) j) E
  .rcases gt.1 d with d|d
   .obtain⟨w,z,v,B⟩:=u.trees x d;exact⟨w,z,v,λf q p j=>by rw[g];exact rv _ (B f q p j)⟩
   .rw[ga.1 d];refine⟨t,r,rfl,λf q p j=> ?_⟩;rw[g];rcases aj1 (key:=7) (ix:=al5 s.pk) (o:=[]) p (pb.2 ⟨f,q,j⟩:p∈anO t) with n|n
    .refine rv _ (qb λD=>n ((anR m).2 D))
    .exact qM _ (i.mem_iff.2 (lP.2 ⟨p,n,rfl⟩))
end
section
variable {β:Bool}
open Go.RowKit
def apo{b:ByteArray}(h:eB b=true):eR (gI b)=(b,true):=by
 unfold eR;rw[ape,avT,dl ⟨h,rfl⟩]
def agN{nm:Int}:∀{l:List (Int×ByteArray)},(∃x∈l,x.1=nm)->∃k:Nat,dO nm l=k
 |[],⟨x,a,_⟩=>by cases a
 |y::l,⟨x,a,e⟩=>by
  show ∃k:Nat,(if y.1=nm then 0 else let j:=dO nm l;if j<0 then -1 else j+1:Int)=k;by_cases b:y.1=nm
  .rw[dl b];exact⟨0,rfl⟩
  .rw[bd b];rcases lE.1 a with rfl|a
   .exact absurd e b
   .obtain⟨k,c⟩:=agN ⟨x,a,e⟩;refine⟨k+1, ?_⟩;show(if dO nm l<0 then -1 else dO nm l+1:Int)=_;rw[c,bd (by omega)];omega
def agO{l:List Pk}(d:∀p∈l,∀x∈p.its,eZ 7 x){nm:Int}:(bP 7 (bV l) nm).2=true↔nm∈eC l:=by
 rw[ma];constructor
 .rintro⟨p,a,g⟩;obtain⟨q,n,rfl⟩:=lP.1 a;obtain⟨k,x, -,b,f, -⟩:=afa g;rw[ah3] at b;obtain⟨y,c,rfl⟩:=io.1 b;exact pb.2 ⟨q,n,lP.2 ⟨y,be c,f⟩⟩
 .intro h;obtain⟨p,a,j⟩:=pb.1 h;obtain⟨x,i,e⟩:=lP.1 j;obtain⟨k,m⟩:=agN (nm:=nm) (l:=(pkd p).2) ⟨(x.n,x.b),lP.2 ⟨x,i,rfl⟩,e⟩;exact⟨pkd p,th a,afb (d p a) m⟩
def adq{l:List Pk}(f:∀p∈l,∀x∈p.its,eZ 7 x){p:ByteArray}(d:aZ (bs p))(h:cq 7 (bs p)∈eC l):bP 7 (bV l) (cq 7 (bs p))=(p,true):=by
 have c:=(agO f).2 h;obtain⟨a,b⟩:=iT c;have e:=jA (aaW a d b);generalize bP 7 (bV l) (cq 7 (bs p))=r at c e;obtain⟨i,g⟩:=r;dsimp only at c e;rw[c,e]
def apq{l:List Pk}(d:∀p∈l,∀x∈p.its,eZ 7 x){f:Nd}(c:ahX f)(h:∀p∈gI f.b,cq 7 (bs p)∈eC l):gb 7 (bV l) (iu 7 f)=some f:=by
 have b:=mM (gW c.2).2;have g:ajX 7 (bV l) (iu 7 f).ns:=λn i=>by
  obtain⟨p,a,rfl⟩:=lP.1 i;rw[adq d (b p a) (h p a)]
 have e:fB 7 (bV l) (iu 7 f).ns=gI f.b:=by
  unfold fB iu;rw[tp]
  conv=>rhs;rw[<-List.map_id (gI f.b)]
  exact ul λp a=>by
   show(bP 7 (bV l) (cq 7 (bs p))).1=p;rw[adq d (b p a) (h p a)]
 unfold gb;rw[e,apo c.2,dl ⟨g,rfl⟩];rfl
def apr{l:List Pk}(e:∀p∈l,∀x∈p.its,eZ 7 x){t:List Nd}(b:alZ t)(h:∀f∈t,∀p∈gI f.b,cq 7 (bs p)∈eC l):dD 7 (bV l) (t.map (iu 7))=some t:=by
 have c:∀f∈t,gb 7 (bV l) (iu 7 f)=some f:=λf a=>apq e (b.1 f a) (h f a);have d:dm 7 (bV l) (t.map (iu 7))=t:=by
  clear h b;unfold dm
  induction t with
  |nil=>rfl
  |cons f t k=>
   rw[pK,um,c f (by simp)];show f::_=_;rw[k λg i=>c g (by simp[i])]
 unfold dD;rw[d,dl ⟨λx j=>by
  obtain⟨f,a,rfl⟩:=lP.1 j;rw[c f a];rfl,acI.2 (asf.2 b)⟩]
def amj{l:List Pk}(c:∀p∈l,∀x∈p.its,eZ 7 x){n:Int}(d:x∈xs)(e:n∈x.ns)(h:n∉eC l):dD 7 (bV l) xs=none:=by
 unfold dD;rw[bd];rintro⟨a, -⟩;have a:=a x d;unfold gb at a;split at a
 .rename_i b;exact h ((agO c).1 (b.1 n e))
 .cases a
def av7(s:ib)(no:Int):ib:=jL s ⟨1,no,0,⟨#[]⟩⟩
def df(x:Sn):List Int:=x.all.flatMap λy=>y.ns
def afg{l:List Pk}(v:l.Pairwise λa b=>a.no<b.no)(B:(eC l).Nodup)(o:p∈l){n:Int} :
  n∈eC (l.filter λq=>!(q.no ==p.no))↔n∈eC l/\n∉p.its.map (·.n):=by
 constructor
 .intro h;obtain⟨q,d,k⟩:=pb.1 h;obtain⟨g,c⟩:=rQ.1 d;have c:q.no≠p.no:=by simpa using c
  refine⟨pb.2 ⟨q,g,k⟩,λs=>c ?_⟩;clear v c h d
  induction l with
  |nil=>cases g
  |cons y l C=>
   obtain⟨D,A,w⟩:=qW.1 (show(y.its.map (·.n)++eC l).Nodup from B);rcases lE.1 g with rfl|d<;>rcases lE.1 o with rfl|o
   .rfl
   .exact absurd rfl (w n k n (pb.2 ⟨p,o,s⟩))
   .exact absurd rfl (w n s n (pb.2 ⟨q,d,k⟩))
   .exact C A o d
 .rintro⟨h,s⟩;obtain⟨q,d,k⟩:=pb.1 h;refine pb.2 ⟨q,rQ.2 ⟨d, ?_⟩,k⟩;rw[tL,kw];intro e;have:q=p:=by
   obtain⟨i,x⟩:=qT d;obtain⟨j,z⟩:=qT o;have r:=aI x;have m:=aI z;have u:=(jt.1 x).2;have t:=(jt.1 z).2;rcases tH i j with f|rfl|f
   .have:=pv.1 v i j r m f;rw[u,t] at this;omega
   .rw[<-u,<-t]
   .have:=pv.1 v j i m r f;rw[u,t] at this;omega
  exact s (this▸k)
def other{s:ib}(h:fZ s)(k:p∈s.pk){x:Sn}(r:x∈s.sn):(adn 7 (av7 s p.no) x.no).isSome=true↔∀n∈df x,n∉p.its.map (·.n):=by
 have d:=h.whole;obtain⟨t,w,i,z⟩:=d.trees x r;have e:av7 s p.no=⟨s.pk.filter λq=>!(q.no ==p.no),s.sn,s.lg⟩:=ahZ rfl;have m:∀q∈s.pk.filter λq=>!(q.no ==p.no),∀y∈q.its,eZ 7 y:=λq c=>h.items q (rQ.1 c).1;have a:x.all=t.map (iu 7):=by rw[i];rfl
 rw[e];unfold adn;show(match s.sn.find? (λy=>y.no ==x.no) with|some y=>dD 7 (bV _) y.all|none=>none:Option (List Nd)).isSome=true↔_;rw[agK (λy:Sn=>y.no) h.azH r];show(dD 7 (bV (s.pk.filter λq=>!(q.no ==p.no))) x.all).isSome=true↔_;constructor
 .intro o n A j;obtain⟨y,u,g⟩:=pb.1 A;rw[amj m u g λv=>((afg h.av6 d.once k).1 v).2 j] at o;cases o
 .intro b;rw[a,apr m w λf l q c=>(afg h.av6 d.once k).2 ⟨z f l q c,b _ (pb.2 ⟨iu 7 f,by rw[a];exact th l,lP.2 ⟨q,c,rfl⟩⟩)⟩];rfl
end
section
variable {β:Bool}
open Go.RowKit
def mb(s:ByteArray)(f:s.size<=maxLen)(w:World) :
  Calls (ah β) 152 #[.string s] w λe d=>e=.returned (.bool (eB s))/\w=d:=by
 by_cases b:s.size<=40
 .have a:(bs s).all nu=eB s:=by unfold eB;rw[dq b,tQ]
  replace a:=ab a;have c:=dq (show(s.size:Int)<=40 by omega);go_enter wR,ntmps152;go_wp2;refine(ags s f w).mono ?_;rintro e g ⟨rfl,rfl⟩;rw[a.out];go_wp2;go_ret;exact⟨rfl,rfl⟩
 .have c:=da (show ¬((s.size:Int)<=40) by omega);have e:eB s=false:=by unfold eB;rw[da b,tC]
  rw[e];clear e;go_enter wR,ntmps152;go_wp2;go_ret;exact⟨rfl,rfl⟩
def amk(s:ByteArray)(p:Nat)(v:3<=p/\p<s.size)(r:s.size<=maxLen)(w:World) :
  Calls (ah β) 232 #[.string s,.int .i64 p] w λe o=>e=.returned (.bool (oc (bs s) p))/\Below w.heap.size w o:=by
 unfold maxLen at r;obtain⟨a,l⟩:∃a,a=p-1:=⟨_,rfl⟩;obtain⟨b,j⟩:∃b,b=p-2:=⟨_,rfl⟩;obtain⟨c,n⟩:∃c,c=p-3:=⟨_,rfl⟩;have m:a<s.size:=by omega
 have g:b<s.size:=by omega
 have i:c<s.size:=by omega
 have y:(p:Int)-1=((a:Nat):Int):=by omega
 have x:(p:Int)-2=((b:Nat):Int):=by omega
 have z:(p:Int)-3=((c:Nat):Int):=by omega
 have t:(p:Int)<=9223372036854775807:=by omega
 have k:oc (bs s) p=((dig (s[a]'m).toNat+2*dig (s[b]'g).toNat+3*dig (s[c]'i).toNat) % 5 ==0):=by unfold oc;rw[<-l,<-j,<-n,oY m,oY g,oY i]
 rw[k];clear l j n k;go_enter xY,ntmps232;go_wp2;refine fI 21 [0,1,2,3,4,5,6,7,8,9,10,11,12,13,14,15,16,17,18,19,20] [] (h:= ?_);simp only[pick,List.map,qG,qH];repeat(go_big_quiet_step (fail))
 refine ff ?_;apply Exists.intro;refine kr ?_;intro A u q d f;dsimp only[acz] at f;try rw[d] at f
 clear d q;simp only[List.drop];clear f;go_wp2;go_ret;exact⟨ak (by rw[oi];simp only[mx];unfold dig;omega),u⟩
def auV(s:ByteArray)(p:Nat)(C:p<s.size)(E:s.size<=1000000)(w:World) :
  Calls (ah β) 222 #[.string s,.int .i64 p] w λe v=>e=.returned (.int .i64 (nv (bs s) p:Nat))/\Below w.heap.size w v:=by
 have o:s.size<=maxLen:=by unfold maxLen;omega
 go_enter yd,ntmps222;go_wp2;go_loopw [5] (λr wr=>∃k f:Nat,k+f=8/\3<=k/\r=.int .i64 ((p+k:Nat):Int)/\nv (bs s) p=atF (bs s) p f k/\Below w.heap.size w wr) (λr _=>p+8-(intOf r).toNat)
 case atStart=>exact⟨3,5,rfl,by omega,by go_num,rfl,db _ _⟩
 case round=>
  obtain⟨k,f,z,D,rfl,b,g⟩:=hrel;replace b:=ab b;by_cases B:k<8
  .obtain⟨j,rfl⟩:∃j,f=j+1:=⟨f-1,by omega⟩;have a:atF (bs s) p (j+1) k=if s.size<=p+k then s.size else if oc (bs s) (p+k)=true then p+k else atF (bs s) p j (k+1):=by
    show(if(bs s).length<=p+k then(bs s).length else _)=_;rw[aN]
   have HS:=ab a;clear a;obtain⟨d,i⟩:∃m,m=p+k:=⟨_,rfl⟩;rw[<-i] at HS ⊢;have q:3<=d/\d<p+8:=by omega
   have x:=dq (show(d:Int)<(p:Int)+8 by omega);by_cases n:s.size<=d
   .have y:=da (show ¬(d<s.size) by omega);rw[dl n] at HS;have c:=ab (b.out.trans HS.out);have t:=da (show ¬((p:Int)+8<=(s.size:Int)) by omega);clear i;go_wp2;go_ret;exact⟨by rw[c.out];simp,g⟩
   .have y:=dq (show d<s.size by omega);rw[bd n] at HS;replace i:=ab i;go_wp2;refine(amk s d ⟨q.1,by omega⟩ o wr).mono ?_;rintro e A ⟨rfl,u⟩;cases l:oc (bs s) d with
    |true=>
     have c:=ab (b.out.trans (HS.out.trans (dl l)));clear l;go_wp2;go_ret;exact⟨by rw[c.out];rfl,ae g u⟩
    |false=>
     have c:=ab (b.out.trans (HS.out.trans (bd (by rw[l];exact pG))));clear l;go_wp2;go_roundw
     case rel=>exact⟨k+1,j,by omega,by omega,by have:=i.out;go_num,c.out,ae g u⟩
     simp[intOf];omega
  .obtain rfl:k=8:=by omega
   obtain rfl:f=0:=by omega
   have a:atF (bs s) p 0 8=min (p+8) s.size:=by
    show min (p+8) (bs s).length=_;rw[aN]
   have c:=ab (b.out.trans a);clear a b;have x:=da (show ¬(((p+8:Nat):Int)<(p:Int)+8) by omega);by_cases n:p+8<=s.size
   .have t:=dq (show(p:Int)+8<=(s.size:Int) by omega);rw[qy n] at c;go_wp2;go_ret;exact⟨by rw[c.out];simp,g⟩
   .have t:=da (show ¬((p:Int)+8<=(s.size:Int)) by omega);rw[Nat.min_eq_right (by omega)] at c;go_wp2;go_ret;exact⟨by rw[c.out];simp,g⟩
end
section
variable {β:Bool}
open Go.RowKit
def aj2(s:ByteArray)(w:World) :
  Calls (ah β) 239 #[.string s,.int .u8 47] w λe a=>e=.returned (.int .i64 (Lib.indexByte s.data.toList 47))/\w=a:=by
 go_enter xW,ntmps239;go_wp2;rw[run_callFunc_extern xV (by kernel_rfl) (by kernel_rfl) (by kernel_rfl) (e:=Extern.BytealgIndexByte.indexByte) (by kernel_rfl),Lib.run_indexByteString];simp only[Result.andThen];rw[Oper.upon_value];go_wp2;go_ret;exact⟨rfl,rfl⟩
noncomputable def aml:Code:=gP (f233.body.getD .skip)
def aBJ:Code->Code
 |.seq a _=>a
 |c=>c
def asl:Code->Code
 |.cond _ _ b=>b
 |c=>c
def axz:Code->Code
 |.block _ b=>b
 |c=>c
noncomputable def azI:Code:=bW (bW (bW aml))
noncomputable def azJ:Code:=asl (bW (asl (bW (axz (aBJ (bW (bW aml)))))))
noncomputable def xIx:Func:={f233 with body:=some ((Code.region 0 #[⟨some 4,Op.assign (Operand.const (Value.int IntKind.i64 0)),3,"strings.go:28",#[],none⟩] false).seq ((Code.region 1 #[⟨some 14,Op.move (Operand.tmp 1),9,"strings.go:29",#[],none⟩,⟨some 15,Op.call ⟨Callee.builtin Builtin.len,#[Operand.tmp 14],#[9]⟩,3,"strings.go:29",#[⟨0,Ground.data⟩],none⟩,⟨some 5,Op.assign (Operand.tmp 15),3,"strings.go:29",#[⟨1,Ground.data⟩,⟨0,Ground.phase⟩,⟨1,Ground.phase⟩],none⟩] false).seq ((Code.block 0 ((Code.region 2 #[⟨some 17,Op.move (Operand.tmp 5),3,"strings.go:31",#[],none⟩,⟨some 18,Op.binOp BinOp.eql 3 (Operand.tmp 17) (Operand.const (Value.int IntKind.i64 0)) 3,4,"strings.go:31",#[⟨0,Ground.data⟩],none⟩,⟨some 19,Op.move (Operand.tmp 18),4,"strings.go:31",#[⟨1,Ground.data⟩],none⟩,⟨some 20,Op.move (Operand.tmp 1),9,"strings.go:31",#[⟨2,Ground.guard⟩],some (2,false)⟩,⟨some 21,Op.move (Operand.tmp 0),9,"strings.go:31",#[⟨2,Ground.guard⟩],some (2,false)⟩,⟨some 22,Op.binOp BinOp.eql 9 (Operand.tmp 20) (Operand.tmp 21) 9,4,"strings.go:31",#[⟨3,Ground.data⟩,⟨4,Ground.data⟩,⟨2,Ground.guard⟩],some (2,false)⟩,⟨some 23,Op.pick (Operand.tmp 19) (Operand.const (Value.bool true)) (Operand.tmp 22),4,"strings.go:31",#[⟨2,Ground.data⟩,⟨5,Ground.data⟩],none⟩,⟨some 16,Op.assign (Operand.tmp 23),4,"strings.go:31",#[⟨6,Ground.data⟩,⟨2,Ground.chain⟩],none⟩] false).seq (Code.cond (Operand.tmp 16) ((Code.region 3 #[⟨some 4,Op.assign (Operand.const (Value.int IntKind.i64 0)),3,"strings.go:32",#[],none⟩] false).seq Code.ret) ((Code.region 4 #[⟨some 25,Op.move (Operand.tmp 5),3,"strings.go:33",#[],none⟩,⟨some 26,Op.binOp BinOp.eql 3 (Operand.tmp 25) (Operand.const (Value.int IntKind.i64 1)) 3,4,"strings.go:33",#[⟨0,Ground.data⟩],none⟩,⟨some 24,Op.assign (Operand.tmp 26),4,"strings.go:33",#[⟨1,Ground.data⟩],none⟩] false).seq (Code.cond (Operand.tmp 24) ((Code.region 5 #[⟨some 27,Op.move (Operand.tmp 0),9,"strings.go:34",#[],none⟩,⟨some 28,Op.move (Operand.tmp 1),9,"strings.go:34",#[],none⟩,⟨some 29,Op.index 9 (Operand.tmp 28) (Operand.const (Value.int IntKind.i64 0)),5,"strings.go:34",#[⟨1,Ground.data⟩],none⟩,⟨some 30,Op.call ⟨Callee.value (Operand.func 239),#[Operand.tmp 27,Operand.tmp 29],#[9,5]⟩,3,"strings.go:34",#[⟨0,Ground.data⟩,⟨2,Ground.data⟩],none⟩,⟨some 4,Op.assign (Operand.tmp 30),3,"strings.go:34",#[⟨3,Ground.data⟩,⟨3,Ground.chain⟩,⟨0,Ground.phase⟩,⟨1,Ground.phase⟩,⟨2,Ground.phase⟩,⟨3,Ground.phase⟩],none⟩] false).seq Code.ret) azJ))))).seq azI)))}
def asm:f233.body.map gP=xIx.body:=by
 unfold xIx azJ azI aml gP
 kernel_rfl
def amm:(ah β).funcs[233]?=some xIx:=by
 refine(akB β (by decide) (by decide)).trans ?_;have e:Option.map pf (prog.funcs[233]?)=Option.map pf (some f233):=fa _ func233;rw[e,pZ];unfold pf;rw[asm];rfl
@[go_sem] theorem azK(args:Array Value)(w:World):(callFunc 233 args).run (ah β) w=.ok (.enter 233 args) w:=by
 have a:=cA func233;exact jY amm a rfl args w
def auW(s:ByteArray)(w:World) :
  Calls (ah β) 233 #[.string s,.string ⟨#[47]⟩] w λe g=>e=.returned (.int .i64 (Lib.indexByte s.data.toList 47))/\w=g:=by
 have d:xIx.ntmps=143:=ntmps233;have c:xIx.results=#[.tmp 4]:=results233;by_cases a:s.toList=[47]
 .have f:([47] ==s.toList)=true:=by rw[a];rfl
  have b:Lib.indexByte s.data.toList 47=0:=by
   rw[show s.data.toList=s.toList by rw[qo],a];rfl
  replace b:=ab b;clear a;go_enter amm,d;go_wp2;exact pN (v:=.int .i64 0) (by simp[results,c,go_sem]) rfl ⟨by rw[b.out],rfl⟩
 .have f:([47] ==s.toList)=false:=kw.2 λe=>a e.symm;clear a;go_enter amm,d;go_wp2;refine(aj2 s w).mono ?_;rintro e i ⟨rfl,rfl⟩;go_wp2;exact pN (v:=.int .i64 (Lib.indexByte s.data.toList 47)) (by simp[results,c,go_sem]) rfl ⟨rfl,rfl⟩
open Classical in
noncomputable def cX(s:ByteArray):ByteArray×ByteArray×Bool:=if Lib.indexByte s.data.toList 47<0 then(s,⟨#[]⟩,false) else(s.extract 0 (Lib.indexByte s.data.toList 47).toNat,s.extract ((Lib.indexByte s.data.toList 47).toNat+1) s.size,true)
def aj3(s:ByteArray):Lib.indexByte s.data.toList 47=-1\/∃k:Nat,Lib.indexByte s.data.toList 47=k/\k<s.size:=by
 rcases Int.lt_or_le (Lib.indexByte s.data.toList 47) 0 with h|h
 .left;have:=Lib.indexByte_ge s.data.toList 47;omega
 .right;obtain⟨k,a⟩:=Int.eq_ofNat_of_zero_le h;refine⟨k,a, ?_⟩;have:=aI (Lib.indexByte_some a).1;rw[qJ] at this;exact this
def axA(s:ByteArray)(j:s.size<=maxLen)(w:World) :
  Calls (ah β) 223 #[.string s,.string ⟨#[47]⟩] w λe g=>e=.returned (.tuple #[.string (cX s).1,.string (cX s).2.1,.bool (cX s).2.2])/\Below w.heap.size w g:=by
 unfold maxLen at j;have HC:=ab (auW (β:=β) s w);rcases aj3 s with h|⟨k,h,n⟩
 .have b:cX s=(s,⟨#[]⟩,false):=by unfold cX;rw[dl (by omega)]
  have c:=ab b;clear b;rw[h] at HC;clear h;go_enter wM,ntmps223;go_wp2;refine HC.out.mono ?_;rintro e f ⟨rfl,rfl⟩;go_wp2
  go_ret3
  rw[c.out];exact⟨rfl,db _ _⟩
 .have b:cX s=(s.extract 0 k,s.extract (k+1) s.size,true):=by unfold cX;rw[bd (by omega),h];rfl
  have c:=ab b;clear b;rw[h] at HC;have m:=dq (show 0<=(k:Int) by omega);clear h;go_enter wM,ntmps223;go_wp2;refine HC.out.mono ?_;rintro e f ⟨rfl,rfl⟩;go_wp2;refine fI 12 [0,1,2,3,4,5,6,7,8,9,10,11] [] (h:= ?_);simp only[pick,List.map,qG,qH];repeat(go_big_quiet_step (fail))
  refine ff ?_;apply Exists.intro;refine kr ?_;intro o l i a d;dsimp only[acz] at d;try rw[a] at d
  clear a i;simp only[List.drop];clear d;go_wp2
  go_ret3
  rw[c.out];exact⟨rfl,l⟩
def azL(s:ByteArray)(c:s.size<=maxLen)(w:World) :
  Calls (ah β) 200 #[.string s,.string ⟨#[47]⟩] w λe a=>e=.returned (.tuple #[.string (cX s).1,.string (cX s).2.1,.bool (cX s).2.2])/\Below w.heap.size w a:=by
 go_enter yk,ntmps200;go_wp2;refine(axA s c w).mono ?_;rintro e d ⟨rfl,b⟩;go_wp2
 go_ret3
 exact⟨rfl,b⟩
def ab3(s:ByteArray):Bool:=if h:s.size=1 then nm (s[0]'(by omega)).toNat else false
def ot(s:ByteArray)(m:s.size<=maxLen)(w:World) :
  Calls (ah β) 201 #[.string s] w λe l=>e=.returned (.bool (ab3 s))/\w=l:=by
 unfold maxLen at m;by_cases d:s.size=1
 .have a:0<s.size:=by omega
  have k:((s.size:Int) ==1)=true:=by rw[d];rfl
  have b:ab3 s=nm (s[0]'a).toNat:=by unfold ab3;rw[sU d]
  rw[b];clear b;by_cases g:97<=(s[0]'a).toNat
  .by_cases i:(s[0]'a).toNat<=101
   .have e:nm (s[0]'a).toNat=true:=by unfold nm;rw[dq g,dq i];rfl
    have c:=ab e;clear e;have j:=dq (show((s[0]'a).toNat:Int)<=101 by omega);have f:=dq (show 97<=((s[0]'a).toNat:Int) by omega);go_enter vN,ntmps201;go_wp2;go_ret;exact⟨by rw[c.out];rfl,rfl⟩
   .have e:nm (s[0]'a).toNat=false:=by unfold nm;rw[da i,Bool.and_false]
    have c:=ab e;clear e;have j:=da (show ¬(((s[0]'a).toNat:Int)<=101) by omega);have f:=dq (show 97<=((s[0]'a).toNat:Int) by omega);go_enter vN,ntmps201;go_wp2;go_ret;exact⟨by rw[c.out];rfl,rfl⟩
  .have e:nm (s[0]'a).toNat=false:=by unfold nm;rw[da g,tC]
   have c:=ab e;clear e;have f:=da (show ¬(97<=((s[0]'a).toNat:Int)) by omega);go_enter vN,ntmps201;go_wp2;go_ret;exact⟨by rw[c.out];rfl,rfl⟩
 .have k:((s.size:Int) ==1)=false:=kw.2 (by omega);have b:ab3 s=false:=by unfold ab3;rw[dif_neg d]
  have n:=ab b;clear b;go_enter vN,ntmps201;go_wp2;go_ret;exact⟨by rw[n.out];rfl,rfl⟩
def acJ :ab3 s=match s.toList with|[a]=>nm a.toNat|_=>false:=by
 have c:=kF s;unfold ab3;split
 .rename_i h;rw[h] at c;obtain⟨a,d⟩:=sP.1 c;have:=jr (s:=s) (k:=0) (by omega);rw[d] at this ⊢;simp only[sx,lw] at this;rw[<-this]
 .rename_i h
  match hs:s.toList,c with
  |[],_=>rfl
  |[a],c=>exact absurd c.symm h
  |a::b::l,_=>rfl
def afh :fX s=match s.toList with|[a]=>nm a.toNat|[a,b,c]=>nm a.toNat&&(decide (b=47)&&nm c.toNat)|_=>false:=by
 have e:=kF s;unfold fX;split
 .rename_i h;rw[h] at e;obtain⟨a,m⟩:=sP.1 e;have:=jr (s:=s) (k:=0) (by omega);rw[m] at this ⊢;simp only[sx,lw] at this;rw[<-this]
 .rename_i n;split
  .rename_i j;have i:=jr (s:=s) (k:=0) (by omega);have g:=jr (s:=s) (k:=1) (by omega);have f:=jr (s:=s) (k:=2) (by omega)
   match hs:s.toList,e,i,g,f with
   |[a,b,c],_,i,g,f=>
    simp at i g f;show _=(nm a.toNat&&(decide (b=47)&&nm c.toNat));rw[i,g,f]
    congr 2
    rw[sY,<-rN];exact Iff.rfl
   |[],e,_,_,_=>simp at e;omega
   |[a],e,_,_,_=>simp at e;omega
   |[a,b],e,_,_,_=>simp at e;omega
   |a::b::c::d::l,e,_,_,_=>simp at e;omega
  .rename_i j
   match hs:s.toList,e with
   |[],_=>rfl
   |[a],e=>exact absurd e.symm n
   |[a,b],_=>rfl
   |[a,b,c],e=>exact absurd e.symm j
   |a::b::c::d::l,_=>rfl
def aj4(s:ByteArray)(a b:Nat):(s.extract a b).toList=(s.toList.take b).drop a:=by
 rw[qo,qo,uW,sZ,uF,List.take_drop];by_cases h:a<=b
 .congr 2;omega
 .have:b-a=0:=by omega
  rw[this,rK (by simp;omega),rK (by simp;omega)]
def aj5(s:ByteArray):fX s=(ab3 (cX s).1&&(!(cX s).2.2||ab3 (cX s).2.1)):=by
 have hd:s.data.toList=s.toList:=by rw[qo]
 rcases aj3 s with h|⟨k,h,f⟩
 .have i:cX s=(s,⟨#[]⟩,false):=by unfold cX;rw[dl (by omega)]
  rw[i];show _=(ab3 s&&true);rw[tS,acJ,afh];have m:=Lib.indexByte_none h;rw[hd] at m
  match hs:s.toList with
  |[]=>rfl
  |[a]=>rfl
  |[a,b]=>rfl
  |[a,b,c]=>
   have:=m 1;rw[hs] at this;have j:b≠47:=by simpa using this
   show(nm a.toNat&&(decide (b=47)&&nm c.toNat))=false;rw[da j];simp
  |a::b::c::d::l=>rfl
 .have i:cX s=(s.extract 0 k,s.extract (k+1) s.size,true):=by unfold cX;rw[bd (by omega),h];rfl
  rw[i];show _=(ab3 (s.extract 0 k)&&(false||ab3 (s.extract (k+1) s.size)));rw[tR,acJ,acJ,aj4,aj4,afh,qr,<-kF,dk];obtain⟨e,g⟩:=Lib.indexByte_some h;rw[hd] at e g;rw[<-kF] at f
  match hs:s.toList,k,e,g,f with
  |[],_,_,_,f=>simp at f
  |[a],0,e,_,_=>
   simp at e;subst e;rfl
  |[a],k+1,_,_,f=>simp at f
  |[a,b],0,_,_,_=>rfl
  |[a,b],1,_,_,_=>simp
  |[a,b],k+2,_,_,f=>simp at f;omega
  |[a,b,c],0,e,_,_=>
   simp at e;subst e;rfl
  |[a,b,c],1,e,_,_=>
   simp at e;subst e;simp
  |[a,b,c],2,e,g,_=>
   have:=g 1 (by omega);have j:b≠47:=by simpa using this
   simp[j]
  |[a,b,c],k+3,_,_,f=>simp at f;omega
  |a::b::c::d::l,0,_,_,_=>rfl
  |a::b::c::d::l,1,_,_,_=>simp
  |a::b::c::d::l,k+2,_,_,_=>simp
def ov(s:ByteArray)(i:s.size<=maxLen)(w:World) :
  Calls (ah β) 155 #[.string s] w λe l=>e=.returned (.bool (fX s))/\Below w.heap.size w l:=by
 have d:(cX s).1.size<=maxLen/\(cX s).2.1.size<=maxLen:=by
  unfold cX;split
  .exact⟨i,du _⟩
  .refine⟨?_, ?_⟩
   .show(s.extract _ _).size<=_;rw[<-aN,cv,pU,lc,aN];omega
   .show(s.extract _ _).size<=_;rw[<-aN,cv,pU,lc,aN];omega
 have c:=ab (aj5 s);have HC:=ab (azL (β:=β) s i w);clear i;generalize cX s=r at c HC d;obtain⟨a,b,q⟩:=r;dsimp only at c HC d;have n:=ab d.1;have m:=ab d.2;clear d;go_enter yA,ntmps155;go_wp2;refine HC.out.mono ?_;rintro e j ⟨rfl,f⟩;go_wp2;refine(ot a n.out j).mono ?_;rintro e o ⟨rfl,rfl⟩;cases g:ab3 a
 .rw[g] at c;clear g;go_wp2;go_ret;exact⟨by rw[c.out];simp,f⟩
 .rw[g] at c;clear g;cases q
  .go_wp2;go_ret;exact⟨by rw[c.out];simp,f⟩
  .go_wp2;refine(ot b m.out j).mono ?_;rintro e o ⟨rfl,rfl⟩;cases k:ab3 b<;>rw[k] at c<;>clear k
   .go_wp2;go_ret;exact⟨by rw[c.out];simp,f⟩
   .go_wp2;go_ret;exact⟨by rw[c.out];simp,f⟩
end
section
variable {β:Bool}
open Go.RowKit
def ah6{t : ByteArray}(h:s=t):(s.toList ==t.toList)=true:=by subst h;exact rF _
def amn(xs f:List ByteArray)(K N:Value)(w:World)(U O G J:Nat)(C:fY w U O xs [K])(H:fY w G J f [N])(D:O<=w.heap.size)(S:J<=w.heap.size)(q:Bool)(j:q=true↔xs=f) :
  Calls (ah β) 153 #[K,N] w λe R=>e=.returned (.bool q)/\Below w.heap.size w R:=by
 have z:=ab j;clear j;obtain⟨A,c,rfl⟩:=C.form;obtain⟨B,d,rfl⟩:=H.form;obtain⟨_,hc,hx⟩:=C.len_;unfold maxLen at hx;go_enter yC,ntmps153;by_cases a:xs.length=f.length
 .have Y:((xs.length:Int) !=f.length)=false:=by rw[pu];omega
  replace a:=ab a;go_wp2;go_loopw [13] (λi wr=>∃k:Nat,k<=xs.length/\i=.int .i64 k/\xs.take k=f.take k/\Below w.heap.size w wr) (λi _=>xs.length-(intOf i).toNat)
  case atStart=>exact⟨0,du _,rfl,rfl,db _ _⟩
  case round=>
   obtain⟨k,hk,rfl,g,b⟩:=hrel;have P:=ab g;clear g;by_cases u:k<xs.length
   .obtain⟨x,o⟩:=aq u;obtain⟨y,r⟩:=aq (l:=f) (k:=k) (by have:=a.out;omega);obtain⟨b1,Z,rfl,_,_,V,L⟩:=mK (fY.aK.below C b D) o;obtain⟨b2,gX,rfl,_,_,W,M⟩:=mK (fY.aK.below H b S) r;have X:(k:Int)<(f.length:Int):=by have:=a.out;omega
    replace o:=ab o;replace r:=ab r;by_cases g:x=y
    .have Q:=ah6 g;have E:xs.take (k+1)=f.take (k+1):=by rw[gn o.out,gn r.out,P.out,g]
     replace E:=ab E;clear g;go_wp2;have v:=ag L;have F:=ag M;refine az (by kernel_rfl) (by kernel_rfl) ?_;repeat(go_big_quiet_step (fail))
     refine ff ?_;intro T m;have j:=aF m;clear m v F;go_wp2;go_roundw
     case rel=>exact⟨k+1,by omega,by go_num,E.out,ae b j⟩
     simp[intOf];omega
    .have Q:=nS (s:=y) (t:=x) g;have p:q=false:=by
      rw[<-bv,z.out];rintro rfl;exact g (dj (o.out.symm.trans r.out))
     have n:=ab p;clear p g;go_wp2;have v:=ag L;have F:=ag M;refine az (by kernel_rfl) (by kernel_rfl) ?_;repeat(go_big_quiet_step (fail))
     refine ff ?_;intro T m;have j:=aF m;clear m v F;go_wp2;go_ret;exact⟨ak n.out.symm,ae b j⟩
   .obtain rfl:k=xs.length:=by omega
    have I:q=true:=by
     rw[z.out];have:=P.out
     rwa [dk,nq (by have:=a.out;omega)] at this
    have n:=ab I;clear I;go_wp2;go_ret;exact⟨ak n.out.symm,b⟩
 .have Y:((xs.length:Int) !=f.length)=true:=by rw[qx];omega
  have p:q=false:=by
   rw[<-bv,z.out];rintro rfl;exact a rfl
  have n:=ab p;clear p;replace a:=ab a;go_wp2;go_ret;exact⟨ak n.out.symm,db _ _⟩
end
section
variable {β:Bool}
open Go.RowKit
def auX(p s:ByteArray):(bs p).isPrefixOf (bs s)=true↔p.size<=s.size/\s.extract 0 p.size=p:=by
 rw[List.isPrefixOf_iff_prefix,List.prefix_iff_eq_take,aN];constructor
 .intro h;have a:=fa List.length h;rw[lc,aN,aN] at a;exact⟨by omega,jA (by rw[cv,qr];exact h.symm)⟩
 .rintro⟨-,h⟩;have:=fa bs h;rw[cv,qr] at this;exact this.symm
def ah7(s p:ByteArray)(m:s.size<=100)(l:p.size<=100)(w:World)(q:Bool)(g:q=(bs p).isPrefixOf (bs s)) :
  Calls (ah β) 203 #[.string s,.string p] w λe k=>e=.returned (.bool q)/\w=k:=by
 have c:q=true↔p.size<=s.size/\s.extract 0 p.size=p:=by rw[g,auX]
 replace c:=ab c;clear g;by_cases f:p.size<=s.size
 .have j:decide (p.size<=s.size)=true:=dq f;by_cases b:s.extract 0 p.size=p
  .have i:=ah6 b;have a:q=true:=c.out.2 ⟨f,b⟩;have d:=ab a;clear a b;go_enter vZ,ntmps203;go_wp2;go_ret;exact⟨by rw[d.out];rfl,rfl⟩
  .have i:=nS (s:=p) (t:=s.extract 0 p.size) b;have a:q=false:=by
    rw[<-bv,c.out];exact λh=>b h.2
   have d:=ab a;clear a b;go_enter vZ,ntmps203;go_wp2;go_ret;exact⟨by rw[d.out];rfl,rfl⟩
 .have j:decide (p.size<=s.size)=false:=da f;have a:q=false:=by
   rw[<-bv,c.out];exact λh=>f h.1
  have d:=ab a;clear a;go_enter vZ,ntmps203;go_wp2;go_ret;exact⟨by rw[d.out];rfl,rfl⟩
def aj6(s p:ByteArray)(d:s.size<=100)(b:p.size<=100)(w:World)(q:Bool)(a:q=(bs p).isPrefixOf (bs s)) :
  Calls (ah β) 158 #[.string s,.string p] w λe c=>e=.returned (.bool q)/\w=c:=by
 replace a:=ab a;go_enter yy,ntmps158;go_wp2;refine(ah7 s p d b w q a.out).mono ?_;rintro e f ⟨rfl,rfl⟩;go_wp2;go_ret;exact⟨rfl,rfl⟩
def azM:bs ⟨#[47]⟩=[47]:=rfl
def aps(y f:Nd)(n:y.p.size<=3)(l:f.p.size<=3)(g:Nat)(w:World)(i:w.cell? ⟨g,0,none⟩=some (.string f.p)) :
  Calls (ah β) 157 #[.agg #[.string y.p,.string y.b],.pointer (some ⟨g,0,none⟩)] w λe j=>e=.returned (.bool (pC y.p f.p))/\Below w.heap.size w j:=by
 have d:=aJ w (.cells #[.string y.p,.string y.b] 143);have k:(w.alloc (.cells #[.string y.p,.string y.b] 143)).cell? ⟨g,0,none⟩=some (.string f.p):=(pR (d.block g (eW i))).trans i;have a:(y.p++⟨#[47]⟩:ByteArray).size<=100:=by
  rw[<-aN,jP,ge,aN,azM,rm];omega
 have b:pC y.p f.p=(bs (y.p++⟨#[47]⟩)).isPrefixOf (bs f.p):=by rw[jP,azM];unfold pC;exact Eq.refl _
 replace b:=ab b;replace a:=ab a;go_enter wQ,ntmps157;go_wp2;have c:f.p.size<=100:=by omega
 have HC:=aj6 (β:=β) f.p (y.p++⟨#[47]⟩) c a.out (w.alloc (.cells #[.string y.p,.string y.b] 143)) (pC y.p f.p) b.out;refine HC.mono ?_;rintro e m ⟨rfl,rfl⟩;go_wp2;go_ret;exact⟨rfl,d⟩
def auY:ajD (β:=β) 157:=arT wQ (by kernel_rfl) rfl
def ah8(f:Nd)(J:f.p.size<=3)(xs:List Nd)(n:Nat)(R:n<=xs.length)(o:∀y∈xs.take n,y.p.size<=3)(A:Option Addr)(c g:Nat)(w:World)(M E:Nat)(h:nj w M E xs [.slice A xs.length c])(I:E<=w.heap.size)(C:w.cell? ⟨g,0,none⟩=some (.string f.p)) :
  Calls (ah β) 202 #[.slice A n c,.func (.func 157) #[] #[.pointer (some ⟨g,0,none⟩)]] w λe B=>∃j:Int,e=.returned (.int .i64 j)/\((0<=j/\∃k y,k<n/\xs[k]?=some y/\pC y.p f.p=true)\/(j=-1/\∀k y,k<n->xs[k]?=some y->pC y.p f.p=false))/\Below w.heap.size w B:=by
 obtain⟨_,P,L⟩:=h.1.len_;unfold maxLen at L;have z:=eW C;replace o:=ab o;go_enter yj,ntmps202;go_wp2;go_loopw [8] (λi wr=>∃k:Nat,k<=n/\i=.int .i64 k/\(∀j y,j<k->xs[j]?=some y->pC y.p f.p=false)/\Below w.heap.size w wr) (λi _=>n-(intOf i).toNat)
 case atStart=>exact⟨0,du _,rfl,λj y F=>absurd F (rP j),db _ _⟩
 case round=>
  obtain⟨k,O,rfl,d,r⟩:=hrel;replace d:=ab d;have u:wr.cell? ⟨g,0,none⟩=some (.string f.p):=(pR (r.block g z)).trans C;by_cases q:k<n
  .obtain⟨x,p⟩:=aq (l:=xs) (k:=k) (by omega);obtain⟨b,K,rfl,_,_,G,H,N⟩:=ae7 (nj.aK.below h r I) p;have s:x.p.size<=3:=o.out x (by
    have:(xs.take n)[k]?=some x:=by rw[qB,dl q];exact p
    exact be this)
   replace p:=ab p;have Q:=auY (β:=β) (#[.agg #[.string x.p,.string x.b]]++#[.pointer (some ⟨g,0,none⟩)]) wr;go_wp2;refine(aps x f s J g wr u).mono ?_;rintro e B ⟨rfl,m⟩;replace m:=ae r m;cases a:pC x.p f.p
   .have v:∀j y,j<k+1->xs[j]?=some y->pC y.p f.p=false:=λj y F t=>by
     rcases nf j k with D|D
     .exact d.out j y D t
     .obtain rfl:j=k:=by omega
      rw[p.out] at t;cases t;exact a
    replace v:=ab v;clear a;go_wp2;go_roundw
    case rel=>exact⟨k+1,by omega,by go_num,v.out,m⟩
    simp[intOf];omega
   .replace a:=ab a;go_wp2;go_ret;exact⟨k,rfl,.inl ⟨by omega,k,x,q,p.out,a.out⟩,m⟩
  .obtain rfl:k=n:=by omega
   go_wp2;go_ret;exact⟨-1,rfl,.inr ⟨rfl,d.out⟩,r⟩
def mZ(f:Nd)(o:f.p.size<=3)(xs:List Nd)(n:Nat)(s:n<=xs.length)(b:∀y∈xs.take n,y.p.size<=3)(A:Option Addr)(c g:Nat)(w:World)(m d:Nat)(h:nj w m d xs [.slice A xs.length c])(t:d<=w.heap.size)(r:w.cell? ⟨g,0,none⟩=some (.string f.p)) :
  Calls (ah β) 156 #[.slice A n c,.func (.func 157) #[] #[.pointer (some ⟨g,0,none⟩)]] w λe p=>∃q:Bool,e=.returned (.bool q)/\((q=true/\∃k y,k<n/\xs[k]?=some y/\pC y.p f.p=true)\/(q=false/\∀k y,k<n->xs[k]?=some y->pC y.p f.p=false))/\Below w.heap.size w p:=by
 replace b:=ab b;go_enter yz,ntmps156;go_wp2;refine(ah8 f o xs n s b.out A c g w m d h t r).mono ?_;rintro e v ⟨j,rfl,u,l⟩;rcases u with⟨i,a⟩|⟨rfl,a⟩
 .have x:decide (0<=j)=true:=dq i;replace a:=ab a;clear i;go_wp2;go_ret;exact⟨true,rfl,.inl ⟨rfl,a.out⟩,l⟩
 .replace a:=ab a;go_wp2;go_ret;exact⟨false,rfl,.inr ⟨rfl,a.out⟩,l⟩
end
section
variable {β:Bool}
open Go.RowKit
def eD(l:List ByteArray):List UInt8:=l.flatMap λs=>s.data.toList
def agP(l:List ByteArray):(eD l).map UInt8.toNat=cN l:=by
 unfold eD cN;rw[List.map_flatMap];rfl
def kH(l:List ByteArray):∀b∈cN l,b<256:=λb a=>by
 obtain⟨s,_,a⟩:=pb.1 a;exact ary b a
def apt(l:List ByteArray):(⟨(eD l).toArray⟩:ByteArray)=qF (cN l):=jA (by
 rw[aeK (kH l),<-agP];rfl)
def aaX{l:List ByteArray}{x:ByteArray}(h:l[k]?=some x):eD (l.take (k+1))=eD (l.take k)++x.data.toList:=by
 rw[gn h];unfold eD;rw[qI];simp
def acK:∀{l:List ByteArray},(∀s∈l,s.size<=8)->(eD l).length<=8*l.length
 |[],_=>du _
 |x::l,h=>by
  have b:=acK (l:=l) λs a=>h s (by simp[a]);have d:=h x (by simp);show(x.data.toList++eD l).length<=_;have c:x.data.toList.length=x.size:=by rw[qJ];rfl
  rw[ge,mp];omega
def dE(h:aZ (bs s)):1<=s.size/\s.size<=8:=by have:=h.1;rw[aN] at this;exact this
def asn(x:ByteArray):x.data.toList.length=x.size:=by rw[qJ];rfl
def av8(x:ByteArray)(l:List UInt8):Lib.byteCells l++Lib.strCells x=Lib.byteCells (l++x.data.toList):=by
 simp[Lib.byteCells,Lib.strCells]
def axB(l:List ByteArray)(B:∀s∈l,aZ (bs s))(hl:l.length<=2147483647)(v:Value)(w:World)(lo X:Nat)(h:fY w lo X l [v])(V:X<=w.heap.size) :
  Calls (ah β) 151 #[v,.string ⟨#[]⟩] w λe w'=>e=.returned (.string (qF (cN l)))/\Below w.heap.size w w':=by
 obtain⟨A,c,rfl⟩:=h.form;obtain⟨_,hc,L⟩:=h.len_;unfold maxLen at L;replace B:=ab B;rcases nf l.length 2 with I|fT
 .rcases mu l.length with N|N
  .obtain rfl:=pI.1 N;go_enter wl,ntmps151;go_wp2;exact pN (v:=.string ⟨#[]⟩) (by simp[results,results151,go_sem]) rfl ⟨rfl,db _ _⟩
  .obtain⟨x,rfl⟩:=sP.1 (show l.length=1 by omega);obtain⟨b,p,rfl,_,_,G,H⟩:=mK h (k:=0) rfl;rw[ru] at H;have R:qF (cN [x])=x:=by show qF (bs x++[])=x;rw[sI,avT]
   replace R:=ab R;go_enter wl,ntmps151;go_wp2;exact pN (v:=.string x) (by simp[results,results151,go_sem]) rfl ⟨by rw[R.out],db _ _⟩
 .have t0:((l.length:Int) ==0)=false:=kw.2 (by omega);have t1:((l.length:Int) ==1)=false:=kw.2 (by omega);go_enter wl,ntmps151;go_wp2
  go_loop [5,41] (λnn E=>∃k:Nat,k<=l.length/\E=.int .i64 k/\nn=.int .i64 (eD (l.take k)).length/\(eD (l.take k)).length<=8*k) (λ_ E=>l.length-(intOf E).toNat)
  case atStart=>exact⟨0,du _,rfl,rfl,du _⟩
  case round=>
   obtain⟨k,hk,rfl,rfl,D⟩:=hrel;by_cases I:k<l.length
   .obtain⟨x,O⟩:=aq I;obtain⟨b,p,rfl,_,_,G,H⟩:=mK h O;have S:=(dE (B.out x (be O))).2;have d:(eD (l.take (k+1))).length=(eD (l.take k)).length+x.size:=by rw[aaX O,ge,asn]
    have HST:=ab d;clear d O;obtain⟨n,F⟩:∃n,n=(eD (l.take k)).length:=⟨_,rfl⟩;rw[<-F] at D HST ⊢;clear F;have t3:=da (show ¬(9223372036854775807-(n:Int)<(x.size:Int)) by omega);go_wp2
    go_round
    case rel=>exact⟨k+1,by omega,by go_num,by rw[HST.out];go_num,by rw[HST.out];omega⟩
    simp[intOf];omega
   .obtain rfl:k=l.length:=by omega
    rw[dk] at D ⊢;obtain⟨n,F⟩:∃n,n=(eD l).length:=⟨_,rfl⟩;rw[<-F] at D ⊢;have HN:=ab F;clear F;go_wp2;generalize u:w.alloc (.cells #[.pointer none,.slice none 0 0] 257)=w0;have Z:w0.heap[w.heap.size]?=some (.cells #[.pointer none,.slice none 0 0] 257 (0,0)):=by
     rw[<-u];show(w.heap.push _)[w.heap.size]?=_;rw[qn]
    have C:Below w.heap.size w w0:=by rw[<-u];exact(db _ w).alloc (am _) _
    refine(ans w.heap.size w.heap.size n w0 (am _) Z C.size (by omega)).mono ?_;rintro e w2 ⟨rfl,f,g⟩;replace g:=C.trans g;clear C Z u;obtain⟨x,a⟩:=aq (l:=l) (k:=0) (by omega);obtain⟨b,p,rfl,_,_,G,H⟩:=mK (fY.aK.below h g V) a;rw[ru] at H;have S:=(dE (B.out x (be a))).2;have d:x.data.toList=eD (l.take 1):=by rw[aaX (k:=0) a];simp[eD]
    have J:1<=x.size:=(dE (B.out x (be a))).1;have T:=ab J;have t:x=l.headD ⟨#[]⟩:=by
     cases l with
     |nil=>simp at a
     |cons y m=>simp at a;rw[a];rfl
    replace t:=ab t;have HST:=ab d;clear d a J;go_wp2;refine(nT w.heap.size w.heap.size [] x w2 (.inr (.of f)) (by show 0+x.size<=_;omega) g.size).mono ?_;rintro e w3 ⟨rfl,z,q⟩;replace q:=g.trans q;have e3:([]:List Value)++Lib.strCells x=Lib.byteCells (eD (l.take 1)):=by
     have:=av8 x [];rw[qY,HST.out] at this;exact this
    rw[e3] at z;clear g f e3 H HST;go_wp2;have Q:l.length-1+1=l.length:=by omega
    go_loopw [65] (λE wr=>∃k:Nat,k+1<=l.length/\E=.int .i64 k/\Lib.IsBuilderF 257 5 w.heap.size w.heap.size (Lib.byteCells (eD (l.take (k+1)))) wr/\Below w.heap.size w wr) (λE _=>l.length-(intOf E).toNat)
    case atStart=>exact⟨0,by omega,rfl,.inr z,q⟩
    case round=>
     clear z q;obtain⟨k,hk,rfl,f,j⟩:=hrel;have W:(Lib.byteCells (eD (l.take (k+1)))).length<=8*l.length:=by
      rw[qU];refine ap (acK λs hs=>(dE (B.out s (qf hs))).2) ?_;rw[lc];omega
     by_cases a3:k<l.length-1
     .obtain⟨y,M⟩:=aq (l:=l) (k:=k+1) (by omega);obtain⟨b1,a0,U,_,_,a1,d0⟩:=mK (fY.aK.below h j V) M;simp only[lw,pM,qh] at U;obtain⟨rfl,rfl⟩:=U;rw[show p+(k+1)=p+1+k by omega] at d0;have a2:=(dE (B.out y (be M))).2;have d:=aaX M;have HST:=ab d;clear d M;go_wp2;refine(nT w.heap.size w.heap.size _ ⟨#[]⟩ wr f (by show _+0<=_;omega) j.size).mono ?_;rintro e w4 ⟨rfl,r,o⟩;replace o:=j.trans o;have Y:Lib.byteCells (eD (l.take (k+1)))++Lib.strCells ⟨#[]⟩=Lib.byteCells (eD (l.take (k+1))):=sI _;rw[Y] at r;clear f j Y;go_wp2;refine(nT w.heap.size w.heap.size _ y w4 (.inr r) (by omega) o.size).mono ?_;rintro e w5 ⟨rfl,K,i⟩;replace i:=o.trans i;rw[av8,<-HST.out] at K;clear r o;go_wp2;go_roundw
      case rel=>exact⟨k+1,by omega,by go_num,.inr K,i⟩
      simp[intOf];omega
     .obtain rfl:k=l.length-1:=by omega
      rw[Q,dk] at f;have P:eD l≠[]:=by
       intro N;have L:x.data.toList <+: eD l:=by
        obtain⟨y,m,rfl⟩:∃y m,l=y::m:=by
         cases l with
         |nil=>simp at fT
         |cons y m=>exact⟨y,m,rfl⟩
        have e:=t.out;show x.data.toList <+: _;have e:x=y:=e;rw[e];exact⟨eD m,by simp[eD]⟩
       rw[N] at L;have:=List.prefix_nil.1 L;have h1:=asn x;rw[this] at h1;have:=T.out;simp at h1;omega
      have HJ:=ab (apt l);go_wp2;refine(acw w.heap.size w.heap.size (eD l) wr f P).mono ?_;rintro e w5 ⟨rfl, -,i⟩;go_wp2;exact pN (v:=.string ⟨(eD l).toArray⟩) (by simp[results,results151,go_sem]) rfl ⟨by rw[HJ.out],j.trans i⟩
end
section
variable {β:Bool}
open Go.RowKit
def acL:Op->Bool
 |.move .. | .assign .. | .load .. | .slice .. | .buildSlice .. | .store .. =>true
 |.call c=>match c.callee with
  |.builtin .append=>true
  |_=>false
 |_=>false
def aso{P:Program}(h:acL o.op=true){ρ:Operand->Value}{i:Next}(d:(execOp ρ o).run P w=.ok i w'):(∃v,i=.value v)\/i=.skip:=by
 obtain⟨dst,op,j,k,after,g⟩:=o;cases op<;>simp only[acL,fd] at h
 case call c=>
  obtain⟨a,args,e⟩:=c;cases a with
  |value x=>cases h
  |invoke x n=>cases h
  |builtin b=>
   cases b<;>first
    |(exfalso;cases h;done)
    |(revert d
      simp only[execOp,resolve,invoke,builtin,tn,ud,uz];generalize (Sem.run P (Builtin.append_ _ _ _) w:Result _)=r;cases r with
      |ok v f=>simp only[Result.andThen];intro d;cases d;exact .inl ⟨_,rfl⟩
      |halt x f=>simp[Result.andThen])
 all_goals
  revert d;simp only[execOp,tn,ud]
 all_goals
  first
   |(intro d;cases d;exact .inl ⟨_,rfl⟩)
   |(generalize (Sem.run P _ w:Result _)=r
     cases r with
     |ok v f=>simp only[Result.andThen];intro d;cases d;first|exact .inl ⟨_,rfl⟩|exact .inr rfl
     |halt x f=>simp[Result.andThen])
section
variable {F:Fence} {m:Nat} {P:Program} {Q:Exit->Act->World->Prop} {md:Region.Mode} {ops:Array Oper}
def auZ{r:Result Next}(e:∀b c,r=.ok b c->(∃v,b=.value v)\/b=.skip)(d:∀a w,W a w->V a w)(h:o.upon P a W Q r):o.uponIn F m P a V Q r:=by
 cases r with
 |ok b c=>
  rcases e b c rfl with⟨v,rfl⟩|rfl
  .exact d _ _ h
  .exact d _ _ h
 |halt x c=>cases x<;>first|exact h|exact h.elim
def au0(k:∀f,F.fn f)(p:∀o∈ops,acL o.op=true)(n:¬LetsOut Q){i:Nat}(j:∀a w,W a w->V a w)(h:wpOp P ops Q i W a w):wpOpIn F m P ops Q i V a w:=by
 unfold wpOp at h;unfold wpOpIn;cases e:ops[i]? with
 |none=>rw[e] at h;exact j _ _ h
 |some o=>
  rw[e] at h;have b:=p o (pX e);dsimp only at h ⊢;split
  .rename_i d;rw[dl d] at h;rcases h with h|h
   .refine⟨λf _=>k f, ?_⟩;rw[Oper.semAt_plain F _ _ (by intro c g;rw[g] at b;cases b)];exact auZ (λr q l=>aso b l) j h
   .exact absurd h.2 n
  .rename_i d;rw[bd d] at h;exact⟨λf _=>k f,j _ _ h⟩
def aj7(e:∀f,F.fn f)(d:∀o∈ops,acL o.op=true)(c:¬LetsOut Q):∀(k:Nat) (b:Array Bool) (a:Act) (w:World),wpAny P md ops Q k b a w->wpAnyIn F m P md ops Q k b a w
 |0,_,_,_,h=>h
 |k+1,b,a,w,h=>⟨h.1,λi g=>au0 e d c (λa w h=>aj7 e d c k _ a w h) (h.2 i g)⟩
end
section
variable {F:Fence} {m:Nat} {P:Program} {Q:Exit->Act->World->Prop} {X:Type} [Nonempty X] [bh X]
def aj8 (A:∀f,F.fn f) {l:List Oper} (e:(l.all λo=>acL o.op)=true) (s:¬LetsOut Q)  (to:X->World) (le:X->X->Prop) (k:∀x,le x x) (n:Nat) (j d:List Nat) (v:P.follows .mixedOrders=true) (z:alC l n j d=true) (p:afJ l.toArray n a.tmps.size=true)
  (b:X) (c:∀m,m<=n->bh.live m b) (g:∀i,i<n->bh.pend i b) (t:to b=w.drew)
  (h:wpQuiet P l.toArray (λr=>∃x,r=to x) (λy=>∃u,eu P l.toArray to le (wpList P l.toArray Q (l.drop n)) (pick l d) [] u y) ((pick l j).map (·.2)) a):(Code.region Z l.toArray true).wpIn F m P Q a w:=
 wpIn_region_any v (aj7 A (λo q=>jp.1 e o (by simpa using q)) s _ _ _ _ (ajy to le k n j d z p b c g t h))
def afP (r:∀f,F.fn f) {l:List Oper} (c:(l.all λo=>acL o.op)=true) (i:¬LetsOut Q)  (n:Nat) (d b:List Nat) (k:P.follows .mixedOrders=true) (q:alC l n d b=true) (e:afJ l.toArray n a.tmps.size=true)
  (h:wpQuiet P l.toArray (λg=>∃x:dA w,g=x.to) (λp=>∃j:List (iA (dA w)),eu P l.toArray (dA.to (w:=w)) (dA.le (w:=w)) (wpList P l.toArray Q (l.drop n)) (pick l b) [] j p) ((pick l d).map (·.2)) a):(Code.region Z l.toArray true).wpIn F m P Q a w:=
 aj8 r c i (dA.to (w:=w)) (dA.le (w:=w)) dA.le_refl n d b k q e ⟨w.drew,⟨rfl,rfl,rfl,am _,λ_ _=>rfl⟩⟩ (λ_ _=>trivial) (λ_ _=>trivial) rfl h
end
end
section
variable {β:Bool}
open Go.RowKit Go.Shelf
attribute [local go_sem] Oper.semAt_some
def Prs(l:List Nat):Nat->List (Nat×Nat)->Nat->Prop
 |a,[],b=>a=b
 |a,x::xs,b=>a<l.length/\x=(a,nv l a)/\Prs l (nv l a) xs b
def Prs.snoc{l:List Nat}:∀{a:Nat} {c:List (Nat×Nat)} {b:Nat},Prs l a c b->b<l.length->Prs l a (c++[(b,nv l b)]) (nv l b)
 |a,[],b,h,h1=>by
  have h:a=b:=h;subst h;exact⟨h1,rfl,rfl⟩
 |a,x::c,b,⟨h2,h3,h4⟩,h1=>⟨h2,h3,h4.snoc h1⟩
def Prs.len{l:List Nat}:∀{a:Nat} {c:List (Nat×Nat)} {b:Nat},Prs l a c b->a+c.length<=b
 |a,[],b,h=>by
  have h:a=b:=h;simp;omega
 |a,x::c,b,⟨h1,_,h⟩=>by
  have:=h.len;have:=(dS h1).1;simp only[mp];omega
def Prs.ends{l:List Nat}:∀{a:Nat} {c:List (Nat×Nat)} {b:Nat},Prs l a c b->dc l a (c.map λx=>(x.2:Int)) b
 |a,[],b,h=>h
 |a,x::c,b,⟨h1,e,h⟩=>⟨h1,by rw[e],h.ends⟩
def dH(s:ByteArray)(xs:List (Nat×Nat)):List ByteArray:=xs.map λx=>s.extract x.1 x.2
def Prs.pieces{l:List Nat}:∀{a:Nat} {c:List (Nat×Nat)} {b:Nat},Prs l a c b->dH s c=bU s a (c.map λx=>(x.2:Int))
 |a,[],b,h=>rfl
 |a,x::c,b,⟨h1,e,h⟩=>by
  show s.extract x.1 x.2::dH s c=s.extract a (x.2:Int).toNat::bU s (x.2:Int).toNat _;rw[e,rU,h.pieces]
def Prs.cut{xs:List (Nat×Nat)}(h:Prs (bs s) 0 xs s.size):dH s xs=gI s:=by
 rw[h.pieces,anL h.ends]
def vP(h:Below w.heap.size w w'):w.grownBy w' none:=⟨h.os,h.tape,h.output,h.size,λk a _=>h.block k a⟩
def apu {W : World} {B : Nat} {t e:TypeId} {v' : Value} {m : Nat} {xs y:List Value}
  (z:Boxed W B t v) (l:t≠e) (c:W.ownsRow Z e Y v k xs) (r:n₀<=W.heap.size) (x:n₀<=Z) (D:n₀<=B)
  (b:w.ownsRow Z e Y v' m y) (a:W.grownBy w v.ownBlock) :
  Boxed w B t v/\Boxed (w.setCell ⟨B,0,none⟩ v') B t v'/\(w.setCell ⟨B,0,none⟩ v').ownsRow Z e Y v' m y/\KeepsOthers W (w.setCell ⟨B,0,none⟩ v')/\Below n₀ W (w.setCell ⟨B,0,none⟩ v')/\(∀k,k<Z->k<W.heap.size->k≠B->(w.setCell ⟨B,0,none⟩ v').heap[k]?=W.heap[k]?):=by
 have f:Boxed w B t v:=z.kept a (z.not_row l c);have i:∀j,v.ownBlock=some j->Z<=j:=λj d=>by
  rcases c.2 with⟨rfl,_⟩|⟨g,cap,s,rfl,C,_,_⟩
  .simp[Value.ownBlock] at d
  .obtain rfl:g=j:=by simpa[Value.ownBlock] using d
   exact C
 refine⟨f,f.set v',b.kept (grownBy_setCell' w B v') (.inr (f.not_row l b).symm), ?_, ?_, ?_⟩
 .refine(uV a λj o d A=> ?_).trans (KeepsOthers.setCell _ _ _);rcases c.2 with⟨rfl,_⟩|⟨g,cap,s,rfl,_,u,_⟩
  .simp[Value.ownBlock] at d
  .obtain rfl:g=j:=by simpa[Value.ownBlock] using d
   rw[u] at A;cases A;rfl
 .exact((db n₀ W).grown a r λj d=>ap x (i j d)).setCell (p:=⟨B,0,none⟩) D v'
 .intro k E q n;exact(mc _ _ _ k n).trans (a.block k q λd=>by have:=i k d.symm;omega)
def apv(h:gq (λb=>v.ownBlock=some b) w w'):w.grownBy w' v.ownBlock:=⟨h.os,h.tape,h.output,h.size,λk c a=>h.block k c λe=>a e.symm⟩
structure PrC (n:Nat) where
 p:Nat×Nat
 le:p.1<=p.2/\p.2<=n
abbrev axD{n:Nat}(x:PrC n):Array Value:=#[.int .i64 x.p.1,.int .i64 x.p.2]
abbrev lH{n:Nat}(xs:List (PrC n)):List (Nat×Nat):=xs.map PrC.p
def asq (n:Nat) (hn:2<=n) (l o n₀:Nat) (s:ByteArray) (V:s.size<=1000000) (J L:List (PrC s.size)->World->Prop) (W:World) (U:AbidesFrom W.heap.size J)
  (R:∀b x W,J b W->b.length<s.size->YieldAt Fence.wide (n-1) (ah β) l (axD x) W λe W'=>
   (e=.returned (.bool true)/\J (b++[x]) W'/\KpB n₀ o W W')\/(e=.returned (.bool false)/\L (b++[x]) W'))
  (t:Boxed W o 9 (.string s)) (P:n₀<=W.heap.size) (O:J [] W) :
  CallsIn Fence.wide n (ah β) 221 #[.func (.yield l) #[] #[],.pointer (some ⟨o,0,none⟩)] W λe W'=>(∃v,e=.returned v)/\
   ((∃N,Prs (bs s) 0 (lH N) s.size/\J N W')\/(∃b,(∃m,Prs (bs s) 0 (lH b) m)/\L b W')):=by
 refine callsIn_of_wp wN rfl trivial ?_ rfl;simp only[ntmps221,tI,mp,pT,Nat.reduceAdd,Nat.reduceSub,ui,uh,uB,un,qY,qu];have Z:=t.lt;have T:Fence.wide.fn 222:=trivial;have Y:1<=n:=by omega
 gi_wp2
 gi_loopw [3] (λi wr=>∃(k:Nat) (f:List (PrC s.size)),k<=s.size/\i=.int .i64 k/\Prs (bs s) 0 (lH f) k/\J f wr/\KpB n₀ o W wr/\W.heap.size<=wr.heap.size) (λi _=>s.size-(intOf i).toNat)
 case atStart=>exact⟨0,[],du _,rfl,rfl,O,KpB.refl,am _⟩
 case round=>
  obtain⟨k,f,hk,rfl,B,j,H,S⟩:=hrel;have q:Boxed wr o 9 (.string s):=H.2.trans t;have D:=q.cell;by_cases g:k<s.size
  .gi_wp2_with (gi_at_call 222;refine(callsIn_wide.2 (auV s k g V wr)).mono ?_;rintro e y ⟨rfl,z⟩)
   have p:J f y:=U f wr y none j (vP z) (λr e=>by cases e);have C:KpB n₀ o W y:=H.t ⟨z.mono (by omega),z.block o (by omega)⟩;have Q:=z.size;have w:=B.snoc (by rw[aN];exact g);have E:=dS (l:=bs s) (a:=k) (by rw[aN];exact g);rw[aN] at E;obtain⟨fn,M,A,K,G,X⟩:=R f ⟨(k,nv (bs s) k),by show k<=nv (bs s) k/\nv (bs s) k<=s.size;omega⟩ y p (by have:=B.len;rw[pF] at this;omega);dsimp only[axD] at G;rw[G];have d:Prs (bs s) 0 (lH (f++[⟨(k,nv (bs s) k),by show k<=nv (bs s) k/\nv (bs s) k<=s.size;omega⟩])) (nv (bs s) k):=by
    show Prs (bs s) 0 (List.map PrC.p (f++_)) _;rw[oR];exact w
   replace d:=ab d;clear w p j B G H q D;gi_wp2;refine X.mono ?_;rintro e W3 (⟨rfl,F,u⟩|⟨rfl,I⟩)
   .gi_wp2;go_roundw
    case rel=>exact⟨nv (bs s) k,_,by omega,rfl,d.out,F,C.t u,by have:=u.1.size;omega⟩
    simp[intOf];omega
   .gi_wp2;refine pN (results_none rfl _ _ _) rfl ?_;exact⟨⟨_,rfl⟩,.inr ⟨_,⟨_,d.out⟩,I⟩⟩
  .obtain rfl:k=s.size:=by omega
   gi_wp2
   go_end0
   exact⟨⟨_,rfl⟩,.inl ⟨_,B,j⟩⟩
def amo(n:Nat)(k:2<=n)(a n₀:Nat)(s:ByteArray)(i:s.size<=1000000)(w:World)(b:a<w.heap.size)(c:n₀<=w.heap.size)(p:Boxed w a 9 (.string s)) :
  SeqStopsK Fence.wide n (ah β) 221 #[.pointer (some ⟨a,0,none⟩)] axD (KpB n₀ a) (λo:List (PrC s.size)=>Prs (bs s) 0 (lH o) s.size) (λd=>∃m,Prs (bs s) 0 (lH d) m) s.size w:=λl J j W e f _ q g=>
 asq n k l a n₀ s i J j W f q ((e.block a b).trans p) (ap c e.size) g
def au1(n:Nat)(s:ByteArray)(w:World) :
  CallsIn Fence.wide n (ah β) 199 #[.string s] w λe a=>e=.returned (.func (.func 221) #[] #[.pointer (some ⟨w.heap.size,0,none⟩)])/\a=w.alloc (.cells #[.string s] 9):=by
 refine callsIn_of_wp yl rfl trivial ?_ rfl;simp only[ntmps199,tI,mp,pT,Nat.reduceAdd,Nat.reduceSub,ui,uh,uB,un,qY,qu];gi_wp2;go_ret;exact⟨rfl,rfl⟩
def apw(n:Nat)(hn:6<=n)(s:ByteArray)(E:eB s=true)(w:World) :
  CallsIn Fence.wide n (ah β) 154 #[.string s] w λe W'=>∃v,e=.returned v/\aS ni 9 W' w.heap.size v (gI s)/\Below w.heap.size w W':=by
 have h1:1<=n:=by omega
 have al:Fence.wide.fn 152:=trivial;have aR:Fence.wide.fn 199:=trivial;have an:s.size<=40:=by unfold eB at E;rw[fb] at E;exact tG E.1
 have H:s.size<=maxLen:=by unfold maxLen;omega
 have HS:=ab E;clear E;replace H:=ab H;refine callsIn_of_wp_marks yB rfl trivial ?_ rfl;simp only[ntmps154,tI,mp,pT,Nat.reduceAdd,Nat.reduceSub,ui,uh,uB,un,qY,qu]
 gi_wp2_with (first|(gi_at_call 152;refine(callsIn_wide.2 (mb s H.out _)).mono ?_;rintro e w' ⟨rfl,rfl⟩;rw[HS.out])|(gi_at_call 199;refine(au1 (n-1) s _).mono ?_;rintro e w' ⟨rfl,rfl⟩))
 have bS:=((Boxed.new w 9 (.string s)).alloc (.cells #[.slice none 0 0] 163)).alloc (.cells #[.string s] 9);have bO:=(Boxed.new (w.alloc (.cells #[.string s] 9)) 163 (.slice none 0 0)).alloc (.cells #[.string s] 9);have Z:=Boxed.new ((w.alloc (.cells #[.string s] 9)).alloc (.cells #[.slice none 0 0] 163)) 9 (.string s);simp only[pa] at bO Z;have P:Below w.heap.size w (((w.alloc (.cells #[.string s] 9)).alloc (.cells #[.slice none 0 0] 163)).alloc (.cells #[.string s] 9)):=(((db _ w).alloc (am _) _).alloc (by simp) _).alloc (by simp;omega) _;have hz:(((w.alloc (.cells #[.string s] 9)).alloc (.cells #[.slice none 0 0] 163)).alloc (.cells #[.string s] 9)).heap.size=w.heap.size+3:=by simp
 obtain⟨W0,N⟩:∃W0,((w.alloc (.cells #[.string s] 9)).alloc (.cells #[.slice none 0 0] 163)).alloc (.cells #[.string s] 9)=W0:=⟨_,rfl⟩;try simp only[pa]
 rw[N] at bS bO Z P hz ⊢;clear N;refine wpIn_rangeFunc_ownH rfl h1 (gf:=221) (lb:=#[.pointer (some ⟨w.heap.size+1+1,0,none⟩)]) rfl trivial (enters_of wN (by kernel_rfl) rfl)
  (amo (n-1) (by omega) (w.heap.size+1+1) w.heap.size s (by omega) W0 (by omega) (by omega) Z) KpB.t
  (λW l o o' hl h hc hw=>⟨belowK_b (w:=w) (am _) W l o o' (by omega) h hc hw,World.putObj_heap_other (by omega)⟩) (db _ _) (λ_=>rfl)
  (λb W=>(((∃v,Boxed W (w.heap.size+1) 163 v/\W.ownsRow W0.heap.size 9 1 v b.length (dB ni (dH s (lH b)))/\True)/\Boxed W w.heap.size 9 (.string s))/\Boxed W (w.heap.size+1+1) 9 (.string s))/\Below w.heap.size w W)
  (λ_ _ _=>False)
  (OwnFrom.and (OwnFrom.and (OwnFrom.and (Own.from (holdsRow_own W0.heap.size (w.heap.size+1) 163 9 1 (λb:List (PrC s.size)=>b.length) (λb=>dB ni (dH s (lH b))) (λ_ _=>True)) _) (Own.from (boxed_own _ _ _) _)) (Own.from (boxed_own _ _ _) _)) (ownFrom_below (am _) (by omega)))
  (λ_ _ _ _ _ E _ _=>E)
  ⟨⟨⟨⟨_,bO,uy _ _ _ _,trivial⟩,bS⟩,Z⟩,P⟩
  (λx a' W=>a'={tmps:=#[.string s,.pointer (some ⟨w.heap.size,0,none⟩),.slice none 0 0,.pointer (some ⟨w.heap.size+1,0,none⟩),.int .i64 x.p.1,.int .i64 x.p.2,.string s,.bool true,.bool false,.string s,.func (.func 221) #[] #[.pointer (some ⟨w.heap.size+1+1,0,none⟩)],.int .i64 x.p.1,.int .i64 x.p.2,undef,undef,undef,undef,undef,undef,undef,undef],defers:=[]})
  (λx a' _ X Y ao E hg hr=>E)
  ?assign ?body ?done ?stop
 case assign=>
  rintro l b x W K ⟨⟨⟨⟨v,f,d, -⟩,t⟩,u⟩,i⟩ Q;gi_wp2;exact Q _ _ ((KeepsOthers.refl _).from _) KpB.refl ⟨⟨⟨⟨v,f,d,trivial⟩,t⟩,u⟩,i⟩ rfl
 case body=>
  rintro l b x a' W hl ⟨r,hr⟩ ⟨⟨⟨⟨v,f,d, -⟩,t⟩,u⟩,i⟩ rfl av;obtain⟨⟨B,z⟩,m,q⟩:=x;dsimp only at m q ⊢;have a3:dH s (lH (b++[⟨(B,z),m,q⟩]))=dH s (lH b)++[s.extract B z]:=by simp[dH,lH]
  have cO:W.cell? ⟨w.heap.size+1,0,none⟩=some v:=f.cell;have cS:W.cell? ⟨w.heap.size,0,none⟩=some (.string s):=t.cell;have I:=adW (β:=β);have a2:=i.size;gi_wp2;have aD:=ag cO;have aH:=ag cS;refine afP (λ_=>trivial) (by kernel_rfl) (by rintro⟨a,w,h⟩;exact h) 6 [0,1,2,3,4] [5] I (by kernel_rfl) (by kernel_rfl) ?_;simp only[pick,List.map,qG,qH];repeat(go_big_quiet_step (fail))
  refine ff ?_;clear aD aH;apply Exists.intro;apply ajz (alD W.heap.size 9 #[.string (s.extract B z)])
  .rfl
  .exact λv x y h ad=>h.keep ad
  .intro x _ Qx hQ;go_wp2;exact hQ _ _ (aJ _ _) (alD.new _ _ _ x.ok.size)
  intro v5;refine kr ?_;intro w2 p xx S hF;dsimp only[acz] at hF;try rw[S] at hF
  clear S xx;obtain⟨⟨g,rfl,hg,a4⟩, -⟩:=hF;simp only[List.drop];have aM:=p.size;have ay:l<W.heap.size:=(de.1 hr).1;have L:=aeN d p;have a7:Boxed w2 (w.heap.size+1) 163 v:=(p.block _ f.lt).trans f;obtain⟨A,c,rfl⟩:=lY d;refine agw (F:=ni) (base:=W0.heap.size) (v:=.slice A b.length c) (xs:=dH s (lH b)) rfl (.tmp 13) (.tmp 18) 163 rfl abY (s.extract B z) rfl (by unfold aS;rw[show(dH s (lH b)).length=b.length from by simp[dH,lH]];exact L) rfl a4 rfl (by rw[show(dH s (lH b)).length=b.length from by simp[dH,lH]];omega) (by omega) ?_;intro v3 w3 V a8 af;have aO:(dH s (lH b)++[s.extract B z]).length=(b++[(⟨(B,z),m,q⟩:PrC s.size)]).length:=by simp[dH,lH]
  unfold aS at V;rw[<-a3,show(dH s (lH (b++[⟨(B,z),m,q⟩]))).length=(b++[(⟨(B,z),m,q⟩:PrC s.size)]).length from by simp[dH,lH]] at V;obtain⟨U,T,R,M,a9,a6⟩:=apu (W:=w2) (n₀:=w.heap.size) a7 (by decide) L (by omega) (by omega) (by omega) V (apv a8);have aT:=U.cell;have ax:=U.frozen;obtain⟨A3,c3,rfl⟩:=lY V;go_wp2;have aa:KeepsOthers W w2:=uV (vP p) λj o ej _=>by cases ej
  have C:∀k,k<W0.heap.size->k≠w.heap.size+1->(w3.setCell ⟨w.heap.size+1,0,none⟩ (.slice A3 (b++[(⟨(B,z),m,q⟩:PrC s.size)]).length c3)).heap[k]?=W.heap[k]?:=λk hk a0=>(a6 k hk (by omega) a0).trans (p.block k (by omega));have J:=(p.mono a2).trans a9;simp only[ge,mp,pT,ph] at T R M C J;refine⟨(aa.trans M).from _,⟨J,C _ (by omega) (by omega)⟩,⟨⟨⟨_,T, ?_,trivial⟩,(C _ (by omega) (by omega)).trans t⟩,(C _ (by omega) (by omega)).trans u⟩,i.trans J⟩;simp only[ge,mp,pT,ph];exact R
 case done=>
  rintro D zs W hD a5 ⟨⟨⟨⟨v,f,d, -⟩,t⟩,u⟩,i⟩ Q;have cO:=f.cell;obtain⟨A,c,rfl⟩:=lY d;gi_wp2;refine⟨by simp,.inl ⟨_,_,rfl,run_takeDeferred Q, ?_⟩⟩;have a1:=belowK_b (w:=w) (am _) W D _ (.deferred none) (by omega) Q rfl rfl;have G:=a5.cut;have O:(gI s).length=zs.length:=by rw[<-G];simp[dH,lH]
  refine⟨_,results_tmp rfl _ _ _,_,rfl, ?_,i.trans a1⟩;have:=ownsRow_putObj d (.deferred none) Q rfl;unfold aS;rw[O,<-G];exact ajC this (by omega)
 case stop=>
  rintro D c b W _ _ h _;exact h.elim
def asr(s:ByteArray)(a:eB s=true)(w:World) :
  Calls (ah β) 154 #[.string s] w λe W'=>∃v,e=.returned v/\aS ni 9 W' w.heap.size v (gI s)/\Below w.heap.size w W':=
 callsIn_wide.1 (apw 6 (am _) s a w)
end
section
variable {β:Bool}
open Go.RowKit
def agQ{l:List ByteArray}(a:eB (qF (cN l))=true)(b:gI (qF (cN l))=l):eR l=(qF (cN l),true):=by unfold eR;rw[dl ⟨a,b⟩]
def afi{l:List ByteArray}(h:¬(eB (qF (cN l))=true/\gI (qF (cN l))=l)):eR l=(⟨#[]⟩,false):=by unfold eR;rw[bd h]
def anT(l:List ByteArray)(b:∀s∈l,aZ (bs s)):(qF (cN l)).size<=8*l.length:=by
 rw[<-aN,aeK (kH l),<-agP,pF];exact acK λs a=>(dE (b s a)).2
def apx(l:List ByteArray)(p:∀s∈l,aZ (bs s))(K:l.length<=2147483647)(v:Value)(w:World)(y j:Nat)(h:fY w y j l [v])(B:j<=w.heap.size) :
  Calls (ah β) 113 #[v] w λe E=>e=.returned (.tuple #[.string (eR l).1,.bool (eR l).2])/\Below w.heap.size w E:=by
 have o:=anT l p;have f:(qF (cN l)).size<=maxLen:=by unfold maxLen;omega
 have t:=ab (λI F=>agQ (l:=l) I F);have i:=ab (afi (l:=l));have A:=ab (axB (β:=β) l p K v w y j h B);clear p;generalize qF (cN l)=s at t i A o f;generalize eR l=r at t i ⊢;go_enter yP,ntmps113;go_wp2;refine A.out.mono ?_;rintro e C ⟨rfl,g⟩;go_wp2;refine(mb (β:=β) s f _).mono ?_;rintro e P ⟨rfl,rfl⟩;by_cases a:eB s=true
 .rw[a];go_wp2;refine(asr (β:=β) s a _).mono ?_;rintro e O ⟨G,rfl,J,m⟩;have n:∀x∈gI s,x.size<=maxLen:=λx k=>by have:=(dE (mM (gW a).2 x k)).2;unfold maxLen;omega
  have D:=aeY.sl (aS.deep J n C.heap.size) (am _);have H:=m.size;have z:=g.size;have M:=fY.aK.below h (g.trans (m.mono z)) B;obtain⟨q,d⟩:∃q:Bool,q=true↔gI s=l:=by
   by_cases k:gI s=l
   .exact⟨true,by simp[k]⟩
   .exact⟨false,by simp[k]⟩
  replace d:=ab d;go_wp2;refine(amn (β:=β) (gI s) l G v _ _ _ y j D M (am _) (by omega) q d.out).mono ?_;rintro e N ⟨rfl,L⟩;have c:=g.trans ((m.mono z).trans (L.mono (by omega)));cases q with
  |true=>
   have b:=t.out a (d.out.1 rfl);go_wp2;go_ret2;exact⟨by rw[b];rfl,c⟩
  |false=>
   have b:=i.out λu=>by have:=d.out.2 u.2;cases this
   go_wp2;go_ret2;exact⟨by rw[b];rfl,c⟩
 .have b:=i.out λu=>a u.1;rw[uC.2 a];go_wp2;go_ret2;exact⟨by rw[b];rfl,g⟩
end
section
variable {β:Bool}
open Go.RowKit
def ass(t:List Nd)(i:Nat)(x:Nd):Prop:=ahX x/\(∀y,0<i->t[i-1]?=some y->Op.bytesLess y.p.toList x.p.toList=true)/\∀k y,k<i->t[k]?=some y->pC y.p x.p=false
def adY(h:fX s=true):s.size<=3:=by rcases mJ h with h|h<;>omega
def ast(xs:List Nd)(v:Value)(w:World)(lo f:Nat)(h:nj w lo f xs [v])(V:f<=w.heap.size)(q:Bool)(r:q=true↔agD xs) :
  Calls (ah β) 114 #[v] w λe w'=>e=.returned (.bool q)/\Below w.heap.size w w':=by
 have L:=ab r;clear r;obtain⟨A,c,rfl⟩:=h.form;obtain⟨_,hc,hx⟩:=h.1.len_;unfold maxLen at hx;go_enter yO,ntmps114;go_wp2;go_loopw [7] (λii wr=>∃k:Nat,k<=xs.length/\ii=.int .i64 k/\(∀i x,i<k->xs[i]?=some x->ass xs i x)/\Below w.heap.size w wr) (λii _=>xs.length-(intOf ii).toNat)
 case atStart=>exact⟨0,du _,rfl,λi x f=>absurd f (rP i),db _ _⟩
 case round=>
  obtain⟨k,hk,rfl,n,hb⟩:=hrel;replace n:=ab n;by_cases D:k<xs.length
  .obtain⟨x,H⟩:=aq D;obtain⟨b0,a6,rfl,_,a5,K,c0,c1⟩:=ae7 (nj.aK.below h hb V) H;replace H:=ab H;go_wp2;have kb:=gi.new wr 143 #[.string x.p,.string x.b];have ba:=aJ wr (.cells #[.string x.p,.string x.b] 143);have a3:wr.heap.size+1=(wr.alloc (.cells #[.string x.p,.string x.b] 143)).heap.size:=by simp
   generalize wr.alloc (.cells #[.string x.p,.string x.b] 143)=wf at *;have l:wf.cell? ⟨wr.heap.size,0,none⟩=some (.string x.p):=kb.cell 0;have B:wf.cell? ⟨wr.heap.size,1,none⟩=some (.string x.b):=kb.cell 1;have W:=ae hb ba;clear kb c0 c1;cases a:fX x.p
   .replace a:=ab a;have d:q=false:=by
     rw[<-bv,L.out];rintro⟨-,h⟩;replace h:=h _ _ H.out;have h:=h.1.1;rw[a.out] at h;cases h
    have s:=ab d;clear d;have I:=ag l;have J:=ag B;refine az (by kernel_rfl) (by kernel_rfl) ?_;repeat(go_big_quiet_step (first|(go_at_call 155;refine aL (v:=.bool false) ?_;rw[<-a.out];exact ov (β:=β) x.p K.1 _)))
    refine ff ?_;intro wq p;have r:=aF p;clear p I J;go_wp2;go_ret;exact⟨ak s.out.symm,ae W r⟩
   .replace a:=ab a;cases b:eB x.b
    .replace b:=ab b;have d:q=false:=by
      rw[<-bv,L.out];rintro⟨-,h⟩;replace h:=h _ _ H.out;have h:=h.1.2;rw[b.out] at h;cases h
     have s:=ab d;clear d;have I:=ag l;have J:=ag B;refine az (by kernel_rfl) (by kernel_rfl) ?_;repeat(go_big_quiet_step (first|(go_at_call 155;refine aL (v:=.bool true) ?_;rw[<-a.out];exact ov (β:=β) x.p K.1 _)|(go_at_call 152;refine dh (v:=.bool false) ?_;rw[<-b.out];exact mb (β:=β) x.b K.2 _)))
     refine ff ?_;intro wq p;have r:=aF p;clear p I J;go_wp2;go_ret;exact⟨ak s.out.symm,ae W r⟩
    .replace b:=ab b;by_cases a2:k=0
     .have t1:=da (show ¬(0<k) by omega);have Z:ahX x/\∀y,0<k->xs[k-1]?=some y->Op.bytesLess y.p.toList x.p.toList=true:=⟨⟨a.out,b.out⟩,λy h0=>by omega⟩;have X:=ab Z;clear Z;clear a2;have I:=ag l;have J:=ag B;refine az (by kernel_rfl) (by kernel_rfl) ?_;repeat(go_big_quiet_step (first|(go_at_call 155;refine aL (v:=.bool true) ?_;rw[<-a.out];exact ov (β:=β) x.p K.1 _)|(go_at_call 152;refine dh (v:=.bool true) ?_;rw[<-b.out];exact mb (β:=β) x.b K.2 _)))
      refine ff ?_;intro wq p;have r:=aF p;clear p I J;have E:∀y∈xs.take k,y.p.size<=3:=λy g=>by
       obtain⟨i,f⟩:=qp.1 g;rw[qB] at f;split at f
       .rename_i S;exact adY (n.out i y S f).1.1
       .cases f
      have P:=ab E;clear E;have cz:=oQ r l;have o:=ae W r;have Q:=adY a.out;go_wp2;refine(mZ (β:=β) x Q xs k hk P.out _ c wr.heap.size _ lo f (nj.aK.below h o V) (ap V o.size) cz).mono ?_;rintro e w4 ⟨q4,rfl,O,b4⟩;have t:=ae o b4;rcases O with⟨rfl,j,y,N,g,U⟩|⟨rfl,C⟩
      .have HY:=ab g;replace U:=ab U;clear g;have d:q=false:=by
        rw[<-bv,L.out];rintro⟨-,h⟩;replace h:=h _ _ H.out;have h:=h.2.2 j y N HY.out;rw[U.out] at h;cases h
       have s:=ab d;clear d;go_wp2;go_ret;exact⟨ak s.out.symm,t⟩
      .have F:∀i z,i<k+1->xs[i]?=some z->ass xs i z:=λi z f M=>by
        rcases nf i k with D|fT
        .exact n.out i z D M
        .obtain rfl:i=k:=by omega
         rw[H.out] at M;cases M;exact⟨X.out.1,X.out.2,λj y N g=>C j y N g⟩
       have R:=ab F;clear F C;go_wp2;go_roundw
       case rel=>exact⟨k+1,by omega,by go_num,R.out,t⟩
       simp[intOf];omega
     .obtain⟨k',oJ⟩:∃m,m=k-1:=⟨_,rfl⟩;have e1:(k:Int)-1=((k':Nat):Int):=by omega
      have a1:k'<xs.length:=by omega
      have t1:=dq (show 0<k by omega);obtain⟨z,G⟩:=aq a1;obtain⟨b1,a4,e0,_,_,a7,d0,_⟩:=ae7 (nj.aK.below h W V) G;simp only[lw,pM,qh] at e0;obtain⟨rfl,rfl⟩:=e0;replace G:=ab G;have Y:=ab oJ;have a0:0<k:=by omega
      clear oJ;cases u:Op.bytesLess z.p.toList x.p.toList
      .have T:=ab u;have tr:=lG x.p.toList z.p.toList;rw[u,Bool.not_false] at tr;have d:q=false:=by
        rw[<-bv,L.out];rintro⟨-,h⟩;replace h:=h _ _ H.out;have h:=h.2.1 z a0 (by rw[<-Y.out];exact G.out);rw[T.out] at h;cases h
       have s:=ab d;clear d;have I:=ag l;have J:=ag B;have aO:=ag d0;refine az (by kernel_rfl) (by kernel_rfl) ?_;repeat(go_big_quiet_step (first|(go_at_call 155;refine aL (v:=.bool true) ?_;rw[<-a.out];exact ov (β:=β) x.p K.1 _)|(go_at_call 152;refine dh (v:=.bool true) ?_;rw[<-b.out];exact mb (β:=β) x.b K.2 _)))
       refine ff ?_;intro wq p;have r:=aF p;clear p I J aO;go_wp2;go_ret;exact⟨ak s.out.symm,ae W r⟩
      .have T:=ab u;have tr:=lG x.p.toList z.p.toList;rw[u,uw] at tr;have Z:ahX x/\∀y,0<k->xs[k-1]?=some y->Op.bytesLess y.p.toList x.p.toList=true:=⟨⟨a.out,b.out⟩,λy h0 g=>by
        rw[<-Y.out,G.out] at g;cases g;exact T.out⟩
       have X:=ab Z;clear Z;have I:=ag l;have J:=ag B;have aO:=ag d0;refine az (by kernel_rfl) (by kernel_rfl) ?_;repeat(go_big_quiet_step (first|(go_at_call 155;refine aL (v:=.bool true) ?_;rw[<-a.out];exact ov (β:=β) x.p K.1 _)|(go_at_call 152;refine dh (v:=.bool true) ?_;rw[<-b.out];exact mb (β:=β) x.b K.2 _)))
       refine ff ?_;intro wq p;have r:=aF p;clear p I J aO;clear d0 u e1 tr;have E:∀y∈xs.take k,y.p.size<=3:=λy g=>by
        obtain⟨i,f⟩:=qp.1 g;rw[qB] at f;split at f
        .rename_i S;exact adY (n.out i y S f).1.1
        .cases f
       have P:=ab E;clear E;have cz:=oQ r l;have o:=ae W r;have Q:=adY a.out;go_wp2;refine(mZ (β:=β) x Q xs k hk P.out _ c wr.heap.size _ lo f (nj.aK.below h o V) (ap V o.size) cz).mono ?_;rintro e w4 ⟨q4,rfl,O,b4⟩;have t:=ae o b4;rcases O with⟨rfl,j,y,N,g,U⟩|⟨rfl,C⟩
       .have HY:=ab g;replace U:=ab U;clear g;have d:q=false:=by
         rw[<-bv,L.out];rintro⟨-,h⟩;replace h:=h _ _ H.out;have h:=h.2.2 j y N HY.out;rw[U.out] at h;cases h
        have s:=ab d;clear d;go_wp2;go_ret;exact⟨ak s.out.symm,t⟩
       .have F:∀i z,i<k+1->xs[i]?=some z->ass xs i z:=λi z f M=>by
         rcases nf i k with D|fT
         .exact n.out i z D M
         .obtain rfl:i=k:=by omega
          rw[H.out] at M;cases M;exact⟨X.out.1,X.out.2,λj y N g=>C j y N g⟩
        have R:=ab F;clear F C;go_wp2;go_roundw
        case rel=>exact⟨k+1,by omega,by go_num,R.out,t⟩
        simp[intOf];omega
  .obtain rfl:k=xs.length:=by omega
   by_cases h6:xs.length<=6
   .have t1:=dq (show(xs.length:Int)<=6 by omega);have d:q=true:=L.out.2 ⟨h6,λi x hx=>n.out i x (aI hx) hx⟩;have s:=ab d;clear d;go_wp2;go_ret;exact⟨ak s.out.symm,hb⟩
   .have t1:=da (show ¬((xs.length:Int)<=6) by omega);have d:q=false:=by
     rw[<-bv,L.out];rintro⟨h, -⟩;exact h6 h
    have s:=ab d;clear d;go_wp2;go_ret;exact⟨ak s.out.symm,hb⟩
end
section
variable {β:Bool}
open Go.RowKit
noncomputable def xFA:Func:=by
 apply(λ(x:Func) (_:{f112 with body:=some ju}=x)=>x)
 case x=>dsimp only[ju,aaA,atc,avf,avg,avh,avi,avj,avk,avl,avm,avn,avs,ax9,avo,avp,avq,avr,aqb,aqc,aqd,amR,aix,acV,avt,avu,aiv,aiw,gO,aaB,atd,ate,atf,aqa,atg,aoj,kOp,aaD,aaC,lz,cH,cF,bW,f112,Option.getD,List.map]
def axE:qFA true=xFA:=by kernel_rfl
def asu:(ah true).funcs[112]?=some xFA:=(aci true).trans (fa some axE)
@[go_sem] theorem azO(args:Array Value)(w:World):(callFunc 112 args).run (ah true) w=.ok (.enter 112 args) w:=by
 have a:=cA func112;exact jY asu a rfl args w
end
section
variable {β:Bool}
open Go.RowKit
def FFe:Flat (ByteArray×Bool):=⟨2,λx=>[.string x.1,.bool x.2],λx=>x.1.size<=maxLen,λ_=>rfl,λx u a=>by
 simp only[lE,rc,tT] at a;rcases a with rfl|rfl<;>rfl,by decide⟩
def au2:((ah true).info? 216).map (λi=>(i.zero,i.size,i.bytes))=some (some (.agg #[.string ⟨#[]⟩,.bool false]),2,24):=by kernel_rfl
@[go_sem] theorem az9(n:Int)(B:Option Addr)(m c:Nat)(w:World):(Instr.field 56 (.agg #[.int .i64 n,.slice B m c]) 0).run (ah true) w=.ok (.int .i64 n) w:=by simp[Instr.field,lm xj,asAgg,go_sem]
@[go_sem] theorem aAa(n:Int)(B:Option Addr)(m c:Nat)(w:World):(Instr.field 56 (.agg #[.int .i64 n,.slice B m c]) 1).run (ah true) w=.ok (.slice B m c) w:=by simp[Instr.field,lm xj,asAgg,go_sem]
@[go_sem] theorem aAb(n:Int)(s:ByteArray)(w:World):(Instr.field 83 (.agg #[.int .i64 n,.string s]) 0).run (ah true) w=.ok (.int .i64 n) w:=by simp[Instr.field,lm xh,asAgg,go_sem]
@[go_sem] theorem aAc(n:Int)(s:ByteArray)(w:World):(Instr.field 83 (.agg #[.int .i64 n,.string s]) 1).run (ah true) w=.ok (.string s) w:=by simp[Instr.field,lm xh,asAgg,go_sem]
def axF(key:Int)(l:List gz)(di:List Int)(w:World)(e:Ending)(w':World):Prop:=
 ∃v b,e=.returned (.tuple #[v,.bool b])/\(b=true↔∀n∈di,(bP key l n).2=true)/\(b=true->aS ni 9 w' w.heap.size v (di.map λn=>(bP key l n).1))/\Below w.heap.size w w'
noncomputable def amp(key:Int)(l:List gz)(ns:List Int):List ByteArray:=ns.map λn=>(bP key l n).1
noncomputable def pD(key:Int)(l:List gz)(di:List Int)(k:Nat):List (ByteArray×Bool):=(di.take k).map (bP key l)++List.replicate (di.length-k) (⟨#[]⟩,false)
def au3(h:k<di.length):(pD key l di k)[k]?=some (⟨#[]⟩,false):=by
 unfold pD;have a:((di.take k).map (bP key l)).length=k:=by rw[pF,lc];omega
 rw[pL (by omega),a,uJ,tD,dl (by omega)]
def asv{n:Int}(h:di[k]?=some n):(pD key l di k).set k (bP key l n)=pD key l di (k+1):=by
 have b:=aI h;unfold pD;have c:((di.take k).map (bP key l)).length=k:=by rw[pF,lc];omega
 rw[uZ _ _ (by omega),c,uJ,gn h,oR,rz]
 congr 1
 obtain⟨m,a⟩:∃m,di.length-k=m+1:=⟨di.length-k-1,by omega⟩;rw[a,List.replicate_succ,pO,show di.length-(k+1)=m by omega];rfl
def apy:∀n:Nat,(madeCells #[.string ⟨#[]⟩,.bool false] (n*2)).toList=dB FFe (List.replicate n (⟨#[]⟩,false)):=λn=>by
 apply tJ;intro j;rcases nf j (n*2) with h|h
 .have d:j / 2<n:=by omega
  have b:(List.replicate n ((⟨#[]⟩,false):ByteArray×Bool))[j / 2]?=some (⟨#[]⟩,false):=by rw[tD,dl d]
  have e:j=j / 2*2+j % 2:=by omega
  rw[ef];have c:(madeCells #[.string ⟨#[]⟩,.bool false] (n*2))[j]?=some (#[Value.string ⟨#[]⟩,Value.bool false][j % 2]!):=by
   unfold madeCells;simp[h]
  rw[c];rcases Nat.mod_two_eq_zero_or_one j with a|a
  .have:=gU FFe _ (j / 2) 0 _ (.string ⟨#[]⟩) b rfl;rw[show j / 2*FFe.sz+0=j by show j / 2*2+0=j;omega] at this;rw[this,a];rfl
  .have:=gU FFe _ (j / 2) 1 _ (.bool false) b rfl;rw[show j / 2*FFe.sz+1=j by show j / 2*2+1=j;omega] at this;rw[this,a];rfl
 .rw[ef,pH (by rw[rj];exact h),qN (by rw[eT,pP];exact h)]
def asw(w:World)(n:Nat)(a:n<=maxLen)(h:di.length=n:=by rfl) :
  aS FFe 216 (w.alloc (.cells (madeCells #[.string ⟨#[]⟩,.bool false] (n*2)) 216)) w.heap.size (.slice (some ⟨w.heap.size,0,none⟩) n n) (pD key l di 0):=by
 have e:pD key l di 0=List.replicate n (⟨#[]⟩,false):=by unfold pD;rw[h];rfl
 rw[e];refine⟨eT FFe _,.inr ⟨w.heap.size,n,_,by rw[pP],am _,gi.new _ _ _,by rw[pP];exact am _,a,by rw[rj];rfl, ?_⟩⟩;rw[apy,pP];exact nq (by rw[eT,pP];exact am _)
def anU{base g : Nat}{xs:List (ByteArray×Bool)}(h:aS FFe 216 w base (.slice (some ⟨g,0,none⟩) n n) xs){x:ByteArray×Bool}(a:xs[k]?=some x) :
  w.cell? ⟨g,k*2,none⟩=some (.string x.1)/\w.cell? ⟨g,k*2+1,none⟩=some (.bool x.2):=by
 obtain⟨A,c,e⟩:=aS.form h;simp only[sR] at e;obtain⟨-,rfl, -⟩:=e;exact⟨h.cell a (j:=0) rfl,h.cell a (j:=1) rfl⟩
def au4{base g : Nat}(h:aS FFe 216 w base (.slice (some ⟨g,0,none⟩) n n) (pD key l di k))(m:k<di.length) :
  w.cell? ⟨g,k*2,none⟩=some (.string ⟨#[]⟩)/\w.cell? ⟨g,k*2+1,none⟩=some (.bool false)/\(∀j,w.frozen? ⟨g,j,none⟩=false)/\(∀j (p:Addr) u,(w.setCell p u).frozen? ⟨g,j,none⟩=false)/\
  ∀y:ByteArray×Bool,aS FFe 216 ((w.setCell ⟨g,k*2,none⟩ (.string y.1)).setCell ⟨g,k*2+1,none⟩ (.bool y.2)) base (.slice (some ⟨g,0,none⟩) n n) ((pD key l di k).set k y):=by
 obtain⟨A,c,e⟩:=aS.form h;simp only[sR] at e;obtain⟨-,rfl, -⟩:=e;have a:=au3 (key:=key) (l:=l) m;obtain⟨o,q⟩:=anU h a;refine⟨o,q,λj=>h.frozen rfl j,λj p u=> ?_,λy=> ?_⟩
 .rw[tY];exact h.frozen rfl j
 .have d:=h.put a (j:=0) (y:=(y.1,false)) (u:=.string y.1) (by decide) rfl;have f:aS FFe 216 (w.setCell ⟨g,k*FFe.sz+0,none⟩ (.string y.1)) base (.slice (some ⟨g,0,none⟩) ((pD key l di k).set k (y.1,false)).length (pD key l di k).length) ((pD key l di k).set k (y.1,false)):=by rw[qZ];exact d
  have b:=f.put (i:=k) (x:=(y.1,false)) (by rw[rJ (aI a)]) (j:=1) (y:=y) (u:=.bool y.2) (by decide) rfl;rw[qZ,abV] at b;exact b
def amq (key:Int) (hk:1<=key/\key<=99) (l:List gz) (A:Option Addr) (c:Nat) (di:List Int) (v2:Value) (lo hi:Nat) (w:World) (x0 x1:Value)
  (aM:hi<=w.heap.size) (hl:PkL w A l) (a6:l.length<=c) (hc:c<=maxLen) (lD:∀p∈l,1<=p.2.length/\dJ p.1) (G:aY bz 1 w lo hi di [v2]) (b0:di.length<=2147483647)
  (e0:w.cell? ⟨0,0,none⟩=some x0) (e1:w.cell? ⟨1,0,none⟩=some x1) :
  Calls (ah true) 112 #[.int .i64 key,.slice A l.length c,v2] w (axF key l di w):=by
 obtain⟨A2,c2,rfl⟩:=G.form;obtain⟨-,ax,a5⟩:=G.len_;have HC:=ab hc;unfold maxLen at hc a5;have ay:=jS (P:=ah true) 205 216 _ 2 24 xJ au2 di.length (by omega) (by omega);have a8:xFA.ntmps=45:=ntmps112;have T:xFA.results=#[.tmp 6,.tmp 7]:=results112;go_enter asu,a8;go_wp2
 go_loop [20] (λi=>∃k:Nat,k<=l.length/\i=.int .i64 k) (λi=>l.length-(intOf i).toNat)
 case atStart=>exact⟨0,du _,rfl⟩
 case round=>
  obtain⟨k,al,rfl⟩:=hrel;by_cases a3:k<l.length
  .obtain⟨p,iH⟩:=aq a3;obtain⟨b,av,B,c3,rfl,aR,aH,ao,aD,a7,a4⟩:=hl k p iH;have kL:=lD p (be iH);obtain⟨kL,aa⟩:=kL;unfold dJ at aa;unfold maxLen at a7;obtain⟨W,X⟩:=p;dsimp only at *;have w1:wrap64 (W*1)=W:=by unfold wrap64;omega
   have t1:(W ==W)=true:=rF _;clear iH;go_wp2
   go_loop [5] (λjj=>∃j:Nat,j<=X.length/\jj=.int .i64 j) (λjj=>X.length-(intOf jj).toNat)
   case atStart=>exact⟨0,du _,rfl⟩
   case round=>
    obtain⟨j,b6,rfl⟩:=hrel;by_cases a0:j<X.length
    .obtain⟨x,S⟩:=aq a0;obtain⟨b2,gX,rfl,b4,aW,af,a2,ad⟩:=a4 j x S;unfold dJ at a2;unfold maxLen at ad;obtain⟨V,xb⟩:=x;dsimp only at *;have w2:wrap64 (V*1)=V:=by unfold wrap64;omega
     have t2:(V ==V)=true:=rF _;clear S;go_wp2
     go_round
     case rel=>exact⟨j+1,by omega,by go_num⟩
     simp[intOf];omega
    .obtain rfl:j=X.length:=by omega
     go_wp2
     go_round
     case rel=>exact⟨_,_,_,_,_,_,_,_,_,⟨k+1,by omega,rfl⟩,rfl,rfl,rfl,rfl,rfl,rfl,rfl,rfl,by go_num⟩
     show l.length-((k:Int)+1).toNat<l.length-(k:Int).toNat;omega
  .obtain rfl:k=l.length:=by omega
   clear lD;go_wp2;have s:=asw (key:=key) (l:=l) (di:=di) w di.length (by unfold maxLen;omega);have M:=aJ w (.cells (madeCells #[.string ⟨#[]⟩,.bool false] (di.length*2)) 216);generalize w.alloc (.cells (madeCells #[.string ⟨#[]⟩,.bool false] (di.length*2)) 216)=w0 at *;go_loopw [28] (λH wr=>∃k:Nat,k<=di.length/\H=.int .i64 k/\aS FFe 216 wr w.heap.size (.slice (some ⟨w.heap.size,0,none⟩) di.length di.length) (pD key l di k)/\Below w.heap.size w wr) (λH _=>di.length-(intOf H).toNat)
   case atStart=>exact⟨0,du _,rfl,s,M⟩
   case round=>
    clear s M;obtain⟨k,aT,rfl,r,a⟩:=hrel;by_cases q:k<di.length
    .obtain⟨n,f⟩:=aq q;obtain⟨b3,a1,es,rfl,b5,aO,_,⟨rfl,Q⟩,R⟩:=((aY.loc bz.loc).below G a aM).at_ f;have d0:wr.cell? ⟨b3,a1+k,none⟩=some (.int .i64 n):=by simpa using R 0 _ rfl
     unfold dJ at Q;have w3:wrap64 (n*1)=n:=by unfold wrap64;omega
     have t3:(n ==n)=true:=rF _;have y:=asv (key:=key) (l:=l) f;replace y:=ab y;clear R f;go_wp2;refine(anF wr key A c l n hk.1 hk.2 a6 (by omega) (hl.below a) Q).mono ?_;rintro e w5 ⟨v,rfl,rfl,E⟩;have K:=r.below E;obtain⟨f0,f1,z0,z1,t⟩:=au4 K q;have a9:=ae a E;have HP:=ab (t (bP key l n));clear r a E K t d0;go_wp2;go_roundw
     case rel=>exact⟨k+1,by omega,by go_num,by rw[<-y.out];exact HP.out,(a9.setCell (by dsimp only;omega) _).setCell (by dsimp only;omega) _⟩
     simp[intOf];omega
    .obtain rfl:k=di.length:=by omega
     replace G:=ab G;clear hl;go_wp2;have kI:=aJ wr (.cells #[.slice (some ⟨w.heap.size,0,none⟩) di.length di.length] 205);have o:=r.below kI;have g:=ae a kI;have e1:pD key l di di.length=di.map (bP key l):=by unfold pD;rw[dk,uJ,List.replicate_zero,sI]
     rw[e1] at o;clear r a kI e1;generalize wr.alloc (.cells #[.slice (some ⟨w.heap.size,0,none⟩) di.length di.length] 205)=w1 at *;go_loopw [12,31] (λoo H wr=>∃k:Nat,k<=di.length/\H=.int .i64 k/\aS ni 9 wr w.heap.size oo (amp key l (di.take k))/\aS FFe 216 wr w.heap.size (.slice (some ⟨w.heap.size,0,none⟩) di.length di.length) (di.map (bP key l))/\(∀n∈di.take k,(bP key l n).2=true)/\Below w.heap.size w wr) (λ_ H _=>di.length-(intOf H).toNat)
     case atStart=>exact⟨0,du _,rfl,aS.nil _ _ _,o,λn G=>(by simp at G),g⟩
     case round=>
      clear o g;obtain⟨k,b1,rfl,I,r,d,a⟩:=hrel;replace d:=ab d;obtain⟨So,sc,rfl⟩:=I.form;by_cases q:k<di.length
      .obtain⟨n,f⟩:=aq q;have U:(di.map (bP key l))[k]?=some (bP key l n):=by rw[qi,f];rfl
       obtain⟨f0,f1⟩:=anU r U;have u:(amp key l (di.take k)).length=k:=by unfold amp;rw[pF,lc];omega
       have dT:amp key l (di.take (k+1))=amp key l (di.take k)++[(bP key l n).1]:=by unfold amp;rw[gn f,oR];rfl
       have z:=ao7 r I (by decide);replace z:=ab z;have O:=ab f;replace u:=ab u;clear U f;cases D:(bP key l n).2 with
       |false=>
        rw[D] at f1;replace D:=ab D;go_wp2;refine pN (v:=.tuple #[.slice none 0 0,.bool false]) (by simp[results,T,go_sem]) rfl ⟨_,false,rfl, ?_,λh=>(by cases h),a.alloc a.size _⟩;simp only[fd,qO];intro h;have:=h n (be O.out);rw[D.out] at this;cases this
       |true=>
        rw[D] at f1;have C:∀m∈di.take (k+1),(bP key l m).2=true:=λm J=>by
         rw[gn O.out,gt] at J;rcases J with J|J
         .exact d.out m J
         .rw[ga.1 J];exact D
        replace C:=ab C;clear D;replace dT:=ab dT;have Z:=aJ wr (.cells #[.string (bP key l n).1,.bool true] 216);have Y:=aJ (wr.alloc (.cells #[.string (bP key l n).1,.bool true] 216)) (.cells #[.string (bP key l n).1] 9);have kB:=gi.new (wr.alloc (.cells #[.string (bP key l n).1,.bool true] 216)) 9 #[.string (bP key l n).1];simp only[pa] at kB;have N:=(I.below Z).below Y;have o:=(r.below Z).below Y;have g:=ae (ae a Z) Y;clear I r a Z Y;go_wp2_with(at_builtin;refine agw (F:=ni) (v:=.slice So (amp key l (di.take k)).length sc) rfl (.tmp 38) (.tmp 41) 163 rfl abY (bP key l n).1 rfl N rfl kB rfl (by have:=u.out;omega) g.size ?_;intro va wa oa L an;obtain⟨Aa,ca,rfl⟩:=oa.form);go_roundw
        case rel=>exact⟨k+1,by omega,by go_num,by rw[dT.out];rw[ge] at oa;exact oa,o.chg L λb hb=>z.out b hb,C.out,g.trans (L.below g.size λi hi hx=>by have:=(N.at_ hx).1;omega)⟩
        simp[intOf];omega
      .obtain rfl:k=di.length:=by omega
       rw[dk] at I d;go_wp2;refine pN (v:=.tuple #[_,.bool true]) (by simp[results,T,go_sem]) rfl ⟨_,true,rfl,by simp only[qj];exact d.out,λ_=>I,a⟩
end
section
open Go.RowKit
def agR(a:ajX key l x.ns)(b:(eR (fB key l x.ns)).2=true):gb key l x=some ⟨x.p,(eR (fB key l x.ns)).1⟩:=by unfold gb;rw[dl ⟨a,b⟩]
def ab4(h:¬(ajX key l x.ns/\(eR (fB key l x.ns)).2=true)):gb key l x=none:=by unfold gb;rw[bd h]
def ab5(b:x∈xs)(h:gb key l x=none):dD key l xs=none:=by
 unfold dD;rw[bd];rintro⟨a, -⟩;have:=a x b;rw[h] at this;cases this
def afj{l:List ByteArray}:(eR l).1.size<=40:=by
 unfold eR;split
 .rename_i h;exact(gW h.1).1
 .exact du _
def adr{y:Nd}(a:xs[k]?=some x)(h:gb key l x=some y):dm key l (xs.take (k+1))=dm key l (xs.take k)++[y]:=by
 unfold dm;rw[gn a,List.filterMap_append];simp[h]
def dy.itl{a:List It}(h:dy w Z Y a [.slice A n c])(o:Y<=w.heap.size):ItL w A (a.map λx=>(x.n,x.b)):=λi x e=>by
 rw[qi] at e;obtain⟨y,g,rfl⟩:=io.1 e;obtain⟨b,d,m,rfl,p,l, -,⟨rfl,j,k⟩,f⟩:=h.at_ g;exact⟨b,d,rfl,by omega,by simpa using f 0 _ rfl,f 1 _ rfl,j,k⟩
def cK.pkl{l:List Pk}(h:cK w Z Y l [.slice A n c])(k:Y<=w.heap.size):PkL w A (bV l):=λi x e=>by
 unfold bV at e;rw[qi] at e;obtain⟨y,j,rfl⟩:=io.1 e;obtain⟨b,a,q,rfl,s,p, -,⟨v,rfl,r,f⟩,g⟩:=h.at_ j;obtain⟨B,d,rfl⟩:=f.form;obtain⟨-,o,m⟩:=f.len_;refine⟨b,a,B,d,rfl,by omega,by have:=g 0 _ rfl;rw[ru] at this;exact this, ?_, ?_,m,f.itl k⟩
 .have:=g 1 _ rfl;rw[show(pkd y).2.length=y.its.length from pF _];exact this
 .rw[show(pkd y).2.length=y.its.length from pF _];exact o
def aaY(h:bA w Z Y xs [.slice A n c])(i:xs[k]?=some x) :
  ∃b a A' d,A=some ⟨b,a,none⟩/\Z<=b/\b<Y/\x.p.size<=maxLen/\w.cell? ⟨b,a+k*2,none⟩=some (.string x.p)/\w.cell? ⟨b,a+k*2+1,none⟩=some (.slice A' x.ns.length d)/\aY bz 1 w Z Y x.ns [.slice A' x.ns.length d]:=by
 obtain⟨b,a,m,rfl,j,g,l,⟨v,rfl,f,Y⟩,e⟩:=h.at_ i;obtain⟨A',d,rfl⟩:=Y.form;exact⟨b,a,A',d,rfl,j,g,f,by simpa using e 0 _ rfl,e 1 _ rfl,Y⟩
def iU(o:Option (List Nd))(w:World)(e:Ending)(w':World):Prop:=∃v,e=.returned (.tuple #[v,.bool o.isSome])/\aS FNd 143 w' w.heap.size v (o.getD [])/\(∀y∈o.getD [],FNd.good y)/\Below w.heap.size w w'
def iU.no{o:Option (List Nd)}(h:o=none)(a:Below w.heap.size w w'):iU o w (.returned (.tuple #[.slice none 0 0,.bool false])) w':=by
 subst h;exact⟨_,rfl,aS.nil _ _ _,λy b=>(by cases b),a⟩
theorem amr (key:Int) (D:1<=key/\key<=99) (l:List gz) (A:Option Addr) (c:Nat) (x:Sn) (vn:Value) (lo hi:Nat) (w:World) (hg:Glo w) (aM:hi<=w.heap.size) (hl:PkL w A l) (an:l.length<=c) (hc:c<=maxLen) (lD:∀p∈l,1<=p.2.length/\dJ p.1)
  (hn:bA w lo hi x.all [vn]) (r:∀y∈x.all,y.ns.length<=2147483647) (aW:x.all.length<=1099511627) :
  Calls (ah true) 74 #[.int .i64 key,.agg #[.int .i64 x.no,vn],.slice A l.length c] w (iU (dD key l x.all) w):=by
 have HK:=ab D;clear D;obtain⟨B,d,rfl⟩:=hn.form;obtain⟨-,hd,a0⟩:=hn.len_;have HD:=ab a0;unfold maxLen at a0;have a6:=ab lD;have aO:=ab r;clear lD r;go_enter zk,ntmps74;go_wp2;refine(abJ (β:=true) key _ true (by simp only[qj];exact HK.out)).mono ?_;rintro e w1 ⟨rfl,rfl⟩;go_wp2;have av:=aJ w (.cells #[.int .i64 x.no,.slice B x.all.length d] 48);generalize w.alloc (.cells #[.int .i64 x.no,.slice B x.all.length d] 48)=w0 at *;have b2:=av.size;go_loopw [8,20] (λoo ii wr=>∃k:Nat,k<=x.all.length/\ii=.int .i64 k/\(∀y∈x.all.take k,(gb key l y).isSome=true)/\aS FNd 143 wr w.heap.size oo (dm key l (x.all.take k))/\(∀y∈dm key l (x.all.take k),FNd.good y)/\(dm key l (x.all.take k)).length=k/\Below w.heap.size w wr) (λ_ ii _=>x.all.length-(intOf ii).toNat)
 case atStart=>exact⟨0,du _,rfl,λy hy=>(by cases hy),aS.nil _ _ _,λy hy=>(by cases hy),rfl,av⟩
 case round=>
  obtain⟨k,hk,rfl,o,W,S,V,hb⟩:=hrel;have G:=ab o;have C:=ab S;have K:=ab V;clear o S V av;have ay:=hb.size;by_cases aa:k<x.all.length
  .obtain⟨y,cM⟩:=aq aa;have U:bA wr lo hi x.all [.slice B x.all.length d]:=bA.loc.below hn hb aM;obtain⟨b,b1,A',c',rfl,b3,I,al,ao,aT,r⟩:=aaY U cM;have HY:=ab cM;have a2:=aO.out y (be cM);clear cM;go_wp2;have ba:=aJ wr (.cells #[.string y.p,.slice A' y.ns.length c'] 75);have kb:=gi.new wr 75 #[.string y.p,.slice A' y.ns.length c'];generalize wr.alloc (.cells #[.string y.p,.slice A' y.ns.length c'] 75)=wa at *;have u:=ae hb ba;have aR:=u.size;obtain⟨⟨g0,e0⟩,g1,e1⟩:=hg.below u;have HF:=amq key HK.out l A c y.ns _ lo hi wa g0 g1 (ap aM aR) (hl.below u) an hc a6.out (jB.loc.below r ba (ap aM ay)) a2 e0 e1;refine HF.mono ?_;clear HF e0 e1 U ao aT r;rintro e w2 ⟨v2,q,rfl,R,m,N⟩;have T:=ae u N;have O:=ab R;clear R;have aD:=ar kb N;cases q with
   |false=>
    have a:dD key l x.all=none:=ab5 (be HY.out) (ab4 λQ=>by have:=O.out.2 Q.1;cases this);have g:=ab a;clear a m;go_wp2;go_ret2;exact iU.no g.out T
   |true=>
    have j:=O.out.1 rfl;have L:∀s∈fB key l y.ns,aZ (bs s):=λs hs=>by
     obtain⟨n,hn,rfl⟩:=lP.1 hs;exact(iT (j n hn)).1
    have Z:∀s∈fB key l y.ns,s.size<=maxLen:=λs hs=>by have:=(dE (L s hs)).2;unfold maxLen;omega
    have o2:aS ni 9 w2 wa.heap.size v2 (fB key l y.ns):=m rfl;have t2:=aeY.sl (aS.deep o2 Z wa.heap.size) (am _);have Y:(fB key l y.ns).length<=2147483647:=by unfold fB;rw[pF];exact a2
    have HC:=λP (t:Below w2.heap.size w2 P)=>apx (β:=true) (fB key l y.ns) L Y v2 P _ _ (fY.aK.below t2 t (am _)) t.size;have a5:=ab HC;have aH:=ab (show ajX key l y.ns from j);clear HC j L Z o2 t2 Y m O;go_wp2;refine(a5.out _ (db _ _)).mono ?_;rintro e P ⟨rfl,t⟩;have J:=ae T t;have ax:=ar aD t;have cp:=ax.cell 0;cases hj:(eR (fB key l y.ns)).2
    .have a:dD key l x.all=none:=ab5 (be HY.out) (ab4 λQ=>by rw[hj] at Q;cases Q.2);have g:=ab a;clear a hj;go_wp2;go_ret2;exact iU.no g.out J
    .have E:=agR (x:=y) aH.out hj;have a8:(eR (fB key l y.ns)).1.size<=maxLen:=by have:=afj (l:=fB key l y.ns);unfold maxLen;omega
     generalize (eR (fB key l y.ns)).1=tx at *;have a4:=adr HY.out E;have a3:∀z∈x.all.take (k+1),(gb key l z).isSome=true:=λz f=>by
      rw[gn HY.out] at f;rcases gt.1 f with f|f
      .exact G.out z f
      .rw[ga.1 f,E];rfl
     have HN:=ab a4;have ad:=ab a3;clear a4 a3 E hj;have M:=(W.below (ae ba (N.trans (t.mono N.size)))).below (db _ _);obtain⟨Ao,co,rfl⟩:=M.form;have a1:=J.size;go_wp2_with(at_builtin;refine ku (F:=FNd) (v:=.slice Ao (dm key l (x.all.take k)).length co) rfl (.tmp 41) (.tmp 46) 106 rfl anM (⟨y.p,tx⟩:Nd) rfl M rfl rfl (by rw[K.out];omega) a1 ?_;intro va w4 oa a9 b0;obtain⟨Aa,ca,rfl⟩:=oa.form);go_roundw
     case rel=>
      have a7:=J.trans (a9.below a1 λi hi hx=>by have:=(M.at_ hx).1;omega);refine⟨k+1,by omega,by go_num,ad.out,by rw[HN.out];simp only[ge,mp,pT,ph] at oa;exact oa, ?_,by rw[HN.out,ge,K.out];rfl,a7⟩;rw[HN.out];intro z f;rcases gt.1 f with f|f
      .exact C.out z f
      .rw[ga.1 f];exact⟨al,a8⟩
     case measure=>simp[intOf];omega
  .obtain rfl:k=x.all.length:=by omega
   rw[dk] at G C K W;have t3:=aeY.sl (aS.deep W C.out w.heap.size) (am _);obtain⟨q,R⟩:∃q:Bool,q=true↔agD (dm key l x.all):=by
    by_cases hx:agD (dm key l x.all)
    .exact⟨true,by simp[hx]⟩
    .exact⟨false,by simp[hx]⟩
   have HT:=λP (t:Below wr.heap.size wr P)=>ast (β:=true) (dm key l x.all) u8 P _ _ (nj.aK.below t3 t (am _)) t.size q R;have af:=ab HT;have O:=ab R;clear HT R t3;go_wp2;refine(af.out _ (db _ _)).mono ?_;rintro e w2 ⟨rfl,N⟩;have I:=ae hb N;cases q with
   |false=>
    have a:dD key l x.all=none:=by
     unfold dD;rw[bd];rintro⟨-,Q⟩;have:=O.out.2 Q;cases this
    have g:=ab a;clear a;go_wp2;go_ret2;exact iU.no g.out I
   |true=>
    have X:dD key l x.all=some (dm key l x.all):=by
     unfold dD;rw[dl ⟨G.out,O.out.1 rfl⟩]
    have H:=ab X;clear X;have m:=W.below N;clear W;go_wp2;go_ret2;refine⟨u8,by rw[H.out];rfl,by rw[H.out];exact m,by rw[H.out];exact C.out,I⟩
noncomputable def afl(key:Int)(l:List gz)(xs:List Ls):Option (List Nd):=if 1<=key/\key<=99 then dD key l xs else none
end
section
variable {β:Bool}
open Go.RowKit
def anV(w:World)(ys:List Int)(e:Ending)(w':World):Prop:=∃v,e=.returned v/\aS fW 3 w' w.heap.size v ys/\Below w.heap.size w w'
def bI(its:List It):List Int:=its.map λx=>x.n
def lj(a:List It):(bI a).length=a.length:=by unfold bI;rw[pF]
def ah9{a:List It}{x:It}(h:a[k]?=some x):bI (a.take (k+1))=bI (a.take k)++[x.n]:=by
 unfold bI;rw[gn h,oR];rfl
def ab6(x:Int)(a:List It)(v:Value)(w:World)(P s:Nat)(G:s<=w.heap.size)(h:iB w P s a [v])(W:a.length<=100000000) :
  Calls (ah β) 111 #[.agg #[.int .i64 x,v]] w (anV w (bI a)):=by
 obtain⟨A,c,rfl⟩:=h.form;obtain⟨_,R,M⟩:=h.len_;unfold maxLen at M;go_enter yQ,ntmps111;go_wp2;generalize B:w.alloc (.cells #[.int .i64 x,.slice A a.length c] 56)=wa at *;obtain⟨u,N,H,m,q⟩:=fA B;clear B;go_loopw [3,9] (λz t wr=>∃k:Nat,k<=a.length/\t=.int .i64 k/\aS fW 3 wr w.heap.size z (bI (a.take k))/\Below w.heap.size w wr) (λz t _=>a.length-(intOf t).toNat)
 case atStart=>exact⟨0,du _,rfl,aS.nil _ _ _,u⟩
 case round=>
  clear H m q u;obtain⟨k,E,rfl,e,b⟩:=hrel;obtain⟨O,J,rfl⟩:=e.form;by_cases j:k<a.length
  .obtain⟨y,g⟩:=aq j;have f:=lj (a.take k);rw[lc,qy E] at f;have d:=ah9 g;have HST:=ab d;clear d;obtain⟨V,Z,rfl,_,_,D,T,S⟩:=ada (iB.aK.below h b G) g;replace g:=ab g;revert f HST e;generalize bI (a.take k)=L;intro e f HST;have I:=ab f;clear f;have p:=aJ wr (.cells #[.int .i64 y.n,.string y.b] 83);replace e:=e.below p;replace b:=ae b p;have HO:=ab e;clear e;clear p;have r:Hid ((wr.alloc (.cells #[.int .i64 y.n,.string y.b] 83)).heap.size=wr.heap.size+1):=ab (by simp);go_wp2_with(at_builtin;refine ku (F:=fW) (v:=.slice O L.length J) rfl (.tmp 13) (.tmp 16) 27 rfl lX y.n rfl HO.out (fa (λn=>Value.slice (some ⟨n,0,none⟩) 1 1) r.out.symm) rfl (by have:=I.out;omega) b.size ?_;intro Y X o l C;obtain⟨U,Q,rfl⟩:=o.form;simp only[ge,mp,pT,ph] at o);go_roundw
   case rel=>exact⟨k+1,by omega,by go_num,by rw[HST.out];exact o,b.trans (l.below b.size λi s K=>by have:=(HO.out.at_ K).1;omega)⟩
   simp[intOf];omega
  .obtain rfl:k=a.length:=by omega
   rw[dk] at e ⊢;go_wp2;go_ret;exact⟨_,rfl,e,b⟩
end
section
variable {β:Bool}
open Go.RowKit
section
variable {P:Program} {α:Type} {F:Flat α}
def agS {m:Array Oper} {rest:List Oper}  {Q:Exit->Act->World->Prop} (n:o.guard=none) (s x:Operand) (t:TypeId)
  (D:o.op=.call ⟨.builtin .append,#[s,x],#[t,t]⟩)
  {e:TypeId} (B:aaP P t e F.sz Z) {base:Nat} {xs d:List α} (I:a.eval s=v) (g:aS F e w base v xs)  (J:a.eval x=.slice A d.length c) (E:aY (cD F) F.sz w Y k d [.slice A d.length c]) (q:k<=w.heap.size)
  (K:xs.length+d.length<=1099511627776) (f:base<=w.heap.size)
  (h:∀l i,aS F e i base l (xs++d)->gq (λb=>v.ownBlock=some b) w i->(∀b,l.ownBlock=some b->v.ownBlock=some b\/w.heap.size<=b)->wpList P m Q rest (a.put o.dst l) i) :
  wpList P m Q (o::rest) a w:=
 aeO n s x t D B I g J (news:=dB F d) (eT F d) (λC=>by
  obtain⟨z,y,r⟩:=arQ E q C;exact⟨z,y,λj u G=>r j u G w (db _ _)⟩) (acA F d) K f λl i p=>h l i (by
  have H:=p.own;unfold aS;rw[mD,ge];exact H) p.chg p.at_
end
def pkN(p:Pk):Nat:=p.its.length
def aP(l:List Pk):List Int:=l.flatMap λp=>bI p.its
def lI{l:List Pk}{x:Pk}(h:l[k]?=some x):aP (l.take (k+1))=aP (l.take k)++bI x.its:=by
 unfold aP;rw[gn h,qI];simp
def mO(l:List Pk):∀j,(aP (l.take j)).length=kY pkN l j:=λj=>by
 unfold aP kY;generalize l.take j=m
 induction m with
 |nil=>rfl
 |cons x m a=>rw[List.flatMap_cons,ge,a,lj,pK,rD];rfl
def asy(l:List Pk):fK pkN l<=aX bPk l:=by
 unfold fK aX;have:(l.map pkN).sum<=(l.map bPk).sum:=by
  induction l with
  |nil=>exact am _
  |cons x l a=>
   rw[pK,pK,rD,rD];have:pkN x<=bPk x:=fJ;omega
 omega
def na(l:List Pk)(v:Value)(w:World)(lo C:Nat)(X:C<=w.heap.size)(h:eE w lo C l [v])(hl:fK pkN l<=100000000) :
  Calls (ah β) 73 #[v] w (anV w (aP l)):=by
 obtain⟨A,c,rfl⟩:=h.form;obtain⟨_,hc,hx⟩:=h.len_;unfold maxLen at hx;go_enter zl,ntmps73;go_wp2;go_loopw [3,8] (λV Q wr=>∃k:Nat,k<=l.length/\Q=.int .i64 k/\aS fW 3 wr w.heap.size V (aP (l.take k))/\Below w.heap.size w wr) (λV Q _=>l.length-(intOf Q).toNat)
 case atStart=>exact⟨0,du _,rfl,aS.nil _ _ _,db _ _⟩
 case round=>
  obtain⟨k,hk,rfl,b,a⟩:=hrel;obtain⟨Ao,Z,rfl⟩:=b.form;have G:=mO l k;have O:=kx (n:=pkN) (l:=l) (j:=k);by_cases E:k<l.length
  .obtain⟨p,r⟩:=aq E;have q:=kv (n:=pkN) r;have u:=kx (n:=pkN) (l:=l) (j:=k+1);have s:pkN p=p.its.length:=rfl;rw[s] at q;have d:=lI r;have HST:=ab d;clear d;obtain⟨b1,a0,A5,c5,rfl, -, -,a2,y,x,R⟩:=aaq (eE.aK.below h a X) r;have P:p.its.length<=100000000:=by omega
   have f:(aP (l.take k)).length+p.its.length<=100000000:=by omega
   replace r:=ab r;clear q u s G O;revert b;revert HST;revert f;generalize aP (l.take k)=L;intro f HST b;have D:=ab f;clear f;go_wp2;generalize T:wr.alloc (.cells #[.int .i64 p.no,.slice A5 p.its.length c5] 56)=wa at *;obtain⟨B,a1,m0,H,M⟩:=fA T;clear T;replace b:=b.below B;have J:=iB.aK.below R B (by have:=a.size;omega);replace a:=ae a B;refine(ab6 p.no p.its _ _ _ _ (by have:=a.size;omega) J P).mono ?_;rintro e w5 ⟨v5,rfl,S,U⟩;obtain⟨A6,c6,rfl⟩:=S.form;replace b:=b.below U;replace a:=ae a U;have m:∀z∈bI p.its,dJ z:=λz Y=>by
    obtain⟨it,I,rfl⟩:=lP.1 Y;exact((aY.good R.1) it I).1
   have K:=ab (S.sl m (am _));clear m;have g:=lj p.its;replace g:=ab g;have o:=ab b;clear b;clear H M m0 y x;go_wp2_with(at_builtin;refine agS (F:=fW) (v:=.slice Ao L.length Z) rfl (.tmp 12) (.tmp 14) 27 rfl lX rfl o.out rfl K.out (am _) (by have:=D.out;have:=g.out;omega) a.size ?_;intro v8 w8 N t W;obtain⟨A8,c8,rfl⟩:=N.form;simp only[ge] at N);go_roundw
   case rel=>exact⟨k+1,by omega,by go_num,by rw[HST.out];exact N,a.trans (t.below a.size λi C hs=>by have:=(o.out.at_ hs).1;omega)⟩
   simp[intOf];omega
  .obtain rfl:k=l.length:=by omega
   rw[dk] at b ⊢;go_wp2;go_ret;exact⟨_,rfl,b,a⟩
def aj9(u0 u1 a:Value)(g:∃A n c,u0=.slice A n c)(i:∃A n c,u1=.slice A n c)(f:∃A n c,a=.slice A n c)(w:World) :
  Calls (ah β) 46 #[.agg #[u0,u1,a]] w λe b=>e=.returned (.agg #[u0,u1,a])/\Below w.heap.size w b:=by
 obtain⟨A,n,c,rfl⟩:=g;obtain⟨B,m,d,rfl⟩:=i;obtain⟨C,k,e,rfl⟩:=f;go_enter zB,ntmps46;go_wp2;exact pN (v:=.agg #[.slice A n c,.slice B m d,.slice C k e]) (by simp[results,results46,go_sem]) rfl ⟨rfl,by repeat(first|exact db _ _|refine Below.setCell ?_ (by first|(simp;done)|(simp;omega)) _|refine qR ?_ (by first|(simp;done)|(simp;omega)) _)⟩
end
section
variable {β:Bool}
open Go.RowKit
def jM(n:Int)(s:List Int×Bool)(x:Int):List Int×Bool:=
 (if x=n then(if !s.2&&decide (n<=x) then s.1++[n] else s.1) else(if !s.2&&decide (n<=x) then s.1++[n] else s.1)++[x],s.2||decide (n<=x))
def jG(n:Int)(xs:List Int):List Int×Bool:=xs.foldl (jM n) ([],false)
def lq(xs:List Int)(n:Int):List Int:=if(jG n xs).2 then(jG n xs).1 else(jG n xs).1++[n]
def aaZ(n:Int)(xs:List Int)(x:Int):jG n (xs++[x])=jM n (jG n xs) x:=by unfold jG;rw[sS];rfl
def apA(n:Int)(y:Int)(xs:List Int):(y∈(jG n xs).1↔(y∈xs/\y≠n)\/(y=n/\(jG n xs).2=true)):=by
 induction xs using kS with
 |h0=>simp[jG]
 |h1 xs x a=>
  rw[aaZ];generalize jG n xs=s at a;obtain⟨o,b⟩:=s;simp only[jM,gt,ga] at a ⊢;by_cases h1:x=n
  .subst h1;cases b<;>simp[a]<;>grind
  .by_cases c:n<=x<;>cases b<;>simp[h1,c,a]<;>grind
def agT(n:Int)(y:Int)(xs:List Int):y∈lq xs n↔y∈xs\/y=n:=by
 have h:=apA n y xs;unfold lq;split
 .rename_i a;rw[h,a];grind
 .rename_i a;rw[gt,h];simp[a];grind
def agU(n:Int)(xs:List Int):(jG n xs).1.length<=xs.length+(if(jG n xs).2 then 1 else 0):=by
 induction xs using kS with
 |h0=>simp[jG]
 |h1 xs x a=>
  rw[aaZ];generalize jG n xs=s at a;obtain⟨o,c⟩:=s;simp only[jM] at a ⊢;by_cases h1:x=n<;>by_cases b:n<=x<;>cases c<;>simp[h1,b] at a ⊢ <;>omega
def apB(xs:List Int)(n:Int):(lq xs n).length<=xs.length+1:=by
 have h:=agU n xs;unfold lq;split
 .rename_i a;rw[a] at h;exact h
 .rename_i a;simp[a] at h;simp;omega
def afm(xs:List Int)(n:Int)(v:Value)(w:World)(Z U:Nat)(h:aY bz 1 w Z U xs [v])(aM:U<=w.heap.size)(Y:dJ n)(hl:xs.length<=1048576) :
  Calls (ah β) 37 #[v,.int .i64 n] w (am0 bz 1 w (lq xs n)):=by
 obtain⟨A,c,rfl⟩:=h.form;have Q:=ab h.afB;go_enter zJ,ntmps37;go_wp2;go_loopw [5,6,7] (λv p i wr=>∃(k:Nat) (o:List Int) (j:Bool),k<=xs.length/\i=.int .i64 k/\p=.bool j/\jG n (xs.take k)=(o,j)/\aeP wr w.heap.size v o/\Below w.heap.size w wr) (λ_ _ i _=>xs.length-(intOf i).toNat)
 case atStart=>exact⟨0,[],false,du _,rfl,rfl,rfl,aeP.aeQ _ (am _),(db _ _).alloc (am _) _⟩
 case round=>
  obtain⟨k,o,j,hk,rfl,rfl,s,a,B⟩:=hrel;have T:o.length<=k+1:=by
   have:=agU n (xs.take k);rw[s] at this;simp at this;cases j<;>simp at this<;>omega
  have f:=B.size;replace s:=ab s;by_cases N:k<xs.length
  .obtain⟨x,L⟩:=aq N;obtain⟨b,D,rfl,_,fp,_,S⟩:=h.ints_at L;have r:wr.cell? ⟨b,D+k,none⟩=some (.int .i64 x):=(B.cell (p:=⟨b,D+k,none⟩) (by show b<_;omega)).trans S;replace L:=ab L;clear S;have G:jG n (xs.take (k+1))=jM n (o,j) x:=by rw[gn L.out,aaZ,s.out]
   replace G:=ab G;by_cases t:j=false/\n<=x
   .obtain⟨rfl,V⟩:=t;by_cases d:x=n
    .have O:(x !=n)=false:=by rw[pu];exact d
     replace d:=ab d;go_wp2_with(at_builtin;refine oO rfl (.tmp 25) (.tmp 27) rfl n rfl a rfl (by omega) f ?_;intro X W g z M;have u:=B.trans (gT a z f);have F:=(gT a z f).cell (p:=⟨b,D+k,none⟩) (show b<_ by omega);rw[r] at F);go_roundw
     case rel=>exact⟨k+1,o++[n],true,by omega,by go_num,rfl,by rw[G.out];simp[jM,d.out],g,u⟩
     simp[intOf];omega
    .have O:(x !=n)=true:=by rw[qx];exact d
     replace d:=ab d;go_wp2_with(first
      |(at_builtin;refine oO rfl (.tmp 25) (.tmp 27) rfl n rfl a rfl (by omega) f ?_;intro X W g z M;have u:=B.trans (gT a z f);have F:=(gT a z f).cell (p:=⟨b,D+k,none⟩) (show b<_ by omega);rw[r] at F)
      |(at_builtin;refine oO rfl (.tmp 35) (.tmp 40) rfl x rfl g rfl (by simp;omega) u.size ?_;intro P R e l H))
     go_roundw
     case rel=>exact⟨k+1,o++[n]++[x],true,by omega,by go_num,rfl,by rw[G.out];simp[jM,d.out,V],e,u.trans (gT g l u.size)⟩
     simp[intOf];omega
   .have q:jM n (o,j) x=(if x=n then o else o++[x],j||decide (n<=x)):=by
     unfold jM;cases j
     .have:¬n<=x:=λh=>t ⟨rfl,h⟩;simp[this]
     .simp
    replace q:=ab q;by_cases d:x=n
    .have E:j=true:=by
      cases j
      .exact absurd ⟨rfl,by omega⟩ t
      .rfl
     subst E;have O:(x !=n)=false:=by rw[pu];exact d
     replace d:=ab d;go_wp2;go_roundw
     case rel=>exact⟨k+1,o,true,by omega,by go_num,rfl,by rw[G.out,q.out];simp[d.out],a,B⟩
     simp[intOf];omega
    .have O:(x !=n)=true:=by rw[qx];exact d
     replace d:=ab d;have E:(j||decide (n<=x))=j:=by
      cases j
      .have:¬n<=x:=λh=>t ⟨rfl,h⟩;simp[this]
      .rfl
     have J:=ab E;clear E;cases j
     .have V:¬n<=x:=λh=>t ⟨rfl,h⟩;go_wp2_with(at_builtin;refine oO rfl (.tmp 35) (.tmp 40) rfl x rfl a rfl (by omega) f ?_;intro P R e l H);go_roundw
      case rel=>exact⟨k+1,o++[x],false,by omega,by go_num,rfl,by rw[G.out,q.out,J.out];simp[d.out],e,B.trans (gT a l f)⟩
      simp[intOf];omega
     .go_wp2_with(at_builtin;refine oO rfl (.tmp 35) (.tmp 40) rfl x rfl a rfl (by omega) f ?_;intro P R e l H);go_roundw
      case rel=>exact⟨k+1,o++[x],true,by omega,by go_num,rfl,by rw[G.out,q.out,J.out];simp[d.out],e,B.trans (gT a l f)⟩
      simp[intOf];omega
  .obtain rfl:k=xs.length:=by omega
   have m:lq xs n=if j then o else o++[n]:=by
    have:=s.out;rw[dk] at this;unfold lq;rw[this]
   have C:∀y∈lq xs n,dJ y:=λy I=>by
    rcases(agT n y xs).1 I with I|I
    .exact Q.out y I
    .rw[I];exact Y
   replace m:=ab m;replace C:=ab C;cases j
   .go_wp2_with(at_builtin;refine oO rfl (.tmp 44) (.tmp 46) rfl n rfl a rfl (by omega) f ?_;intro P R e l H);go_ret;have K:=m.out;simp at K;rw[<-K] at e;exact⟨_,rfl,e.sl C.out (am _),B.trans (gT a l f)⟩
   .go_wp2;go_ret;have K:=m.out;simp at K;rw[<-K] at a;exact⟨_,rfl,a.sl C.out (am _),B⟩
end
section
variable {β:Bool}
open Go.RowKit
def asB(x:Hd)(w:World)(b:Bool)(f:b=true↔nk x):Calls (ah β) 77 #[.agg #[.int .i64 x.b,.int .i64 x.s]] w λe l=>e=.returned (.bool b)/\Below w.heap.size w l:=by
 have fin:∀q:Bool,(q=true↔(x.b=1\/x.b=2)/\1<=x.s/\x.s<=20)->q=b:=λq o=>by
  rw[oi,f,o];unfold nk;constructor
  .rintro⟨p,d,a⟩;exact⟨by omega,d,a⟩
  .rintro⟨p,d,a⟩;exact⟨by omega,d,a⟩
 replace fin:=ab fin;clear f;rcases(by omega:x.b=1\/x.b=2\/(x.b≠1/\x.b≠2)) with e|e|⟨e,g⟩<;>rcases(by omega:1<=x.s/\x.s<=20\/1<=x.s/\20<x.s\/x.s<1) with a|a|a
 all_goals
  first
   |have k:(x.b ==1)=true:=mx.2 e
   |have k:(x.b ==1)=false:=kw.2 (by omega)
  first
   |have i:(x.b ==2)=true:=mx.2 e
   |have i:(x.b ==2)=false:=kw.2 (by omega)
  first
   |have j:=dq (show 1<=x.s by omega)
   |have j:=da (show ¬(1<=x.s) by omega)
  first
   |have m:=dq (show x.s<=20 by omega)
   |have m:=da (show ¬(x.s<=20) by omega)
  have r:=ab e;have n:=ab a;clear e a;try(have c:=ab g;clear g)
  go_enter zh,ntmps77;go_wp2;go_ret;refine⟨ak (fin.out _ ?_),by repeat(first|exact db _ _|refine qR ?_ (by simp) _)⟩;have:=r.out;have:=n.out;try(have:=c.out)
  simp;try omega
def asC(x:Hd)(w:World)(b:Bool)(a:b=true↔nk x):Calls (ah β) 76 #[.agg #[.int .i64 x.b,.int .i64 x.s]] w λe d=>e=.returned (.bool (!b))/\Below w.heap.size w d:=by
 go_enter xk,ntmps76;go_wp2;refine(asB x _ b a).mono ?_;rintro e f ⟨rfl,c⟩;have a:=(aJ w (.cells #[.int .i64 x.b,.int .i64 x.s] 125));go_wp2;go_ret;exact⟨rfl,ae a c⟩
def aka(xs:List Hd)(v:Value)(w:World)(J D:Nat)(h:dU w J D xs [v])(H:D<=w.heap.size) :
  Calls (ah β) 115 #[v,.func (.func 76) #[] #[]] w λe B=>∃j:Int,e=.returned (.int .i64 j)/\(j=-1/\(∀x∈xs,nk x)\/0<=j/\¬ ∀x∈xs,nk x)/\Below w.heap.size w B:=by
 obtain⟨A,c,rfl⟩:=aY.form h;obtain⟨_,M,s⟩:=h.len_;unfold maxLen at s;go_enter yN,ntmps115;go_wp2;go_loopw [8] (λz wr=>∃k:Nat,k<=xs.length/\z=.int .i64 k/\(∀x∈xs.take k,nk x)/\Below w.heap.size w wr) (λz _=>xs.length-(intOf z).toNat)
 case atStart=>exact⟨0,du _,rfl,λx s=>(by cases s),db _ _⟩
 case round=>
  obtain⟨k,L,rfl,n,g⟩:=hrel;replace n:=ab n;by_cases p:k<xs.length
  .obtain⟨x,i⟩:=aq p;obtain⟨b,m,N,F,_,K,_,⟨rfl,E⟩,f⟩:=(dU.loc.below h g H).at_ i;subst F;have r:wr.cell? ⟨b,m+k*2,none⟩=some (.int .i64 x.b):=by simpa using f 0 _ rfl
   have u:wr.cell? ⟨b,m+k*2+1,none⟩=some (.int .i64 x.s):=by simpa using f 1 _ rfl
   replace i:=ab i;clear f;have I:=auP (β:=β) (#[.agg #[.int .i64 x.b,.int .i64 x.s]]++#[]) wr;go_wp2;obtain⟨q,l⟩:=dG (nk x);refine(asC x wr q l).mono ?_;rintro e B ⟨rfl,G⟩;have o:=ae g G;clear I r u;cases q
   .have d:¬ ∀x∈xs,nk x:=λh=>by have:=l.2 (h x (be i.out));cases this
    replace d:=ab d;clear l;go_wp2;go_ret;exact⟨k,rfl,.inr ⟨by omega,d.out⟩,o⟩
   .have t:∀y∈xs.take (k+1),nk y:=λy C=>by
     rw[gn i.out] at C;rcases gt.1 C with h|h
     .exact n.out y h
     .rw[ga.1 h];exact l.1 rfl
    replace t:=ab t;clear l;go_wp2;go_roundw
    case rel=>exact⟨k+1,by omega,by go_num,t.out,o⟩
    simp[intOf];omega
  .obtain rfl:k=xs.length:=by omega
   have a:=n.out;rw[dk] at a;replace a:=ab a;clear n;go_wp2;go_ret;exact⟨-1,rfl,.inl ⟨rfl,a.out⟩,g⟩
def afn(xs:List Hd)(v:Value)(w:World)(m i:Nat)(h:dU w m i xs [v])(o:i<=w.heap.size)(b:Bool)(d:b=true↔∀x∈xs,nk x) :
  Calls (ah β) 75 #[v,.func (.func 76) #[] #[]] w λe n=>e=.returned (.bool (!b))/\Below w.heap.size w n:=by
 obtain⟨A,c,rfl⟩:=aY.form h;replace d:=ab d;go_enter zj,ntmps75;go_wp2;refine(aka xs _ w m i h o).mono ?_;rintro e p ⟨j,rfl,k,l⟩;rcases k with⟨rfl,a⟩|⟨k,f⟩
 .have g:b=true:=d.out.2 a;subst g;clear a d;go_wp2;go_ret;exact⟨rfl,l⟩
 .have g:b=false:=by rw[<-bv,d.out];exact f
  subst g;have q:decide (0<=j)=true:=dq k;clear f d;go_wp2;go_ret;exact⟨rfl,l⟩
def akb(xs:List Hd)(v:Value)(w:World)(j f:Nat)(h:dU w j f xs [v])(o:f<=w.heap.size)(b:Bool)(a:b=true↔aav xs) :
  Calls (ah β) 50 #[v] w λe l=>e=.returned (.bool b)/\Below w.heap.size w l:=by
 obtain⟨A,c,rfl⟩:=aY.form h;obtain⟨_,s,n⟩:=h.len_;unfold maxLen at n;replace a:=ab a;by_cases i:(xs.length:Int)<=9
 .have p:decide ((xs.length:Int)<=9)=true:=dq i;obtain⟨q,d⟩:=dG (∀x∈xs,nk x);have g:q=b:=by
   rw[oi,d,a.out];exact⟨λh=>⟨by omega,h⟩,λh=>h.2⟩
  subst g;replace d:=ab d;go_enter xt,ntmps50;go_wp2;refine(afn xs _ w j f h o q d.out).mono ?_;rintro e r ⟨rfl,k⟩;cases q<;>(go_wp2;go_ret;exact⟨rfl,k⟩)
 .have p:decide ((xs.length:Int)<=9)=false:=da i;have m:b=false:=by rw[<-bv,a.out];exact λh=>i (by have:=h.1;omega)
  subst m;go_enter xt,ntmps50;go_wp2;go_ret;exact⟨rfl,db _ _⟩
end
section
open Go.RowKit
def acN{xs:List Sn}(h:cZ w Z Y xs [.slice A n c]){x:Sn}(i:xs[k]?=some x) :
  ∃b a A' d,A=some ⟨b,a,none⟩/\Z<=b/\b<Y/\dJ x.no/\w.cell? ⟨b,a+k*2,none⟩=some (.int .i64 x.no)/\w.cell? ⟨b,a+k*2+1,none⟩=some (.slice A' x.all.length d)/\bA w Z Y x.all [.slice A' x.all.length d]:=by
 obtain⟨b,a,m,rfl,j,g,l,⟨v,rfl,f,Y⟩,e⟩:=h.at_ i;obtain⟨A',d,rfl⟩:=Y.form;exact⟨b,a,A',d,rfl,j,g,f,by simpa using e 0 _ rfl,e 1 _ rfl,Y⟩
def cK.afB{l:List Pk}(h:cK w Z Y l [v]):∀p∈bV l,dJ p.1:=λp a=>by
 obtain⟨A,c,rfl⟩:=aY.form h;obtain⟨q,d,rfl⟩:=lP.1 a;obtain⟨i,Y⟩:=qp.1 d;obtain⟨_,_,_,_,_,_,_,⟨_,_,b,_⟩,_⟩:=aY.at_ h Y;exact b
end
section
open Go.RowKit Go.Maps
def agV:Keyed (ah true) 3:=int_keyed qU3
def afR(ys:List Int):DataW Unit:=setOf (.lit (.bool true)) (ys.map (Lit.int .i64))
def afo(w:World)(b n:Nat)(ys:List Int):Prop:=w.ownsMap (ah true) 3 (plainElem (ah true) 4) b n (afR ys)
def apC(h:w.grownBy w' (some b)):gq (λi=>i=b) w w':=
 ⟨h.os,h.tape,h.output,h.size,λk a c=>h.block k a (by simpa using c)⟩
def amt(acc a:List Int)(b n:Nat)(v:Value)(w:World)(D o:Nat)(H:∀g,D<=g->g<o->g≠b)(N:o<=w.heap.size)(h:aY bz 1 w D o a [v])(J:afo w b n acc)(P:n+a.length<=2097152) :
  Calls (ah true) 20 #[.map (some b),v] w λe F=>e=.returned (.tuple #[])/\afo F b (n+a.length) (acc++a)/\gq (λi=>i=b) w F:=by
 obtain⟨A,c,rfl⟩:=h.form;obtain⟨_,m,z⟩:=h.len_;unfold maxLen at z;go_enter zO,ntmps20;go_wp2;go_loopw [8] (λE wr=>∃k:Nat,k<=a.length/\E=.int .i64 k/\afo wr b (n+k) (acc++a.take k)/\gq (λi=>i=b) w wr) (λE _=>a.length-(intOf E).toNat)
 case atStart=>exact⟨0,du _,rfl,by simpa using J,gq.refl _ _⟩
 case round=>
  obtain⟨k,M,rfl,d,t⟩:=hrel;have q:aY bz 1 wr D o a [.slice A a.length c]:=(aY.loc bz.loc).chg h t λi I q=>⟨by omega,H i I q⟩;by_cases p:k<a.length
  .obtain⟨x,r⟩:=aq p;obtain⟨L,K,O,rfl,_,_,_,⟨rfl,C⟩,u⟩:=q.at_ r;have f:=u 0 _ rfl;rw[sO,ru] at f;have l:keyOf (ah true) 3 (.int .i64 x)=some (.int .i64 x):=keyOf_int_mk qU3 (by unfold dJ at C;simp[Lit.wf,IntKind.min,IntKind.max,IntKind.signed,IntKind.bits];omega);have B:a.take (k+1)=a.take k++[x]:=gn r;replace B:=ab B;clear r;go_wp2_with(at_mapUpdate;refine wpList_mapUpdate_own _ rfl _ _ _ 61 rfl 3 4 agV xi (plainElem (ah true) 4) b (n+k) _ rfl d (by unfold maxLen;omega) _ _ _ rfl rfl l (.lit (.bool true)) [] (plainElem_bool qU4 true) ?_;intro G j s);have y:afo G b (n+(k+1)) (acc++a.take (k+1)):=by
    unfold afo afR;rw[B.out,<-rz,oR,pK,ug,setOf_snoc];exact j
   have m:=t.trans (apC s) λi _ e=>e;go_roundw
   case rel=>exact⟨k+1,by omega,by go_num,y,m⟩
   simp[intOf];omega
  .obtain rfl:k=a.length:=by omega
   rw[dk] at d;go_wp2;exact bodyPost_end (v:=.tuple #[]) (by simp[results,results20,go_sem]) rfl ⟨rfl,d,t⟩
def afo.below(h:afo w b n X)(f:Below w.heap.size w w'):afo w' b n X:=by
 have d:=World.ownsMap.lt h;obtain⟨e,a,c,F,g,i⟩:=h;exact⟨e,a,(f.block b d).trans c,F,g,i⟩
def asD(a:List Int):IsMap (afR a):=by
 rw[<-vu a];generalize a.reverse=l
 induction l with
 |nil=>exact isMap_empty
 |cons y l b=>
  have e:afR (y::l).reverse=(afR l.reverse).put (.int .i64 y) (.lit (.bool true)):=by
   unfold afR;rw[uA,oR,pK,ug,setOf_snoc]
  rw[e];exact b.put _ _
def au5(x:Int)(a:List Int):(afR a).atKey (.int .i64 x) (.lit (.bool false))=.lit (.bool (decide (x∈a))):=by
 rw[<-vu a];generalize a.reverse=l
 induction l with
 |nil=>rfl
 |cons y l b=>
  have e:afR (y::l).reverse=(afR l.reverse).put (.int .i64 y) (.lit (.bool true)):=by
   unfold afR;rw[uA,oR,pK,ug,setOf_snoc]
  rw[e];by_cases h:x=y
  .subst h;rw[atKey_put_same (asD _) (by simp[WideAt.IsKeyLit])];simp
  .rw[atKey_put_other (by simpa using h),b];have:(x∈(y::l).reverse)↔x∈l.reverse:=by simp[h]
   rw[sY.2 this]
def apD{x:Bool}{a:List MemPlace}(h:plainElem (H:=Unit) (ah true) 4 v=some (.lit (.bool x),a)):v=.bool x:=by
 unfold plainElem at h;rw[qU4] at h;cases v<;>simp at h
 rw[h.1]
def asE(e:afo w b n X){T:TypeId}(f:(ah true).underlying T=some (.map 3 4))(i:(zeroValue 4).run (ah true) w=.ok (.bool false) w)(x:Int)(g:dJ x) :
  (Instr.lookup T (.map (some b)) (.int .i64 x) false).run (ah true) w=.ok (.bool (decide (x∈X))) w:=by
 have c:keyOf (ah true) 3 (.int .i64 x)=some (.int .i64 x):=keyOf_int_mk qU3 (by unfold dJ at g;simp[Lit.wf,IntKind.min,IntKind.max,IntKind.signed,IntKind.bits];omega);obtain⟨v,j,a,d⟩:=World.ownsMap.lookup e agV f i (plainElem_bool qU4 false) c;rw[au5] at d;rw[a,apD d]
end
section
variable {β:Bool}
open Go.RowKit
def akc(x:Hd)(w:World)(b:Bool)(d:b=true↔nk x):Calls (ah β) 68 #[.agg #[.int .i64 x.b,.int .i64 x.s]] w λe j=>e=.returned (.bool b)/\Below w.heap.size w j:=by
 obtain⟨p,a⟩:=dG (1<=x.b/\x.b<=2);obtain⟨q,c⟩:=dG (1<=x.s/\x.s<=20);have k:b=(p&&q):=by
  rw[oi,d,fb,a,c];rfl
 subst k;replace a:=ab a;replace c:=ab c;clear d;go_enter zt,ntmps68;go_wp2;generalize f:w.alloc (.cells #[.int .i64 x.b,.int .i64 x.s] 125)=w0 at *;obtain⟨g,l,n,m,o⟩:=fA f;clear f;refine(ahN x.b 1 2 _ p a.out).mono ?_;rintro e i ⟨rfl,rfl⟩;cases p
 .go_wp2;go_ret;exact⟨rfl,g⟩
 .go_wp2;refine(ahN x.s 1 20 _ q c.out).mono ?_;rintro e i ⟨rfl,rfl⟩;cases q<;>(go_wp2;go_ret;exact⟨rfl,g⟩)
def afS(xs:List Hd)(v:Value)(w:World)(K F:Nat)(h:dU w K F xs [v])(J:F<=w.heap.size)(r:Bool)(o:r=true↔aav xs) :
  Calls (ah β) 42 #[v] w λe D=>e=.returned (.bool r)/\Below w.heap.size w D:=by
 obtain⟨A,c,rfl⟩:=aY.form h;obtain⟨_,N,t⟩:=h.len_;unfold maxLen at t;replace o:=ab o;go_enter zF,ntmps42;go_wp2;go_loopw [3] (λC wr=>∃k:Nat,k<=xs.length/\C=.int .i64 k/\(∀x∈xs.take k,nk x)/\Below w.heap.size w wr) (λC _=>xs.length-(intOf C).toNat)
 case atStart=>exact⟨0,du _,rfl,λx t=>(by cases t),db _ _⟩
 case round=>
  obtain⟨k,M,rfl,m,g⟩:=hrel;replace m:=ab m;by_cases p:k<xs.length
  .obtain⟨x,i⟩:=aq p;obtain⟨b,l,O,H,_,L,_,⟨rfl,G⟩,f⟩:=(dU.loc.below h g J).at_ i;subst H;have s:wr.cell? ⟨b,l+k*2,none⟩=some (.int .i64 x.b):=by simpa using f 0 _ rfl
   have B:wr.cell? ⟨b,l+k*2+1,none⟩=some (.int .i64 x.s):=by simpa using f 1 _ rfl
   replace i:=ab i;clear f;go_wp2;obtain⟨q,j⟩:=dG (nk x);refine(akc x wr q j).mono ?_;rintro e D ⟨rfl,I⟩;have n:=ae g I;clear s B;cases q
   .have d:r=false:=by
     rw[<-bv,o.out];exact λh=>by have:=j.2 (h.2 x (be i.out));cases this
    replace d:=ab d;clear j;go_wp2;go_ret;exact⟨ak d.out.symm,n⟩
   .have u:∀y∈xs.take (k+1),nk y:=λy E=>by
     rw[gn i.out] at E;rcases gt.1 E with h|h
     .exact m.out y h
     .rw[ga.1 h];exact j.1 rfl
    replace u:=ab u;clear j;go_wp2;go_roundw
    case rel=>exact⟨k+1,by omega,by go_num,u.out,n⟩
    simp[intOf];omega
  .obtain rfl:k=xs.length:=by omega
   have a:=m.out;rw[dk] at a;have z:r=decide ((xs.length:Int)<=9):=by
    rw[oi,o.out,decide_eq_true_iff];exact⟨λh=>by have:=h.1;omega,λh=>⟨by omega,a⟩⟩
   replace z:=ab z;clear a m;go_wp2;go_ret;exact⟨ak z.out.symm,g⟩
end
section
variable {β:Bool}
open Go.RowKit
def apE :(dN s).2=true↔cJ (bs s)=some (bs (dN s).1):=by
 unfold dN cJ;rw[abL];by_cases h:aZ (sD (bs s))/\fP (sD (bs s))=bs s
 .rw[dl h,dl h];simp only[qj];rw[abL]
 .rw[bd h,bd h];simp
def amu{x:It}{t:ByteArray}(h:eZ key x)(d:cJ (bs x.b)=some (bs t)):dC key (x.n,x.b)=(t,true):=by
 have a:=mN.1 h;unfold dC at a ⊢;split at a
 .rename_i b;have c:=apE.1 b.1;rw[dl b];have e:(dN (x.n,x.b).2).1=t:=jA (dj (c.symm.trans d));rw[e]
 .cases a
def apF{x:It}(h:¬eZ key x):dC key (x.n,x.b)=(⟨#[]⟩,false):=by
 rw[mN] at h;unfold dC at h ⊢;split at h
 .exact absurd rfl h
 .rename_i a;rw[bd a]
def amv{nm : Int}{x:It}(d:p.its[k]?=some x)(f:x.n=nm)(c:∀y∈p.its.take k,y.n≠nm):eQ key (pkd p).2 nm=dC key (x.n,x.b):=by
 have b:(pkd p).2[k]?=some (x.n,x.b):=by rw[ah3,d];rfl
 refine ah2 (k:=k) (acC (x:=(x.n,x.b)) (λy a=> ?_) b f) b;have e:(pkd p).2.take k=(p.its.take k).map λx=>(x.n,x.b):=by show(p.its.map _).take k=_;rw[List.map_take]
 rw[e] at a;obtain⟨z,g,rfl⟩:=lP.1 a;exact c z g
def apG{nm : Int}(b:∀y∈p.its,y.n≠nm):eQ key (pkd p).2 nm=(⟨#[]⟩,false):=agE (aaS λy a=>by
 obtain⟨z,c,rfl⟩:=lP.1 a;exact b z c)
def au6{nm:Int}{l:List It}{x:It}(d:l[k]?=some x)(b:∀y∈l.take k,y.n≠nm)(c:x.n≠nm):∀y∈l.take (k+1),y.n≠nm:=λy a=>by
 rw[gn d] at a;rcases gt.1 a with a|a
 .exact b y a
 .rw[ga.1 a];exact c
def adJ(key:Int)(a:1<=key/\key<=99)(p:Pk)(nm:Int)(v:Value)(w:World)(S J:Nat)(H:J<=w.heap.size)(h:iB w S J p.its [v]) :
  Calls (ah β) 139 #[.int .i64 key,.agg #[.int .i64 p.no,v],.int .i64 nm] w λe T=>e=.returned (.tuple #[.string (eQ key (pkd p).2 nm).1,.bool (eQ key (pkd p).2 nm).2])/\Below w.heap.size w T:=by
 obtain⟨A,c,rfl⟩:=h.form;obtain⟨_,z,Q⟩:=h.len_;unfold maxLen at Q;replace a:=ab a;go_enter yK,ntmps139;go_wp2;generalize n:w.alloc (.cells #[.int .i64 p.no,.slice A p.its.length c] 56)=w0 at *;obtain⟨u,dK,V,M,N⟩:=fA n;clear n;have U:=iB.aK.below h u H;refine(jT (β:=β) key w0 true (by simp only[qj];exact a.out)).mono ?_;rintro e w1 ⟨rfl,rfl⟩;go_wp2;go_loopw [8] (λi wr=>∃k:Nat,k<=p.its.length/\i=.int .i64 k/\(∀y∈p.its.take k,y.n≠nm)/\Below w0.heap.size w0 wr) (λi _=>p.its.length-(intOf i).toNat)
 case atStart=>exact⟨0,du _,rfl,λy Z=>(by cases Z),db _ _⟩
 case round=>
  obtain⟨k,hk,rfl,s,d⟩:=hrel;replace s:=ab s;have K:=iB.aK.below U d (ap H u.size);have B:=ar V d;have gY:=B.cell;have jq:=B.frozen;clear M N;by_cases C:k<p.its.length
  .obtain⟨x,l⟩:=aq C;obtain⟨b1,Y,rfl,_,_,m,cn,cb⟩:=ada K l;replace l:=ab l;by_cases j:x.n=nm
   .have O:(x.n ==nm)=true:=mx.2 j;have HG:=ab (amv (key:=key) l.out j s.out);obtain⟨q,o⟩:=dG (eZ key x);replace o:=ab o;clear j;go_wp2;refine(adi (β:=β) key a.out x m.2 wr q o.out).mono ?_;rintro e w2 ⟨rfl,E⟩;have r:=ae u (ae d E);cases q
    .have z:=HG.out.trans (apF λh=>by have:=o.out.2 h;cases this);have HC:=ab z;clear z;go_wp2;go_ret2;rw[HC.out];exact⟨rfl,r⟩
    .have L:=iB.aK.below K E (by have:=d.size;have:=u.size;omega);obtain⟨a0,F,I,_,_, -,oL,W⟩:=ada L l.out;simp only[lw,pM,qh] at I;obtain⟨rfl,rfl⟩:=I;have R:=ar B E;have P:=R.cell;have g:=o.out.1 rfl;replace g:=ab g;go_wp2;refine(ac8 (β:=β) x.b m.2 w2).mono ?_;rintro e w3 ⟨⟨t,b,rfl,G⟩,rfl⟩;have f:b=true/\cJ (bs x.b)=some (bs t):=by
      rcases G with h|⟨-,h, -⟩
      .exact h
      .obtain⟨p,X, -⟩:=g.out;rw[X] at h;cases h
     obtain⟨rfl,f⟩:=f;have HC:=ab (HG.out.trans (amu g.out f));clear G f;go_wp2;go_ret2;rw[HC.out];exact⟨rfl,r⟩
   .have O:(x.n ==nm)=false:=kw.2 j;have D:=ab (au6 l.out s.out j);clear j;go_wp2;go_roundw
    case rel=>exact⟨k+1,by omega,by go_num,D.out,d⟩
    simp[intOf];omega
  .obtain rfl:k=p.its.length:=by omega
   have n:=apG (key:=key) (p:=p) (nm:=nm) (by have:=s.out;rwa [dk] at this);have HG:=ab n;clear n;go_wp2;go_ret2;rw[HG.out];exact⟨rfl,ae u d⟩
end
section
variable {β:Bool}
open Go.RowKit
def amw{l:List ByteArray}{x:ByteArray}(h:l[k]?=some x):cN (l.take (k+1))=cN (l.take k)++bs x:=by
 rw[gn h];unfold cN;rw[qI];simp
def au7{l:List ByteArray}{x:ByteArray}(h:l[k]?=some x):qF (cN (l.take k))++x=qF (cN (l.take (k+1))):=jA (by rw[jP,aeK (kH _),aeK (kH _),amw h])
def asF(l:List ByteArray):(qF (cN l)).size=(cN l).length:=by rw[<-aN,aeK (kH l)]
def asG(l:List ByteArray)(k:Nat):(cN (l.take k)).length<=(cN l).length:=by
 have e:cN l=cN (l.take k)++cN (l.drop k):=by
  unfold cN;rw[<-qI,pJ]
 rw[e,ge];omega
def amx{l:List ByteArray}(h:40<(qF (cN (l.take k))).size):eR l=(⟨#[]⟩,false):=afi λb=>by
 have a:=(gW b.1).1;have c:=asG l k;rw[asF] at h a;omega
def amy(xs f:List ByteArray)(K N:Value)(w:World)(U O G J:Nat)(C:fY w U O xs [K])(H:fY w G J f [N])(D:O<=w.heap.size)(S:J<=w.heap.size)(q:Bool)(j:q=true↔xs=f) :
  Calls (ah β) 140 #[K,N] w λe R=>e=.returned (.bool q)/\Below w.heap.size w R:=by
 have z:=ab j;clear j;obtain⟨A,c,rfl⟩:=C.form;obtain⟨B,d,rfl⟩:=H.form;obtain⟨_,hc,hx⟩:=C.len_;unfold maxLen at hx;go_enter yJ,ntmps140;by_cases a:xs.length=f.length
 .have Y:((xs.length:Int) !=f.length)=false:=by rw[pu];omega
  replace a:=ab a;go_wp2;go_loopw [5] (λi wr=>∃k:Nat,k<=xs.length/\i=.int .i64 k/\xs.take k=f.take k/\Below w.heap.size w wr) (λi _=>xs.length-(intOf i).toNat)
  case atStart=>exact⟨0,du _,rfl,rfl,db _ _⟩
  case round=>
   obtain⟨k,hk,rfl,g,b⟩:=hrel;have P:=ab g;clear g;by_cases u:k<xs.length
   .obtain⟨x,o⟩:=aq u;obtain⟨y,r⟩:=aq (l:=f) (k:=k) (by have:=a.out;omega);obtain⟨b1,Z,rfl,_,_,V,L⟩:=mK (fY.aK.below C b D) o;obtain⟨b2,gX,rfl,_,_,W,M⟩:=mK (fY.aK.below H b S) r;have X:(k:Int)<(f.length:Int):=by have:=a.out;omega
    replace o:=ab o;replace r:=ab r;by_cases g:x=y
    .have Q:=ah6 g;have E:xs.take (k+1)=f.take (k+1):=by rw[gn o.out,gn r.out,P.out,g]
     replace E:=ab E;clear g;go_wp2;have v:=ag L;have F:=ag M;refine az (by kernel_rfl) (by kernel_rfl) ?_;repeat(go_big_quiet_step (fail))
     refine ff ?_;intro T m;have j:=aF m;clear m v F;go_wp2;go_roundw
     case rel=>exact⟨k+1,by omega,by go_num,E.out,ae b j⟩
     simp[intOf];omega
    .have Q:=nS (s:=y) (t:=x) g;have p:q=false:=by
      rw[<-bv,z.out];rintro rfl;exact g (dj (o.out.symm.trans r.out))
     have n:=ab p;clear p g;go_wp2;have v:=ag L;have F:=ag M;refine az (by kernel_rfl) (by kernel_rfl) ?_;repeat(go_big_quiet_step (fail))
     refine ff ?_;intro T m;have j:=aF m;clear m v F;go_wp2;go_ret;exact⟨ak n.out.symm,ae b j⟩
   .obtain rfl:k=xs.length:=by omega
    have I:q=true:=by
     rw[z.out];have:=P.out
     rwa [dk,nq (by have:=a.out;omega)] at this
    have n:=ab I;clear I;go_wp2;go_ret;exact⟨ak n.out.symm,b⟩
 .have Y:((xs.length:Int) !=f.length)=true:=by rw[qx];omega
  have p:q=false:=by
   rw[<-bv,z.out];rintro rfl;exact a rfl
  have n:=ab p;clear p;replace a:=ab a;go_wp2;go_ret;exact⟨ak n.out.symm,db _ _⟩
def amz(l:List ByteArray)(u:∀s∈l,aZ (bs s))(hl:l.length<=2147483647)(v:Value)(w:World)(H E:Nat)(h:fY w H E l [v])(G:E<=w.heap.size) :
  Calls (ah β) 107 #[v] w λe J=>e=.returned (.tuple #[.string (eR l).1,.bool (eR l).2])/\Below w.heap.size w J:=by
 obtain⟨A,c,rfl⟩:=h.form;obtain⟨_,hc,F⟩:=h.len_;unfold maxLen at F;replace u:=ab u;go_enter yU,ntmps107;go_wp2;go_loopw [4,5] (λV i wr=>∃k:Nat,k<=l.length/\i=.int .i64 k/\V=.string (qF (cN (l.take k)))/\Below w.heap.size w wr) (λ_ i _=>l.length-(intOf i).toNat)
 case atStart=>exact⟨0,du _,rfl,rfl,db _ _⟩
 case round=>
  obtain⟨k,hk,rfl,rfl,a⟩:=hrel;by_cases z:k<l.length
  .obtain⟨x,t⟩:=aq z;obtain⟨Y,S,rfl,_,_,Q,c0⟩:=mK (fY.aK.below h a G) t;have O:=(dE (u.out x (be t))).2;have j:=au7 t;have HST:=ab j;have m:=λr=>amx (l:=l) (k:=k) r;have b:=ab m;clear j m t;revert HST b;generalize qF (cN (l.take k))=s;intro HST b;by_cases hs:s.size<=40
   .go_wp2;go_roundw
    case rel=>exact⟨k+1,by omega,by go_num,by rw[HST.out],a⟩
    simp[intOf];omega
   .have K:=ab (b.out (by omega));go_wp2;go_ret2;rw[K.out];exact⟨rfl,a⟩
  .obtain rfl:k=l.length:=by omega
   rw[dk];have p:=anT l u.out;have d:(qF (cN l)).size<=maxLen:=by unfold maxLen;omega
   have D:=ab (λP L=>agQ (l:=l) P L);have y:=ab (afi (l:=l));revert D y d p;generalize qF (cN l)=s;intro p d D y;go_wp2;refine(kC (β:=β) s d _).mono ?_;rintro e w2 ⟨rfl,rfl⟩;by_cases f:eB s=true
   .rw[f];go_wp2;refine(apf (β:=β) s (by have:=(gW f).1;omega) _).mono ?_;rintro e Z ⟨M,rfl,R,B⟩;have C:∀x∈gI s,x.size<=maxLen:=λx F=>by have:=(dE (mM (gW f).2 x F)).2;unfold maxLen;omega
    have I:=aeY.sl (aS.deep R C wr.heap.size) (am _);have N:=B.size;have W:=a.size;have U:=fY.aK.below h (ae a B) G;obtain⟨q,o⟩:=dG (gI s=l);replace o:=ab o;go_wp2;refine(amy (β:=β) (gI s) l M _ _ _ _ H E I U (am _) (by omega) q o.out).mono ?_;rintro e X ⟨rfl,T⟩;have n:=ae a (ae B T);cases q with
    |true=>
     have g:=D.out f (o.out.1 rfl);go_wp2;go_ret2;exact⟨by rw[g];rfl,n⟩
    |false=>
     have g:=y.out λr=>by have:=o.out.2 r.2;cases this
     go_wp2;go_ret2;exact⟨by rw[g];rfl,n⟩
   .have g:=y.out λr=>f r.1;rw[uC.2 f];go_wp2;go_ret2;exact⟨by rw[g];rfl,a⟩
end
end Go.Proofs.YtblbaiejjagdoaaGreatDoor