/- A part. -/
import Derived.Test.YtlggbfanooejbaaGreatDoorG5
import Derived.Laws.Cover1
import Derived.RangeFuncNested
import Derived.RangeFuncBound
import Derived.RangeFuncCalls
import Derived.RangeFuncLeaves
import Derived.Shelf.Abstract
import Derived.Shelf.RegionOpen
import Derived.OwnWalkIn
import Derived.TacticsInMore
import Derived.LoopNIn
import Derived.LoopIn
import Derived.Lib.IndexLaws
import Derived.Lib.Bytealg
import Derived.OrdersIn
set_option maxRecDepth 100000
set_option maxHeartbeats 8000000
set_option linter.all false
open Go Go.RowKit Go.Proofs.Tryz Go.Proofs.YtlggbfanooejbaaGreatDoor
variable {x:It} {Z V k m n₀:Nat} {key n:Int} {Y:Type} {w w':World} {l':List fS} {xs:List It} {l:List Nat} {f g p s:ByteArray} {A:Option Addr} {X W:Act→World→Prop}
namespace Go.Proofs.YtlggbfanooejbaaGreatDoor
def jn:=@List.getElem?_eq_some_iff
def pm:=@List.pairwise_iff_getElem
def pG:=@List.length_eq_zero_iff
def pQ:=@List.length_drop
def qr:=@List.length_nil
def qF:=@List.getD_cons_zero
def qG:=@List.getD_cons_succ
def qK:=@UInt8.lt_iff_toNat_lt
def rB:=@beq_self_eq_true
def rP:=@List.find?_cons
def rT:=@List.pairwise_append
def so:=@List.pairwise_singleton
def sq:=@List.getElem?_cons_zero
def sI:=@List.length_eq_one_iff
def sU:=@List.getD_eq_getElem?_getD
def sX:=@List.mem_map_of_mem
def ta:=@List.append_nil
def tq:=@Bool.false_and
def tz:=@of_decide_eq_true
def tL:=@Bool.true_and
def ua:=@Array.replicate_zero
def ub:=@Array.replicate_succ
def uc:=@Int.mul_le_mul_of_nonneg_left
def uf:=@List.filterMap_cons
def ug:=@List.append_toArray
def ut:=@List.push_toArray
def ux:=@List.drop_eq_getElem_cons
def uM:=@List.length_pos_of_mem
def uN:=@Go.KeepsOthers.of_grownBy
def uT:=@Int.emod_add_mul_ediv
def vg:=@List.mem_of_mem_drop
section
variable {β:Bool}
open Go.RowKit
noncomputable def bI(key:Int):List fS->Int->ByteArray×Bool
 |[],_=>(⟨#[]⟩,false)
 |p::l,nm=>if(eD key p.2 nm).2=true then((eD key p.2 nm).1,true) else bI key l nm
def agQ{key nm:Int}:∀{l:List fS} {k:Nat},(∀p∈l.take k,(eD key p.2 nm).2=false)->bI key l nm=bI key (l.drop k) nm
 |[],k,_=>by simp
 |p::l,0,_=>rfl
 |p::l,k+1,h=>by
  show(if(eD key p.2 nm).2=true then _ else bI key l nm)=_;rw[bd (by rw[h p (by simp)];simp),List.drop_succ_cons];exact agQ λq a=>h q (by simp[a])
def PkL(w:World)(A:Option Addr)(l:List fS):Prop:=∀i x,l[i]?=some x->∃b a B c,A=some ⟨b,a,none⟩/\b<w.heap.size/\w.cell? ⟨b,a+i*2,none⟩=some (.int .i64 x.1)/\w.cell? ⟨b,a+i*2+1,none⟩=some (.slice B x.2.length c)/\x.2.length<=c/\c<=maxLen/\ItL w B x.2
def PkL.of{l:List fS}(h:RdP w A 0 l):PkL w A l:=λi x m=>by
 obtain⟨f,k⟩:∃f,l[0]?=some f:=ar (by have:=aH m;omega);obtain⟨⟨s,r,u,n,g, -⟩, -⟩:=h 0 f k;obtain⟨⟨a,B,c,rfl,e,d, -,q,t,p⟩, -⟩:=h i x m;obtain rfl:=de n;rw[pb] at e d;obtain⟨b,j,o⟩:=a;obtain rfl:o=none:=by
  have:=aa5 g;unfold Addr.add at this;simpa using this
 rw[gR] at e d;rw[gR] at d;exact⟨b,j,B,c,rfl,eJ e,e,d,q,by unfold maxLen;omega,ItL.of p⟩
def PkL.below{l:List fS}(h:PkL w A l)(d:Below w.heap.size w w'):PkL w' A l:=λi x j=>by
 obtain⟨b,a,B,c,n,f,g,m,p,k,o⟩:=h i x j;have e:=d.block b f;exact⟨b,a,B,c,n,aE f d.size,(pO e).trans g,(pO e).trans m,p,k,o.below d⟩
def ami(w:World)(key:Int)(A:Option Addr)(c:Nat)(l:List fS)(nm:Int)(T:1<=key)(P:key<=99)(Z:l.length<=c)(hc:(c:Int)<=9223372036854775807)(X:PkL w A l)(a1:In_ nm) :
  Calls (aj β) 110 #[.int .i64 key,.slice A l.length c,.int .i64 nm] w λe Q=>∃v,e=.returned v/\(v=.agg #[.string (bI key l nm).1,.bool (bI key l nm).2]/\Below w.heap.size w Q):=by
 go_enter yv,ntmps110;go_wp2;generalize s:w.alloc (.cells #[.string ⟨#[]⟩,.bool false] 171)=w0 at *;obtain⟨M,eP,a,F,G⟩:=iK s;clear s;go_loopw [13] (λi wr=>∃k:Nat,k<=l.length/\i=.int .i64 k/\(∀p∈l.take k,(eD key p.2 nm).2=false)/\Below w0.heap.size w0 wr) (λi _=>l.length-(intOf i).toNat)
 case atStart=>exact⟨0,fb _,rfl,by simp,dk _ _⟩
 case round=>
  obtain⟨k,hk,rfl,f,x⟩:=hrel;replace f:=ab f;replace a:=aB a x;replace F:=a.cell;replace G:=a.frozen;have J:=(X.below M).below x;have d:=ae M x;by_cases j:k<l.length
  .obtain⟨p,r⟩:=ar j;obtain⟨b,W,B,L,rfl,V,U,a0,K,C,E⟩:=J k p r;replace r:=ab r;go_wp2;generalize s:wr.alloc (.cells #[.int .i64 p.1,.slice B p.2.length L] 40)=w5 at *;obtain⟨g,O,q0,S,N⟩:=iK s;clear s;replace a:=aB a g;replace F:=a.cell;replace G:=a.frozen;replace d:=ae d g;refine(anB key p.1 nm ⟨T,P⟩ p.2 B L w5 (E.below g) K C).mono ?_;rintro e R ⟨rfl,m⟩;replace a:=aB a m;replace F:=a.cell;replace G:=a.frozen;replace d:=ae d m;cases z:eD key p.2 nm with
   |mk t Y=>
    cases Y with
    |true=>
     have q:bI key l nm=(t,true):=by
      rw[agQ (k:=k) f.out,ux j];have e1:l[k]=p:=by have:=r.out;rw[io j] at this;exact de this
      rw[e1];show(if(eD key p.2 nm).2=true then _ else _)=_;rw[z];rfl
     have D:=ab q;clear q z;go_wp2;have u:=(a.ajx 0 (.string t)).ajx 1 (.bool true);simp only[pv,qd,qg] at u;have n:=u.cell;exact pN (v:=.agg #[.string t,.bool true]) (by simp[results,results110,go_sem,n]) rfl ⟨_,rfl,by rw[D.out],(d.setCell (by simp) _).setCell (by simp) _⟩
    |false=>
     have H:∀y∈l.take (k+1),(eD key y.2 nm).2=false:=by
      intro y o;rw[kw r.out,jt] at o;rcases o with o|o
      .exact f.out y o
      .rw[gE.1 o,z]
     replace H:=ab H;clear z;have I:Below w0.heap.size w0 R:=ae (ae x g) m;go_wp2;go_roundw
     case rel=>exact⟨k+1,by omega,by go_num,H.out,I⟩
     simp[intOf];omega
  .obtain rfl:k=l.length:=by omega
   have q:bI key l nm=(⟨#[]⟩,false):=by
    rw[agQ (k:=l.length) f.out,List.drop_length];rfl
   have D:=ab q;clear q;go_wp2;have u:=(a.ajx 0 (.string ⟨#[]⟩)).ajx 1 (.bool false);simp only[pv,qd,qg] at u;have n:=u.cell;exact pN (v:=.agg #[.string ⟨#[]⟩,.bool false]) (by simp[results,results110,go_sem,n]) rfl ⟨_,rfl,by rw[D.out],(d.setCell (by simp) _).setCell (by simp) _⟩
def wu:dN bI:=λ_ w a A n c l nm g e j b i f d=>by
 subst j;exact ami w a A c l nm g e b i (PkL.of f) d
def vY(key nm:Int):bI key [] nm=(⟨#[]⟩,false):=rfl
end
section
variable {β:Bool}
open Go.RowKit
def nm(b:Nat):Bool:=decide (97<=b)&&decide (b<=101)
def fG(s:ByteArray):Bool:=if h:s.size=1 then nm (s[0]'(by omega)).toNat else if h:s.size=3 then nm (s[0]'(by omega)).toNat&&(decide ((s[1]'(by omega)).toNat=47)&&nm (s[2]'(by omega)).toNat) else false
def dW(s:ByteArray):Bool:=decide (s.size<=40)&&(bs s).all mC
def lO(h:fG s=true):s.size=1\/s.size=3:=by
 unfold fG at h;split at h
 .exact .inl (by assumption)
 .split at h
  .exact .inr (by assumption)
  .cases h
def ng(b:Nat)(w:World) :
  Calls (aj β) 144 #[.int .u8 b] w λe f=>e=.returned (.bool (nm b))/\w=f:=by
 by_cases c:97<=b
 .by_cases a:b<=101
  .have e:nm b=true:=by unfold nm;rw[du c,du a];rfl
   rw[e];clear e;have d:=du (show(b:Int)<=101 by omega);go_enter vQ,ntmps144;go_wp2;go_ret;exact⟨rfl,rfl⟩
  .have e:nm b=false:=by unfold nm;rw[bv a,Bool.and_false]
   rw[e];clear e;have d:=bv (show ¬((b:Int)<=101) by omega);go_enter vQ,ntmps144;go_wp2;go_ret;exact⟨rfl,rfl⟩
 .have e:nm b=false:=by unfold nm;rw[bv c,tq]
  rw[e];clear e;go_enter vQ,ntmps144;go_wp2;go_ret;exact⟨rfl,rfl⟩
def jJ(s:ByteArray)(f:s.size<=maxLen)(w:World) :
  Calls (aj β) 101 #[.string s] w λe d=>e=.returned (.bool (dW s))/\w=d:=by
 by_cases b:s.size<=40
 .have a:(bs s).all mC=dW s:=by unfold dW;rw[du b,tL]
  replace a:=ab a;have c:=du (show(s.size:Int)<=40 by omega);go_enter wK,ntmps101;go_wp2;refine(oK s f w).mono ?_;rintro e g ⟨rfl,rfl⟩;rw[a.out];go_wp2;go_ret;exact⟨rfl,rfl⟩
 .have c:=bv (show ¬((s.size:Int)<=40) by omega);have e:dW s=false:=by unfold dW;rw[bv b,tq]
  rw[e];clear e;go_enter wK,ntmps101;go_wp2;go_ret;exact⟨rfl,rfl⟩
def jK(s:ByteArray)(p:s.size<=maxLen)(w:World) :
  Calls (aj β) 100 #[.string s] w λe o=>e=.returned (.bool (fG s))/\w=o:=by
 unfold maxLen at p;by_cases j:s.size=1
 .have m:((s.size:Int) ==1)=true:=by rw[j];rfl
  have a:0<s.size:=by omega
  have d:nm (s[0]'a).toNat=fG s:=by unfold fG;rw[sN j]
  have q:=ab d;clear d;have HC:=ab (ng (β:=β) (s[0]'a).toNat w);go_enter vx,ntmps100;go_wp2;refine HC.out.mono ?_;rintro e i ⟨rfl,rfl⟩;rw[q.out];go_wp2;go_ret;exact⟨rfl,rfl⟩
 .by_cases k:s.size=3
  .have m:((s.size:Int) ==1)=false:=jp.2 (by omega);have n:((s.size:Int) ==3)=true:=by rw[k];rfl
   have a:0<s.size:=by omega
   have c:1<s.size:=by omega
   have g:2<s.size:=by omega
   have d:fG s=(nm (s[0]'a).toNat&&(decide ((s[1]'c).toNat=47)&&nm (s[2]'g).toNat)):=by unfold fG;rw[dif_neg j,sN k]
   have HC:=ab (ng (β:=β) (s[0]'a).toNat w);have f:=ab (ng (β:=β) (s[2]'g).toNat w);rw[d];clear d;revert HC;revert f;generalize nm (s[0]'a).toNat=q0;generalize nm (s[2]'g).toNat=q2;intro f HC;cases q0
   .go_enter vx,ntmps100;go_wp2;refine HC.out.mono ?_;rintro e i ⟨rfl,rfl⟩;go_wp2;go_ret;exact⟨rfl,rfl⟩
   .by_cases b:(s[1]'c).toNat=47
    .rw[du b];have l:(((s[1]'c).toNat:Int) ==47)=true:=by rw[b];rfl
     clear b;go_enter vx,ntmps100;go_wp2;refine HC.out.mono ?_;rintro e i ⟨rfl,rfl⟩;go_wp2;refine f.out.mono ?_;rintro e i ⟨rfl,rfl⟩;go_wp2;go_ret;exact⟨by cases q2<;>rfl,rfl⟩
    .rw[bv b];have l:(((s[1]'c).toNat:Int) ==47)=false:=jp.2 (by omega);clear b;go_enter vx,ntmps100;go_wp2;refine HC.out.mono ?_;rintro e i ⟨rfl,rfl⟩;go_wp2;go_ret;exact⟨rfl,rfl⟩
  .have m:((s.size:Int) ==1)=false:=jp.2 (by omega);have n:((s.size:Int) ==3)=false:=jp.2 (by omega);have d:fG s=false:=by unfold fG;rw[dif_neg j,dif_neg k]
   rw[d];clear d;go_enter vx,ntmps100;go_wp2;go_ret;exact⟨rfl,rfl⟩
def ir(s t:ByteArray):Bool:=if h:0<s.size/\0<t.size then(if s.size=t.size then false else((s[0]'h.1).toNat:Int) ==((t[0]'h.2).toNat:Int)) else false
def agR(s t:ByteArray)(o:0<s.size/\s.size<=maxLen)(n:0<t.size/\t.size<=maxLen)(w:World) :
  Calls (aj β) 125 #[.string s,.string t] w λe m=>e=.returned (.bool (ir s t))/\Below w.heap.size w m:=by
 obtain⟨b,k⟩:=o;obtain⟨c,l⟩:=n;by_cases j:s.size=t.size
 .have f:ir s t=false:=by unfold ir;rw[sN ⟨b,c⟩,dj j]
  rw[f];clear f;go_enter wH,ntmps125;go_wp2;refine fh 12 [0,1,2,3,4,5,6,7,8,9,10,11] [] (h:= ?_);simp only[pick,List.map,qF,qG];repeat(go_big_quiet_step (fail))
  refine ge ?_;apply Exists.intro;refine jC ?_;intro p i g a d;dsimp only[abI] at d;try rw[a] at d
  clear a g;simp only[List.drop];clear d;go_wp2;go_ret;exact⟨rfl,i⟩
 .have q:((s.size:Int) !=(t.size:Int))=true:=by simp;omega
  have f:ir s t=(((s[0]'b).toNat:Int) ==((t[0]'c).toNat:Int)):=by unfold ir;rw[sN ⟨b,c⟩,bd j]
  rw[f];clear f;go_enter wH,ntmps125;go_wp2;refine fh 12 [0,1,2,3,4,5,6,7,8,9,10,11] [] (h:= ?_);simp only[pick,List.map,qF,qG];repeat(go_big_quiet_step (fail))
  refine ge ?_;apply Exists.intro;refine jC ?_;intro p i g a d;dsimp only[abI] at d;try rw[a] at d
  clear a g;simp only[List.drop];clear d;go_wp2;go_ret;exact⟨rfl,i⟩
def dig(x:Nat):Int:=((x:Int)-97) % 256
def nh(l:List Nat)(p:Nat):Bool:=(dig (l.getD (p-1) 0)+2*dig (l.getD (p-2) 0)+3*dig (l.getD (p-3) 0)) % 5 ==0
def nV(h:k<s.size):(bs s).getD k 0=(s[k]'h).toNat:=by rw[sU,mQ h];rfl
def akr(s:ByteArray)(p:Nat)(v:3<=p/\p<s.size)(r:s.size<=maxLen)(w:World) :
  Calls (aj β) 213 #[.string s,.int .i64 p] w λe o=>e=.returned (.bool (nh (bs s) p))/\Below w.heap.size w o:=by
 unfold maxLen at r;obtain⟨a,l⟩:∃a,a=p-1:=⟨_,rfl⟩;obtain⟨b,j⟩:∃b,b=p-2:=⟨_,rfl⟩;obtain⟨c,n⟩:∃c,c=p-3:=⟨_,rfl⟩;have m:a<s.size:=by omega
 have g:b<s.size:=by omega
 have i:c<s.size:=by omega
 have y:(p:Int)-1=((a:Nat):Int):=by omega
 have x:(p:Int)-2=((b:Nat):Int):=by omega
 have z:(p:Int)-3=((c:Nat):Int):=by omega
 have t:(p:Int)<=9223372036854775807:=by omega
 have k:nh (bs s) p=((dig (s[a]'m).toNat+2*dig (s[b]'g).toNat+3*dig (s[c]'i).toNat) % 5 ==0):=by unfold nh;rw[<-l,<-j,<-n,nV m,nV g,nV i]
 rw[k];clear l j n k;go_enter xI,ntmps213;go_wp2;refine fh 24 [0,1,2,3,4,5,6,7,8,9,10,11,12,13,14,15,16,17,18,19,20,21,22,23] [] (h:= ?_);simp only[pick,List.map,qF,qG];repeat(go_big_quiet_step (fail))
 refine ge ?_;apply Exists.intro;refine jC ?_;intro A u q d f;dsimp only[abI] at f;try rw[d] at f
 clear d q;simp only[List.drop];clear f;go_wp2;go_ret;exact⟨ak rfl,u⟩
end
section
variable {β:Bool}
open Go.RowKit
def eK(key:Int)(x:It):Prop:=∃p,cF (bs x.b)=some p/\cg key p=x.n
def aeU{p : List Nat}(h:cF l=some p):aX p/\fA p=l:=by
 unfold cF at h;split at h
 .rename_i a;have e:=de h;rw[e] at a;exact a
 .cases h
def js(x:Int)(w:World)(b:Bool)(c:b=true↔1<=x/\x<=99):Calls (aj β) 27 #[.int .i64 x] w λe a=>e=.returned (.bool b)/\w=a:=by
 go_enter zg,ntmps27;go_wp2;refine(aaM _ _ _ _).mono ?_;rintro e d ⟨rfl,rfl⟩;go_wp2;go_ret;exact⟨ak (by rw[oE,c];simp),rfl⟩
def aco(key:Int)(v:1<=key/\key<=99)(x:It)(A:x.b.size<=maxLen)(w:World)(b:Bool)(i:b=true↔eK key x) :
  Calls (aj β) 47 #[.int .i64 key,.agg #[.int .i64 x.n,.string x.b]] w λe r=>e=.returned (.bool b)/\Below w.heap.size w r:=by
 replace i:=ab i;have B:x.b.size<=maxLen:=A;go_enter yV,ntmps47;go_wp2;generalize o:w.alloc (.cells #[.int .i64 x.n,.string x.b] 64)=w0 at *;obtain⟨q,E,D,n,F⟩:=iK o;clear o;refine(acn x.b B w0).mono ?_;rintro e C ⟨⟨t,G,rfl,a⟩,rfl⟩;rcases a with⟨rfl,a⟩|⟨rfl,a,_⟩
 .have d:=(aeU a).1;have f:b=(cg key (bs t) ==x.n):=by
   rw[oE,i.out,mT];unfold eK;rw[a];constructor
   .rintro⟨p,j,s⟩;cases j;exact s
   .intro h;exact⟨_,rfl,h⟩
  have y:=ab d;have c:=ab f;have z:=ab (λw=>ajU (β:=β) key t v d w);clear d f a;generalize cg key (bs t)=nm at *;go_wp2;have k:w0.cell? ⟨w.heap.size,0,none⟩=some (.int .i64 x.n):=n 0;have m:=ah k;refine aA (by kernel_rfl) (by kernel_rfl) ?_;repeat(go_big_quiet_step (first|(go_at_call 72;refine cX (z.out _))))
  refine ge ?_;intro u g;have l:=aG g;clear g m;go_wp2;go_ret;exact⟨ak c.out.symm,ae q l⟩
 .have f:b=false:=by
   rw[<-be,i.out];rintro⟨p,j,_⟩;rw[a] at j;cases j
  have c:=ab f;clear f a;go_wp2;have k:w0.cell? ⟨w.heap.size,0,none⟩=some (.int .i64 x.n):=n 0;have m:=ah k;refine aA (by kernel_rfl) (by kernel_rfl) ?_;repeat(go_big_quiet_step (fail))
  refine ge ?_;intro u g;have l:=aG g;clear g m;go_wp2;go_ret;exact⟨ak c.out.symm,ae q l⟩
def aa7(key:Int)(p:Pk):Prop:=(1<=p.no/\p.no<=99)/\(1<=key/\key<=99)/\(1<=p.its.length/\p.its.length<=4)/\(∀x∈p.its,eK key x)/\p.its.Pairwise λa b=>a.n<b.n
def acS(key:Int)(l:List It):Prop:=(∀x∈l,eK key x)/\l.Pairwise λa b=>a.n<b.n
def abR   :acS key (xs++[x])↔acS key xs/\eK key x/\∀y∈xs,y.n<x.n:=by
 unfold acS;rw[rT];constructor
 .intro⟨d,e,_,f⟩;exact⟨⟨λy c=>d y (by simp[c]),e⟩,d x (by simp),λy c=>f y c x (by simp)⟩
 .intro⟨⟨d,e⟩,f,i⟩;refine⟨λy c=> ?_,e,so _ _,λa g b j=> ?_⟩
  .rcases jt.1 c with c|c
   .exact d y c
   .rw[gE.1 c];exact f
  .rw[gE.1 j];exact i a g
def ail(b:xs[0]?=some x)(h:eK key x):acS key (xs.take 1):=by
 rw[kw b];exact abR.2 ⟨⟨λy a=>(by cases a),List.Pairwise.nil⟩,h,λy a=>(by cases a)⟩
def amj{y : It}{j:Nat}(c:acS key (xs.take (j+1)))(d:xs[j]?=some y)(e:xs[j+1]?=some x)(h:eK key x)(b:y.n<x.n):acS key (xs.take (j+1+1)):=by
 rw[kw e];refine abR.2 ⟨c,h,λz a=> ?_⟩;rw[kw d] at a c;rcases jt.1 a with a|a
 .have:=(abR.1 c).2.2 z a;omega
 .rw[gE.1 a];exact b
def avH(b:xs[k]?=some x)(h:¬eK key x):¬acS key xs:=λa=>h (a.1 x (da b))
def amk{y : It}{j:Nat}(a:xs[j]?=some y)(c:xs[j+1]?=some x)(h:¬y.n<x.n):¬acS key xs:=λd=>by
 have b:=pm.1 d.2 j (j+1) (aH a) (aH c) (by omega);rw[(jn.1 a).2,(jn.1 c).2] at b;exact h b
def aim(key:Int):acS key []:=⟨λx h=>(by cases h),List.Pairwise.nil⟩
def dO(p:Prop):∃b:Bool,b=true↔p:=by
 by_cases h:p
 .exact⟨true,by simp[h]⟩
 .exact⟨false,by simp[h]⟩
def aef(key:Int)(p:Pk)(v:Value)(w:World)(lo hi:Nat)(aU:hi<=w.heap.size)(h:gX w lo hi p.its [v])(b:Bool)(s:b=true↔aa7 key p) :
  Calls (aj β) 23 #[.int .i64 key,.agg #[.int .i64 p.no,v]] w λe w'=>e=.returned (.bool b)/\Below w.heap.size w w':=by
 replace s:=ab s;obtain⟨A,c,rfl⟩:=h.form;obtain⟨_,hc,hx⟩:=h.len_;unfold maxLen at hx;go_enter zk,ntmps23;go_wp2;generalize hG:w.alloc (.cells #[.int .i64 p.no,.slice A p.its.length c] 40)=w0 at *;obtain⟨r,eP,k0,dg,et⟩:=iK hG;clear hG;have h0:=gX.aK.below h r aU;by_cases L:1<=p.no/\p.no<=99
 .refine(adO p.no 1 99 L.1 L.2 w0).mono ?_;rintro e H ⟨rfl,rfl⟩;go_wp2;by_cases E:1<=key/\key<=99
  .refine(js key w0 true (by simp only[qe];exact E)).mono ?_;rintro e H ⟨rfl,rfl⟩;go_wp2;by_cases Z:1<=p.its.length/\p.its.length<=4
   .refine(adO p.its.length 1 4 (by omega) (by omega) w0).mono ?_;rintro e H ⟨rfl,rfl⟩;have m:b=true↔acS key p.its:=by rw[s.out];exact⟨λh=>⟨h.2.2.2.1,h.2.2.2.2⟩,λh=>⟨L,E,Z,h.1,h.2⟩⟩
    replace m:=ab m;clear s;go_wp2;go_loopw [5] (λi wr=>∃k:Nat,k<=p.its.length/\i=.int .i64 k/\acS key (p.its.take k)/\Below w0.heap.size w0 wr) (λi _=>p.its.length-(intOf i).toNat)
    case atStart=>exact⟨0,fb _,rfl,aim key,dk _ _⟩
    case round=>
     obtain⟨k,hk,rfl,R,d⟩:=hrel;replace R:=ab R;have h1:=gX.aK.below h0 d (am aU r.size);have k1:=aB k0 d;have V:=k1.cell;by_cases W:k<p.its.length
     .obtain⟨x,C⟩:=ar W;obtain⟨b1,Y,rfl,_,_,X,F,K⟩:=ace h1 C;replace C:=ab C;obtain⟨q,g⟩:=dO (eK key x);have S:=ab g;clear g;have D:=λw=>aco (β:=β) key E x X.2 w q S.out;replace D:=ab D;have P:wr.cell? ⟨w.heap.size,0,none⟩=some (.int .i64 p.no):=V 0;have O:wr.cell? ⟨w.heap.size,1,none⟩=some (.slice (some ⟨b1,Y,none⟩) p.its.length c):=V 1;clear k1 V dg et;cases q with
      |false=>
       have f:b=false:=by
        rw[<-be,m.out];exact avH C.out λh=>by have:=S.out.2 h;cases this
       have a:=ab f;clear f;go_wp2;have B:=ah P;have z:=ah O;have u:=ah F;have t:=ah K;refine aA (by kernel_rfl) (by kernel_rfl) ?_;repeat(go_big_quiet_step (first|(go_at_call 47;refine aO (D.out _))))
       refine ge ?_;intro T n;have g:=aG n;clear n B z u t;go_wp2;go_ret;exact⟨ak a.out.symm,ae r (ae d g)⟩
      |true=>
       have o:=S.out.1 rfl;replace o:=ab o;rcases mu k with G|G
       .subst G;simp only[se,rI] at F K;have J:=ail C.out o.out;have HK:=ab J;clear J;go_wp2;have B:=ah P;have z:=ah O;have u:=ah F;have t:=ah K;refine aA (by kernel_rfl) (by kernel_rfl) ?_;repeat(go_big_quiet_step (first|(go_at_call 47;refine aO (D.out _))))
        refine ge ?_;intro T n;have g:=aG n;clear n B z u t;go_wp2;go_roundw
        case rel=>first|exact⟨1,by omega,by go_num,HK.out,ae d g⟩|((repeat apply Exists.intro);refine⟨?_,rfl⟩;exact⟨1,by omega,by go_num,HK.out,ae d g⟩)
        simp[intOf];omega
       .obtain⟨j,rfl⟩:∃j,k=j+1:=⟨k-1,by omega⟩;have e1:((j+1:Nat):Int)-1=(j:Int):=by omega
        obtain⟨y,N⟩:=ar (l:=p.its) (k:=j) (by omega);obtain⟨b2,gW,I,_,_,a0,M,a1⟩:=ace h1 N;simp only[lE,qa,qn] at I;obtain⟨rfl,rfl⟩:=I;replace N:=ab N;by_cases Q:y.n<x.n
        .have u1:=bv (show ¬(x.n<=y.n) by omega);have J:=amj R.out N.out C.out o.out Q;have HK:=ab J;clear J Q;go_wp2;have B:=ah P;have z:=ah O;have u:=ah F;have t:=ah K;have U:=ah M;refine aA (by kernel_rfl) (by kernel_rfl) ?_;repeat(go_big_quiet_step (first|(go_at_call 47;refine aO (D.out _))))
         refine ge ?_;intro T n;have g:=aG n;clear n B z u t U;go_wp2;go_roundw
         case rel=>first|exact⟨j+1+1,by omega,by go_num,HK.out,ae d g⟩|((repeat apply Exists.intro);refine⟨?_,rfl⟩;exact⟨j+1+1,by omega,by go_num,HK.out,ae d g⟩)
         simp[intOf];omega
        .have u1:=du (show x.n<=y.n by omega);have f:b=false:=by
          rw[<-be,m.out];exact amk N.out C.out Q
         have a:=ab f;clear f Q;go_wp2;have B:=ah P;have z:=ah O;have u:=ah F;have t:=ah K;have U:=ah M;refine aA (by kernel_rfl) (by kernel_rfl) ?_;repeat(go_big_quiet_step (first|(go_at_call 47;refine aO (D.out _))))
         refine ge ?_;intro T n;have g:=aG n;clear n B z u t U;go_wp2;go_ret;exact⟨ak a.out.symm,ae r (ae d g)⟩
     .obtain rfl:k=p.its.length:=by omega
      have f:b=true:=by
       have:=R.out;rw[fd] at this;exact m.out.2 this
      have a:=ab f;clear f;go_wp2;go_ret;exact⟨ak a.out.symm,ae r d⟩
   .have f:b=false:=by rw[<-be,s.out];exact λh=>Z h.2.2.1
    have a:=ab f;clear f;refine(agw p.its.length 1 4 (by omega) w0).mono ?_;rintro e H ⟨rfl,rfl⟩;go_wp2;go_ret;exact⟨ak a.out.symm,r⟩
  .have f:b=false:=by rw[<-be,s.out];exact λh=>E h.2.1
   have a:=ab f;clear f;refine(js key w0 false (by simp only[fa,qN];exact E)).mono ?_;rintro e H ⟨rfl,rfl⟩;go_wp2;go_ret;exact⟨ak a.out.symm,r⟩
 .have f:b=false:=by rw[<-be,s.out];exact λh=>L h.1
  have a:=ab f;clear f;refine(agw p.no 1 99 L w0).mono ?_;rintro e H ⟨rfl,rfl⟩;go_wp2;go_ret;exact⟨ak a.out.symm,r⟩
end
section
variable {β:Bool}
open Go.RowKit
def Rd(w:World)(lo hi g:Nat)(l:List Int)(p:Nat):Prop:=
 ∃A c,gK w g 81 #[.slice A l.length c,.int .i64 p]/\l.length<=2000/\cJ awJ 1 w lo hi l [.slice A l.length c]/\hi<=g
end
section
variable {β:Bool}
open Go.RowKit
structure ap6 (w:World) (lo hi g:Nat) (l:List Int) (N:Nat) where
 to:World
 q:Nat
 rd:Rd to lo hi g l q
 ok:jm (λb=>b=g) w to
 lim:q<=N
section
variable {w:World} {lo hi g:Nat} {l:List Int} {N:Nat}
instance aun:aY (ap6 w lo hi g l N):=⟨λm x=>x.q+m<=N,λ_ _ h=>Nat.le_of_succ_le h,λ_ _=>True⟩
variable {P:Program}
variable {ops:Array Oper} {Qt:Act->World->Prop} {i:Nat} {o:Oper} {L:List (Nat×Oper)} {F:List (Nat×(ap6 w lo hi g l N->Prop))} {Rs:List (gV (ap6 w lo hi g l N))} {a:Act}
end
end
section
variable {β:Bool}
open Go.RowKit
structure ap7 (w:World) (lo hi g:Nat) (l:List Int) (N s ia ic bk:Nat) (fx:Bool) (ty:TypeId) (n:Nat) (S:Nat->Prop) (pre:List Nat) where
 to:World
 q:Nat
 box:Option Nat
 done:Bool
 res:Option Value
 rd:Rd to lo hi g l q
 ok:jm (λb=>b=g\/box=some b\/(done=true/\S b)) w to
 lim:q<=N
 bw:∀b,box=some b->b=bk\/w.heap.size<=b
 bf:fx=true->box=some bk
 sf:∀b,S b->b≠g/\hi<=b/\b≠bk/\b<w.heap.size
 bx:∀b,box=some b->b≠g/\hi<=b/\∃cs:Array Value,cs.size=n/\gK to b ty cs
section
variable {w:World} {lo hi g:Nat} {l:List Int} {N s ia ic bk:Nat} {fx:Bool} {ty:TypeId} {n:Nat} {S:Nat->Prop} {pre:List Nat}
instance auo:aY (ap7 w lo hi g l N s ia ic bk fx ty n S pre):=⟨λm x=>x.q+m<=N,λ_ _ h=>Nat.le_of_succ_le h,λi x=>(i=s\/i∈pre->x.done=false)/\(i=ia->x.box=none)/\(i=ic->x.res=none)⟩
variable {P:Program} {ops:Array Oper} {Qt:Act->World->Prop} {i:Nat} {o:Oper} {L:List (Nat×Oper)} {F:List (Nat×(ap7 w lo hi g l N s ia ic bk fx ty n S pre->Prop))} {Rs:List (gV (ap7 w lo hi g l N s ia ic bk fx ty n S pre))} {a:Act}
end
end
section
variable {β:Bool}
open Go.RowKit
def mv:Flat ByteArray:=⟨1,λs=>[.string s],λs=>s.size<=maxLen,λ_=>rfl,λs u a=>by rw[gE.1 a];rfl,by decide⟩
abbrev fH:eX (List ByteArray):=mr 9 (cy mv) 1
def fH.aK:fO fH [9]:=mr.aK (cy.aK mv)
def aa8:py (aj β) 117 9 1 16:=py.mk' xE (z:=.string ⟨#[]⟩) (by kernel_rfl) rfl (by decide) (by decide)
def lQ{xs:List ByteArray}{n c:Nat}(h:fH w Z V xs [.slice A n c]){x:ByteArray}(f:xs[k]?=some x) :
  ∃b a,A=some ⟨b,a,none⟩/\Z<=b/\b<V/\x.size<=maxLen/\w.cell? ⟨b,a+k,none⟩=some (.string x):=by
 obtain⟨b,a,l,rfl,g,e,j,⟨rfl,d⟩,i⟩:=h.1.at_ f;exact⟨b,a,rfl,g,e,d,by simpa using i 0 _ rfl⟩
end
section
variable {β:Bool}
open Go.RowKit
def atF(l:List Nat)(a:Nat):Nat->Nat->Nat
 |0,_=>min (a+8) l.length
 |f+1,n=>if l.length<=a+n then l.length else if nh l (a+n)=true then a+n else atF l a f (n+1)
def mF(l:List Nat)(a:Nat):Nat:=atF l a 5 3
def aeg{l:List Nat}{a:Nat}(b:a<l.length):∀(f n:Nat),0<n->n+f<=8->a<atF l a f n/\atF l a f n<=l.length/\atF l a f n<=a+8
 |0,n,_,_=>by show a<min _ _/\min _ _<=_/\min _ _<=_;omega
 |f+1,n,h0,h8=>by
  unfold atF;split
  .omega
  .split
   .omega
   .exact aeg b f (n+1) (by omega) (by omega)
def dK{a:Nat}(b:a<l.length):a<mF l a/\mF l a<=l.length/\mF l a<=a+8:=aeg b 5 3 (by omega) (by omega)
def cV(l:List Nat):Nat->List Int->Nat->Prop
 |a,[],b=>a=b
 |a,x::xs,b=>a<l.length/\x=(mF l a:Int)/\cV l (mF l a) xs b
def cV.snoc :∀{a:Nat} {c:List Int} {b:Nat},cV l a c b->b<l.length->cV l a (c++[(mF l b:Int)]) (mF l b)
 |a,[],b,h,h1=>by
  have h:a=b:=h;subst h;exact⟨h1,rfl,rfl⟩
 |a,x::c,b,⟨h2,h3,h4⟩,h1=>⟨h2,h3,h4.snoc h1⟩
def cV.len :∀{a:Nat} {c:List Int} {b:Nat},cV l a c b->a+c.length<=b
 |a,[],b,h=>by
  have h:a=b:=h;simp;omega
 |a,x::c,b,⟨h1,_,h⟩=>by
  have:=h.len;have:=(dK h1).1;simp only[mp];omega
def cV.at_{l:List Nat}:∀{a:Nat} {d:List Int} {b k m:Nat} {x:Int},cV l a d b->cV l a (d.take k) m->d[k]?=some x->x=(mF l m:Int)/\m<l.length/\cV l a (d.take (k+1)) (mF l m)
 |a,[],b,k,m,x,_,_,c=>by simp at c
 |a,y::d,b,0,m,x,⟨h1,e,h3⟩,f,c=>by
  have f:a=m:=f;subst f;have c:y=x:=by simpa using c
  subst c;exact⟨e,h1,h1,e,rfl⟩
 |a,y::d,b,k+1,m,x,⟨h1,e,h3⟩,⟨h1',e',f⟩,c=>by
  obtain⟨j,g,i⟩:=cV.at_ h3 f (by simpa using c);exact⟨j,g,h1,e,i⟩
def cV.am8(f:l.length<=maxLen):∀{a:Nat} {d:List Int} {b:Nat},cV l a d b->∀x∈d,fg x
 |a,[],b,_,x,c=>by cases c
 |a,y::d,b,⟨h1,e,h⟩,x,c=>by
  have:=(dK h1).2.1;unfold maxLen at f;rcases lw.1 c with rfl|c
  .rw[e];unfold fg;omega
  .exact h.am8 f x c
def aft(l:List Nat):Nat->Nat->List Int
 |0,_=>[]
 |f+1,a=>if a<l.length then(mF l a:Int)::aft l f (mF l a) else[]
def cV.uniq :∀{a:Nat} {b:List Int} {f:Nat},cV l a b l.length->l.length-a<=f->b=aft l f a
 |a,[],f,h,_=>by
  have h:a=l.length:=h;cases f with
  |zero=>rfl
  |succ f=>show[]=if _ then _ else _;rw[bd (by omega)]
 |a,x::b,f,⟨h1,e,h⟩,hf=>by
  have:=(dK h1).1;cases f with
  |zero=>omega
  |succ f=>
   show x::b=if _ then _ else _
   rw[dj h1,e,<-h.uniq (f:=f) (by omega)]
def acp{l:List Nat}:∀{f a:Nat},a<=l.length->l.length-a<=f->cV l a (aft l f a) l.length
 |0,a,h1,h2=>by show a=l.length;omega
 |f+1,a,h1,h2=>by
  show cV l a (if a<l.length then(mF l a:Int)::aft l f (mF l a) else[]) l.length;by_cases b:a<l.length
  .rw[dj b];have:=dK b;exact⟨b,rfl,acp (by omega) (by omega)⟩
  .rw[bd b];show a=l.length;omega
def bP(s:ByteArray):Nat->List Int->List ByteArray
 |_,[]=>[]
 |a,x::xs=>s.extract a x.toNat::bP s x.toNat xs
def oP{s:ByteArray}{l:List Nat}:∀{a:Nat} {b:List Int} {m q:Nat},cV l a b m->bP s a (b++[(q:Int)])=bP s a b++[s.extract m q]
 |a,[],m,q,h=>by
  have h:a=m:=h;subst h;rfl
 |a,x::b,m,q,⟨_,e,h⟩=>by
  show s.extract a x.toNat::bP s x.toNat (b++[(q:Int)])=s.extract a x.toNat::(bP s x.toNat b++_);rw[e,rS,oP h]
def lS(s:ByteArray):∀(a:Nat) (b:List Int),(bP s a b).length=b.length
 |_,[]=>rfl
 |a,x::b=>by show(bP s x.toNat b).length+1=_;rw[lS];rfl
def oQ(s:ByteArray):∀(c:List Int) (a:Nat),∀x∈bP s a c,x.size<=s.size
 |[],_,x,b=>by cases b
 |z::c,a,x,b=>by
  have b:x∈s.extract a z.toNat::bP s z.toNat c:=b;rcases lw.1 b with rfl|b
  .rw[<-aL,cq,pQ,lm,aL];omega
  .exact oQ s c _ x b
def fT(s:ByteArray):List ByteArray:=bP s 0 (aft (bs s) s.size 0)
def aml{xs:List Int}(h:cV (bs s) 0 xs s.size):bP s 0 xs=fT s:=by
 rw[<-aL] at h;unfold fT;rw[h.uniq (f:=s.size) (by rw[aL];omega)]
def ap8{q : Nat}(a:(bs s).all mC=true)(e:m<q)(d:q<=m+8)(f:q<=s.size):aX (bs (s.extract m q)):=by
 have b:(((bs s).take q).drop m).length=q-m:=by rw[pQ,lm,aL];omega
 rw[cq];refine⟨⟨by omega,by omega⟩, ?_⟩;rw[ip] at a ⊢;exact λx c=>a x (qb (vg c))
def ap9(s:ByteArray){q : Nat}(a:q<=s.size):(s.extract m q).size=q-m:=by
 rw[<-aL,cq,pQ,lm,aL];omega
def nj{s:ByteArray}(g:(bs s).all mC=true):∀{a:Nat} {d:List Int} {b:Nat},cV (bs s) a d b->∀x∈bP s a d,aX (bs x)
 |a,[],b,_,x,c=>by cases c
 |a,y::d,b,⟨h1,e,h⟩,x,c=>by
  obtain⟨i,f,j⟩:=dK h1;rw[aL] at f;have c:x∈s.extract a y.toNat::bP s y.toNat d:=c;rw[e,rS] at c;rcases lw.1 c with rfl|c
  .exact ap8 g i j f
  .exact nj g h x c
def aeh(s:ByteArray):cV (bs s) 0 (aft (bs s) s.size 0) s.size:=by
 have:=acp (l:=bs s) (f:=s.size) (a:=0) (fb _) (by rw[aL];omega)
 rwa [aL] at this
def lT(a:(bs s).all mC=true):∀x∈fT s,aX (bs x):=nj a (aeh s)
def aqa(s:ByteArray):(fT s).length<=s.size:=by
 have:=(aeh s).len;unfold fT;rw[lS];omega
def cH(l:List ByteArray):List Nat:=l.flatMap bs
def aa9{s:ByteArray}:∀{a:Nat} {c:List Int} {b:Nat},cV (bs s) a c b->cH (bP s a c)=((bs s).take b).drop a
 |a,[],b,h=>by
  have h:a=b:=h;subst h;show[]=_;rw[rH (by rw[lm];omega)]
 |a,x::c,b,⟨h1,e,h⟩=>by
  obtain⟨g,i,j⟩:=dK h1;have d:=h.len;show bs (s.extract a x.toNat)++cH (bP s x.toNat c)=_;rw[e,rS,aa9 h,cq];have f:((bs s).take b).drop a=(((bs s).take b).take (mF (bs s) a)).drop a++((bs s).take b).drop (mF (bs s) a):=by
   conv=>lhs;rw[<-pH (mF (bs s) a) ((bs s).take b)]
   rw[List.drop_append_of_le_length (by rw[lm,lm];omega)]
  rw[f,uQ,qx (show mF (bs s) a<=b by omega)]
def anC(s:ByteArray):cH (fT s)=bs s:=by
 unfold fT;rw[aa9 (aeh s),qp,<-aL,fd]
def aqb(s:ByteArray)(p:Nat)(B:p<s.size)(D:s.size<=1000000)(w:World) :
  Calls (aj β) 203 #[.string s,.int .i64 p] w λe v=>e=.returned (.int .i64 (mF (bs s) p:Nat))/\Below w.heap.size w v:=by
 have o:s.size<=maxLen:=by unfold maxLen;omega
 go_enter xN,ntmps203;go_wp2;go_loopw [5] (λr wr=>∃k f:Nat,k+f=8/\3<=k/\r=.int .i64 k/\mF (bs s) p=atF (bs s) p f k/\Below w.heap.size w wr) (λr _=>8-(intOf r).toNat)
 case atStart=>exact⟨3,5,rfl,by omega,rfl,rfl,dk _ _⟩
 case round=>
  obtain⟨k,f,y,C,rfl,b,d⟩:=hrel;replace b:=ab b;by_cases A:k<8
  .obtain⟨g,rfl⟩:∃g,f=g+1:=⟨f-1,by omega⟩;have a:atF (bs s) p (g+1) k=if s.size<=p+k then s.size else if nh (bs s) (p+k)=true then p+k else atF (bs s) p g (k+1):=by
    show(if(bs s).length<=p+k then(bs s).length else _)=_;rw[aL]
   have HS:=ab a;clear a;by_cases j:s.size<=p+k
   .have n:=du (show(s.size:Int)<=(p:Int)+(k:Int) by omega);go_wp2;go_ret;exact⟨by rw[b.out,HS.out,dj j];rfl,d⟩
   .have n:=bv (show ¬((s.size:Int)<=(p:Int)+(k:Int)) by omega);rw[bd j] at HS;obtain⟨i,u⟩:∃m,m=p+k:=⟨_,rfl⟩;have x:(p:Int)+(k:Int)=((i:Nat):Int):=by omega
    have q:3<=i/\i<s.size:=by omega
    rw[x] at n;rw[<-u] at HS;clear u;go_wp2;refine(akr s i q o wr).mono ?_;rintro e z ⟨rfl,t⟩;cases l:nh (bs s) i with
    |true=>
     have c:=ab (b.out.trans (HS.out.trans (dj l)));clear l;go_wp2;go_ret;exact⟨by rw[c.out];rfl,ae d t⟩
    |false=>
     have c:=ab (b.out.trans (HS.out.trans (bd (by rw[l];exact pu))));clear l;go_wp2;go_roundw
     case rel=>exact⟨k+1,g,by omega,by omega,by go_num,c.out,ae d t⟩
     simp[intOf];omega
  .obtain rfl:k=8:=by omega
   obtain rfl:f=0:=by omega
   have a:atF (bs s) p 0 8=min (p+8) s.size:=by
    show min (p+8) (bs s).length=_;rw[aL]
   have c:=ab (b.out.trans a);clear a b;by_cases j:p+8<=s.size
   .have n:=du (show(p:Int)+8<=(s.size:Int) by omega);rw[qx j] at c;go_wp2;go_ret;exact⟨by rw[c.out];simp,d⟩
   .have n:=bv (show ¬((p:Int)+8<=(s.size:Int)) by omega);rw[Nat.min_eq_right (by omega)] at c;go_wp2;go_ret;exact⟨by rw[c.out];simp,d⟩
def aqd(s:ByteArray)(w:World)(e:Ending)(w':World):Prop:=∃v a,e=.returned v/\aQ gv 3 w' w.heap.size v a/\cV (bs s) 0 a s.size/\Below w.heap.size w w'
def aks(s:ByteArray)(L:s.size<=100000)(w:World) :
  Calls (aj β) 179 #[.string s] w (aqd s w):=by
 go_enter xU,ntmps179;go_wp2;have m:=aJ w (.cells #[] 3);have j:aQ gv 3 (w.alloc (.cells #[] 3)) w.heap.size (.slice (some ⟨w.heap.size,0,none⟩) 0 0) []:=(ahF.new w 3 (ap _)).own 1;generalize w.alloc (.cells #[] 3)=w0 at *;go_loopw [3,4] (λB x wr=>∃(k:Nat) (g:List Int),k<=s.size/\x=.int .i64 k/\aQ gv 3 wr w.heap.size B g/\cV (bs s) 0 g k/\Below w.heap.size w wr) (λ_ x _=>s.size-(intOf x).toNat)
 case atStart=>exact⟨0,[],fb _,rfl,j,rfl,m⟩
 case round=>
  clear j m;obtain⟨k,g,G,rfl,p,o,r⟩:=hrel;obtain⟨A,c,rfl⟩:=p.form;by_cases d:k<s.size
  .go_wp2;refine(aqb s k d (by omega) wr).mono ?_;rintro e E ⟨rfl,y⟩;have b:=dK (l:=bs s) (a:=k) (by rw[aL];exact d);rw[aL] at b;have J:=o.len;have n:=p.below y;have f:=ae r y;have HC:=ab (o.snoc (by rw[aL];exact d));revert HC b;generalize mF (bs s) k=q;intro b HC;clear p r o;go_wp2_with(at_builtin;refine jD (F:=gv) (v:=.slice A g.length c) rfl (.tmp 13) (.tmp 15) 31 rfl aaH (q:Int) rfl n rfl rfl (by omega) f.size ?_;intro K H t u z;obtain⟨D,I,rfl⟩:=t.form;simp only[gn,mp,qr,pb] at t);go_roundw
   case rel=>exact⟨q,g++[(q:Int)],b.2.1,rfl,by simpa using t,HC.out,f.trans (u.below f.size λi M C=>by have:=(n.at_ C).1;omega)⟩
   simp[intOf];omega
  .obtain rfl:k=s.size:=by omega
   go_wp2;go_ret;exact⟨_,g,rfl,p,o,r⟩
def akt(s:ByteArray)(w:World)(e:Ending)(w':World):Prop:=∃v,e=.returned v/\aQ mv 9 w' w.heap.size v (fT s)/\Below w.heap.size w w'
def anD(s:ByteArray)(B:s.size<=100000)(w:World) :
  Calls (aj β) 124 #[.string s] w (akt s w):=by
 go_enter yj,ntmps124;go_wp2;have J:=aJ w (.cells #[] 9);have C:aQ mv 9 (w.alloc (.cells #[] 9)) w.heap.size (.slice (some ⟨w.heap.size,0,none⟩) 0 0) []:=(ahF.new w 9 (ap _)).own 1;generalize w.alloc (.cells #[] 9)=w0 at *;refine(aks s B w0).mono ?_;rintro e w1 ⟨ve,f,rfl,W,a,G⟩;obtain⟨Ae,ce,rfl⟩:=W.form;have j:=C.below G;have l:=ae J G;have z1:=G.size;have a0:=a.len;have H:=W.deep (a.am8 (by rw[aL];unfold maxLen;omega)) w0.heap.size;have D:=H.sl (ap _);replace a:=ab a;replace j:=ab j;have O:=ab D;replace l:=ab l;clear C J G H D W;go_wp2;go_loopw [3,4,6] (λoo aa Z wr=>∃(k m:Nat),k<=f.length/\m<=s.size/\Z=.int .i64 k/\aa=.int .i64 m/\cV (bs s) 0 (f.take k) m/\aQ mv 9 wr w.heap.size oo (bP s 0 (f.take k))/\Below w.heap.size w wr/\mr 3 (cy gv) 1 wr w0.heap.size w1.heap.size f [.slice Ae f.length ce]) (λ_ _ Z _=>f.length-(intOf Z).toNat)
 case atStart=>exact⟨0,0,fb _,fb _,rfl,rfl,rfl,j.out,l.out,O.out⟩
 case round=>
  clear j l O;obtain⟨k,m,hk,a5,rfl,rfl,U,g,L,P⟩:=hrel;by_cases V:k<f.length
  .obtain⟨y,z⟩:=ar V;obtain⟨rfl,K,M⟩:=a.out.at_ U z;obtain⟨h1,E,h2⟩:=dK K;rw[aL] at E;have N:bP s 0 (f.take (k+1))=bP s 0 (f.take k)++[s.extract m (mF (bs s) m)]:=by rw[kw z,oP U]
   have u:(bP s 0 (f.take k)).length=k:=by rw[lS,lm,qx hk]
   have n:∀x∈bP s 0 (f.take k),x.size<=maxLen:=λx p=>by
    have:=oQ s _ _ x p;unfold maxLen;omega
   revert N;revert M;revert E;revert h2;revert h1;revert z;generalize mF (bs s) m=q;generalize bP s 0 (f.take k)=xs at g u n ⊢;intro z h1 h2 E M N;obtain⟨A,c,rfl⟩:=g.form;obtain⟨b',X,cs,e0,a9,a4,_,⟨rfl,a2⟩,I⟩:=P.1.at_ z;subst e0;obtain⟨a3,T⟩:=P.2 (by omega) _ _ _ _ rfl;have R:wr.cell? ⟨b',X+k,none⟩=some (.int .i64 (q:Int)):=by simpa using I 0 _ rfl
   have HN:=ab N;have H4:=ab M;have O:=ab P;have HG:=ab n;have a8:(s.extract m q).size<=maxLen:=by rw[ap9 s E];unfold maxLen;omega
   have a1:=ab u;have a7:xs.length<=100000:=by omega
   clear I N M P U z u K n;have o:∀B:(Value.slice A xs.length c).ownBlock=some b',False:=λB=>by
    obtain⟨ds,hd⟩:=(aQ.deep g (λx p=>HG.out x p) 0).blk B;exact absurd (aaL T hd) (by decide)
   replace o:=ab o;have g1:¬((m:Int)<0):=by omega
   have g2:(m:Int)<=(q:Int):=by omega
   have g3:(q:Int)<=(s.size:Int):=by omega
   go_wp2_with(at_builtin;refine jD (F:=mv) (v:=.slice A xs.length c) rfl (.tmp 16) (.tmp 24) 117 rfl aa8 (s.extract m q) rfl g rfl rfl (by omega) L.size ?_;intro va wa Y r a6;obtain⟨Aa,ca,rfl⟩:=Y.form;simp only[gn,mp,qr,pb] at Y;have ad:=apg R r o.out);go_roundw
   case rel=>
    refine⟨k+1,q,by omega,E,by go_num,rfl,H4.out,by rw[HN.out];simpa using Y,L.trans (r.below L.size λi hi p=>by have:=(g.at_ p).1;omega), ?_⟩;exact(mr.aK (cy.aK gv)).go (λb G b2 ht=>r.block b (by obtain⟨t,_,d,hd⟩:=ht;exact hd.lt) λB=>by
      obtain⟨ds,hd⟩:=(aQ.deep g (λx p=>HG.out x p) 0).blk B;obtain⟨t,S,d2,Q⟩:=ht;have e1:=aaL hd Q;rw[gE.1 S] at e1;exact absurd e1 (by decide)) (ap _) (ap _) O.out
   case measure=>simp[intOf];omega
  .obtain rfl:k=f.length:=by omega
   rw[fd,aml a.out] at g;obtain⟨A,c,rfl⟩:=g.form;go_wp2;go_ret;exact⟨_,rfl,g,L⟩
end
section
variable {β:Bool}
open Go.RowKit
structure Nd where
 p:ByteArray
 b:ByteArray
def FNd:Flat Nd:=⟨2,λx=>[.string x.p,.string x.b],λx=>x.p.size<=maxLen/\x.b.size<=maxLen,λ_=>rfl,λx u a=>by simp at a;rcases a with rfl|rfl<;>rfl,by decide⟩
abbrev my:eX (List Nd):=mr 122 (cy FNd) 2
def my.aK:fO my [122]:=mr.aK (cy.aK FNd)
def amm:py (aj β) 83 122 2 32:=py.mk' yA (z:=.agg #[.string ⟨#[]⟩,.string ⟨#[]⟩]) (by kernel_rfl) rfl (by decide) (by decide)
def agT(x:Nd):Prop:=fG x.p=true/\dW x.b=true
def mj:∀{a b c:List UInt8},Op.bytesLess a b=true->Op.bytesLess b c=true->Op.bytesLess a c=true
 |_,[],_,h,_=>by simp[Op.bytesLess] at h
 |_,_::_,[],_,h=>by simp[Op.bytesLess] at h
 |[],_::_,_::_,_,_=>by simp[Op.bytesLess]
 |x::a,y::b,z::c,e,d=>by
  simp only[Op.bytesLess,qs,ql,eg,mT,qK,<-rL] at e d ⊢;rcases e with e|⟨e,g⟩
  .rcases d with d|⟨d,f⟩
   .exact .inl (by omega)
   .exact .inl (by omega)
  .rcases d with d|⟨d,f⟩
   .exact .inl (by omega)
   .exact .inr ⟨by omega,mj g f⟩
def amn(t:List Nd)(i:Nat)(x:Nd):Prop:=agT x/\(∀y,0<i->t[i-1]?=some y->Op.bytesLess y.p.toList x.p.toList=true)/\∀k y,k<i->t[k]?=some y->ir y.p x.p=false
def afu(t:List Nd):Prop:=t.length<=6/\∀i x,t[i]?=some x->amn t i x
def ac5{t:List Nd}(h:∀i x,t[i]?=some x->∀y,0<i->t[i-1]?=some y->Op.bytesLess y.p.toList x.p.toList=true):∀(d k:Nat) {x y:Nd},t[k+d+1]?=some x->t[k]?=some y->Op.bytesLess y.p.toList x.p.toList=true
 |0,k,x,y,hx,hy=>h (k+1) x hx y (by omega) hy
 |d+1,k,x,y,hx,hy=>by
  obtain⟨z,a⟩:∃z,t[k+d+1]?=some z:=ar (by have:=aH hx;omega);exact mj (ac5 h d k a hy) (h (k+(d+1)+1) x hx z (by omega) a)
def aku(xs:List Nd):Prop:=(∀x∈xs,agT x)/\xs.length<=6/\xs.Pairwise λa b=>Op.bytesLess a.p.toList b.p.toList=true/\ir a.p b.p=false
def aqe{t:List Nd}:afu t↔aku t:=by
 unfold aku afu;rw[pm];constructor
 .rintro⟨g,h⟩;refine⟨λx a=> ?_,g,λi j b m d=>⟨?_, ?_⟩⟩
  .obtain⟨i,b⟩:=qS a;exact(h i x b).1
  .exact ac5 (λi x a=>(h i x a).2.1) (j-i-1) i (by rw[show i+(j-i-1)+1=j by omega];exact io m) (io b)
  .exact(h j t[j] (io m)).2.2 i t[i] d (io b)
 .rintro⟨p,n,l⟩;refine⟨n,λi x a=>⟨p x (da a),λy g c=> ?_,λk y o c=> ?_⟩⟩
  .obtain⟨e,rfl⟩:=jn.1 a;obtain⟨f,rfl⟩:=jn.1 c;exact(l (i-1) i f e (by omega)).1
  .obtain⟨e,rfl⟩:=jn.1 a;obtain⟨f,rfl⟩:=jn.1 c;exact(l k i f e o).2
def aei{xs:List Nd}{n c:Nat}(h:my w Z V xs [.slice A n c]){x:Nd}(i:xs[k]?=some x) :
  ∃b a,A=some ⟨b,a,none⟩/\Z<=b/\b<V/\FNd.good x/\w.cell? ⟨b,a+k*2,none⟩=some (.string x.p)/\w.cell? ⟨b,a+k*2+1,none⟩=some (.string x.b):=by
 obtain⟨b,a,l,e,j,f,_,⟨rfl,g⟩,d⟩:=h.1.at_ i;exact⟨b,a,e,j,f,g,by simpa using d 0 _ rfl,by simpa using d 1 _ rfl⟩
def anE(xs:List Nd)(v:Value)(w:World)(lo I:Nat)(h:my w lo I xs [v])(aU:I<=w.heap.size)(q:Bool)(g:q=true↔afu xs) :
  Calls (aj β) 75 #[v] w λe w'=>e=.returned (.bool q)/\Below w.heap.size w w':=by
 have O:=ab g;clear g;obtain⟨A,c,rfl⟩:=h.form;obtain⟨_,hc,Z⟩:=h.1.len_;unfold maxLen at Z;go_enter yI,ntmps75;go_wp2;go_loopw [3] (λii wr=>∃k:Nat,k<=xs.length/\ii=.int .i64 k/\(∀i x,i<k->xs[i]?=some x->amn xs i x)/\Below w.heap.size w wr) (λii _=>xs.length-(intOf ii).toNat)
 case atStart=>exact⟨0,fb _,rfl,λi x I=>absurd I (rN i),dk _ _⟩
 case round=>
  obtain⟨k,hk,rfl,p,H⟩:=hrel;replace p:=ab p;by_cases r:k<xs.length
  .obtain⟨x,E⟩:=ar r;obtain⟨b0,a7,rfl,_,a6,B,D,R⟩:=aei (my.aK.below h H aU) E;replace E:=ab E;cases a:fG x.p
   .replace a:=ab a;have f:q=false:=by
     rw[<-be,O.out];rintro⟨-,h⟩;have h:=h k x E.out;have h:=h.1.1;rw[a.out] at h;cases h
    have s:=ab f;clear f;go_wp2;have o:=ah D;have n:=ah R;refine aA (by kernel_rfl) (by kernel_rfl) ?_;repeat(go_big_quiet_step (first|(go_at_call 100;refine cX (v:=.bool false) ?_;rw[<-a.out];exact jK x.p B.1 _)))
    refine ge ?_;intro P d;have g:=aG d;clear d o n;go_wp2;go_ret;exact⟨ak s.out.symm,ae H g⟩
   .replace a:=ab a;cases b:dW x.b
    .replace b:=ab b;have f:q=false:=by
      rw[<-be,O.out];rintro⟨-,h⟩;have h:=h k x E.out;have h:=h.1.2;rw[b.out] at h;cases h
     have s:=ab f;clear f;go_wp2;have o:=ah D;have n:=ah R;refine aA (by kernel_rfl) (by kernel_rfl) ?_;repeat(go_big_quiet_step (first|(go_at_call 100;refine cX (v:=.bool true) ?_;rw[<-a.out];exact jK x.p B.1 _)|(go_at_call 101;refine cX (v:=.bool false) ?_;rw[<-b.out];exact jJ x.b B.2 _)))
     refine ge ?_;intro P d;have g:=aG d;clear d o n;go_wp2;go_ret;exact⟨ak s.out.symm,ae H g⟩
    .replace b:=ab b;by_cases a4:k=0
     case' pos=>
      have Y:=bv (show ¬(0<k) by omega);have U:agT x/\∀y,0<k->xs[k-1]?=some y->Op.bytesLess y.p.toList x.p.toList=true:=⟨⟨a.out,b.out⟩,λy h0=>by omega⟩;have mD:=ab U;clear U;clear a4;go_wp2;have o:=ah D;have n:=ah R;refine aA (by kernel_rfl) (by kernel_rfl) ?_;repeat(go_big_quiet_step (first|(go_at_call 100;refine cX (v:=.bool true) ?_;rw[<-a.out];exact jK x.p B.1 _)|(go_at_call 101;refine cX (v:=.bool true) ?_;rw[<-b.out];exact jJ x.b B.2 _)))
      refine ge ?_;intro P d;have g:=aG d;clear d o n
     case' neg=>
      obtain⟨k',nJ⟩:∃m,m=k-1:=⟨_,rfl⟩;have e1:(k:Int)-1=((k':Nat):Int):=by omega
      have a2:k'<xs.length:=by omega
      have Y:=du (show 0<k by omega);obtain⟨z,t⟩:=ar a2;obtain⟨b1,V,F,_,_,a8,Q,_⟩:=aei (my.aK.below h H aU) t;simp only[lE,qa,qn] at F;obtain⟨rfl,rfl⟩:=F;replace t:=ab t;have T:=ab nJ;have a1:0<k:=by omega
      clear nJ;cases M:Op.bytesLess z.p.toList x.p.toList
      .have N:=ab M;have f:q=false:=by
        rw[<-be,O.out];rintro⟨-,h⟩;have h:=h k x E.out;have h:=h.2.1 z a1 (by rw[<-T.out];exact t.out);rw[N.out] at h;cases h
       have s:=ab f;clear f;go_wp2;have o:=ah D;have n:=ah R;have aV:=ah Q;refine aA (by kernel_rfl) (by kernel_rfl) ?_;repeat(go_big_quiet_step (first|(go_at_call 100;refine cX (v:=.bool true) ?_;rw[<-a.out];exact jK x.p B.1 _)|(go_at_call 101;refine cX (v:=.bool true) ?_;rw[<-b.out];exact jJ x.b B.2 _)))
       refine ge ?_;intro P d;have g:=aG d;clear d o n aV;go_wp2;go_ret;exact⟨ak s.out.symm,ae H g⟩
      have N:=ab M;have U:agT x/\∀y,0<k->xs[k-1]?=some y->Op.bytesLess y.p.toList x.p.toList=true:=⟨⟨a.out,b.out⟩,λy h0 hy=>by
       rw[<-T.out,t.out] at hy;cases hy;exact N.out⟩
      have mD:=ab U;clear U;go_wp2;have o:=ah D;have n:=ah R;have aV:=ah Q;refine aA (by kernel_rfl) (by kernel_rfl) ?_;repeat(go_big_quiet_step (first|(go_at_call 100;refine cX (v:=.bool true) ?_;rw[<-a.out];exact jK x.p B.1 _)|(go_at_call 101;refine cX (v:=.bool true) ?_;rw[<-b.out];exact jJ x.b B.2 _)))
      refine ge ?_;intro P d;have g:=aG d;clear d o n aV;clear Q M e1
     all_goals
      have X:=ae H g;clear D R Y;go_wp2;go_loopw [4] (λjj wr=>∃j:Nat,j<=k/\jj=.int .i64 j/\(∀i y,i<j->xs[i]?=some y->ir y.p x.p=false)/\Below w.heap.size w wr) (λjj _=>k-(intOf jj).toNat)
      case atStart=>exact⟨0,fb _,rfl,λi y I=>absurd I (rN i),X⟩
      case round=>
       clear X g;obtain⟨j,hj,rfl,C,u⟩:=hrel;replace C:=ab C;by_cases W:j<k
       .obtain⟨y,S⟩:=ar (l:=xs) (k:=j) (by omega);obtain⟨b1,V,F,_,_,a5,Q,_⟩:=aei (my.aK.below h u aU) S;simp only[lE,qa,qn] at F;obtain⟨rfl,rfl⟩:=F;obtain⟨b1,V,F,_,_,_,D,_⟩:=aei (my.aK.below h u aU) E.out;simp only[lE,qa,qn] at F;obtain⟨rfl,rfl⟩:=F;have a3:0<y.p.size:=by
         have:=lO (p.out j y W S).1.1;omega
        have a0:0<x.p.size:=by have:=lO mD.out.1.1;omega
        have HC:=ab (λw':World=>agR (β:=β) y.p x.p ⟨a3,a5.1⟩ ⟨a0,B.1⟩ w');replace S:=ab S;cases G:ir y.p x.p
        .replace G:=ab G;have J:∀i z,i<j+1->xs[i]?=some z->ir z.p x.p=false:=λi z I K=>by
          rcases mx i j with r|fE
          .exact C.out i z r K
          .obtain rfl:i=j:=by omega
           rw[S.out] at K;cases K;exact G.out
         replace J:=ab J;go_wp2;have o:=ah Q;have n:=ah D;refine aA (by kernel_rfl) (by kernel_rfl) ?_;repeat(go_big_quiet_step (first|(go_at_call 125;refine aO (v:=.bool false) ?_;rw[<-G.out];exact HC.out _)))
         refine ge ?_;intro P d;have g:=aG d;clear d o n;go_wp2;go_roundw
         case rel=>exact⟨j+1,by omega,by go_num,J.out,ae u g⟩
         simp[intOf];omega
        .replace G:=ab G;have f:q=false:=by
          rw[<-be,O.out];rintro⟨-,h⟩;have h:=h k x E.out;have h:=h.2.2 j y W S.out;rw[G.out] at h;cases h
         have s:=ab f;clear f;go_wp2;have o:=ah Q;have n:=ah D;refine aA (by kernel_rfl) (by kernel_rfl) ?_;repeat(go_big_quiet_step (first|(go_at_call 125;refine aO (v:=.bool true) ?_;rw[<-G.out];exact HC.out _)))
         refine ge ?_;intro P d;have g:=aG d;clear d o n;go_wp2;go_ret;exact⟨ak s.out.symm,ae u g⟩
       .obtain rfl:j=k:=by omega
        have L:∀i z,i<j+1->xs[i]?=some z->amn xs i z:=λi z I K=>by
         rcases mx i j with r|fE
         .exact p.out i z r K
         .obtain rfl:i=j:=by omega
          rw[E.out] at K;cases K;exact⟨mD.out.1,mD.out.2,C.out⟩
        replace L:=ab L;go_wp2;go_roundw
        case rel=>exact⟨j+1,by omega,by go_num,L.out,u⟩
        simp[intOf];omega
  .obtain rfl:k=xs.length:=by omega
   by_cases h6:xs.length<=6
   .have Y:=du (show(xs.length:Int)<=6 by omega);have f:q=true:=O.out.2 ⟨h6,λi x Z=>p.out i x (aH Z) Z⟩;have s:=ab f;clear f;go_wp2;go_ret;exact⟨ak s.out.symm,H⟩
   .have Y:=bv (show ¬((xs.length:Int)<=6) by omega);have f:q=false:=by
     rw[<-be,O.out];rintro⟨h, -⟩;exact h6 h
    have s:=ab f;clear f;go_wp2;go_ret;exact⟨ak s.out.symm,H⟩
end
section
variable {β:Bool}
open Go.RowKit
def aio(x:It):List It->List It
 |[]=>[x]
 |y::l=>if x.n<y.n then x::y::l else y::aio x l
def aip(x:It):∀l:List It,(aio x l).length=l.length+1
 |[]=>rfl
 |y::l=>by
  show(if x.n<y.n then _ else _:List It).length=_;split
  .rfl
  .show(aio x l).length+1=_;rw[aip x l];rfl
def aiq{x z:It}:∀{l:List It},z∈aio x l↔z=x\/z∈l
 |[]=>by show z∈[x]↔_;simp
 |y::l=>by
  show z∈(if x.n<y.n then _ else _)↔_;split
  .simp
  .rw[lw,aiq,lw];constructor
   .rintro(h|h|h)<;>simp[h]
   .rintro(h|h|h)<;>simp[h]
def nk(key:Int)(s:ByteArray):It:=⟨cg key (bs s),qE (fA (bs s))⟩
def np(key:Int)(l:List ByteArray):List It:=l.foldl (λa s=>aio (nk key s) a) []
def aag(key:Int)(l:List ByteArray)(s:ByteArray):np key (l++[s])=aio (nk key s) (np key l):=by
 unfold np;rw[List.foldl_append];rfl
def anF(key:Int)(l:List ByteArray):(np key l).length=l.length:=by
 induction l using nH with
 |h0=>rfl
 |h1 l s a=>rw[aag,aip,a,gn];rfl
def afv{l:List ByteArray}:x∈np key l↔∃s∈l,x=nk key s:=by
 induction l using nH with
 |h0=>simp[np]
 |h1 l s b=>
  rw[aag,aiq,b];constructor
  .rintro(h|⟨t,a,h⟩)
   .exact⟨s,by simp,h⟩
   .exact⟨t,by simp[a],h⟩
  .rintro⟨t,a,h⟩;rcases jt.1 a with a|a
   .exact .inr ⟨t,a,h⟩
   .rw[gE.1 a] at h;exact .inl h
end
section
variable {β:Bool}
open Go.RowKit
instance aAm:Inhabited Tr:=⟨.nil⟩
end
section
variable {β:Bool}
open Go.RowKit
open Classical in
noncomputable def iF(key:Int)(ix:List Sp)(o:List ByteArray)(p:ByteArray):List ByteArray:=if gb (cg key (bs p)) ix=0/\p∉o then o++[p] else o
noncomputable def akv(key:Int)(ix:List Sp)(o l:List ByteArray):List ByteArray:=l.foldl (iF key ix) o
def amo(t:List Nd):List ByteArray:=t.flatMap λf=>fT f.b
noncomputable def asH(key:Int)(ix:List Sp)(t:List Nd):List ByteArray:=akv key ix [] (amo t)
def air{key:Int}{ix:List Sp}{x:ByteArray}:∀{l o:List ByteArray},x∈akv key ix o l->x∈o\/x∈l
 |[],o,h=>.inl h
 |p::l,o,h=>by
  rcases air (l:=l) (o:=iF key ix o p) h with h|h
  .unfold iF at h;split at h
   .rcases jt.1 h with h|h
    .exact .inl h
    .rw[gE.1 h];exact .inr (by simp)
   .exact .inl h
  .exact .inr (qq _ h)
def gj(h:dW s=true):s.size<=40/\(bs s).all mC=true:=by
 unfold dW at h;simpa using h
def ais{t:List Nd}(h:∀x∈t,dW x.b=true):∀x∈amo t,aX (bs x):=λx a=>by
 obtain⟨f,b,a⟩:=pa.1 a;exact lT (gj (h f b)).2 x a
def aah{ix:List Sp}{t:List Nd}(h:∀x∈t,dW x.b=true):∀x∈asH key ix t,aX (bs x):=λx b=>by
 rcases air b with a|a
 .cases a
 .exact ais h x a
end
section
variable {β:Bool}
open Go.RowKit
structure aba where
 k:Int
 n:Int
 m:Int
 b:ByteArray
def tl{α:Type}(l:List α)(i:Nat)(f:α->α):List α:=match l[i]? with|some x=>l.set i (f x)|none=>l
def afw(l:List Y)(i:Nat)(f:Y->Y):(tl l i f).length=l.length:=by
 unfold tl;split
 .rw[qY]
 .rfl
def amp(l:aba)(p:Pk):Pk:=if p.no=l.n/\0<=l.m/\l.m<p.its.length then⟨p.no,tl p.its l.m.toNat λx=>⟨x.n,l.b⟩⟩ else p
def acr(x:Hd):Hd:=⟨wrap64 (3-x.b),x.s⟩
def jk(s:gC)(l:aba):gC:=
 if l.k=1 then⟨s.pk.filter λp=>!(p.no ==l.n),s.sn,s.lg⟩
 else if l.k=2 then(if 0<=l.n/\l.n<=s.lg.length then⟨s.pk,s.sn.filter λx=>!((s.lg.drop l.n.toNat).any λh=>h.s ==x.no),s.lg.take l.n.toNat⟩ else s)
 else if l.k=3 then⟨s.pk.map (amp l),s.sn,s.lg⟩
 else if l.k=4 then(if 0<=l.n/\l.n<s.lg.length then⟨s.pk,s.sn,tl s.lg l.n.toNat acr⟩ else s)
 else s
def agV{s:gC}{l:aba}(h:l.k=1):jk s l=⟨s.pk.filter λp=>!(p.no ==l.n),s.sn,s.lg⟩:=by unfold jk;rw[dj h]
def aek{s:gC}{l:aba}(h:l.k=2)(a:0<=l.n/\l.n<=s.lg.length):jk s l=⟨s.pk,s.sn.filter λx=>!((s.lg.drop l.n.toNat).any λh=>h.s ==x.no),s.lg.take l.n.toNat⟩:=by unfold jk;rw[bd (by omega),dj h,dj a]
def agW{s:gC}{l:aba}(h:l.k=2)(a:¬(0<=l.n/\l.n<=s.lg.length)):jk s l=s:=by unfold jk;rw[bd (by omega),dj h,bd a]
def akw{s:gC}{l:aba}(h:l.k=3):jk s l=⟨s.pk.map (amp l),s.sn,s.lg⟩:=by unfold jk;rw[bd (by omega),bd (by omega),dj h]
def akx{s:gC}{l:aba}(h:l.k=4)(a:0<=l.n/\l.n<s.lg.length):jk s l=⟨s.pk,s.sn,tl s.lg l.n.toNat acr⟩:=by unfold jk;rw[bd (by omega),bd (by omega),bd (by omega),dj h,dj a]
def agX{s:gC}{l:aba}(h:l.k=4)(a:¬(0<=l.n/\l.n<s.lg.length)):jk s l=s:=by unfold jk;rw[bd (by omega),bd (by omega),bd (by omega),dj h,bd a]
def aky{s:gC}{l:aba}(a:¬l.k=1)(d:¬l.k=2)(b:¬l.k=3)(c:¬l.k=4):jk s l=s:=by unfold jk;rw[bd a,bd d,bd b,bd c]
end
section
variable {β:Bool}
open Go.RowKit
def gS(key:Int)(f:Nd):Ls:=⟨f.p,(fT f.b).map λp=>cg key (bs p)⟩
def aup(no key:Int)(t:List Nd):Sn:=⟨no,t.map (gS key)⟩
end
section
variable {β:Bool}
open Go.RowKit
def nt(l:List Pk):Int:=((l.getLast?).map (·.no)).getD 0+1
def acs(l:List Hd):Int:=l.foldl (λa h=>max a (h.s+1)) 1
def kJ(s:gC):Int:=match s.sn.getLast? with|some x=>max (acs s.lg) (x.no+1)|none=>acs s.lg
def vJ{l:List Y}(h:0<l.length):∃x,l[l.length-1]?=some x/\l.getLast?=some x:=by
 obtain⟨x,a⟩:=ar (show l.length-1<l.length by omega);exact⟨x,a,by rw[List.getLast?_eq_getElem?,a]⟩
end
section
variable {β:Bool}
open Go.RowKit
def jb(key:Int)(no:Int)(l:List ByteArray):List Pk:=
 if h:l=[] then[] else⟨no,np key (l.take 4)⟩::jb key (no+1) (l.drop 4)
termination_by l.length
decreasing_by
 have:0<l.length:=List.length_pos_iff.2 h;rw[pQ];omega
def iu(key a:Int):jb key a []=[]:=by rw[jb];rfl
def nu(key a:Int){l:List ByteArray}(h:0<l.length):jb key a l=⟨a,np key (l.take 4)⟩::jb key (a+1) (l.drop 4):=by
 rw[jb,dif_neg (by rintro rfl;simp at h)]
open Classical in
noncomputable def akz(l:List Pk):List Sp:=if ∀s∈acf l,spP s then afi (acf l) [] else[]
noncomputable def abS(key:Int)(s:gC)(t:List Nd):List Pk:=jb key (nt s.pk) (asH key (akz s.pk) t)
def auq(key:Int)(s:gC)(t:List Nd):Prop:=(s.pk++abS key s t).length<=20/\nt s.pk+(abS key s t).length-1<=99/\kJ s<=20/\s.lg.length<9
noncomputable def akA(key:Int)(s:gC)(by_:Int)(t:List Nd):gC:=⟨s.pk++abS key s t,s.sn++[aup (kJ s) key t],s.lg++[⟨by_,kJ s⟩]⟩
end
section
variable {β:Bool}
open Go.RowKit
inductive fI:gC->Prop
 |nil:fI ⟨[],[],[]⟩
 |save {s:gC} {b:Int} {t:List Nd}:fI s->b=1\/b=2->aku t->auq 7 s t->fI (akA 7 s b t)
structure WfS (s:gC):Prop where
 pl:s.pk.length<=20
 pn:∀p∈s.pk,(1<=p.no/\p.no<=99)/\p.its.length<=4/\∀x∈p.its,x.b.size<=8
 sl:s.sn.length=s.lg.length
 sn:∀x∈s.sn,(1<=x.no/\x.no<=20)/\x.all.length<=6/\∀y∈x.all,y.p.size<=3/\y.ns.length<=40
 ll:s.lg.length<=9
 lg:∀h∈s.lg,(1<=h.b/\h.b<=2)/\1<=h.s/\h.s<=20
def jL(key:Int):∀(n:Nat) (no:Int) (l:List ByteArray),l.length<=n->∀p∈jb key no l,no<=p.no/\p.no<no+(jb key no l).length/\∃c:List ByteArray,p.its=np key c/\1<=c.length/\c.length<=4/\∀x∈c,x∈l
 |0,no,l,h,p,a=>by rw[pG.1 (by omega:l.length=0),iu] at a;cases a
 |n+1,no,l,h,p,a=>by
  rcases mu l.length with d|d
  .rw[pG.1 d,iu] at a;cases a
  .rw[nu key no d] at a ⊢;rw[mp];rcases lw.1 a with rfl|a
   .exact⟨ui _,by show no<_;omega,l.take 4,rfl,by rw[lm];omega,by rw[lm];omega,λx b=>qb b⟩
   .obtain⟨k,j,c,e,g,i,f⟩:=jL key n (no+1) (l.drop 4) (by rw[pQ];omega) p a;exact⟨by omega,by omega,c,e,g,i,λx b=>vg (f x b)⟩
def akB{l:List Pk}(h:∀p∈l,1<=p.no):1<=nt l:=by
 unfold nt;cases a:l.getLast? with
 |none=>show(1:Int)<=0+1;omega
 |some p=>have:=h p (List.mem_of_getLast? a);show(1:Int)<=p.no+1;omega
def acu:∀(l:List Hd) (a:Int),1<=a->1<=l.foldl (λa h=>max a (h.s+1)) a
 |[],a,ha=>ha
 |x::l,a,ha=>acu l (max a (x.s+1)) (by omega)
def akC(s:gC):1<=kJ s:=by
 have a:1<=acs s.lg:=acu s.lg 1 (by omega);unfold kJ;cases s.sn.getLast? with
 |none=>exact a
 |some x=>show 1<=max (acs s.lg) (x.no+1);omega
def ait(h:aX (bs s)):(nk key s).b.size<=8:=by
 show(qE (fA (bs s))).size<=8;rw[<-aL,apj,ahJ h];exact nM.1
def abT{t:List Nd}(h:aku t):∀x∈t,dW x.b=true:=λx a=>(h.1 x a).2
def WfS.saved{s:gC}{b:Int}{t:List Nd}(h:WfS s)(D:b=1\/b=2)(j:aku t)(A:auq 7 s t):WfS (akA 7 s b t):=by
 obtain⟨r,F,n,E⟩:=A;have i:=akC s;refine⟨r,λp d=> ?_, ?_,λx a=> ?_, ?_,λy g=> ?_⟩
 .rcases jt.1 d with d|d
  .exact h.pn p d
  .obtain⟨k,o,c,m,v,w,B⟩:=jL 7 _ _ _ (ap _) p d;have C:=akB (l:=s.pk) λp d=>(h.pn p d).1.1;refine⟨⟨by omega, ?_⟩,by rw[m,anF];exact w,λx a=> ?_⟩
   .have e:(abS 7 s t).length=(jb 7 (nt s.pk) (asH 7 (akz s.pk) t)).length:=rfl;omega
   .rw[m] at a;obtain⟨q,u,rfl⟩:=afv.1 a;exact ait (aah (abT j) q (B q u))
 .show(s.sn++[_]).length=(s.lg++[_]).length;rw[gn,gn,h.sl];rfl
 .rcases jt.1 a with a|a
  .exact h.sn x a
  .rw[gE.1 a];refine⟨⟨i,n⟩,by show(t.map (gS 7)).length<=6;rw[pr];exact j.2.1,λy g=> ?_⟩;obtain⟨f,z,rfl⟩:=lP.1 g;have k:=j.1 f z;have o:=lO k.1;have m:=aqa f.b;have v:=(gj k.2).1;exact⟨by show f.p.size<=3;omega,by show((fT f.b).map _).length<=40;rw[pr];omega⟩
 .show(s.lg++[_]).length<=9;rw[gn,rj];omega
 .rcases jt.1 g with g|g
  .exact h.lg y g
  .rw[gE.1 g];exact⟨by show 1<=b/\b<=2;omega,i,n⟩
def fI.wf{s:gC}(h:fI s):WfS s:=by
 induction h with
 |nil=>exact⟨fb _,λp a=>(by cases a),rfl,λp a=>(by cases a),fb _,λp a=>(by cases a)⟩
 |save _ e d c b=>exact b.saved e d c
end
section
variable {β:Bool}
open Go.RowKit
def pkd(p:Pk):fS:=(p.no,p.its.map λx=>(x.n,x.b))
def bQ(l:List Pk):List fS:=l.map pkd
open Classical in
noncomputable def eE(l:List ByteArray):ByteArray×Bool:=if dW (qE (cH l))=true/\fT (qE (cH l))=l then(qE (cH l),true) else(⟨#[]⟩,false)
def aiu(key:Int)(l:List fS)(ns:List Int):Prop:=∀n∈ns,(bI key l n).2=true
noncomputable def eT(key:Int)(l:List fS)(ns:List Int):List ByteArray:=ns.map λn=>(bI key l n).1
open Classical in
noncomputable def fJ(key:Int)(l:List fS)(x:Ls):Option Nd:=if aiu key l x.ns/\(eE (eT key l x.ns)).2=true then some ⟨x.p,(eE (eT key l x.ns)).1⟩ else none
noncomputable def cY(key:Int)(l:List fS)(xs:List Ls):List Nd:=xs.filterMap (fJ key l)
def ot(g f:ByteArray):Bool:=(bs g++[47]).isPrefixOf (bs f)
def afx(t:List Nd):Prop:=t.length<=6/\∀i x,t[i]?=some x->agT x/\(∀y,0<i->t[i-1]?=some y->Op.bytesLess y.p.toList x.p.toList=true)/\∀k y,k<i->t[k]?=some y->ot y.p x.p=false
open Classical in
noncomputable def dx(key:Int)(l:List fS)(xs:List Ls):Option (List Nd):=if(∀x∈xs,(fJ key l x).isSome=true)/\afx (cY key l xs) then some (cY key l xs) else none
noncomputable def acv(key:Int)(s:gC)(no:Int):Option (List Nd):=match s.sn.find? (λx=>x.no ==no) with
 |some x=>dx key (bQ s.pk) x.all
 |none=>none
def kY{key nm:Int}:∀{l:List fS},(bI key l nm).2=true↔∃p∈l,(eD key p.2 nm).2=true
 |[]=>by simp[bI]
 |p::l=>by
  show(if(eD key p.2 nm).2=true then((eD key p.2 nm).1,true) else bI key l nm:ByteArray×Bool).2=true↔_;by_cases h:(eD key p.2 nm).2=true
  .rw[dj h];exact⟨λ_=>⟨p,by simp,h⟩,λ_=>rfl⟩
  .rw[bd h,kY];constructor
   .rintro⟨q,a,b⟩;exact⟨q,by simp[a],b⟩
   .rintro⟨q,a,b⟩;rcases lw.1 a with rfl|a
    .exact absurd b h
    .exact⟨q,a,b⟩
def ael{nm:Int}:∀{l:List (Int×ByteArray)} {k:Nat} {x:Int×ByteArray},dG nm l=k->l[k]?=some x->x.1=nm
 |[],k,x,_,h=>by simp at h
 |y::l,k,x,h,hx=>by
  have h:(if y.1=nm then 0 else let j:=dG nm l;if j<0 then -1 else j+1:Int)=k:=h;by_cases a:y.1=nm
  .rw[dj a] at h;obtain rfl:k=0:=by omega
   simp at hx;subst hx;exact a
  .rw[bd a] at h;by_cases b:dG nm l<0
   .have h:(if dG nm l<0 then -1 else dG nm l+1:Int)=k:=h;rw[dj b] at h;omega
   .have h:(if dG nm l<0 then -1 else dG nm l+1:Int)=k:=h;rw[bd b] at h;obtain⟨m,rfl⟩:∃m,k=m+1:=⟨k-1,by omega⟩;exact ael (l:=l) (k:=m) (by omega) (by simpa using hx)
def agY{nm : Int}{l:List (Int×ByteArray)}{x:Int×ByteArray}(h:dG nm l=k)(a:l[k]?=some x):eD key l nm=dv key x:=by
 unfold eD;rw[h,show((k:Nat):Int).toNat=k from rfl,a];show(if((k:Nat):Int)<0 then _ else _)=_;rw[bd (by omega)]
def afy{nm : Int}{l:List (Int×ByteArray)}(h:dG nm l=-1):eD key l nm=(⟨#[]⟩,false):=by
 unfold eD;rw[h];split
 .rw[dj (by omega)]
 .rfl
def aem{nm : Int}{l:List (Int×ByteArray)}(h:(eD key l nm).2=true):∃(k:Nat) (x:Int×ByteArray),dG nm l=k/\l[k]?=some x/\x.1=nm/\eD key l nm=dv key x:=by
 rcases aa6 nm l with a|⟨k,x,a,b⟩
 .rw[afy a] at h;cases h
 .exact⟨k,x,a,b,ael a b,agY a b⟩
def akD{x:Int×ByteArray}(h:(dv key x).2=true):aX (bs (dv key x).1)/\cg key (bs (dv key x).1)=x.1:=by
 unfold dv at h ⊢;split
 .rename_i a;exact⟨afo a.1,a.2⟩
 .rename_i a;rw[bd a] at h;cases h
def akE{nm : Int}{l:List (Int×ByteArray)}(h:(eD key l nm).2=true):aX (bs (eD key l nm).1)/\cg key (bs (eD key l nm).1)=nm:=by
 obtain⟨k,x,d,c,b,a⟩:=aem h;rw[a] at h ⊢;have:=akD h;exact⟨this.1,this.2.trans b⟩
def iv{key nm:Int}:∀{l:List fS},(bI key l nm).2=true->aX (bs (bI key l nm).1)/\cg key (bs (bI key l nm).1)=nm
 |[],h=>by cases h
 |p::l,h=>by
  have e:bI key (p::l) nm=if(eD key p.2 nm).2=true then((eD key p.2 nm).1,true) else bI key l nm:=rfl
  rw[e] at h ⊢;by_cases a:(eD key p.2 nm).2=true
  .rw[dj a];exact akE a
  .rw[bd a] at h ⊢;exact iv h
def aqg{x y k m r:Int}(g:r+999999999989*k=15*x+55433)(l:r+999999999989*m=15*y+55433)(j:0<=x/\x<282429536481)(i:0<=y/\y<282429536481):x=y:=by
 have a:15*(x-y)=999999999989*(k-m):=by
  rw[Int.mul_sub 999999999989];generalize 999999999989*k=A at *;generalize 999999999989*m=B at *;omega
 clear g l;generalize k-m=d at *;have f:x-y<282429536481/\ -282429536481<x-y:=by clear a;omega
 have e:x-y=0->x=y:=by clear a;omega
 clear j i;generalize x-y=z at *;have c:d<5:=by
  refine Int.lt_of_not_ge λh=> ?_;have:=uc h (show(0:Int)<=999999999989 by decide);rw[<-a] at this;clear a;omega
 have b : -5<d:=by
  refine Int.lt_of_not_ge λh=> ?_;have:=uc h (show(0:Int)<=999999999989 by decide);rw[<-a] at this;clear a;omega
 have:d=-4\/d=-3\/d=-2\/d=-1\/d=0\/d=1\/d=2\/d=3\/d=4:=by clear a f e;omega
 rcases this with rfl|rfl|rfl|rfl|rfl|rfl|rfl|rfl|rfl<;>(first|(exact e (by omega))|(exfalso;clear c b f e;omega))
def aqh{x y:Int}(b:0<=x/\x<282429536481)(d:0<=y/\y<282429536481)(h:(15*x+55433) % 999999999989=(15*y+55433) % 999999999989):x=y:=by
 have a:=uT (15*x+55433) 999999999989;have c:=uT (15*y+55433) 999999999989;rw[h] at a;exact aqg a c b d
def aai{a b:List Nat}(c:aX a)(d:aX b)(h:cg 7 a=cg 7 b):a=b:=by
 have i:=aaP c;have f:=aaP d;have e:∀l,cg 7 l=(15*(code l:Int)+55433) % 999999999989:=λl=>by
  unfold cg;rw[show(code l:Int)*(2*7+1)+7*7919=15*(code l:Int)+55433 by clear h i f;generalize (code l:Int)=z;omega]
 rw[e,e] at h;have j:(code a:Int)<282429536481:=by clear h e;omega
 have g:(code b:Int)<282429536481:=by clear h e;omega
 have k:(code a:Int)=code b:=aqh ⟨Int.natCast_nonneg _,j⟩ ⟨Int.natCast_nonneg _,g⟩ h;refine anj c.2 d.2 ?_;show code a=code b;exact Int.ofNat_inj.1 k
def anG{nm:Int}{l : List fS}(h:(bI 7 l nm).2=true)(e:(bI 7 l' nm).2=true):(bI 7 l nm).1=(bI 7 l' nm).1:=by
 obtain⟨a,b⟩:=iv h;obtain⟨c,d⟩:=iv e;exact iZ (aai a c (b.trans d.symm))
def anH{l : List fS}(c:∀nm,(bI 7 l' nm).2=true->(bI 7 l nm).2=true){b:List Int}(h:aiu 7 l' b):aiu 7 l b/\eT 7 l b=eT 7 l' b:=
 ⟨λn a=>c n (h n a),ue λn a=>anG (c n (h n a)) (h n a)⟩
def akF{l : List fS}(d:∀nm,(bI 7 l' nm).2=true->(bI 7 l nm).2=true){x:Ls}{y:Nd}(h:fJ 7 l' x=some y):fJ 7 l x=some y:=by
 unfold fJ at h ⊢;split at h
 .rename_i b;obtain⟨c,a⟩:=anH d b.1;rw[dj ⟨c,by rw[a];exact b.2⟩,a];exact h
 .cases h
def acw{l l':List fS}(e:∀nm,(bI 7 l' nm).2=true->(bI 7 l nm).2=true):∀{xs:List Ls},(∀x∈xs,(fJ 7 l' x).isSome=true)->(∀x∈xs,(fJ 7 l x).isSome=true)/\cY 7 l xs=cY 7 l' xs
 |[],_=>⟨λx g=>(by cases g),rfl⟩
 |x::xs,h=>by
  obtain⟨y,d⟩:=qO.1 (h x (by simp));have b:=akF e d;obtain⟨f,c⟩:=acw e (xs:=xs) λz a=>h z (by simp[a]);refine⟨λz a=> ?_, ?_⟩
  .rcases lw.1 a with rfl|a
   .rw[b];rfl
   .exact f z a
  .unfold cY at c ⊢;rw[uf,uf,d,b,c]
def akG{l : List fS}(d:∀nm,(bI 7 l' nm).2=true->(bI 7 l nm).2=true){xs:List Ls}{t:List Nd}(h:dx 7 l' xs=some t):dx 7 l xs=some t:=by
 unfold dx at h ⊢;split at h
 .rename_i b;obtain⟨c,a⟩:=acw d b.1;rw[dj ⟨c,by rw[a];exact b.2⟩,a];exact h
 .cases h
def lU  :eK key x↔(dv key (x.n,x.b)).2=true:=by
 have e:∀s,(dF s).2=true↔cF (bs s)=some (bs (dF s).1):=λs=>by
  unfold dF cF;rw[aaV];by_cases h:aX (sx (bs s))/\fA (sx (bs s))=bs s
  .rw[dj h,dj h];simp only[qe];rw[aaV]
  .rw[bd h,bd h];simp
 unfold eK dv;constructor
 .rintro⟨p,c,f⟩;have d:(dF x.b).2=true:=by
   unfold dF;rw[aaV];unfold cF at c;split at c
   .rename_i b;rw[dj b]
   .cases c
  have a:=(e x.b).1 d;rw[c] at a;have a:=de a;rw[dj ⟨d,by rw[<-a];exact f⟩]
 .intro h;split at h
  .rename_i b;exact⟨_,(e x.b).1 b.1,b.2⟩
  .cases h
def aqi(h:aX (bs s)):eK key (nk key s):=⟨bs s,by show cF (bs (qE (fA (bs s))))=_;rw[apj,ahK h],rfl⟩
def agZ(p:Pk)(i:Nat):(pkd p).2[i]?=(p.its[i]?).map λx=>(x.n,x.b):=by show(p.its.map _)[i]?=_;rw[qm]
def aen{nm : Int}{p:Pk}(c:∀x∈p.its,eK key x)(h:dG nm (pkd p).2=k):(eD key (pkd p).2 nm).2=true:=by
 rcases aa6 nm (pkd p).2 with b|⟨e,x,b,a⟩
 .omega
 .rw[agY b a];rw[agZ] at a;obtain⟨y,d,rfl⟩:=ga.1 a;exact lU.1 (c y (da d))
def aiv{nm:Int}:∀{l a:List (Int×ByteArray)},l.map (·.1)=a.map (·.1)->dG nm l=dG nm a
 |[],[],_=>rfl
 |[],_::_,h=>by simp at h
 |_::_,[],h=>by simp at h
 |x::l,y::a,h=>by
  simp only[qo,qy] at h;show(if x.1=nm then 0 else let j:=dG nm l;if j<0 then -1 else j+1:Int)=(if y.1=nm then 0 else let j:=dG nm a;if j<0 then -1 else j+1:Int);rw[h.1,aiv h.2]
def anI{β : Type}(g:Y->β)(f:Y->Y)(c:∀x,g (f x)=g x)(l:List Y)(i:Nat):(tl l i f).map g=l.map g:=by
 unfold tl;split
 .rename_i x b;apply tD;intro j;rw[qm,qm];by_cases a:i=j
  .subst a;rw[rG (aH b),b];simp[c]
  .rw[rU a]
 .rfl
def asI{s:gC}(m:∀p∈s.pk,∀x∈p.its,eK 7 x)(L:aba)(nm:Int)(h:(bI 7 (bQ (jk s L).pk) nm).2=true):(bI 7 (bQ s.pk) nm).2=true:=by
 have same:(jk s L).pk=s.pk->(bI 7 (bQ s.pk) nm).2=true:=λe=>by rw[e] at h;exact h
 by_cases l:L.k=1
 .rw[agV l] at h;obtain⟨p,c,f⟩:=kY.1 h;refine kY.2 ⟨p, ?_,f⟩;obtain⟨q,g,rfl⟩:=lP.1 c;exact sX ((rO.1 g).1)
 by_cases d:L.k=2
 .by_cases b:0<=L.n/\L.n<=s.lg.length
  .exact same (by rw[aek d b])
  .exact same (by rw[agW d b])
 by_cases j:L.k=3
 .rw[akw j] at h;obtain⟨p,c,f⟩:=kY.1 h;obtain⟨q,g,rfl⟩:=lP.1 c;obtain⟨r,a,rfl⟩:=lP.1 g;obtain⟨k,x,n, -, -, -⟩:=aem f;refine kY.2 ⟨pkd r,sX a,aen (m r a) (k:=k) ?_⟩;rw[<-n];refine aiv ?_;show(r.its.map _).map _=((amp L r).its.map _).map _;rw[th,th];unfold amp;split
  .exact(anI (λx:It=>x.n) (λx=>(⟨x.n,L.b⟩:It)) (λ_=>rfl) r.its L.m.toNat).symm
  .rfl
 by_cases i:L.k=4
 .by_cases b:0<=L.n/\L.n<s.lg.length
  .exact same (by rw[akx i b])
  .exact same (by rw[agX i b])
 exact same (by rw[aky l d j i])
def fI.items{s:gC}(h:fI s):∀p∈s.pk,∀x∈p.its,eK 7 x:=by
 induction h with
 |nil=>exact λp a=>(by cases a)
 |save _ l d k i=>
  intro p a x b;rcases jt.1 a with a|a
  .exact i p a x b
  .obtain⟨n,j,c,e,m,o,f⟩:=jL 7 _ _ _ (ap _) p a;rw[e] at b;obtain⟨q,g,rfl⟩:=afv.1 b;exact aqi (aah (abT d) q (f q g))
def acx{e:Type}(q:e->Bool)(f:Int->Bool)(a:e->Int)(n:Int)(i:∀x,q x=f (a x)):∀{l:List e} {x:e},(l.filter q).find? (λx=>a x ==n)=some x->l.find? (λx=>a x ==n)=some x
 |[],x,h=>by simp at h
 |y::l,x,h=>by
  rw[rP];by_cases d:a y=n
  .rw[show(a y ==n)=true from mT.2 d];by_cases c:q y=true
   .rw[rh,dj c,rP,show(a y ==n)=true from mT.2 d] at h;exact h
   .exfalso;have j:=List.mem_of_find?_eq_some h;have g:=List.find?_some h;have b:=(rO.1 j).2;rw[i] at b c;rw[mT.1 g] at b;rw[d] at c;exact c b
  .rw[show(a y ==n)=false from jp.2 d];refine acx q f a n i (l:=l) ?_;by_cases c:q y=true
   .rw[rh,dj c,rP,show(a y ==n)=false from jp.2 d] at h;exact h
   .rw[rh,bd c] at h;exact h
def avJ{s:gC}(L:aba){x:Sn}(h:(jk s L).sn.find? (λx=>x.no ==key)=some x):s.sn.find? (λx=>x.no ==key)=some x:=by
 by_cases d:L.k=1
 .rw[agV d] at h;exact h
 by_cases b:L.k=2
 .by_cases a:0<=L.n/\L.n<=s.lg.length
  .rw[aek b a] at h;exact acx (λx:Sn=>!((s.lg.drop L.n.toNat).any λh=>h.s ==x.no)) (λm=>!((s.lg.drop L.n.toNat).any λh=>h.s ==m)) (λx:Sn=>x.no) key (λ_=>rfl) h
  .rw[agW b a] at h;exact h
 by_cases e:L.k=3
 .rw[akw e] at h;exact h
 by_cases c:L.k=4
 .by_cases a:0<=L.n/\L.n<s.lg.length
  .rw[akx c a] at h;exact h
  .rw[agX c a] at h;exact h
 rw[aky d b e c] at h;exact h
def AI{s:gC}(h:fI s)(L:aba){t:List Nd}(a:acv 7 (jk s L) key=some t):acv 7 s key=some t:=by
 unfold acv at a ⊢;split at a
 .rename_i x b;rw[avJ L b];exact akG (asI h.items L) a
 .cases a
end
section
variable {β:Bool}
open Go.RowKit
def abb(key:Int)(u:1<=key/\key<=99)(p:Pk)(v:Value)(w:World)(lo hi:Nat)(aU:hi<=w.heap.size)(h:gX w lo hi p.its [v])(b:Bool)(E:b=true↔aa7 key p) :
  Calls (aj β) 41 #[.int .i64 key,.agg #[.int .i64 p.no,v]] w λe w'=>e=.returned (.bool b)/\Below w.heap.size w w':=by
 replace E:=ab E;obtain⟨A,c,rfl⟩:=h.form;obtain⟨_,hc,hx⟩:=h.len_;unfold maxLen at hx;go_enter zb,ntmps41;go_wp2;generalize H:w.alloc (.cells #[.int .i64 p.no,.slice A p.its.length c] 40)=w0 at *;obtain⟨R,eP,k0,dg,et⟩:=iK H;clear H;have h0:=gX.aK.below h R aU;have z0:=R.size;go_loopw [12] (λi wr=>∃k:Nat,k<=p.its.length/\i=.int .i64 k/\acS key (p.its.take k)/\Below w0.heap.size w0 wr) (λi _=>p.its.length-(intOf i).toNat)
 case atStart=>exact⟨0,fb _,rfl,aim key,dk _ _⟩
 case round=>
  obtain⟨k,hk,rfl,Q,n⟩:=hrel;replace Q:=ab Q;have t:=aB k0 n;clear k0 dg et;have zr:=n.size;by_cases Y:k<p.its.length
  .obtain⟨x,C⟩:=ar Y;have Z:=gX.aK.below h0 n (by omega);obtain⟨K,a3,rfl,_,_,L,cn,cb⟩:=ace Z C;replace C:=ab C;have HS:=ab L.2;have r:=lU (key:=key) (x:=x);replace r:=ab r;go_wp2;generalize H:wr.alloc (.cells #[.int .i64 x.n,.string x.b] 64)=wa at *;obtain⟨S,a1,V,J,a0⟩:=iK H;clear H;refine(al4 key (x.n,x.b) u HS.out wa).mono ?_;rintro e w1 ⟨rfl,K⟩;have H1:=gX.aK.below Z (ae S K) (by omega);have k1:=aB t (ae S K);replace V:=aB V K;replace J:=V.cell;replace a0:=V.frozen;have d:=ae n (ae S K);have F:=k1.cell 1;have s:=J 0;obtain⟨q,a⟩:∃q,q=(dv key (x.n,x.b)).2:=⟨_,rfl⟩;rw[<-a] at r ⊢;generalize (dv key (x.n,x.b)).1=pc;clear a t k1 cn cb S L Z;cases q with
   |false=>
    have G:b=false:=by
     rw[<-be,E.out];intro U;have:=r.out.1 (U.2.2.2.1 x (da C.out));cases this
    have D:=ab G;clear G;go_wp2;have B:=ah F;have z:=ah s;refine aA (by kernel_rfl) (by kernel_rfl) ?_;repeat(go_big_quiet_step (fail))
    refine ge ?_;intro W m;have a:=aG m;clear m B z;go_wp2;go_ret;exact⟨ak D.out.symm,ae R (ae d a)⟩
   |true=>
    have f:=r.out.2 rfl;have o:=ab f;clear f;rcases mu k with I|I
    .subst I;have N:=ail C.out o.out;have HK:=ab N;clear N;go_wp2;have B:=ah F;have z:=ah s;refine aA (by kernel_rfl) (by kernel_rfl) ?_;repeat(go_big_quiet_step (fail))
     refine ge ?_;intro W m;have a:=aG m;clear m B z;go_wp2;go_roundw
     case rel=>first|exact⟨1,by omega,by go_num,HK.out,ae d a⟩|((repeat apply Exists.intro);refine⟨?_,rfl⟩;exact⟨1,by omega,by go_num,HK.out,ae d a⟩)
     simp[intOf];omega
    .obtain⟨j,rfl⟩:∃j,k=j+1:=⟨k-1,by omega⟩;have e1:((j+1:Nat):Int)-1=(j:Int):=by omega
     obtain⟨y,P⟩:=ar (l:=p.its) (k:=j) (by omega);obtain⟨b2,gW,M,_,_,a2,O,a4⟩:=ace H1 P;simp only[lE,qa,qn] at M;obtain⟨rfl,rfl⟩:=M;replace P:=ab P;by_cases T:y.n<x.n
     .have u1:=bv (show ¬(x.n<=y.n) by omega);have N:=amj Q.out P.out C.out o.out T;have HK:=ab N;clear N T;go_wp2;have B:=ah F;have z:=ah s;have X:=ah O;refine aA (by kernel_rfl) (by kernel_rfl) ?_;repeat(go_big_quiet_step (fail))
      refine ge ?_;intro W m;have a:=aG m;clear m B z X;go_wp2;go_roundw
      case rel=>first|exact⟨j+1+1,by omega,by go_num,HK.out,ae d a⟩|((repeat apply Exists.intro);refine⟨?_,rfl⟩;exact⟨j+1+1,by omega,by go_num,HK.out,ae d a⟩)
      simp[intOf];omega
     .have u1:=du (show x.n<=y.n by omega);have G:b=false:=by
       rw[<-be,E.out];exact λU=>amk P.out C.out T ⟨U.2.2.2.1,U.2.2.2.2⟩
      have D:=ab G;clear G T;go_wp2;have B:=ah F;have z:=ah s;have X:=ah O;refine aA (by kernel_rfl) (by kernel_rfl) ?_;repeat(go_big_quiet_step (fail))
      refine ge ?_;intro W m;have a:=aG m;clear m B z X;go_wp2;go_ret;exact⟨ak D.out.symm,ae R (ae d a)⟩
  .obtain rfl:k=p.its.length:=by omega
   have f0:=t.cell 0;have F:=t.cell 1;have f:=Q.out;rw[fd] at f;have o:=ab f;clear f Q;go_wp2;refine(aaU (β:=β) key wr true (by simp;omega)).mono ?_;rintro e w1 ⟨rfl,rfl⟩;have fin:∀q:Bool,(q=true↔(1<=p.no/\p.no<=99)/\1<=(p.its.length:Int)/\(p.its.length:Int)<=4)->b=q:=λq a=>by
    rw[oE,E.out,a];exact⟨λh=>⟨h.1,by have:=h.2.2.1;omega⟩,λh=>⟨h.1,u,by have:=h.2;omega,o.out.1,o.out.2⟩⟩
   replace fin:=ab fin;have g:=ae R n;by_cases t1:1<=p.no
   .by_cases t2:p.no<=99
    .by_cases t3:1<=(p.its.length:Int)
     .by_cases t4:(p.its.length:Int)<=4
      .go_wp2;go_ret;exact⟨ak (fin.out _ (by simp;omega)).symm,g⟩
      .go_wp2;go_ret;exact⟨ak (fin.out _ (by simp;omega)).symm,g⟩
     .go_wp2;go_ret;exact⟨ak (fin.out _ (by simp;omega)).symm,g⟩
    .go_wp2;go_ret;exact⟨ak (fin.out _ (by simp;omega)).symm,g⟩
   .go_wp2;go_ret;exact⟨ak (fin.out _ (by simp;omega)).symm,g⟩
end
section
variable {β:Bool}
open Go.RowKit Go.Shelf
attribute [local go_sem] Oper.semAt_some
def KpB(n₀ Bs:Nat)(A B:World):Prop:=Below n₀ A B/\B.heap[Bs]?=A.heap[Bs]?
def KpB.refl{A:World}:KpB n₀ Z A A:=⟨dk _ _,rfl⟩
def KpB.t{A B C:World}(h:KpB n₀ Z A B)(k:KpB n₀ Z B C):KpB n₀ Z A C:=⟨h.1.trans k.1,k.2.trans h.2⟩
end
section
variable {β:Bool}
open Go.RowKit
def mz(x:Hd):Prop:=(1<=x.b/\x.b<=2)/\1<=x.s/\x.s<=20
def acy(l:List Hd):Prop:=l.length<=9/\∀x∈l,mz x
def asJ:ar3 (β:=β) 45:=avg xe (by kernel_rfl) rfl
end
section
variable {β:Bool}
open Go.RowKit
def anL:List ByteArray:=[⟨#[122,122]⟩,⟨#[98,46]⟩,⟨#[97,98,99,46]⟩,⟨#[104,101,108,108,111,46,46,46]⟩,⟨#[]⟩]
structure ay7 (L:aba) (nc:Nat):Prop where
 k:0<=L.k/\L.k<=5
 n:0<=L.n/\L.n<=20
 nl:L.k=2\/L.k=4->L.n<=nc
 m:0<=L.m/\L.m<=3
 b:L.b∈anL
end
section
open Go.RowKit
def ag0{z:Int}(a:0<=z)(b:z<3):wrap64 z=z:=by unfold wrap64;omega
def asK{x:Hd}(h:mz x):(acr x).b=3-x.b/\(acr x).s=x.s:=by
 have:=h.1;exact⟨ag0 (by omega) (by omega),rfl⟩
def akH(x:Y)(l:List Y)(f:Y->Y):tl (x::l) 0 f=f x::l:=rfl
def akI(x:Y)(l:List Y)(n:Nat)(f:Y->Y):tl (x::l) (n+1) f=x::tl l n f:=by
 unfold tl;simp only[List.getElem?_cons_succ];cases l[n]?<;>rfl
def aeV:Int->List Hd->Int
 |a,[]=>a
 |a,x::l=>aeV (a*64+21*x.b+x.s) l
def akJ(l:List Hd):Int:=aeV 0 l
def aiw:∀{l:List Hd} {a b:Int},aeV a l=aeV b l->a=b
 |[],_,_,h=>h
 |x::l,a,b,h=>by
  have h:aeV (a*64+21*x.b+x.s) l=aeV (b*64+21*x.b+x.s) l:=h;have:=aiw h;omega
def afz:∀{l:List Hd} {n:Nat} {a:Int},(∀x∈l,mz x)->n<l.length->aeV a (tl l n acr)≠aeV a l
 |[],n,_,_,h=>by simp at h
 |x::l,0,a,hk,_=>λe=>by
  rw[akH] at e;have e:aeV (a*64+21*(acr x).b+(acr x).s) l=aeV (a*64+21*x.b+x.s) l:=e;have:=aiw e;obtain⟨i,g⟩:=asK (hk x (by simp));have:=hk x (by simp);obtain⟨⟨c,d⟩,f,j⟩:=this;omega
 |x::l,n+1,a,hk,h=>λe=>by
  rw[akI] at e;exact afz (l:=l) (n:=n) (λy b=>hk y (by simp[b])) (by simpa using h) e
def asL(long sum:Int)(l:List Hd):Int×Int×Int:=if(l.length:Int)<long\/long<0 then(long,sum,1) else if akJ (l.take long.toNat)=sum then((l.length:Int),akJ l,0) else(long,sum,2)
end
section
variable {β:Bool}
open Go.RowKit
def amq:∀(l:List Hd) (a:Int),a<=l.foldl (λa h=>max a (h.s+1)) a/\∀x∈l,x.s+1<=l.foldl (λa h=>max a (h.s+1)) a
 |[],a=>⟨ui _,λx b=>(by cases b)⟩
 |y::l,a=>by
  obtain⟨d,c⟩:=amq l (max a (y.s+1));show a<=l.foldl (λa h=>max a (h.s+1)) (max a (y.s+1))/\∀x∈y::l,x.s+1<=l.foldl (λa h=>max a (h.s+1)) (max a (y.s+1));refine⟨by omega,λx b=> ?_⟩;rcases lw.1 b with rfl|b
  .omega
  .exact c x b
def asM{s:gC}:∀x∈s.lg,x.s<kJ s:=λx a=>by
 have b:x.s+1<=acs s.lg:=(amq s.lg 1).2 x a;unfold kJ;cases s.sn.getLast? with
 |none=>show x.s<acs s.lg;omega
 |some y=>show x.s<max (acs s.lg) (y.no+1);omega
def fI.asc{s:gC}(h:fI s):s.lg.Pairwise λa b=>a.s<b.s:=by
 induction h with
 |nil=>exact .nil
 |save j i g f c=>
  refine rT.2 ⟨c,so _ _,λx e y d=> ?_⟩;rw[gE.1 d];exact asM x e
def found{s:gC}(h:fI s){L:aba}(k:ay7 L s.lg.length) :
  (L.k=2->L.n<s.lg.length->asL s.lg.length (akJ s.lg) (jk s L).lg=((s.lg.length:Int),akJ s.lg,1))/\
  (L.k=4->L.n<s.lg.length->asL s.lg.length (akJ s.lg) (jk s L).lg=((s.lg.length:Int),akJ s.lg,2))/\
  (¬(L.k=2/\L.n<s.lg.length)->¬(L.k=4/\L.n<s.lg.length)->(jk s L).lg=s.lg):=by
 refine⟨λe b=> ?_,λf b=> ?_,λe f=> ?_⟩
 .by_cases g:0<=L.n
  .rw[aek e ⟨g,by omega⟩];unfold asL;rw[dj (.inl (by rw[lm];omega))]
  .exfalso;have:=k.n.1;omega
 .have g:=k.n.1;rw[akx f ⟨g,b⟩];unfold asL;rw[bd (by rw[afw];omega),bd];show ¬akJ ((tl s.lg L.n.toNat acr).take (s.lg.length:Int).toNat)=_;rw[rS,nf (by rw[afw];exact ap _)];exact afz h.wf.lg (by omega)
 .by_cases i:L.k=1
  .rw[agV i]
  by_cases a:L.k=2
  .by_cases b:0<=L.n/\L.n<=s.lg.length
   .rw[aek a b];have:L.n.toNat=s.lg.length:=by
     by_cases d:L.n<s.lg.length
     .exact absurd ⟨a,d⟩ e
     .omega
    rw[this,fd]
   .rw[agW a b]
  by_cases j:L.k=3
  .rw[akw j]
  by_cases c:L.k=4
  .by_cases b:0<=L.n/\L.n<s.lg.length
   .exact absurd ⟨c,b.2⟩ f
   .rw[agX c b]
  rw[aky i a j c]
def afA{c:Type}(q:c->Bool)(a:c->Int)(n:Int)(d:∀x,a x=n->q x=true):∀l:List c,(l.filter q).find? (λx=>a x ==n)=l.find? (λx=>a x ==n)
 |[]=>rfl
 |y::l=>by
  rw[rP];by_cases b:a y=n
  .rw[rh,dj (d y b),rP,show(a y ==n)=true from mT.2 b]
  .rw[show(a y ==n)=false from jp.2 b,<-afA q a n d l];by_cases e:q y=true
   .rw[rh,dj e,rP,show(a y ==n)=false from jp.2 b]
   .rw[rh,bd e]
def old{s:gC}(h:fI s){i : Nat}{x:Hd}(n:k<=s.lg.length)(m:i<k)(c:s.lg[i]?=some x):acv 7 (jk s ⟨2,k,0,⟨#[]⟩⟩) x.s=acv 7 s x.s/\(jk s ⟨2,k,0,⟨#[]⟩⟩).lg=s.lg.take k:=by
 rw[aek rfl ⟨by show(0:Int)<=k;omega,by show(k:Int)<=_;omega⟩];refine⟨?_,rfl⟩;unfold acv;show(match(s.sn.filter λy=>!((s.lg.drop k).any λh=>h.s ==y.no)).find? (λy=>y.no ==x.s) with|some y=>dx 7 (bQ s.pk) y.all|none=>none)=_
 suffices aaO:∀y:Sn,y.no=x.s->(!((s.lg.drop k).any λh=>h.s ==y.no))=true by
  rw[afA _ (λy:Sn=>y.no) x.s aaO s.sn];all_goals(cases s.sn.find? (λy=>y.no ==x.s)<;>rfl)
 intro y a;have a:y.no=x.s:=a;rw[a,tF,<-be,List.any_eq_true];rintro⟨z,l,d⟩;have d:=mT.1 d;obtain⟨j,b⟩:=qS l;rw[uj] at b;have e:=pm.1 h.asc i (k+j) (aH c) (aH b) (by omega);have f:=(jn.1 c).2;have g:=(jn.1 b).2;rw[f,g] at e;omega
end
section
variable {β:Bool}
open Go.RowKit
def kK:∀(a b:List UInt8),(Op.bytesLess a b||a ==b)=!(Op.bytesLess b a)
 |[],[]=>by simp[Op.bytesLess]
 |[],_::_=>by simp[Op.bytesLess]
 |_::_,[]=>by simp[Op.bytesLess]
 |x::a,y::b=>by
  have j:=kK a b;by_cases i:x.toNat<y.toNat
  .have c:decide (x<y)=true:=du (qK.2 i);have g:decide (y<x)=false:=bv λh=>by have:=qK.1 h;omega
   have d:(y ==x)=false:=jp.2 λh=>by rw[h] at i;omega
   simp[Op.bytesLess,c,g,d]
  .by_cases e:y.toNat<x.toNat
   .have c:decide (y<x)=true:=du (qK.2 e);have g:decide (x<y)=false:=bv λh=>by have:=qK.1 h;omega
    have d:(x ==y)=false:=jp.2 λh=>by rw[h] at e;omega
    have f:(x::a ==y::b)=false:=jp.2 λh=>by rw[qy] at h;rw[h.1] at e;omega
    rw[f];simp[Op.bytesLess,c,g,d]
   .obtain rfl:x=y:=rL.1 (by omega);have c:decide (x<x)=false:=bv λh=>by have:=qK.1 h;omega
    have f:(x::a ==x::b)=(a ==b):=by rw[List.cons_beq_cons,rB,tL]
    rw[f];simp only[Op.bytesLess,c,tM,rB,tL];exact j
def afB(s:ByteArray):bs s=s.toList.map UInt8.toNat:=by rw[qj];rfl
def iP(h:k<s.size):s.toList[k]?=some (s[k]'h):=by
 rw[qj,dl];exact ff h
def jM(s:ByteArray):s.toList.length=s.size:=by rw[qj,qH];rfl
def afC(h:fG s=true):(∃a,s.toList=[a])\/∃a c,s.toList=[a,47,c]:=by
 have e:=jM s;unfold fG at h;split at h
 .rename_i i;left;rw[i] at e;obtain⟨a,g⟩:=sI.1 e;exact⟨a,g⟩
 .split at h
  .rename_i j;right;simp only[eg,ql] at h;have d:=iP (s:=s) (k:=1) (by omega);have f:s[1]'(by omega)=47:=rL.1 (by rw[h.2.1];rfl);rw[f] at d;rw[j] at e
   match hs:s.toList,e,d with
   |[a,b,c],_,d=>
    simp at d;subst d;exact⟨a,c,rfl⟩
  .cases h
def akK{a b:UInt8}{x y:List UInt8}(j:g.toList=a::x)(e:f.toList=b::y):ir g f=(decide (x.length≠y.length)&&(a ==b)):=by
 have l:=jM g;have i:=jM f;rw[j] at l;rw[e] at i;simp only[mp] at l i;have c:=iP (s:=g) (k:=0) (by omega);have d:=iP (s:=f) (k:=0) (by omega);rw[j] at c;rw[e] at d;simp only[sq,lE] at c d;unfold ir;rw[sN ⟨by omega,by omega⟩];by_cases h:g.size=f.size
 .rw[dj h,bv (by omega),tq]
 .rw[bd h,du (by omega),tL,<-c,<-d,oE,mT,mT,<-rL];omega
def afD(n:fG g=true)(m:fG f=true)(k:Op.bytesLess g.toList f.toList=true):ot g f=ir g f:=by
 have e:ot g f=(g.toList++[47]).isPrefixOf f.toList:=by
  unfold ot;rw[afB,afB];generalize g.toList=x;generalize f.toList=y;have l:([47]:List Nat)=[(47:UInt8)].map UInt8.toNat:=rfl;rw[l,<-pI];generalize x++[47]=x
  induction x generalizing y with
  |nil=>rfl
  |cons a x o=>
   cases y with
   |nil=>rfl
   |cons b y=>
    simp only[qo,List.isPrefixOf_cons₂,o]
    congr 1
    rw[oE,mT,mT,rL]
 rw[e];rcases afC n with⟨a,i⟩|⟨a,c,i⟩<;>rcases afC m with⟨b,j⟩|⟨b,d,j⟩<;>rw[akK i j,i,j]
 .simp[List.isPrefixOf]
 .simp[List.isPrefixOf]
 .rw[i,j] at k;have:(a ==b)=false:=by
   simp[Op.bytesLess] at k;exact jp.2 λh=>by rw[h,qK] at k;omega
  simp[List.isPrefixOf,this]
 .simp[List.isPrefixOf]
def abU{t:List Nd}:afx t↔afu t:=by
 unfold afx afu amn;constructor
 .rintro⟨d,h⟩;refine⟨d,λi x a=>⟨(h i x a).1,(h i x a).2.1,λk y c b=> ?_⟩⟩;rw[<-afD (h k y b).1.1 (h i x a).1.1 (ac5 (λi x a=>(h i x a).2.1) (i-k-1) k (by rw[show k+(i-k-1)+1=i by omega];exact a) b)];exact(h i x a).2.2 k y c b
 .rintro⟨d,h⟩;refine⟨d,λi x a=>⟨(h i x a).1,(h i x a).2.1,λk y c b=> ?_⟩⟩;rw[afD (h k y b).1.1 (h i x a).1.1 (ac5 (λi x a=>(h i x a).2.1) (i-k-1) k (by rw[show k+(i-k-1)+1=i by omega];exact a) b)];exact(h i x a).2.2 k y c b
end
section
variable {β:Bool}
open Go.RowKit
def asN{l:List Pk}(h:l.Pairwise λa b=>a.no<b.no):∀p∈l,p.no<nt l:=by
 intro p j;unfold nt;obtain⟨z,c,e⟩:=vJ (l:=l) (uM j);rw[e];show p.no<z.no+1;obtain⟨i,d⟩:=qS j;have g:=aH d;rcases mx i (l.length-1) with f|k
 .have:=pm.1 h i (l.length-1) g (by omega) f;rw[(jn.1 d).2,(jn.1 c).2] at this;omega
 .have:i=l.length-1:=by omega
  subst this;rw[c] at d;cases d;omega
def aeo(key:Int):∀(n:Nat) (no:Int) (l:List ByteArray),l.length<=n->(jb key no l).Pairwise λa b=>a.no<b.no
 |0,no,l,h=>by rw[pG.1 (by omega:l.length=0),iu];exact .nil
 |n+1,no,l,h=>by
  rcases mu l.length with c|c
  .rw[pG.1 c,iu];exact .nil
  .rw[nu key no c];refine .cons (λp d=> ?_) (aeo key n (no+1) (l.drop 4) (by rw[pQ];omega));have:=(jL key n (no+1) (l.drop 4) (by rw[pQ];omega) p d).1;show no<p.no;omega
def fI.aur{s:gC}(h:fI s):s.pk.Pairwise λa b=>a.no<b.no:=by
 induction h with
 |nil=>exact .nil
 |save l k j g c=>
  refine rT.2 ⟨c,aeo 7 _ _ _ (ap _),λp d q e=> ?_⟩;have i:=asN c p d;have f:=(jL 7 _ _ _ (ap _) q e).1;omega
def asO{s:gC}(h:s.sn.Pairwise λa b=>a.no<b.no):∀x∈s.sn,x.no<kJ s:=by
 intro p k;obtain⟨z,c,e⟩:=vJ (l:=s.sn) (uM k);have g:z.no<kJ s:=by
  unfold kJ;rw[e];show z.no<max (acs s.lg) (z.no+1);omega
 obtain⟨i,d⟩:=qS k;have j:=aH d;rcases mx i (s.sn.length-1) with f|m
 .have:=pm.1 h i (s.sn.length-1) j (by omega) f;rw[(jn.1 d).2,(jn.1 c).2] at this;omega
 .have:i=s.sn.length-1:=by omega
  subst this;rw[c] at d;cases d;exact g
def fI.axt{s:gC}(h:fI s):s.sn.Pairwise λa b=>a.no<b.no:=by
 induction h with
 |nil=>exact .nil
 |save j i g f c=>
  refine rT.2 ⟨c,so _ _,λx e y d=> ?_⟩;rw[gE.1 d];exact asO c x e
def afE{d:Type}(c:d->Int):∀{l:List d} {x:d},l.Pairwise (λa b=>c a<c b)->x∈l->l.find? (λy=>c y ==c x)=some x
 |[],_,_,h=>by cases h
 |y::l,x,hp,h=>by
  rw[rP];rcases lw.1 h with rfl|h
  .rw[rB]
  .have e:=(List.pairwise_cons.1 hp).1 x h;rw[show(c y ==c x)=false from jp.2 (by omega)];exact afE c (List.pairwise_cons.1 hp).2 h
def dX(l:List Pk):List Int:=l.flatMap λp=>p.its.map (·.n)
def ag1(l:List Pk):dX l=(acf l).map (·.n):=by
 unfold dX acf aph;rw[List.map_flatMap]
 congr 1
 funext p
 rw[th];rfl
def aep{n:Int}:∀{a:List Sp} {l:List Sp},(∀x∈a,¬x.p=0)->(∃x∈a,x.n=n)\/¬gb n l=0->¬gb n (afi a l)=0
 |[],l,_,h=>by
  rcases h with⟨x,b,_⟩|h
  .cases b
  .exact h
 |y::a,l,hz,h=>by
  show ¬gb n (afi a (agv y l))=0;refine aep (λx b=>hz x (by simp[b])) ?_;rw[abK];by_cases c:y.n=n
  .rw[dj c];exact .inr (hz y (by simp))
  .rw[bd c];rcases h with⟨x,b,d⟩|h
   .rcases lw.1 b with rfl|b
    .exact absurd d c
    .exact .inl ⟨x,b,d⟩
   .exact .inr h
def aeq{n:Int}:∀{a:List Sp} {l:List Sp},(∀x∈a,¬x.n=n)->gb n (afi a l)=gb n l
 |[],l,_=>rfl
 |y::a,l,h=>by
  show gb n (afi a (agv y l))=_;rw[aeq λx b=>h x (by simp[b]),abK,bd (h y (by simp))]
def amr{l:List Pk}(h:∀s∈acf l,spP s) :gb n (akz l)=0↔n∉dX l:=by
 unfold akz;rw[dj h,ag1];constructor
 .intro d a;obtain⟨x,b,rfl⟩:=lP.1 a;exact aep (l:=[]) (λy c=>by have:=(h y c).2;omega) (.inl ⟨x,b,rfl⟩) d
 .intro a;rw[aeq (l:=[]) λx b e=>a (lP.2 ⟨x,b,e⟩)];rfl
def aeW{ix:List Sp}{o:List ByteArray}(h:o.Nodup):(iF key ix o p).Nodup:=by
 unfold iF;split
 .rename_i d;exact qV.2 ⟨h,by simp,λa c b f e=>by rw[gE.1 f] at e;rw[e] at c;exact d.2 c⟩
 .exact h
def aer{key:Int}{ix:List Sp}:∀{l o:List ByteArray},o.Nodup->(akv key ix o l).Nodup
 |[],_,h=>h
 |p::l,o,h=>aer (l:=l) (aeW h)
def aix{key:Int}{ix:List Sp}{x:ByteArray}:∀{l o:List ByteArray},x∈o->x∈akv key ix o l
 |[],_,h=>h
 |p::l,o,h=>aix (l:=l) (by
  unfold iF;split
  .exact rq _ h
  .exact h)
def afF{key:Int}{ix:List Sp}{x:ByteArray}:∀{l o:List ByteArray},(x∈o->gb (cg key (bs x)) ix=0)->x∈akv key ix o l->gb (cg key (bs x)) ix=0
 |[],_,h,hx=>h hx
 |p::l,o,h,hx=>afF (l:=l) (o:=iF key ix o p) (λa=>by
  unfold iF at a;split at a
  .rename_i b;rcases jt.1 a with a|a
   .exact h a
   .rw[gE.1 a];exact b.1
  .exact h a) hx
def aiy{key:Int}{ix:List Sp}:∀{l o:List ByteArray},∀p∈l,¬gb (cg key (bs p)) ix=0\/p∈akv key ix o l
 |[],_,p,h=>by cases h
 |q::l,o,p,h=>by
  show _\/p∈akv key ix (iF key ix o q) l;rcases lw.1 h with rfl|h
  .by_cases b:gb (cg key (bs p)) ix=0
   .refine .inr (aix ?_);unfold iF;by_cases a:p∈o
    .rw[bd λc=>c.2 a];exact a
    .rw[dj ⟨b,a⟩];simp
   .exact .inl b
  .exact aiy p h
def anM(x:It):∀l:List It,(aio x l).Perm (x::l):=by
 intro l
 induction l with
 |nil=>exact .refl _
 |cons y l a=>
  unfold aio;split
  .exact .refl _
  .exact((a.cons y).trans (.swap _ _ _))
def akL(key:Int)(l:List ByteArray):(np key l).Perm (l.map (nk key)):=by
 induction l using nH with
 |h0=>exact .refl _
 |h1 l s a=>
  rw[aag,pI];exact(anM _ _).trans ((a.cons _).trans (by simpa using(List.perm_append_singleton (nk key s) (l.map (nk key))).symm))
def abc(key:Int):∀(n:Nat) (no:Int) (l:List ByteArray),l.length<=n->(dX (jb key no l)).Perm (l.map λp=>cg key (bs p))
 |0,no,l,h=>by rw[pG.1 (by omega:l.length=0),iu];exact .refl _
 |n+1,no,l,h=>by
  rcases mu l.length with a|a
  .rw[pG.1 a,iu];exact .refl _
  .rw[nu key no a];have c:=abc key n (no+1) (l.drop 4) (by rw[pQ];omega);have d:((np key (l.take 4)).map (·.n)).Perm ((l.take 4).map λp=>cg key (bs p)):=by
    have:=(akL key (l.take 4)).map (·.n);rw[th] at this;exact this
   have b:=d.append c;rw[<-pI,pH] at b;exact b
def afG{d β:Type}{f:d->β}:∀{l:List d},l.Nodup->(∀x∈l,∀y∈l,f x=f y->x=y)->(l.map f).Nodup
 |[],_,_=>.nil
 |x::l,h,hf=>by
  obtain⟨k,j⟩:=sB.1 h;refine sB.2 ⟨λg=> ?_,afG j λa i b m=>hf a (by simp[i]) b (by simp[m])⟩;obtain⟨y,c,e⟩:=lP.1 g;exact k (hf x (by simp) y (by simp[c]) e.symm▸c)
def fI.acf{s:gC}(h:fI s):∀x∈acf s.pk,spP x:=λx a=>by
 obtain⟨p,b,a⟩:=pa.1 a;obtain⟨y,c,rfl⟩:=lP.1 a;have e:=(h.wf.pn p b).1;obtain⟨q,d,f⟩:=h.items p b y c;have:=ahI (key:=7) (l:=q);exact⟨by show 0<=y.n/\y.n<=_;omega,by show 1<=p.no/\p.no<=99;omega⟩
structure Whole (s:gC):Prop where
 once:(dX s.pk).Nodup
 trees:∀x∈s.sn,∃t,aku t/\x=aup x.no 7 t/\∀f∈t,∀p∈fT f.b,cg 7 (bs p)∈dX s.pk
def fI.whole{s:gC}(h:fI s):Whole s:=by
 induction h with
 |nil=>exact⟨.nil,λx d=>(by cases d)⟩
 |@save s b t C G r H u=>
  have m:=C.acf;have k:=aah (key:=7) (ix:=akz s.pk) (abT r);have g:=abc 7 _ (nt s.pk) (asH 7 (akz s.pk) t) (ap _);have i:dX (akA 7 s b t).pk=dX s.pk++dX (abS 7 s t):=by
   show dX (s.pk++abS 7 s t)=_;unfold dX;rw[qZ]
  refine⟨?_,λx d=> ?_⟩
  .rw[i];refine qV.2 ⟨u.once, ?_,λa E c F e=> ?_⟩
   .refine g.nodup_iff.2 (afG (aer .nil) λx d y A e=>iZ (aai (k x d) (k y A) e))
   .subst e;obtain⟨p,j,rfl⟩:=lP.1 (g.mem_iff.1 F);exact(amr m).1 (afF (l:=amo t) (o:=[]) (λh=>by cases h) j) E
  .rcases jt.1 d with d|d
   .obtain⟨w,z,v,B⟩:=u.trees x d;exact⟨w,z,v,λf q p j=>by rw[i];exact rq _ (B f q p j)⟩
   .rw[gE.1 d];refine⟨t,r,rfl,λf q p j=> ?_⟩;rw[i];rcases aiy (key:=7) (ix:=akz s.pk) (o:=[]) p (pa.2 ⟨f,q,j⟩:p∈amo t) with n|n
    .refine rq _ (pW λD=>n ((amr m).2 D))
    .exact qL _ (g.mem_iff.2 (lP.2 ⟨p,n,rfl⟩))
end
section
variable {β:Bool}
open Go.RowKit
def anN{b:ByteArray}(h:dW b=true):eE (fT b)=(b,true):=by
 unfold eE;rw[anC,auc,dj ⟨h,rfl⟩]
def afH{nm:Int}:∀{l:List (Int×ByteArray)},(∃x∈l,x.1=nm)->∃k:Nat,dG nm l=k
 |[],⟨x,a,_⟩=>by cases a
 |y::l,⟨x,a,e⟩=>by
  show ∃k:Nat,(if y.1=nm then 0 else let j:=dG nm l;if j<0 then -1 else j+1:Int)=k;by_cases b:y.1=nm
  .rw[dj b];exact⟨0,rfl⟩
  .rw[bd b];rcases lw.1 a with rfl|a
   .exact absurd e b
   .obtain⟨k,c⟩:=afH ⟨x,a,e⟩;refine⟨k+1, ?_⟩;show(if dG nm l<0 then -1 else dG nm l+1:Int)=_;rw[c,bd (by omega)];omega
def afI{l:List Pk}(d:∀p∈l,∀x∈p.its,eK 7 x){nm:Int}:(bI 7 (bQ l) nm).2=true↔nm∈dX l:=by
 rw[kY];constructor
 .rintro⟨p,a,g⟩;obtain⟨q,n,rfl⟩:=lP.1 a;obtain⟨k,x, -,b,f, -⟩:=aem g;rw[agZ] at b;obtain⟨y,c,rfl⟩:=ga.1 b;exact pa.2 ⟨q,n,lP.2 ⟨y,da c,f⟩⟩
 .intro h;obtain⟨p,a,j⟩:=pa.1 h;obtain⟨x,i,e⟩:=lP.1 j;obtain⟨k,m⟩:=afH (nm:=nm) (l:=(pkd p).2) ⟨(x.n,x.b),lP.2 ⟨x,i,rfl⟩,e⟩;exact⟨pkd p,sX a,aen (d p a) m⟩
def acz{l:List Pk}(f:∀p∈l,∀x∈p.its,eK 7 x)(d:aX (bs p))(h:cg 7 (bs p)∈dX l):bI 7 (bQ l) (cg 7 (bs p))=(p,true):=by
 have c:=(afI f).2 h;obtain⟨a,b⟩:=iv c;have e:=iZ (aai a d b);generalize bI 7 (bQ l) (cg 7 (bs p))=r at c e;obtain⟨i,g⟩:=r;dsimp only at c e;rw[c,e]
def anO{l:List Pk}(d:∀p∈l,∀x∈p.its,eK 7 x){f:Nd}(c:agT f)(h:∀p∈fT f.b,cg 7 (bs p)∈dX l):fJ 7 (bQ l) (gS 7 f)=some f:=by
 have b:=lT (gj c.2).2;have g:aiu 7 (bQ l) (gS 7 f).ns:=λn i=>by
  obtain⟨p,a,rfl⟩:=lP.1 i;rw[acz d (b p a) (h p a)]
 have e:eT 7 (bQ l) (gS 7 f).ns=fT f.b:=by
  unfold eT gS;rw[th]
  conv=>rhs;rw[<-List.map_id (fT f.b)]
  exact ue λp a=>by
   show(bI 7 (bQ l) (cg 7 (bs p))).1=p;rw[acz d (b p a) (h p a)]
 unfold fJ;rw[e,anN c.2,dj ⟨g,rfl⟩];rfl
def anP{l:List Pk}(e:∀p∈l,∀x∈p.its,eK 7 x){t:List Nd}(b:aku t)(h:∀f∈t,∀p∈fT f.b,cg 7 (bs p)∈dX l):dx 7 (bQ l) (t.map (gS 7))=some t:=by
 have c:∀f∈t,fJ 7 (bQ l) (gS 7 f)=some f:=λf a=>anO e (b.1 f a) (h f a);have d:cY 7 (bQ l) (t.map (gS 7))=t:=by
  clear h b;unfold cY
  induction t with
  |nil=>rfl
  |cons f t k=>
   rw[qo,uf,c f (by simp)];show f::_=_;rw[k λg i=>c g (by simp[i])]
 unfold dx;rw[d,dj ⟨λx j=>by
  obtain⟨f,a,rfl⟩:=lP.1 j;rw[c f a];rfl,abU.2 (aqe.2 b)⟩]
def akN{l:List Pk}(c:∀p∈l,∀x∈p.its,eK 7 x){xs:List Ls}{x:Ls}(d:x∈xs)(e:n∈x.ns)(h:n∉dX l):dx 7 (bQ l) xs=none:=by
 unfold dx;rw[bd];rintro⟨a, -⟩;have a:=a x d;unfold fJ at a;split at a
 .rename_i b;exact h ((afI c).1 (b.1 n e))
 .cases a
def aus(s:gC)(no:Int):gC:=jk s ⟨1,no,0,⟨#[]⟩⟩
def avK(x:Sn):List Int:=x.all.flatMap λy=>y.ns
def aes{l:List Pk}(v:l.Pairwise λa b=>a.no<b.no)(B:(dX l).Nodup){p:Pk}(o:p∈l) :
  n∈dX (l.filter λq=>!(q.no ==p.no))↔n∈dX l/\n∉p.its.map (·.n):=by
 constructor
 .intro h;obtain⟨q,d,k⟩:=pa.1 h;obtain⟨g,c⟩:=rO.1 d;have c:q.no≠p.no:=by simpa using c
  refine⟨pa.2 ⟨q,g,k⟩,λs=>c ?_⟩;clear v c h d
  induction l with
  |nil=>cases g
  |cons y l C=>
   obtain⟨D,A,w⟩:=qV.1 (show(y.its.map (·.n)++dX l).Nodup from B);rcases lw.1 g with rfl|d<;>rcases lw.1 o with rfl|o
   .rfl
   .exact absurd rfl (w n k n (pa.2 ⟨p,o,s⟩))
   .exact absurd rfl (w n s n (pa.2 ⟨q,d,k⟩))
   .exact C A o d
 .rintro⟨h,s⟩;obtain⟨q,d,k⟩:=pa.1 h;refine pa.2 ⟨q,rO.2 ⟨d, ?_⟩,k⟩;rw[tF,jp];intro e;have:q=p:=by
   obtain⟨i,x⟩:=qS d;obtain⟨j,z⟩:=qS o;have r:=aH x;have m:=aH z;have u:=(jn.1 x).2;have t:=(jn.1 z).2;rcases tA i j with f|rfl|f
   .have:=pm.1 v i j r m f;rw[u,t] at this;omega
   .rw[<-u,<-t]
   .have:=pm.1 v j i m r f;rw[u,t] at this;omega
  exact s (this▸k)
def other{s:gC}(h:fI s){p:Pk}(k:p∈s.pk){x:Sn}(r:x∈s.sn):(acv 7 (aus s p.no) x.no).isSome=true↔∀n∈avK x,n∉p.its.map (·.n):=by
 have d:=h.whole;obtain⟨t,w,i,z⟩:=d.trees x r;have e:aus s p.no=⟨s.pk.filter λq=>!(q.no ==p.no),s.sn,s.lg⟩:=agV rfl;have m:∀q∈s.pk.filter λq=>!(q.no ==p.no),∀y∈q.its,eK 7 y:=λq c=>h.items q (rO.1 c).1;have a:x.all=t.map (gS 7):=by rw[i];rfl
 rw[e];unfold acv;show(match s.sn.find? (λy=>y.no ==x.no) with|some y=>dx 7 (bQ _) y.all|none=>none:Option (List Nd)).isSome=true↔_;rw[afE (λy:Sn=>y.no) h.axt r];show(dx 7 (bQ (s.pk.filter λq=>!(q.no ==p.no))) x.all).isSome=true↔_;constructor
 .intro o n A j;obtain⟨y,u,g⟩:=pa.1 A;rw[akN m u g λv=>((aes h.aur d.once k).1 v).2 j] at o;cases o
 .intro b;rw[a,anP m w λf l q c=>(aes h.aur d.once k).2 ⟨z f l q c,b _ (pa.2 ⟨gS 7 f,by rw[a];exact sX l,lP.2 ⟨q,c,rfl⟩⟩)⟩];rfl
end
section
variable {β:Bool}
open Go.RowKit
def kZ(s:ByteArray)(f:s.size<=maxLen)(w:World) :
  Calls (aj β) 113 #[.string s] w λe d=>e=.returned (.bool (dW s))/\w=d:=by
 by_cases b:s.size<=40
 .have a:(bs s).all mC=dW s:=by unfold dW;rw[du b,tL]
  replace a:=ab a;have c:=du (show(s.size:Int)<=40 by omega);go_enter wJ,ntmps113;go_wp2;refine(afm s f w).mono ?_;rintro e g ⟨rfl,rfl⟩;rw[a.out];go_wp2;go_ret;exact⟨rfl,rfl⟩
 .have c:=bv (show ¬((s.size:Int)<=40) by omega);have e:dW s=false:=by unfold dW;rw[bv b,tq]
  rw[e];clear e;go_enter wJ,ntmps113;go_wp2;go_ret;exact⟨rfl,rfl⟩
def akO(s:ByteArray)(p:Nat)(v:3<=p/\p<s.size)(r:s.size<=maxLen)(w:World) :
  Calls (aj β) 211 #[.string s,.int .i64 p] w λe o=>e=.returned (.bool (nh (bs s) p))/\Below w.heap.size w o:=by
 unfold maxLen at r;obtain⟨a,l⟩:∃a,a=p-1:=⟨_,rfl⟩;obtain⟨b,j⟩:∃b,b=p-2:=⟨_,rfl⟩;obtain⟨c,n⟩:∃c,c=p-3:=⟨_,rfl⟩;have m:a<s.size:=by omega
 have g:b<s.size:=by omega
 have i:c<s.size:=by omega
 have y:(p:Int)-1=((a:Nat):Int):=by omega
 have x:(p:Int)-2=((b:Nat):Int):=by omega
 have z:(p:Int)-3=((c:Nat):Int):=by omega
 have t:(p:Int)<=9223372036854775807:=by omega
 have k:nh (bs s) p=((dig (s[a]'m).toNat+2*dig (s[b]'g).toNat+3*dig (s[c]'i).toNat) % 5 ==0):=by unfold nh;rw[<-l,<-j,<-n,nV m,nV g,nV i]
 rw[k];clear l j n k;go_enter xJ,ntmps211;go_wp2;refine fh 21 [0,1,2,3,4,5,6,7,8,9,10,11,12,13,14,15,16,17,18,19,20] [] (h:= ?_);simp only[pick,List.map,qF,qG];repeat(go_big_quiet_step (fail))
 refine ge ?_;apply Exists.intro;refine jC ?_;intro A u q d f;dsimp only[abI] at f;try rw[d] at f
 clear d q;simp only[List.drop];clear f;go_wp2;go_ret;exact⟨ak (by rw[oE];simp only[mT];unfold dig;omega),u⟩
def asP(s:ByteArray)(p:Nat)(C:p<s.size)(E:s.size<=1000000)(w:World) :
  Calls (aj β) 201 #[.string s,.int .i64 p] w λe v=>e=.returned (.int .i64 (mF (bs s) p:Nat))/\Below w.heap.size w v:=by
 have o:s.size<=maxLen:=by unfold maxLen;omega
 go_enter xO,ntmps201;go_wp2;go_loopw [5] (λr wr=>∃k f:Nat,k+f=8/\3<=k/\r=.int .i64 ((p+k:Nat):Int)/\mF (bs s) p=atF (bs s) p f k/\Below w.heap.size w wr) (λr _=>p+8-(intOf r).toNat)
 case atStart=>exact⟨3,5,rfl,by omega,by go_num,rfl,dk _ _⟩
 case round=>
  obtain⟨k,f,z,D,rfl,b,g⟩:=hrel;replace b:=ab b;by_cases B:k<8
  .obtain⟨j,rfl⟩:∃j,f=j+1:=⟨f-1,by omega⟩;have a:atF (bs s) p (j+1) k=if s.size<=p+k then s.size else if nh (bs s) (p+k)=true then p+k else atF (bs s) p j (k+1):=by
    show(if(bs s).length<=p+k then(bs s).length else _)=_;rw[aL]
   have HS:=ab a;clear a;obtain⟨d,i⟩:∃m,m=p+k:=⟨_,rfl⟩;rw[<-i] at HS ⊢;have q:3<=d/\d<p+8:=by omega
   have x:=du (show(d:Int)<(p:Int)+8 by omega);by_cases l:s.size<=d
   .have y:=bv (show ¬(d<s.size) by omega);rw[dj l] at HS;have c:=ab (b.out.trans HS.out);have t:=bv (show ¬((p:Int)+8<=(s.size:Int)) by omega);clear i;go_wp2;go_ret;exact⟨by rw[c.out];simp,g⟩
   .have y:=du (show d<s.size by omega);rw[bd l] at HS;replace i:=ab i;go_wp2;refine(akO s d ⟨q.1,by omega⟩ o wr).mono ?_;rintro e A ⟨rfl,u⟩;cases n:nh (bs s) d with
    |true=>
     have c:=ab (b.out.trans (HS.out.trans (dj n)));clear n;go_wp2;go_ret;exact⟨by rw[c.out];rfl,ae g u⟩
    |false=>
     have c:=ab (b.out.trans (HS.out.trans (bd (by rw[n];exact pu))));clear n;go_wp2;go_roundw
     case rel=>exact⟨k+1,j,by omega,by omega,by have:=i.out;go_num,c.out,ae g u⟩
     simp[intOf];omega
  .obtain rfl:k=8:=by omega
   obtain rfl:f=0:=by omega
   have a:atF (bs s) p 0 8=min (p+8) s.size:=by
    show min (p+8) (bs s).length=_;rw[aL]
   have c:=ab (b.out.trans a);clear a b;have x:=bv (show ¬(((p+8:Nat):Int)<(p:Int)+8) by omega);by_cases l:p+8<=s.size
   .have t:=du (show(p:Int)+8<=(s.size:Int) by omega);rw[qx l] at c;go_wp2;go_ret;exact⟨by rw[c.out];simp,g⟩
   .have t:=bv (show ¬((p:Int)+8<=(s.size:Int)) by omega);rw[Nat.min_eq_right (by omega)] at c;go_wp2;go_ret;exact⟨by rw[c.out];simp,g⟩
end
section
variable {β:Bool}
open Go.RowKit
def aiz(s:ByteArray)(w:World) :
  Calls (aj β) 219 #[.string s,.int .u8 47] w λe a=>e=.returned (.int .i64 (Lib.indexByte s.data.toList 47))/\w=a:=by
 go_enter xG,ntmps219;go_wp2;rw[run_callFunc_extern xF (by kernel_rfl) (by kernel_rfl) (by kernel_rfl) (e:=Extern.BytealgIndexByte.indexByte) (by kernel_rfl),Lib.run_indexByteString];simp only[Result.andThen];rw[Oper.upon_value];go_wp2;go_ret;exact⟨rfl,rfl⟩
noncomputable def akP:Code:=gP (f212.body.getD .skip)
def ay8:Code->Code
 |.seq a _=>a
 |c=>c
def aqj:Code->Code
 |.cond _ _ b=>b
 |c=>c
def avL:Code->Code
 |.block _ b=>b
 |c=>c
noncomputable def axu:Code:=bR (bR (bR akP))
noncomputable def axv:Code:=aqj (bR (aqj (bR (avL (ay8 (bR (bR akP)))))))
noncomputable def xIx:Func:={f212 with body:=some ((Code.region 0 #[⟨some 4,Op.assign (Operand.const (Value.int IntKind.i64 0)),3,"strings.go:28",#[],none⟩] false).seq ((Code.region 1 #[⟨some 14,Op.move (Operand.tmp 1),9,"strings.go:29",#[],none⟩,⟨some 15,Op.call ⟨Callee.builtin Builtin.len,#[Operand.tmp 14],#[9]⟩,3,"strings.go:29",#[⟨0,Ground.data⟩],none⟩,⟨some 5,Op.assign (Operand.tmp 15),3,"strings.go:29",#[⟨1,Ground.data⟩,⟨0,Ground.phase⟩,⟨1,Ground.phase⟩],none⟩] false).seq ((Code.block 0 ((Code.region 2 #[⟨some 17,Op.move (Operand.tmp 5),3,"strings.go:31",#[],none⟩,⟨some 18,Op.binOp BinOp.eql 3 (Operand.tmp 17) (Operand.const (Value.int IntKind.i64 0)) 3,4,"strings.go:31",#[⟨0,Ground.data⟩],none⟩,⟨some 19,Op.move (Operand.tmp 18),4,"strings.go:31",#[⟨1,Ground.data⟩],none⟩,⟨some 20,Op.move (Operand.tmp 1),9,"strings.go:31",#[⟨2,Ground.guard⟩],some (2,false)⟩,⟨some 21,Op.move (Operand.tmp 0),9,"strings.go:31",#[⟨2,Ground.guard⟩],some (2,false)⟩,⟨some 22,Op.binOp BinOp.eql 9 (Operand.tmp 20) (Operand.tmp 21) 9,4,"strings.go:31",#[⟨3,Ground.data⟩,⟨4,Ground.data⟩,⟨2,Ground.guard⟩],some (2,false)⟩,⟨some 23,Op.pick (Operand.tmp 19) (Operand.const (Value.bool true)) (Operand.tmp 22),4,"strings.go:31",#[⟨2,Ground.data⟩,⟨5,Ground.data⟩],none⟩,⟨some 16,Op.assign (Operand.tmp 23),4,"strings.go:31",#[⟨6,Ground.data⟩,⟨2,Ground.chain⟩],none⟩] false).seq (Code.cond (Operand.tmp 16) ((Code.region 3 #[⟨some 4,Op.assign (Operand.const (Value.int IntKind.i64 0)),3,"strings.go:32",#[],none⟩] false).seq Code.ret) ((Code.region 4 #[⟨some 25,Op.move (Operand.tmp 5),3,"strings.go:33",#[],none⟩,⟨some 26,Op.binOp BinOp.eql 3 (Operand.tmp 25) (Operand.const (Value.int IntKind.i64 1)) 3,4,"strings.go:33",#[⟨0,Ground.data⟩],none⟩,⟨some 24,Op.assign (Operand.tmp 26),4,"strings.go:33",#[⟨1,Ground.data⟩],none⟩] false).seq (Code.cond (Operand.tmp 24) ((Code.region 5 #[⟨some 27,Op.move (Operand.tmp 0),9,"strings.go:34",#[],none⟩,⟨some 28,Op.move (Operand.tmp 1),9,"strings.go:34",#[],none⟩,⟨some 29,Op.index 9 (Operand.tmp 28) (Operand.const (Value.int IntKind.i64 0)),5,"strings.go:34",#[⟨1,Ground.data⟩],none⟩,⟨some 30,Op.call ⟨Callee.value (Operand.func 219),#[Operand.tmp 27,Operand.tmp 29],#[9,5]⟩,3,"strings.go:34",#[⟨0,Ground.data⟩,⟨2,Ground.data⟩],none⟩,⟨some 4,Op.assign (Operand.tmp 30),3,"strings.go:34",#[⟨3,Ground.data⟩,⟨3,Ground.chain⟩,⟨0,Ground.phase⟩,⟨1,Ground.phase⟩,⟨2,Ground.phase⟩,⟨3,Ground.phase⟩],none⟩] false).seq Code.ret) axv))))).seq axu)))}
def aqk:f212.body.map gP=xIx.body:=by
 unfold xIx axv axu akP gP
 kernel_rfl
def akQ:(aj β).funcs[212]?=some xIx:=by
 refine(ajt β (by decide) (by decide)).trans ?_;have e:Option.map pf (prog.funcs[212]?)=Option.map pf (some f212):=ef _ func212;rw[e,pU];unfold pf;rw[aqk];rfl
@[go_sem] theorem axw(args:Array Value)(w:World):(callFunc 212 args).run (aj β) w=.ok (.enter 212 args) w:=by
 have a:=cu func212;exact jA akQ a rfl args w
def asQ(s:ByteArray)(w:World) :
  Calls (aj β) 212 #[.string s,.string ⟨#[47]⟩] w λe g=>e=.returned (.int .i64 (Lib.indexByte s.data.toList 47))/\w=g:=by
 have d:xIx.ntmps=143:=ntmps212;have c:xIx.results=#[.tmp 4]:=results212;by_cases a:s.toList=[47]
 .have f:([47] ==s.toList)=true:=by rw[a];rfl
  have b:Lib.indexByte s.data.toList 47=0:=by
   rw[show s.data.toList=s.toList by rw[qj],a];rfl
  replace b:=ab b;clear a;go_enter akQ,d;go_wp2;exact pN (v:=.int .i64 0) (by simp[results,c,go_sem]) rfl ⟨by rw[b.out],rfl⟩
 .have f:([47] ==s.toList)=false:=jp.2 λe=>a e.symm;clear a;go_enter akQ,d;go_wp2;refine(aiz s w).mono ?_;rintro e i ⟨rfl,rfl⟩;go_wp2;exact pN (v:=.int .i64 (Lib.indexByte s.data.toList 47)) (by simp[results,c,go_sem]) rfl ⟨rfl,rfl⟩
open Classical in
noncomputable def cT(s:ByteArray):ByteArray×ByteArray×Bool:=if Lib.indexByte s.data.toList 47<0 then(s,⟨#[]⟩,false) else(s.extract 0 (Lib.indexByte s.data.toList 47).toNat,s.extract ((Lib.indexByte s.data.toList 47).toNat+1) s.size,true)
def aiA(s:ByteArray):Lib.indexByte s.data.toList 47=-1\/∃k:Nat,Lib.indexByte s.data.toList 47=k/\k<s.size:=by
 rcases Int.lt_or_le (Lib.indexByte s.data.toList 47) 0 with h|h
 .left;have:=Lib.indexByte_ge s.data.toList 47;omega
 .right;obtain⟨k,a⟩:=Int.eq_ofNat_of_zero_le h;refine⟨k,a, ?_⟩;have:=aH (Lib.indexByte_some a).1;rw[qH] at this;exact this
def avM(s:ByteArray)(j:s.size<=maxLen)(w:World) :
  Calls (aj β) 202 #[.string s,.string ⟨#[47]⟩] w λe g=>e=.returned (.tuple #[.string (cT s).1,.string (cT s).2.1,.bool (cT s).2.2])/\Below w.heap.size w g:=by
 unfold maxLen at j;have HC:=ab (asQ (β:=β) s w);rcases aiA s with h|⟨k,h,n⟩
 .have b:cT s=(s,⟨#[]⟩,false):=by unfold cT;rw[dj (by omega)]
  have c:=ab b;clear b;rw[h] at HC;clear h;go_enter wA,ntmps202;go_wp2;refine HC.out.mono ?_;rintro e f ⟨rfl,rfl⟩;go_wp2
  go_ret3
  rw[c.out];exact⟨rfl,dk _ _⟩
 .have b:cT s=(s.extract 0 k,s.extract (k+1) s.size,true):=by unfold cT;rw[bd (by omega),h];rfl
  have c:=ab b;clear b;rw[h] at HC;have m:=du (show 0<=(k:Int) by omega);clear h;go_enter wA,ntmps202;go_wp2;refine HC.out.mono ?_;rintro e f ⟨rfl,rfl⟩;go_wp2;refine fh 12 [0,1,2,3,4,5,6,7,8,9,10,11] [] (h:= ?_);simp only[pick,List.map,qF,qG];repeat(go_big_quiet_step (fail))
  refine ge ?_;apply Exists.intro;refine jC ?_;intro o l i a d;dsimp only[abI] at d;try rw[a] at d
  clear a i;simp only[List.drop];clear d;go_wp2
  go_ret3
  rw[c.out];exact⟨rfl,l⟩
def axx(s:ByteArray)(c:s.size<=maxLen)(w:World) :
  Calls (aj β) 174 #[.string s,.string ⟨#[47]⟩] w λe a=>e=.returned (.tuple #[.string (cT s).1,.string (cT s).2.1,.bool (cT s).2.2])/\Below w.heap.size w a:=by
 go_enter xX,ntmps174;go_wp2;refine(avM s c w).mono ?_;rintro e d ⟨rfl,b⟩;go_wp2
 go_ret3
 exact⟨rfl,b⟩
def abd(s:ByteArray):Bool:=if h:s.size=1 then nm (s[0]'(by omega)).toNat else false
def nv(s:ByteArray)(m:s.size<=maxLen)(w:World) :
  Calls (aj β) 175 #[.string s] w λe l=>e=.returned (.bool (abd s))/\w=l:=by
 unfold maxLen at m;by_cases d:s.size=1
 .have a:0<s.size:=by omega
  have k:((s.size:Int) ==1)=true:=by rw[d];rfl
  have b:abd s=nm (s[0]'a).toNat:=by unfold abd;rw[sN d]
  rw[b];clear b;by_cases g:97<=(s[0]'a).toNat
  .by_cases i:(s[0]'a).toNat<=101
   .have e:nm (s[0]'a).toNat=true:=by unfold nm;rw[du g,du i];rfl
    have c:=ab e;clear e;have j:=du (show((s[0]'a).toNat:Int)<=101 by omega);have f:=du (show 97<=((s[0]'a).toNat:Int) by omega);go_enter vD,ntmps175;go_wp2;go_ret;exact⟨by rw[c.out];rfl,rfl⟩
   .have e:nm (s[0]'a).toNat=false:=by unfold nm;rw[bv i,Bool.and_false]
    have c:=ab e;clear e;have j:=bv (show ¬(((s[0]'a).toNat:Int)<=101) by omega);have f:=du (show 97<=((s[0]'a).toNat:Int) by omega);go_enter vD,ntmps175;go_wp2;go_ret;exact⟨by rw[c.out];rfl,rfl⟩
  .have e:nm (s[0]'a).toNat=false:=by unfold nm;rw[bv g,tq]
   have c:=ab e;clear e;have f:=bv (show ¬(97<=((s[0]'a).toNat:Int)) by omega);go_enter vD,ntmps175;go_wp2;go_ret;exact⟨by rw[c.out];rfl,rfl⟩
 .have k:((s.size:Int) ==1)=false:=jp.2 (by omega);have b:abd s=false:=by unfold abd;rw[dif_neg d]
  have n:=ab b;clear b;go_enter vD,ntmps175;go_wp2;go_ret;exact⟨by rw[n.out];rfl,rfl⟩
def abV :abd s=match s.toList with|[a]=>nm a.toNat|_=>false:=by
 have c:=jM s;unfold abd;split
 .rename_i h;rw[h] at c;obtain⟨a,d⟩:=sI.1 c;have:=iP (s:=s) (k:=0) (by omega);rw[d] at this ⊢;simp only[sq,lE] at this;rw[<-this]
 .rename_i h
  match hs:s.toList,c with
  |[],_=>rfl
  |[a],c=>exact absurd c.symm h
  |a::b::l,_=>rfl
def aet :fG s=match s.toList with|[a]=>nm a.toNat|[a,b,c]=>nm a.toNat&&(decide (b=47)&&nm c.toNat)|_=>false:=by
 have e:=jM s;unfold fG;split
 .rename_i h;rw[h] at e;obtain⟨a,m⟩:=sI.1 e;have:=iP (s:=s) (k:=0) (by omega);rw[m] at this ⊢;simp only[sq,lE] at this;rw[<-this]
 .rename_i n;split
  .rename_i j;have i:=iP (s:=s) (k:=0) (by omega);have g:=iP (s:=s) (k:=1) (by omega);have f:=iP (s:=s) (k:=2) (by omega)
   match hs:s.toList,e,i,g,f with
   |[a,b,c],_,i,g,f=>
    simp at i g f;show _=(nm a.toNat&&(decide (b=47)&&nm c.toNat));rw[i,g,f]
    congr 2
    rw[tQ,<-rL];exact Iff.rfl
   |[],e,_,_,_=>simp at e;omega
   |[a],e,_,_,_=>simp at e;omega
   |[a,b],e,_,_,_=>simp at e;omega
   |a::b::c::d::l,e,_,_,_=>simp at e;omega
  .rename_i j
   match hs:s.toList,e with
   |[],_=>rfl
   |[a],e=>exact absurd e.symm n
   |[a,b],_=>rfl
   |[a,b,c],e=>exact absurd e.symm j
   |a::b::c::d::l,_=>rfl
def aiB(s:ByteArray)(a b:Nat):(s.extract a b).toList=(s.toList.take b).drop a:=by
 rw[qj,qj,uO,sR,uw,List.take_drop];by_cases h:a<=b
 .congr 2;omega
 .have:b-a=0:=by omega
  rw[this,rH (by simp;omega),rH (by simp;omega)]
def aiC(s:ByteArray):fG s=(abd (cT s).1&&(!(cT s).2.2||abd (cT s).2.1)):=by
 have hd:s.data.toList=s.toList:=by rw[qj]
 rcases aiA s with h|⟨k,h,f⟩
 .have i:cT s=(s,⟨#[]⟩,false):=by unfold cT;rw[dj (by omega)]
  rw[i];show _=(abd s&&true);rw[tN,abV,aet];have m:=Lib.indexByte_none h;rw[hd] at m
  match hs:s.toList with
  |[]=>rfl
  |[a]=>rfl
  |[a,b]=>rfl
  |[a,b,c]=>
   have:=m 1;rw[hs] at this;have j:b≠47:=by simpa using this
   show(nm a.toNat&&(decide (b=47)&&nm c.toNat))=false;rw[bv j];simp
  |a::b::c::d::l=>rfl
 .have i:cT s=(s.extract 0 k,s.extract (k+1) s.size,true):=by unfold cT;rw[bd (by omega),h];rfl
  rw[i];show _=(abd (s.extract 0 k)&&(false||abd (s.extract (k+1) s.size)));rw[tM,abV,abV,aiB,aiB,aet,qp,<-jM,fd];obtain⟨e,g⟩:=Lib.indexByte_some h;rw[hd] at e g;rw[<-jM] at f
  match hs:s.toList,k,e,g,f with
  |[],_,_,_,f=>simp at f
  |[a],0,e,_,_=>
   simp at e;subst e;rfl
  |[a],k+1,_,_,f=>simp at f
  |[a,b],0,_,_,_=>rfl
  |[a,b],1,_,_,_=>simp
  |[a,b],k+2,_,_,f=>simp at f;omega
  |[a,b,c],0,e,_,_=>
   simp at e;subst e;rfl
  |[a,b,c],1,e,_,_=>
   simp at e;subst e;simp
  |[a,b,c],2,e,g,_=>
   have:=g 1 (by omega);have j:b≠47:=by simpa using this
   simp[j]
  |[a,b,c],k+3,_,_,f=>simp at f;omega
  |a::b::c::d::l,0,_,_,_=>rfl
  |a::b::c::d::l,1,_,_,_=>simp
  |a::b::c::d::l,k+2,_,_,_=>simp
def nz(s:ByteArray)(i:s.size<=maxLen)(w:World) :
  Calls (aj β) 116 #[.string s] w λe l=>e=.returned (.bool (fG s))/\Below w.heap.size w l:=by
 have d:(cT s).1.size<=maxLen/\(cT s).2.1.size<=maxLen:=by
  unfold cT;split
  .exact⟨i,fb _⟩
  .refine⟨?_, ?_⟩
   .show(s.extract _ _).size<=_;rw[<-aL,cq,pQ,lm,aL];omega
   .show(s.extract _ _).size<=_;rw[<-aL,cq,pQ,lm,aL];omega
 have c:=ab (aiC s);have HC:=ab (axx (β:=β) s i w);clear i;generalize cT s=r at c HC d;obtain⟨a,b,q⟩:=r;dsimp only at c HC d;have n:=ab d.1;have m:=ab d.2;clear d;go_enter yq,ntmps116;go_wp2;refine HC.out.mono ?_;rintro e j ⟨rfl,f⟩;go_wp2;refine(nv a n.out j).mono ?_;rintro e o ⟨rfl,rfl⟩;cases g:abd a
 .rw[g] at c;clear g;go_wp2;go_ret;exact⟨by rw[c.out];simp,f⟩
 .rw[g] at c;clear g;cases q
  .go_wp2;go_ret;exact⟨by rw[c.out];simp,f⟩
  .go_wp2;refine(nv b m.out j).mono ?_;rintro e o ⟨rfl,rfl⟩;cases k:abd b<;>rw[k] at c<;>clear k
   .go_wp2;go_ret;exact⟨by rw[c.out];simp,f⟩
   .go_wp2;go_ret;exact⟨by rw[c.out];simp,f⟩
end
section
variable {β:Bool}
open Go.RowKit
def ag2{t : ByteArray}(h:s=t):(s.toList ==t.toList)=true:=by subst h;exact rB _
def akR(xs f:List ByteArray)(J M:Value)(w:World)(T N G P:Nat)(z:fH w T N xs [J])(H:fH w G P f [M])(C:N<=w.heap.size)(om:P<=w.heap.size)(q:Bool)(j:q=true↔xs=f) :
  Calls (aj β) 114 #[J,M] w λe R=>e=.returned (.bool q)/\Below w.heap.size w R:=by
 have v:=ab j;clear j;obtain⟨A,c,rfl⟩:=z.form;obtain⟨B,d,rfl⟩:=H.form;obtain⟨_,hc,Z⟩:=z.len_;unfold maxLen at Z;go_enter yu,ntmps114;by_cases a:xs.length=f.length
 .have X:((xs.length:Int) !=f.length)=false:=by rw[pJ];omega
  replace a:=ab a;go_wp2;go_loopw [13] (λi wr=>∃k:Nat,k<=xs.length/\i=.int .i64 k/\xs.take k=f.take k/\Below w.heap.size w wr) (λi _=>xs.length-(intOf i).toNat)
  case atStart=>exact⟨0,fb _,rfl,rfl,dk _ _⟩
  case round=>
   obtain⟨k,hk,rfl,g,b⟩:=hrel;have O:=ab g;clear g;by_cases u:k<xs.length
   .obtain⟨x,m⟩:=ar u;obtain⟨y,p⟩:=ar (l:=f) (k:=k) (by have:=a.out;omega);obtain⟨b1,Y,rfl,_,_,U,K⟩:=lQ (fH.aK.below z b C) m;obtain⟨b2,gW,rfl,_,_,V,L⟩:=lQ (fH.aK.below H b om) p;have W:(k:Int)<(f.length:Int):=by have:=a.out;omega
    replace m:=ab m;replace p:=ab p;by_cases g:x=y
    .have Q:=ag2 g;have F:xs.take (k+1)=f.take (k+1):=by rw[kw m.out,kw p.out,O.out,g]
     replace F:=ab F;clear g;go_wp2;have E:=ah K;have D:=ah L;refine aA (by kernel_rfl) (by kernel_rfl) ?_;repeat(go_big_quiet_step (fail))
     refine ge ?_;intro S r;have j:=aG r;clear r E D;go_wp2;go_roundw
     case rel=>exact⟨k+1,by omega,by go_num,F.out,ae b j⟩
     simp[intOf];omega
    .have Q:=mR (s:=y) (t:=x) g;have o:q=false:=by
      rw[<-be,v.out];rintro rfl;exact g (de (m.out.symm.trans p.out))
     have n:=ab o;clear o g;go_wp2;have E:=ah K;have D:=ah L;refine aA (by kernel_rfl) (by kernel_rfl) ?_;repeat(go_big_quiet_step (fail))
     refine ge ?_;intro S r;have j:=aG r;clear r E D;go_wp2;go_ret;exact⟨ak n.out.symm,ae b j⟩
   .obtain rfl:k=xs.length:=by omega
    have I:q=true:=by
     rw[v.out];have:=O.out
     rwa [fd,nf (by have:=a.out;omega)] at this
    have n:=ab I;clear I;go_wp2;go_ret;exact⟨ak n.out.symm,b⟩
 .have X:((xs.length:Int) !=f.length)=true:=by rw[qI];omega
  have o:q=false:=by
   rw[<-be,v.out];rintro rfl;exact a rfl
  have n:=ab o;clear o;replace a:=ab a;go_wp2;go_ret;exact⟨ak n.out.symm,dk _ _⟩
end
section
variable {β:Bool}
open Go.RowKit
def asR(p s:ByteArray):(bs p).isPrefixOf (bs s)=true↔p.size<=s.size/\s.extract 0 p.size=p:=by
 rw[List.isPrefixOf_iff_prefix,List.prefix_iff_eq_take,aL];constructor
 .intro h;have a:=ef List.length h;rw[lm,aL,aL] at a;exact⟨by omega,iZ (by rw[cq,qp];exact h.symm)⟩
 .rintro⟨-,h⟩;have:=ef bs h;rw[cq,qp] at this;exact this.symm
def ag3(s p:ByteArray)(m:s.size<=100)(l:p.size<=100)(w:World)(q:Bool)(g:q=(bs p).isPrefixOf (bs s)) :
  Calls (aj β) 177 #[.string s,.string p] w λe k=>e=.returned (.bool q)/\w=k:=by
 have c:q=true↔p.size<=s.size/\s.extract 0 p.size=p:=by rw[g,asR]
 replace c:=ab c;clear g;by_cases f:p.size<=s.size
 .have j:decide (p.size<=s.size)=true:=du f;by_cases b:s.extract 0 p.size=p
  .have i:=ag2 b;have a:q=true:=c.out.2 ⟨f,b⟩;have d:=ab a;clear a b;go_enter vO,ntmps177;go_wp2;go_ret;exact⟨by rw[d.out];rfl,rfl⟩
  .have i:=mR (s:=p) (t:=s.extract 0 p.size) b;have a:q=false:=by
    rw[<-be,c.out];exact λh=>b h.2
   have d:=ab a;clear a b;go_enter vO,ntmps177;go_wp2;go_ret;exact⟨by rw[d.out];rfl,rfl⟩
 .have j:decide (p.size<=s.size)=false:=bv f;have a:q=false:=by
   rw[<-be,c.out];exact λh=>f h.1
  have d:=ab a;clear a;go_enter vO,ntmps177;go_wp2;go_ret;exact⟨by rw[d.out];rfl,rfl⟩
def aiD(s p:ByteArray)(d:s.size<=100)(b:p.size<=100)(w:World)(q:Bool)(a:q=(bs p).isPrefixOf (bs s)) :
  Calls (aj β) 119 #[.string s,.string p] w λe c=>e=.returned (.bool q)/\w=c:=by
 replace a:=ab a;go_enter yo,ntmps119;go_wp2;refine(ag3 s p d b w q a.out).mono ?_;rintro e f ⟨rfl,rfl⟩;go_wp2;go_ret;exact⟨rfl,rfl⟩
def axy:bs ⟨#[47]⟩=[47]:=rfl
def anQ(y f:Nd)(n:y.p.size<=3)(l:f.p.size<=3)(g:Nat)(w:World)(i:w.cell? ⟨g,0,none⟩=some (.string f.p)) :
  Calls (aj β) 118 #[.agg #[.string y.p,.string y.b],.pointer (some ⟨g,0,none⟩)] w λe j=>e=.returned (.bool (ot y.p f.p))/\Below w.heap.size w j:=by
 have d:=aJ w (.cells #[.string y.p,.string y.b] 122);have k:(w.alloc (.cells #[.string y.p,.string y.b] 122)).cell? ⟨g,0,none⟩=some (.string f.p):=(pO (d.block g (eJ i))).trans i;have a:(y.p++⟨#[47]⟩:ByteArray).size<=100:=by
  rw[<-aL,jr,gn,aL,axy,rj];omega
 have b:ot y.p f.p=(bs (y.p++⟨#[47]⟩)).isPrefixOf (bs f.p):=by rw[jr,axy];unfold ot;exact Eq.refl _
 replace b:=ab b;replace a:=ab a;go_enter wI,ntmps118;go_wp2;have c:f.p.size<=100:=by omega
 have HC:=aiD (β:=β) f.p (y.p++⟨#[47]⟩) c a.out (w.alloc (.cells #[.string y.p,.string y.b] 122)) (ot y.p f.p) b.out;refine HC.mono ?_;rintro e m ⟨rfl,rfl⟩;go_wp2;go_ret;exact⟨rfl,d⟩
def asS:ar3 (β:=β) 118:=avg wI (by kernel_rfl) rfl
def ag4(f:Nd)(I:f.p.size<=3)(xs:List Nd)(n:Nat)(Q:n<=xs.length)(o:∀y∈xs.take n,y.p.size<=3)(A:Option Addr)(c g:Nat)(w:World)(M E:Nat)(h:my w M E xs [.slice A xs.length c])(K:E<=w.heap.size)(C:w.cell? ⟨g,0,none⟩=some (.string f.p)) :
  Calls (aj β) 176 #[.slice A n c,.func (.func 118) #[] #[.pointer (some ⟨g,0,none⟩)]] w λe B=>∃j:Int,e=.returned (.int .i64 j)/\((0<=j/\∃k y,k<n/\xs[k]?=some y/\ot y.p f.p=true)\/(j=-1/\∀k y,k<n->xs[k]?=some y->ot y.p f.p=false))/\Below w.heap.size w B:=by
 obtain⟨_,P,L⟩:=h.1.len_;unfold maxLen at L;have s:=eJ C;replace o:=ab o;go_enter xW,ntmps176;go_wp2;go_loopw [8] (λi wr=>∃k:Nat,k<=n/\i=.int .i64 k/\(∀j y,j<k->xs[j]?=some y->ot y.p f.p=false)/\Below w.heap.size w wr) (λi _=>n-(intOf i).toNat)
 case atStart=>exact⟨0,fb _,rfl,λj y F=>absurd F (rN j),dk _ _⟩
 case round=>
  obtain⟨k,O,rfl,d,r⟩:=hrel;replace d:=ab d;have v:wr.cell? ⟨g,0,none⟩=some (.string f.p):=(pO (r.block g s)).trans C;by_cases q:k<n
  .obtain⟨x,p⟩:=ar (l:=xs) (k:=k) (by omega);obtain⟨b,J,rfl,_,_,G,H,N⟩:=aei (my.aK.below h r K) p;have t:x.p.size<=3:=o.out x (by
    have:(xs.take n)[k]?=some x:=by rw[qA,dj q];exact p
    exact da this)
   replace p:=ab p;have R:=asS (β:=β) (#[.agg #[.string x.p,.string x.b]]++#[.pointer (some ⟨g,0,none⟩)]) wr;go_wp2;refine(anQ x f t I g wr v).mono ?_;rintro e B ⟨rfl,m⟩;replace m:=ae r m;cases a:ot x.p f.p
   .have z:∀j y,j<k+1->xs[j]?=some y->ot y.p f.p=false:=λj y F u=>by
     rcases mx j k with D|D
     .exact d.out j y D u
     .obtain rfl:j=k:=by omega
      rw[p.out] at u;cases u;exact a
    replace z:=ab z;clear a;go_wp2;go_roundw
    case rel=>exact⟨k+1,by omega,by go_num,z.out,m⟩
    simp[intOf];omega
   .replace a:=ab a;go_wp2;go_ret;exact⟨k,rfl,.inl ⟨by omega,k,x,q,p.out,a.out⟩,m⟩
  .obtain rfl:k=n:=by omega
   go_wp2;go_ret;exact⟨-1,rfl,.inr ⟨rfl,d.out⟩,r⟩
def ml(f:Nd)(o:f.p.size<=3)(xs:List Nd)(n:Nat)(t:n<=xs.length)(b:∀y∈xs.take n,y.p.size<=3)(A:Option Addr)(c g:Nat)(w:World)(m d:Nat)(h:my w m d xs [.slice A xs.length c])(r:d<=w.heap.size)(s:w.cell? ⟨g,0,none⟩=some (.string f.p)) :
  Calls (aj β) 117 #[.slice A n c,.func (.func 118) #[] #[.pointer (some ⟨g,0,none⟩)]] w λe p=>∃q:Bool,e=.returned (.bool q)/\((q=true/\∃k y,k<n/\xs[k]?=some y/\ot y.p f.p=true)\/(q=false/\∀k y,k<n->xs[k]?=some y->ot y.p f.p=false))/\Below w.heap.size w p:=by
 replace b:=ab b;go_enter yp,ntmps117;go_wp2;refine(ag4 f o xs n t b.out A c g w m d h r s).mono ?_;rintro e v ⟨j,rfl,u,l⟩;rcases u with⟨i,a⟩|⟨rfl,a⟩
 .have x:decide (0<=j)=true:=du i;replace a:=ab a;clear i;go_wp2;go_ret;exact⟨true,rfl,.inl ⟨rfl,a.out⟩,l⟩
 .replace a:=ab a;go_wp2;go_ret;exact⟨false,rfl,.inr ⟨rfl,a.out⟩,l⟩
end
section
variable {β:Bool}
open Go.RowKit
def dY(l:List ByteArray):List UInt8:=l.flatMap λs=>s.data.toList
def afJ(l:List ByteArray):(dY l).map UInt8.toNat=cH l:=by
 unfold dY cH;rw[List.map_flatMap];rfl
def jN(l:List ByteArray):∀b∈cH l,b<256:=λb a=>by
 obtain⟨s,_,a⟩:=pa.1 a;exact api b a
def anR(l:List ByteArray):(⟨(dY l).toArray⟩:ByteArray)=qE (cH l):=iZ (by
 rw[adR (jN l),<-afJ];rfl)
def aaj{l:List ByteArray}{x:ByteArray}(h:l[k]?=some x):dY (l.take (k+1))=dY (l.take k)++x.data.toList:=by
 rw[kw h];unfold dY;rw[qZ];simp
def abW:∀{l:List ByteArray},(∀s∈l,s.size<=8)->(dY l).length<=8*l.length
 |[],_=>fb _
 |x::l,h=>by
  have b:=abW (l:=l) λs a=>h s (by simp[a]);have d:=h x (by simp);show(x.data.toList++dY l).length<=_;have c:x.data.toList.length=x.size:=by rw[qH];rfl
  rw[gn,mp];omega
def dy(h:aX (bs s)):1<=s.size/\s.size<=8:=by have:=h.1;rw[aL] at this;exact this
def aql(x:ByteArray):x.data.toList.length=x.size:=by rw[qH];rfl
def aut(x:ByteArray)(l:List UInt8):Lib.byteCells l++Lib.strCells x=Lib.byteCells (l++x.data.toList):=by
 simp[Lib.byteCells,Lib.strCells]
def avN(l:List ByteArray)(z:∀s∈l,aX (bs s))(hl:l.length<=2147483647)(v:Value)(w:World)(lo W:Nat)(h:fH w lo W l [v])(aU:W<=w.heap.size) :
  Calls (aj β) 112 #[v,.string ⟨#[]⟩] w λe w'=>e=.returned (.string (qE (cH l)))/\Below w.heap.size w w':=by
 obtain⟨A,c,rfl⟩:=h.form;obtain⟨_,hc,L⟩:=h.len_;unfold maxLen at L;replace z:=ab z;rcases mx l.length 2 with I|fE
 .rcases mu l.length with N|N
  .obtain rfl:=pG.1 N;go_enter vV,ntmps112;go_wp2;exact pN (v:=.string ⟨#[]⟩) (by simp[results,results112,go_sem]) rfl ⟨rfl,dk _ _⟩
  .obtain⟨x,rfl⟩:=sI.1 (show l.length=1 by omega);obtain⟨b,p,rfl,_,_,G,H⟩:=lQ h (k:=0) rfl;rw[rI] at H;have R:qE (cH [x])=x:=by show qE (bs x++[])=x;rw[ta,auc]
   replace R:=ab R;go_enter vV,ntmps112;go_wp2;exact pN (v:=.string x) (by simp[results,results112,go_sem]) rfl ⟨by rw[R.out],dk _ _⟩
 .have t0:((l.length:Int) ==0)=false:=jp.2 (by omega);have t1:((l.length:Int) ==1)=false:=jp.2 (by omega);go_enter vV,ntmps112;go_wp2
  go_loop [5,41] (λnn E=>∃k:Nat,k<=l.length/\E=.int .i64 k/\nn=.int .i64 (dY (l.take k)).length/\(dY (l.take k)).length<=8*k) (λ_ E=>l.length-(intOf E).toNat)
  case atStart=>exact⟨0,fb _,rfl,rfl,fb _⟩
  case round=>
   obtain⟨k,hk,rfl,rfl,D⟩:=hrel;by_cases I:k<l.length
   .obtain⟨x,M⟩:=ar I;obtain⟨b,p,rfl,_,_,G,H⟩:=lQ h M;have S:=(dy (z.out x (da M))).2;have d:(dY (l.take (k+1))).length=(dY (l.take k)).length+x.size:=by rw[aaj M,gn,aql]
    have HST:=ab d;clear d M;obtain⟨n,F⟩:∃n,n=(dY (l.take k)).length:=⟨_,rfl⟩;rw[<-F] at D HST ⊢;clear F;have t3:=bv (show ¬(9223372036854775807-(n:Int)<(x.size:Int)) by omega);go_wp2
    go_round
    case rel=>exact⟨k+1,by omega,by go_num,by rw[HST.out];go_num,by rw[HST.out];omega⟩
    simp[intOf];omega
   .obtain rfl:k=l.length:=by omega
    rw[fd] at D ⊢;obtain⟨n,F⟩:∃n,n=(dY l).length:=⟨_,rfl⟩;rw[<-F] at D ⊢;have HN:=ab F;clear F;go_wp2;generalize t:w.alloc (.cells #[.pointer none,.slice none 0 0] 227)=w0;have X:w0.heap[w.heap.size]?=some (.cells #[.pointer none,.slice none 0 0] 227 (0,0)):=by
     rw[<-t];show(w.heap.push _)[w.heap.size]?=_;rw[qi]
    have B:Below w.heap.size w w0:=by rw[<-t];exact(dk _ w).alloc (ap _) _
    refine(al3 w.heap.size w.heap.size n w0 (ap _) X B.size (by omega)).mono ?_;rintro e w2 ⟨rfl,f,g⟩;replace g:=B.trans g;clear B X t;obtain⟨x,a⟩:=ar (l:=l) (k:=0) (by omega);obtain⟨b,p,rfl,_,_,G,H⟩:=lQ (fH.aK.below h g aU) a;rw[rI] at H;have S:=(dy (z.out x (da a))).2;have d:x.data.toList=dY (l.take 1):=by rw[aaj (k:=0) a];simp[dY]
    have J:1<=x.size:=(dy (z.out x (da a))).1;have T:=ab J;have r:x=l.headD ⟨#[]⟩:=by
     cases l with
     |nil=>simp at a
     |cons y m=>simp at a;rw[a];rfl
    replace r:=ab r;have HST:=ab d;clear d a J;go_wp2;refine(mW w.heap.size w.heap.size [] x w2 (.inr (.of f)) (by show 0+x.size<=_;omega) g.size).mono ?_;rintro e w3 ⟨rfl,C,q⟩;replace q:=g.trans q;have e3:([]:List Value)++Lib.strCells x=Lib.byteCells (dY (l.take 1)):=by
     have:=aut x [];rw[qX,HST.out] at this;exact this
    rw[e3] at C;clear g f e3 H HST;go_wp2;have Q:l.length-1+1=l.length:=by omega
    go_loopw [65] (λE wr=>∃k:Nat,k+1<=l.length/\E=.int .i64 k/\Lib.IsBuilderF 227 5 w.heap.size w.heap.size (Lib.byteCells (dY (l.take (k+1)))) wr/\Below w.heap.size w wr) (λE _=>l.length-(intOf E).toNat)
    case atStart=>exact⟨0,by omega,rfl,.inr C,q⟩
    case round=>
     clear C q;obtain⟨k,hk,rfl,f,j⟩:=hrel;have V:(Lib.byteCells (dY (l.take (k+1)))).length<=8*l.length:=by
      rw[qT];refine am (abW λs hs=>(dy (z.out s (qb hs))).2) ?_;rw[lm];omega
     by_cases a0:k<l.length-1
     .obtain⟨y,O⟩:=ar (l:=l) (k:=k+1) (by omega);obtain⟨b1,a2,U,_,_,a3,d0⟩:=lQ (fH.aK.below h j aU) O;simp only[lE,qa,qn] at U;obtain⟨rfl,rfl⟩:=U;rw[show p+(k+1)=p+1+k by omega] at d0;have a1:=(dy (z.out y (da O))).2;have d:=aaj O;have HST:=ab d;clear d O;go_wp2;refine(mW w.heap.size w.heap.size _ ⟨#[]⟩ wr f (by show _+0<=_;omega) j.size).mono ?_;rintro e w4 ⟨rfl,u,o⟩;replace o:=j.trans o;have Y:Lib.byteCells (dY (l.take (k+1)))++Lib.strCells ⟨#[]⟩=Lib.byteCells (dY (l.take (k+1))):=ta _;rw[Y] at u;clear f j Y;go_wp2;refine(mW w.heap.size w.heap.size _ y w4 (.inr u) (by omega) o.size).mono ?_;rintro e w5 ⟨rfl,K,i⟩;replace i:=o.trans i;rw[aut,<-HST.out] at K;clear u o;go_wp2;go_roundw
      case rel=>exact⟨k+1,by omega,by go_num,.inr K,i⟩
      simp[intOf];omega
     .obtain rfl:k=l.length-1:=by omega
      rw[Q,fd] at f;have P:dY l≠[]:=by
       intro N;have L:x.data.toList <+: dY l:=by
        obtain⟨y,m,rfl⟩:∃y m,l=y::m:=by
         cases l with
         |nil=>simp at fE
         |cons y m=>exact⟨y,m,rfl⟩
        have e:=r.out;show x.data.toList <+: _;have e:x=y:=e;rw[e];exact⟨dY m,by simp[dY]⟩
       rw[N] at L;have:=List.prefix_nil.1 L;have Z:=aql x;rw[this] at Z;have:=T.out;simp at Z;omega
      have HJ:=ab (anR l);go_wp2;refine(abM w.heap.size w.heap.size (dY l) wr f P).mono ?_;rintro e w5 ⟨rfl, -,i⟩;go_wp2;exact pN (v:=.string ⟨(dY l).toArray⟩) (by simp[results,results112,go_sem]) rfl ⟨by rw[HJ.out],j.trans i⟩
end
section
variable {β:Bool}
open Go.RowKit
def abX:Op->Bool
 |.move .. | .assign .. | .load .. | .slice .. | .buildSlice .. | .store .. =>true
 |.call c=>match c.callee with
  |.builtin .append=>true
  |_=>false
 |_=>false
def aqm{P:Program}{o:Oper}(h:abX o.op=true){ρ:Operand->Value}{i:Next}(d:(execOp ρ o).run P w=.ok i w'):(∃v,i=.value v)\/i=.skip:=by
 obtain⟨dst,op,j,k,after,g⟩:=o;cases op<;>simp only[abX,fa] at h
 case call c=>
  obtain⟨a,args,e⟩:=c;cases a with
  |value x=>cases h
  |invoke x n=>cases h
  |builtin b=>
   cases b<;>first
    |(exfalso;cases h;done)
    |(revert d
      simp only[execOp,resolve,invoke,builtin,tf,tX,ur];generalize (Sem.run P (Builtin.append_ _ _ _) w:Result _)=r;cases r with
      |ok v f=>simp only[Result.andThen];intro d;cases d;exact .inl ⟨_,rfl⟩
      |halt x f=>simp[Result.andThen])
 all_goals
  revert d;simp only[execOp,tf,tX]
 all_goals
  first
   |(intro d;cases d;exact .inl ⟨_,rfl⟩)
   |(generalize (Sem.run P _ w:Result _)=r
     cases r with
     |ok v f=>simp only[Result.andThen];intro d;cases d;first|exact .inl ⟨_,rfl⟩|exact .inr rfl
     |halt x f=>simp[Result.andThen])
section
variable {F:Fence} {m:Nat} {P:Program} {Q:Exit->Act->World->Prop} {md:Region.Mode} {ops:Array Oper}
def asT{o:Oper}{a:Act}{r:Result Next}(e:∀b c,r=.ok b c->(∃v,b=.value v)\/b=.skip)(d:∀a w,X a w->W a w)(h:o.upon P a X Q r):o.uponIn F m P a W Q r:=by
 cases r with
 |ok b c=>
  rcases e b c rfl with⟨v,rfl⟩|rfl
  .exact d _ _ h
  .exact d _ _ h
 |halt x c=>cases x<;>first|exact h|exact h.elim
def asU(k:∀f,F.fn f)(p:∀o∈ops,abX o.op=true)(n:¬LetsOut Q){i:Nat}(j:∀a w,X a w->W a w){a:Act}(h:wpOp P ops Q i X a w):wpOpIn F m P ops Q i W a w:=by
 unfold wpOp at h;unfold wpOpIn;cases e:ops[i]? with
 |none=>rw[e] at h;exact j _ _ h
 |some o=>
  rw[e] at h;have b:=p o (pS e);dsimp only at h ⊢;split
  .rename_i d;rw[dj d] at h;rcases h with h|h
   .refine⟨λf _=>k f, ?_⟩;rw[Oper.semAt_plain F _ _ (by intro c g;rw[g] at b;cases b)];exact asT (λr q l=>aqm b l) j h
   .exact absurd h.2 n
  .rename_i d;rw[bd d] at h;exact⟨λf _=>k f,j _ _ h⟩
def aiE(e:∀f,F.fn f)(d:∀o∈ops,abX o.op=true)(c:¬LetsOut Q):∀(k:Nat) (b:Array Bool) (a:Act) (w:World),wpAny P md ops Q k b a w->wpAnyIn F m P md ops Q k b a w
 |0,_,_,_,h=>h
 |k+1,b,a,w,h=>⟨h.1,λi g=>asU e d c (λa w h=>aiE e d c k _ a w h) (h.2 i g)⟩
end
section
variable {F:Fence} {m:Nat} {P:Program} {Q:Exit->Act->World->Prop} {X:Type} [Nonempty X] [aY X]
def aiF (A:∀f,F.fn f) {l:List Oper} (d:(l.all λo=>abX o.op)=true) (s:¬LetsOut Q) {j:Act} (to:X->World) (le:X->X->Prop) (k:∀x,le x x) (n:Nat) (g b:List Nat) (v:P.follows .mixedOrders=true) (z:ajB l n g b=true) (p:aeM l.toArray n j.tmps.size=true)
  (a:X) (c:∀m,m<=n->aY.live m a) (e:∀i,i<n->aY.pend i a) (t:to a=w.drew)
  (h:wpQuiet P l.toArray (λr=>∃x,r=to x) (λy=>∃u,dS P l.toArray to le (wpList P l.toArray Q (l.drop n)) (pick l b) [] u y) ((pick l g).map (·.2)) j):(Code.region Z l.toArray true).wpIn F m P Q j w:=
 wpIn_region_any v (aiE A (λo q=>ip.1 d o (by simpa using q)) s _ _ _ _ (ahC to le k n g b z p a c e t h))
def aeX (r:∀f,F.fn f) {l:List Oper} (b:(l.all λo=>abX o.op)=true) (i:¬LetsOut Q) {d:Act} (n:Nat) (c a:List Nat) (k:P.follows .mixedOrders=true) (q:ajB l n c a=true) (e:aeM l.toArray n d.tmps.size=true)
  (h:wpQuiet P l.toArray (λg=>∃x:dC w,g=x.to) (λp=>∃j:List (gV (dC w)),dS P l.toArray (dC.to (w:=w)) (dC.le (w:=w)) (wpList P l.toArray Q (l.drop n)) (pick l a) [] j p) ((pick l c).map (·.2)) d):(Code.region Z l.toArray true).wpIn F m P Q d w:=
 aiF r b i (dC.to (w:=w)) (dC.le (w:=w)) dC.le_refl n c a k q e ⟨w.drew,⟨rfl,rfl,rfl,ap _,λ_ _=>rfl⟩⟩ (λ_ _=>trivial) (λ_ _=>trivial) rfl h
end
end
section
variable {β:Bool}
open Go.RowKit Go.Shelf
attribute [local go_sem] Oper.semAt_some
def Prs(l:List Nat):Nat->List (Nat×Nat)->Nat->Prop
 |a,[],b=>a=b
 |a,x::xs,b=>a<l.length/\x=(a,mF l a)/\Prs l (mF l a) xs b
def Prs.snoc :∀{a:Nat} {c:List (Nat×Nat)} {b:Nat},Prs l a c b->b<l.length->Prs l a (c++[(b,mF l b)]) (mF l b)
 |a,[],b,h,h1=>by
  have h:a=b:=h;subst h;exact⟨h1,rfl,rfl⟩
 |a,x::c,b,⟨h2,h3,h4⟩,h1=>⟨h2,h3,h4.snoc h1⟩
def Prs.len :∀{a:Nat} {c:List (Nat×Nat)} {b:Nat},Prs l a c b->a+c.length<=b
 |a,[],b,h=>by
  have h:a=b:=h;simp;omega
 |a,x::c,b,⟨h1,_,h⟩=>by
  have:=h.len;have:=(dK h1).1;simp only[mp];omega
def Prs.ends :∀{a:Nat} {c:List (Nat×Nat)} {b:Nat},Prs l a c b->cV l a (c.map λx=>(x.2:Int)) b
 |a,[],b,h=>h
 |a,x::c,b,⟨h1,e,h⟩=>⟨h1,by rw[e],h.ends⟩
def dA(s:ByteArray)(xs:List (Nat×Nat)):List ByteArray:=xs.map λx=>s.extract x.1 x.2
def Prs.pieces  :∀{a:Nat} {c:List (Nat×Nat)} {b:Nat},Prs l a c b->dA s c=bP s a (c.map λx=>(x.2:Int))
 |a,[],b,h=>rfl
 |a,x::c,b,⟨h1,e,h⟩=>by
  show s.extract x.1 x.2::dA s c=s.extract a (x.2:Int).toNat::bP s (x.2:Int).toNat _;rw[e,rS,h.pieces]
def Prs.cut{xs:List (Nat×Nat)}(h:Prs (bs s) 0 xs s.size):dA s xs=fT s:=by
 rw[h.pieces,aml h.ends]
def vE(h:Below w.heap.size w w'):w.grownBy w' none:=⟨h.os,h.tape,h.output,h.size,λk a _=>h.block k a⟩
def anS {W : World} {B : Nat} {t e:TypeId} {v v':Value} {xs y:List Value}
  (z:Boxed W B t v) (l:t≠e) (c:W.ownsRow Z e V v k xs) (r:n₀<=W.heap.size) (x:n₀<=Z) (D:n₀<=B)
  (b:w.ownsRow Z e V v' m y) (a:W.grownBy w v.ownBlock) :
  Boxed w B t v/\Boxed (w.setCell ⟨B,0,none⟩ v') B t v'/\(w.setCell ⟨B,0,none⟩ v').ownsRow Z e V v' m y/\KeepsOthers W (w.setCell ⟨B,0,none⟩ v')/\Below n₀ W (w.setCell ⟨B,0,none⟩ v')/\(∀k,k<Z->k<W.heap.size->k≠B->(w.setCell ⟨B,0,none⟩ v').heap[k]?=W.heap[k]?):=by
 have f:Boxed w B t v:=z.kept a (z.not_row l c);have i:∀j,v.ownBlock=some j->Z<=j:=λj d=>by
  rcases c.2 with⟨rfl,_⟩|⟨g,cap,s,rfl,C,_,_⟩
  .simp[Value.ownBlock] at d
  .obtain rfl:g=j:=by simpa[Value.ownBlock] using d
   exact C
 refine⟨f,f.set v',b.kept (grownBy_setCell' w B v') (.inr (f.not_row l b).symm), ?_, ?_, ?_⟩
 .refine(uN a λj o d A=> ?_).trans (KeepsOthers.setCell _ _ _);rcases c.2 with⟨rfl,_⟩|⟨g,cap,s,rfl,_,u,_⟩
  .simp[Value.ownBlock] at d
  .obtain rfl:g=j:=by simpa[Value.ownBlock] using d
   rw[u] at A;cases A;rfl
 .exact((dk n₀ W).grown a r λj d=>am x (i j d)).setCell (p:=⟨B,0,none⟩) D v'
 .intro k E q n;exact(nF _ _ _ k n).trans (a.block k q λd=>by have:=i k d.symm;omega)
def anT{v:Value}(h:jm (λb=>v.ownBlock=some b) w w'):w.grownBy w' v.ownBlock:=⟨h.os,h.tape,h.output,h.size,λk c a=>h.block k c λe=>a e.symm⟩
structure PrC (n:Nat) where
 p:Nat×Nat
 le:p.1<=p.2/\p.2<=n
abbrev avP{n:Nat}(x:PrC n):Array Value:=#[.int .i64 x.p.1,.int .i64 x.p.2]
abbrev kL{n:Nat}(xs:List (PrC n)):List (Nat×Nat):=xs.map PrC.p
def aqo (n:Nat) (hn:2<=n) (l o n₀:Nat) (s:ByteArray) (V:s.size<=1000000) (J L:List (PrC s.size)->World->Prop) (W:World) (U:AbidesFrom W.heap.size J)
  (R:∀b x W,J b W->b.length<s.size->YieldAt Fence.wide (n-1) (aj β) l (avP x) W λe W'=>
   (e=.returned (.bool true)/\J (b++[x]) W'/\KpB n₀ o W W')\/(e=.returned (.bool false)/\L (b++[x]) W'))
  (t:Boxed W o 9 (.string s)) (P:n₀<=W.heap.size) (O:J [] W) :
  CallsIn Fence.wide n (aj β) 200 #[.func (.yield l) #[] #[],.pointer (some ⟨o,0,none⟩)] W λe W'=>(∃v,e=.returned v)/\
   ((∃N,Prs (bs s) 0 (kL N) s.size/\J N W')\/(∃b,(∃m,Prs (bs s) 0 (kL b) m)/\L b W')):=by
 refine callsIn_of_wp wB rfl trivial ?_ rfl;simp only[ntmps200,tC,mp,qr,Nat.reduceAdd,Nat.reduceSub,ub,ua,ut,ug,qX,qu];have Z:=t.lt;have T:Fence.wide.fn 201:=trivial;have Y:1<=n:=by omega
 gi_wp2
 gi_loopw [3] (λi wr=>∃(k:Nat) (f:List (PrC s.size)),k<=s.size/\i=.int .i64 k/\Prs (bs s) 0 (kL f) k/\J f wr/\KpB n₀ o W wr/\W.heap.size<=wr.heap.size) (λi _=>s.size-(intOf i).toNat)
 case atStart=>exact⟨0,[],fb _,rfl,rfl,O,KpB.refl,ap _⟩
 case round=>
  obtain⟨k,f,hk,rfl,B,j,I,S⟩:=hrel;have q:Boxed wr o 9 (.string s):=I.2.trans t;have D:=q.cell;by_cases g:k<s.size
  .gi_wp2_with (gi_at_call 201;refine(callsIn_wide.2 (asP s k g V wr)).mono ?_;rintro e y ⟨rfl,z⟩)
   have p:J f y:=U f wr y none j (vE z) (λr e=>by cases e);have C:KpB n₀ o W y:=I.t ⟨z.mono (by omega),z.block o (by omega)⟩;have Q:=z.size;have w:=B.snoc (by rw[aL];exact g);have F:=dK (l:=bs s) (a:=k) (by rw[aL];exact g);rw[aL] at F;obtain⟨fn,M,A,K,H,X⟩:=R f ⟨(k,mF (bs s) k),by show k<=mF (bs s) k/\mF (bs s) k<=s.size;omega⟩ y p (by have:=B.len;rw[pr] at this;omega);dsimp only[avP] at H;rw[H];have d:Prs (bs s) 0 (kL (f++[⟨(k,mF (bs s) k),by show k<=mF (bs s) k/\mF (bs s) k<=s.size;omega⟩])) (mF (bs s) k):=by
    show Prs (bs s) 0 (List.map PrC.p (f++_)) _;rw[pI];exact w
   replace d:=ab d;clear w p j B H I q D;gi_wp2;refine X.mono ?_;rintro e W3 (⟨rfl,G,u⟩|⟨rfl,E⟩)
   .gi_wp2;go_roundw
    case rel=>exact⟨mF (bs s) k,_,by omega,rfl,d.out,G,C.t u,by have:=u.1.size;omega⟩
    simp[intOf];omega
   .gi_wp2;refine pN (results_none rfl _ _ _) rfl ?_;exact⟨⟨_,rfl⟩,.inr ⟨_,⟨_,d.out⟩,E⟩⟩
  .obtain rfl:k=s.size:=by omega
   gi_wp2
   go_end0
   exact⟨⟨_,rfl⟩,.inl ⟨_,B,j⟩⟩
def akS(n:Nat)(k:2<=n)(a n₀:Nat)(s:ByteArray)(i:s.size<=1000000)(w:World)(b:a<w.heap.size)(c:n₀<=w.heap.size)(p:Boxed w a 9 (.string s)) :
  SeqStopsK Fence.wide n (aj β) 200 #[.pointer (some ⟨a,0,none⟩)] avP (KpB n₀ a) (λo:List (PrC s.size)=>Prs (bs s) 0 (kL o) s.size) (λd=>∃m,Prs (bs s) 0 (kL d) m) s.size w:=λl J j W e f _ q g=>
 aqo n k l a n₀ s i J j W f q ((e.block a b).trans p) (am c e.size) g
def asV(n:Nat)(s:ByteArray)(w:World) :
  CallsIn Fence.wide n (aj β) 173 #[.string s] w λe a=>e=.returned (.func (.func 200) #[] #[.pointer (some ⟨w.heap.size,0,none⟩)])/\a=w.alloc (.cells #[.string s] 9):=by
 refine callsIn_of_wp xY rfl trivial ?_ rfl;simp only[ntmps173,tC,mp,qr,Nat.reduceAdd,Nat.reduceSub,ub,ua,ut,ug,qX,qu];gi_wp2;go_ret;exact⟨rfl,rfl⟩
def anU(n:Nat)(hn:6<=n)(s:ByteArray)(E:dW s=true)(w:World) :
  CallsIn Fence.wide n (aj β) 115 #[.string s] w λe W'=>∃v,e=.returned v/\aQ mv 9 W' w.heap.size v (fT s)/\Below w.heap.size w W':=by
 have h1:1<=n:=by omega
 have al:Fence.wide.fn 113:=trivial;have aU:Fence.wide.fn 173:=trivial;have an:s.size<=40:=by unfold dW at E;rw[eg] at E;exact tz E.1
 have H:s.size<=maxLen:=by unfold maxLen;omega
 have HS:=ab E;clear E;replace H:=ab H;refine callsIn_of_wp_marks yr rfl trivial ?_ rfl;simp only[ntmps115,tC,mp,qr,Nat.reduceAdd,Nat.reduceSub,ub,ua,ut,ug,qX,qu]
 gi_wp2_with (first|(gi_at_call 113;refine(callsIn_wide.2 (kZ s H.out _)).mono ?_;rintro e w' ⟨rfl,rfl⟩;rw[HS.out])|(gi_at_call 173;refine(asV (n-1) s _).mono ?_;rintro e w' ⟨rfl,rfl⟩))
 have bS:=((Boxed.new w 9 (.string s)).alloc (.cells #[.slice none 0 0] 117)).alloc (.cells #[.string s] 9);have bO:=(Boxed.new (w.alloc (.cells #[.string s] 9)) 117 (.slice none 0 0)).alloc (.cells #[.string s] 9);have Z:=Boxed.new ((w.alloc (.cells #[.string s] 9)).alloc (.cells #[.slice none 0 0] 117)) 9 (.string s);simp only[oS] at bO Z;have P:Below w.heap.size w (((w.alloc (.cells #[.string s] 9)).alloc (.cells #[.slice none 0 0] 117)).alloc (.cells #[.string s] 9)):=(((dk _ w).alloc (ap _) _).alloc (by simp) _).alloc (by simp;omega) _;have hz:(((w.alloc (.cells #[.string s] 9)).alloc (.cells #[.slice none 0 0] 117)).alloc (.cells #[.string s] 9)).heap.size=w.heap.size+3:=by simp
 obtain⟨W0,N⟩:∃W0,((w.alloc (.cells #[.string s] 9)).alloc (.cells #[.slice none 0 0] 117)).alloc (.cells #[.string s] 9)=W0:=⟨_,rfl⟩;try simp only[oS]
 rw[N] at bS bO Z P hz ⊢;clear N;refine wpIn_rangeFunc_ownH rfl h1 (gf:=200) (lb:=#[.pointer (some ⟨w.heap.size+1+1,0,none⟩)]) rfl trivial (enters_of wB (by kernel_rfl) rfl)
  (akS (n-1) (by omega) (w.heap.size+1+1) w.heap.size s (by omega) W0 (by omega) (by omega) Z) KpB.t
  (λW l o o' hl h hc hw=>⟨belowK_b (w:=w) (ap _) W l o o' (by omega) h hc hw,World.putObj_heap_other (by omega)⟩) (dk _ _) (λ_=>rfl)
  (λb W=>(((∃v,Boxed W (w.heap.size+1) 117 v/\W.ownsRow W0.heap.size 9 1 v b.length (dt mv (dA s (kL b)))/\True)/\Boxed W w.heap.size 9 (.string s))/\Boxed W (w.heap.size+1+1) 9 (.string s))/\Below w.heap.size w W)
  (λ_ _ _=>False)
  (OwnFrom.and (OwnFrom.and (OwnFrom.and (Own.from (holdsRow_own W0.heap.size (w.heap.size+1) 117 9 1 (λb:List (PrC s.size)=>b.length) (λb=>dt mv (dA s (kL b))) (λ_ _=>True)) _) (Own.from (boxed_own _ _ _) _)) (Own.from (boxed_own _ _ _) _)) (ownFrom_below (ap _) (by omega)))
  (λ_ _ _ _ _ E _ _=>E)
  ⟨⟨⟨⟨_,bO,uq _ _ _ _,trivial⟩,bS⟩,Z⟩,P⟩
  (λx a' W=>a'={tmps:=#[.string s,.pointer (some ⟨w.heap.size,0,none⟩),.slice none 0 0,.pointer (some ⟨w.heap.size+1,0,none⟩),.int .i64 x.p.1,.int .i64 x.p.2,.string s,.bool true,.bool false,.string s,.func (.func 200) #[] #[.pointer (some ⟨w.heap.size+1+1,0,none⟩)],.int .i64 x.p.1,.int .i64 x.p.2,undef,undef,undef,undef,undef,undef,undef,undef],defers:=[]})
  (λx a' _ X Y ao E hg hr=>E)
  ?assign ?body ?done ?stop
 case assign=>
  rintro l b x W K ⟨⟨⟨⟨v,f,d, -⟩,t⟩,u⟩,i⟩ Q;gi_wp2;exact Q _ _ ((KeepsOthers.refl _).from _) KpB.refl ⟨⟨⟨⟨v,f,d,trivial⟩,t⟩,u⟩,i⟩ rfl
 case body=>
  rintro l b x a' W hl ⟨r,hr⟩ ⟨⟨⟨⟨v,f,d, -⟩,t⟩,u⟩,i⟩ rfl av;obtain⟨⟨B,z⟩,m,q⟩:=x;dsimp only at m q ⊢;have a3:dA s (kL (b++[⟨(B,z),m,q⟩]))=dA s (kL b)++[s.extract B z]:=by simp[dA,kL]
  have cO:W.cell? ⟨w.heap.size+1,0,none⟩=some v:=f.cell;have cS:W.cell? ⟨w.heap.size,0,none⟩=some (.string s):=t.cell;have I:=ac3 (β:=β);have a2:=i.size;gi_wp2;have aF:=ah cO;have aI:=ah cS;refine aeX (λ_=>trivial) (by kernel_rfl) (by rintro⟨a,w,h⟩;exact h) 6 [0,1,2,3,4] [5] I (by kernel_rfl) (by kernel_rfl) ?_;simp only[pick,List.map,qF,qG];repeat(go_big_quiet_step (fail))
  refine ge ?_;clear aF aI;apply Exists.intro;apply ahD (ajC W.heap.size 9 #[.string (s.extract B z)])
  .rfl
  .exact λv x y h ad=>h.keep ad
  .intro x _ Qx hQ;go_wp2;exact hQ _ _ (aJ _ _) (ajC.new _ _ _ x.ok.size)
  intro v5;refine jC ?_;intro w2 p xx S hF;dsimp only[abI] at hF;try rw[S] at hF
  clear S xx;obtain⟨⟨g,rfl,hg,a4⟩, -⟩:=hF;simp only[List.drop];have aT:=p.size;have ay:l<W.heap.size:=(db.1 hr).1;have L:=adE d p;have a7:Boxed w2 (w.heap.size+1) 117 v:=(p.block _ f.lt).trans f;obtain⟨A,c,rfl⟩:=kW d;refine afh (F:=mv) (base:=W0.heap.size) (v:=.slice A b.length c) (xs:=dA s (kL b)) rfl (.tmp 13) (.tmp 18) 117 rfl aa8 (s.extract B z) rfl (by unfold aQ;rw[show(dA s (kL b)).length=b.length from by simp[dA,kL]];exact L) rfl a4 rfl (by rw[show(dA s (kL b)).length=b.length from by simp[dA,kL]];omega) (by omega) ?_;intro v3 w3 V a8 af;have aP:(dA s (kL b)++[s.extract B z]).length=(b++[(⟨(B,z),m,q⟩:PrC s.size)]).length:=by simp[dA,kL]
  unfold aQ at V;rw[<-a3,show(dA s (kL (b++[⟨(B,z),m,q⟩]))).length=(b++[(⟨(B,z),m,q⟩:PrC s.size)]).length from by simp[dA,kL]] at V;obtain⟨U,T,R,M,a9,a6⟩:=anS (W:=w2) (n₀:=w.heap.size) a7 (by decide) L (by omega) (by omega) (by omega) V (anT a8);have aV:=U.cell;have ax:=U.frozen;obtain⟨A3,c3,rfl⟩:=kW V;go_wp2;have aa:KeepsOthers W w2:=uN (vE p) λj o ej _=>by cases ej
  have C:∀k,k<W0.heap.size->k≠w.heap.size+1->(w3.setCell ⟨w.heap.size+1,0,none⟩ (.slice A3 (b++[(⟨(B,z),m,q⟩:PrC s.size)]).length c3)).heap[k]?=W.heap[k]?:=λk hk a0=>(a6 k hk (by omega) a0).trans (p.block k (by omega));have J:=(p.mono a2).trans a9;simp only[gn,mp,qr,pb] at T R M C J;refine⟨(aa.trans M).from _,⟨J,C _ (by omega) (by omega)⟩,⟨⟨⟨_,T, ?_,trivial⟩,(C _ (by omega) (by omega)).trans t⟩,(C _ (by omega) (by omega)).trans u⟩,i.trans J⟩;simp only[gn,mp,qr,pb];exact R
 case done=>
  rintro D zs W hD a5 ⟨⟨⟨⟨v,f,d, -⟩,t⟩,u⟩,i⟩ Q;have cO:=f.cell;obtain⟨A,c,rfl⟩:=kW d;gi_wp2;refine⟨by simp,.inl ⟨_,_,rfl,run_takeDeferred Q, ?_⟩⟩;have a1:=belowK_b (w:=w) (ap _) W D _ (.deferred none) (by omega) Q rfl rfl;have G:=a5.cut;have O:(fT s).length=zs.length:=by rw[<-G];simp[dA,kL]
  refine⟨_,results_tmp rfl _ _ _,_,rfl, ?_,i.trans a1⟩;have:=ownsRow_putObj d (.deferred none) Q rfl;unfold aQ;rw[O,<-G];exact ahG this (by omega)
 case stop=>
  rintro D c b W _ _ h _;exact h.elim
def aqp(s:ByteArray)(a:dW s=true)(w:World) :
  Calls (aj β) 115 #[.string s] w λe W'=>∃v,e=.returned v/\aQ mv 9 W' w.heap.size v (fT s)/\Below w.heap.size w W':=
 callsIn_wide.1 (anU 6 (ap _) s a w)
end
section
variable {β:Bool}
open Go.RowKit
def afK{l:List ByteArray}(a:dW (qE (cH l))=true)(b:fT (qE (cH l))=l):eE l=(qE (cH l),true):=by unfold eE;rw[dj ⟨a,b⟩]
def aeu{l:List ByteArray}(h:¬(dW (qE (cH l))=true/\fT (qE (cH l))=l)):eE l=(⟨#[]⟩,false):=by unfold eE;rw[bd h]
def amt(l:List ByteArray)(b:∀s∈l,aX (bs s)):(qE (cH l)).size<=8*l.length:=by
 rw[<-aL,adR (jN l),<-afJ,pr];exact abW λs a=>(dy (b s a)).2
def anV(l:List ByteArray)(p:∀s∈l,aX (bs s))(K:l.length<=2147483647)(v:Value)(w:World)(y j:Nat)(h:fH w y j l [v])(A:j<=w.heap.size) :
  Calls (aj β) 68 #[v] w λe E=>e=.returned (.tuple #[.string (eE l).1,.bool (eE l).2])/\Below w.heap.size w E:=by
 have o:=amt l p;have f:(qE (cH l)).size<=maxLen:=by unfold maxLen;omega
 have t:=ab (λI F=>afK (l:=l) I F);have i:=ab (aeu (l:=l));have z:=ab (avN (β:=β) l p K v w y j h A);clear p;generalize qE (cH l)=s at t i z o f;generalize eE l=r at t i ⊢;go_enter yP,ntmps68;go_wp2;refine z.out.mono ?_;rintro e C ⟨rfl,g⟩;go_wp2;refine(kZ (β:=β) s f _).mono ?_;rintro e P ⟨rfl,rfl⟩;by_cases a:dW s=true
 .rw[a];go_wp2;refine(aqp (β:=β) s a _).mono ?_;rintro e O ⟨G,rfl,J,m⟩;have n:∀x∈fT s,x.size<=maxLen:=λx k=>by have:=(dy (lT (gj a).2 x k)).2;unfold maxLen;omega
  have D:=adM.sl (aQ.deep J n C.heap.size) (ap _);have H:=m.size;have B:=g.size;have M:=fH.aK.below h (g.trans (m.mono B)) A;obtain⟨q,d⟩:∃q:Bool,q=true↔fT s=l:=by
   by_cases k:fT s=l
   .exact⟨true,by simp[k]⟩
   .exact⟨false,by simp[k]⟩
  replace d:=ab d;go_wp2;refine(akR (β:=β) (fT s) l G v _ _ _ y j D M (ap _) (by omega) q d.out).mono ?_;rintro e N ⟨rfl,L⟩;have c:=g.trans ((m.mono B).trans (L.mono (by omega)));cases q with
  |true=>
   have b:=t.out a (d.out.1 rfl);go_wp2;go_ret2;exact⟨by rw[b];rfl,c⟩
  |false=>
   have b:=i.out λu=>by have:=d.out.2 u.2;cases this
   go_wp2;go_ret2;exact⟨by rw[b];rfl,c⟩
 .have b:=i.out λu=>a u.1;rw[uu.2 a];go_wp2;go_ret2;exact⟨by rw[b];rfl,g⟩
end
section
variable {β:Bool}
open Go.RowKit
def aqq(t:List Nd)(i:Nat)(x:Nd):Prop:=agT x/\(∀y,0<i->t[i-1]?=some y->Op.bytesLess y.p.toList x.p.toList=true)/\∀k y,k<i->t[k]?=some y->ot y.p x.p=false
def ac6(h:fG s=true):s.size<=3:=by rcases lO h with h|h<;>omega
def aqr(xs:List Nd)(v:Value)(w:World)(lo f:Nat)(h:my w lo f xs [v])(W:f<=w.heap.size)(q:Bool)(r:q=true↔afx xs) :
  Calls (aj β) 69 #[v] w λe w'=>e=.returned (.bool q)/\Below w.heap.size w w':=by
 have M:=ab r;clear r;obtain⟨A,c,rfl⟩:=h.form;obtain⟨_,hc,hx⟩:=h.1.len_;unfold maxLen at hx;go_enter yO,ntmps69;go_wp2;go_loopw [7] (λii wr=>∃k:Nat,k<=xs.length/\ii=.int .i64 k/\(∀i x,i<k->xs[i]?=some x->aqq xs i x)/\Below w.heap.size w wr) (λii _=>xs.length-(intOf ii).toNat)
 case atStart=>exact⟨0,fb _,rfl,λi x f=>absurd f (rN i),dk _ _⟩
 case round=>
  obtain⟨k,hk,rfl,n,hb⟩:=hrel;replace n:=ab n;by_cases E:k<xs.length
  .obtain⟨x,H⟩:=ar E;obtain⟨b0,a6,rfl,_,a5,K,c0,c1⟩:=aei (my.aK.below h hb W) H;replace H:=ab H;go_wp2;have kb:=gK.new wr 122 #[.string x.p,.string x.b];have ba:=aJ wr (.cells #[.string x.p,.string x.b] 122);have a3:wr.heap.size+1=(wr.alloc (.cells #[.string x.p,.string x.b] 122)).heap.size:=by simp
   generalize wr.alloc (.cells #[.string x.p,.string x.b] 122)=wf at *;have l:wf.cell? ⟨wr.heap.size,0,none⟩=some (.string x.p):=kb.cell 0;have C:wf.cell? ⟨wr.heap.size,1,none⟩=some (.string x.b):=kb.cell 1;have V:=ae hb ba;clear kb c0 c1;cases a:fG x.p
   .replace a:=ab a;have d:q=false:=by
     rw[<-be,M.out];rintro⟨-,h⟩;replace h:=h _ _ H.out;have h:=h.1.1;rw[a.out] at h;cases h
    have s:=ab d;clear d;have J:=ah l;have I:=ah C;refine aA (by kernel_rfl) (by kernel_rfl) ?_;repeat(go_big_quiet_step (first|(go_at_call 116;refine aO (v:=.bool false) ?_;rw[<-a.out];exact nz (β:=β) x.p K.1 _)))
    refine ge ?_;intro wq p;have r:=aG p;clear p J I;go_wp2;go_ret;exact⟨ak s.out.symm,ae V r⟩
   .replace a:=ab a;cases b:dW x.b
    .replace b:=ab b;have d:q=false:=by
      rw[<-be,M.out];rintro⟨-,h⟩;replace h:=h _ _ H.out;have h:=h.1.2;rw[b.out] at h;cases h
     have s:=ab d;clear d;have J:=ah l;have I:=ah C;refine aA (by kernel_rfl) (by kernel_rfl) ?_;repeat(go_big_quiet_step (first|(go_at_call 116;refine aO (v:=.bool true) ?_;rw[<-a.out];exact nz (β:=β) x.p K.1 _)|(go_at_call 113;refine cX (v:=.bool false) ?_;rw[<-b.out];exact kZ (β:=β) x.b K.2 _)))
     refine ge ?_;intro wq p;have r:=aG p;clear p J I;go_wp2;go_ret;exact⟨ak s.out.symm,ae V r⟩
    .replace b:=ab b;by_cases a2:k=0
     .have t1:=bv (show ¬(0<k) by omega);have Y:agT x/\∀y,0<k->xs[k-1]?=some y->Op.bytesLess y.p.toList x.p.toList=true:=⟨⟨a.out,b.out⟩,λy h0=>by omega⟩;have Z:=ab Y;clear Y;clear a2;have J:=ah l;have I:=ah C;refine aA (by kernel_rfl) (by kernel_rfl) ?_;repeat(go_big_quiet_step (first|(go_at_call 116;refine aO (v:=.bool true) ?_;rw[<-a.out];exact nz (β:=β) x.p K.1 _)|(go_at_call 113;refine cX (v:=.bool true) ?_;rw[<-b.out];exact kZ (β:=β) x.b K.2 _)))
      refine ge ?_;intro wq p;have r:=aG p;clear p J I;have F:∀y∈xs.take k,y.p.size<=3:=λy g=>by
       obtain⟨i,f⟩:=qk.1 g;rw[qA] at f;split at f
       .rename_i T;exact ac6 (n.out i y T f).1.1
       .cases f
      have R:=ab F;clear F;have cz:=nK r l;have o:=ae V r;have S:=ac6 a.out;go_wp2;refine(ml (β:=β) x S xs k hk R.out _ c wr.heap.size _ lo f (my.aK.below h o W) (am W o.size) cz).mono ?_;rintro e w4 ⟨q4,rfl,Q,b4⟩;have t:=ae o b4;rcases Q with⟨rfl,j,y,P,g,L⟩|⟨rfl,D⟩
      .have HY:=ab g;replace L:=ab L;clear g;have d:q=false:=by
        rw[<-be,M.out];rintro⟨-,h⟩;replace h:=h _ _ H.out;have h:=h.2.2 j y P HY.out;rw[L.out] at h;cases h
       have s:=ab d;clear d;go_wp2;go_ret;exact⟨ak s.out.symm,t⟩
      .have u:∀i z,i<k+1->xs[i]?=some z->aqq xs i z:=λi z f N=>by
        rcases mx i k with E|fE
        .exact n.out i z E N
        .obtain rfl:i=k:=by omega
         rw[H.out] at N;cases N;exact⟨Z.out.1,Z.out.2,λj y P g=>D j y P g⟩
       have O:=ab u;clear u D;go_wp2;go_roundw
       case rel=>exact⟨k+1,by omega,by go_num,O.out,t⟩
       simp[intOf];omega
     .obtain⟨k',nJ⟩:∃m,m=k-1:=⟨_,rfl⟩;have e1:(k:Int)-1=((k':Nat):Int):=by omega
      have a1:k'<xs.length:=by omega
      have t1:=du (show 0<k by omega);obtain⟨z,G⟩:=ar a1;obtain⟨b1,a4,e0,_,_,a7,d0,_⟩:=aei (my.aK.below h V W) G;simp only[lE,qa,qn] at e0;obtain⟨rfl,rfl⟩:=e0;replace G:=ab G;have X:=ab nJ;have a0:0<k:=by omega
      clear nJ;cases B:Op.bytesLess z.p.toList x.p.toList
      .have U:=ab B;have tr:=kK x.p.toList z.p.toList;rw[B,Bool.not_false] at tr;have d:q=false:=by
        rw[<-be,M.out];rintro⟨-,h⟩;replace h:=h _ _ H.out;have h:=h.2.1 z a0 (by rw[<-X.out];exact G.out);rw[U.out] at h;cases h
       have s:=ab d;clear d;have J:=ah l;have I:=ah C;have aV:=ah d0;refine aA (by kernel_rfl) (by kernel_rfl) ?_;repeat(go_big_quiet_step (first|(go_at_call 116;refine aO (v:=.bool true) ?_;rw[<-a.out];exact nz (β:=β) x.p K.1 _)|(go_at_call 113;refine cX (v:=.bool true) ?_;rw[<-b.out];exact kZ (β:=β) x.b K.2 _)))
       refine ge ?_;intro wq p;have r:=aG p;clear p J I aV;go_wp2;go_ret;exact⟨ak s.out.symm,ae V r⟩
      .have U:=ab B;have tr:=kK x.p.toList z.p.toList;rw[B,un] at tr;have Y:agT x/\∀y,0<k->xs[k-1]?=some y->Op.bytesLess y.p.toList x.p.toList=true:=⟨⟨a.out,b.out⟩,λy h0 g=>by
        rw[<-X.out,G.out] at g;cases g;exact U.out⟩
       have Z:=ab Y;clear Y;have J:=ah l;have I:=ah C;have aV:=ah d0;refine aA (by kernel_rfl) (by kernel_rfl) ?_;repeat(go_big_quiet_step (first|(go_at_call 116;refine aO (v:=.bool true) ?_;rw[<-a.out];exact nz (β:=β) x.p K.1 _)|(go_at_call 113;refine cX (v:=.bool true) ?_;rw[<-b.out];exact kZ (β:=β) x.b K.2 _)))
       refine ge ?_;intro wq p;have r:=aG p;clear p J I aV;clear d0 B e1 tr;have F:∀y∈xs.take k,y.p.size<=3:=λy g=>by
        obtain⟨i,f⟩:=qk.1 g;rw[qA] at f;split at f
        .rename_i T;exact ac6 (n.out i y T f).1.1
        .cases f
       have R:=ab F;clear F;have cz:=nK r l;have o:=ae V r;have S:=ac6 a.out;go_wp2;refine(ml (β:=β) x S xs k hk R.out _ c wr.heap.size _ lo f (my.aK.below h o W) (am W o.size) cz).mono ?_;rintro e w4 ⟨q4,rfl,Q,b4⟩;have t:=ae o b4;rcases Q with⟨rfl,j,y,P,g,L⟩|⟨rfl,D⟩
       .have HY:=ab g;replace L:=ab L;clear g;have d:q=false:=by
         rw[<-be,M.out];rintro⟨-,h⟩;replace h:=h _ _ H.out;have h:=h.2.2 j y P HY.out;rw[L.out] at h;cases h
        have s:=ab d;clear d;go_wp2;go_ret;exact⟨ak s.out.symm,t⟩
       .have u:∀i z,i<k+1->xs[i]?=some z->aqq xs i z:=λi z f N=>by
         rcases mx i k with E|fE
         .exact n.out i z E N
         .obtain rfl:i=k:=by omega
          rw[H.out] at N;cases N;exact⟨Z.out.1,Z.out.2,λj y P g=>D j y P g⟩
        have O:=ab u;clear u D;go_wp2;go_roundw
        case rel=>exact⟨k+1,by omega,by go_num,O.out,t⟩
        simp[intOf];omega
  .obtain rfl:k=xs.length:=by omega
   by_cases h6:xs.length<=6
   .have t1:=du (show(xs.length:Int)<=6 by omega);have d:q=true:=M.out.2 ⟨h6,λi x hx=>n.out i x (aH hx) hx⟩;have s:=ab d;clear d;go_wp2;go_ret;exact⟨ak s.out.symm,hb⟩
   .have t1:=bv (show ¬((xs.length:Int)<=6) by omega);have d:q=false:=by
     rw[<-be,M.out];rintro⟨h, -⟩;exact h6 h
    have s:=ab d;clear d;go_wp2;go_ret;exact⟨ak s.out.symm,hb⟩
end
section
variable {β:Bool}
open Go.RowKit
noncomputable def xFA:Func:=by
 apply(λ(x:Func) (_:{f67 with body:=some iV}=x)=>x)
 case x=>dsimp only[iV,pg,arJ,atI,atJ,atK,atM,atN,atO,atP,atQ,atS,atX,awE,atT,atU,atV,atW,aoS,aoT,aoU,alE,aht,ab4,atY,atZ,ahr,ahs,fY,pj,arK,arL,arM,aoR,arN,am4,kOp,pq,po,kE,cD,cB,bR,f67,Option.getD,List.map]
def avQ:qFA true=xFA:=by kernel_rfl
def aqs:(aj true).funcs[67]?=some xFA:=(abB true).trans (ef some avQ)
@[go_sem] theorem axA(args:Array Value)(w:World):(callFunc 67 args).run (aj true) w=.ok (.enter 67 args) w:=by
 have a:=cu func67;exact jA aqs a rfl args w
end
end Go.Proofs.YtlggbfanooejbaaGreatDoor