/- A part. -/
import Derived.Test.YtgjaikdifcbnkaaGreatDoorG6
import Derived.Lib.IndexLaws
import Derived.Lib.Bytealg
import Derived.RangeFuncNested
import Derived.RangeFuncBound
import Derived.RangeFuncCalls
import Derived.RangeFuncLeaves
import Derived.Shelf.Abstract
import Derived.Shelf.RegionOpen
import Derived.OwnWalkIn
import Derived.TacticsInMore
import Derived.LoopNIn
import Derived.LoopIn
import Derived.OrdersIn
import Derived.Laws.BytesString
set_option maxRecDepth 100000
set_option maxHeartbeats 8000000
set_option linter.all false
open Go Go.RowKit Go.Proofs.Tryz Go.Proofs.YtgjaikdifcbnkaaGreatDoor
variable {x:Ls} {Z W c hi k n n₀:Nat} {key:Int} {w w':World} {l l':List iR} {xs:List Ls} {dH:List Int} {s:ByteArray} {A:Option Addr} {Y X:Act→World→Prop}
namespace Go.Proofs.YtgjaikdifcbnkaaGreatDoor
def rc:=@List.length_eq_zero_iff
def sg:=@List.find?_cons
def so:=@Array.replicate_zero
def sq:=@Array.replicate_succ
def sH:=@List.append_toArray
def sN:=@Go.RowKit.Below.alloc
def tc:=@List.push_toArray
def tq:=@beq_self_eq_true
def um:=@Go.World.putObj_heap_other
def uq:=@List.getElem?_cons_zero
def uy:=@List.length_eq_one_iff
def uV:=@Int.mul_le_mul_of_nonneg_left
def uZ:=@Go.OwnFrom.and
def vm:=@Go.callsIn_of_wp
def vW:=@Go.KeepsOthers.of_grownBy
def wi:=@Int.emod_add_mul_ediv
def wv:=@List.mem_of_getLast?
def wF:=@List.mem_map_of_mem
def wH:=@List.filterMap_cons
def wI:=@Go.KeepsOthers.setCell
section
variable {β:Bool}
open Go.RowKit
def gh(l:List Pk):Int:=((l.getLast?).map (·.no)).getD 0+1
def gj(l:List Hd):Int:=l.foldl (λa h=>max a (h.s+1)) 1
def fB(s:dJ):Int:=match s.sn.getLast? with|some x=>max (gj s.lg) (x.no+1)|none=>gj s.lg
def alM{l:List Hd}{h:Hd}(a:l[k]?=some h):gj (l.take (k+1))=max (gj (l.take k)) (h.s+1):=by
 unfold gj;rw[li a,tf];rfl
def ajx{l:List Hd}{b:Int}(d:1<=b)(h:∀x∈l,x.s+1<=b):1<=gj l/\gj l<=b:=by
 induction l using aae with
 |h0=>exact⟨vg _,d⟩
 |h1 l x a=>
  have e:gj (l++[x])=max (gj l) (x.s+1):=by unfold gj;rw[tf];rfl
  have:=a λy c=>h y (by simp[c]);have:=h x (by simp);rw[e];omega
def ayo(m x:Int):(if m<x then x else m)=max m x:=by rw[Int.max_def];split<;>split<;>omega
def wS{b:Type}{l:List b}(h:0<l.length):∃x,l[l.length-1]?=some x/\l.getLast?=some x:=by
 obtain⟨x,a⟩:=aq (show l.length-1<l.length by omega);exact⟨x,a,by rw[List.getLast?_eq_getElem?,a]⟩
def alN(b:Int)(s:dJ):Prop:=(∀p∈s.pk,p.no<=b)/\(∀x∈s.sn,x.no<=b)/\∀h∈s.lg,h.s<=b
def ajy(s:dJ)(u:alN 1000000 s)(va vb vc:Value)(w:World)(lo hi:Nat)(h:fL w lo hi s va vb vc)(aR:hi<=w.heap.size) :
  Calls (ai β) 62 #[.agg #[va,vb,vc]] w λe w'=>e=.returned (.tuple #[.int .i64 (gh s.pk),.int .i64 (fB s)])/\Below w.heap.size w w':=by
 obtain⟨N,K,V⟩:=h;obtain⟨A,a,rfl⟩:=bB.form N;obtain⟨B,b,rfl⟩:=bB.form K;obtain⟨C,c,rfl⟩:=bB.form V;obtain⟨_,a7,a5⟩:=N.len_;obtain⟨_,ao,a6⟩:=K.len_;obtain⟨_,al,a4⟩:=V.len_;unfold maxLen at a5 a6 a4;have r:∀p∈s.pk,cE p.no:=λp i=>by
  obtain⟨P,v,_,Z,_⟩:=N.aqz p i;exact Z
 have q:∀p∈s.sn,cE p.no:=λp i=>by
  obtain⟨P,v,_,Z,_⟩:=K.aqz p i;exact Z
 replace u:=ab u;replace r:=ab r;replace q:=ab q;go_enter zF,ntmps62;rcases qg s.pk.length with t|t
 case' inl=>
  have t1:=db (show ¬(0<s.pk.length) by omega);have i:gh s.pk=1:=by rw[rc.1 t];rfl
  have HP:=ab i;have HZ:=ab t;clear t i;go_wp2
 case' inr=>
  have t1:=dj (show 0<s.pk.length by omega);obtain⟨z,f,E⟩:=wS t;have a9:=u.out.1 z (de f);have Y:=r.out z (de f);unfold cE at Y;have i:gh s.pk=z.no+1:=by unfold gh;rw[E];rfl
  have HP:=ab i;replace f:=ab f;clear i E;obtain⟨b4,S,P,D,_,_,_,⟨v4,rfl,a1⟩,o⟩:=(iL.loc.below N (av w (.cells #[.slice A s.pk.length a,.slice B s.sn.length b,.slice C s.lg.length c] 27)) aR).at_ f.out;subst D;obtain⟨m4,F⟩:∃m,m=s.pk.length-1:=⟨_,rfl⟩;rw[<-F] at o;have e4:(s.pk.length:Int)-1=((m4:Nat):Int):=by omega
  have af:m4<s.pk.length:=by omega
  have I:=o 0 _ rfl;rw[tv] at I;clear o a1 F t f;go_wp2;clear e4 I;generalize some (⟨b4,S,none⟩:Addr)=A at *
 all_goals
  generalize hG:w.alloc (.cells #[.slice A s.pk.length a,.slice B s.sn.length b,.slice C s.lg.length c] 27)=w0 at *;obtain⟨M,iz,k0,cQ,dW⟩:=mK hG;clear hG;have a3:=cj.loc.below V M aR
  go_loop [5,6] (λss ii=>∃k:Nat,k<=s.lg.length/\ii=.int .i64 k/\ss=.int .i64 (gj (s.lg.take k))) (λ_ ii=>s.lg.length-(intOf ii).toNat)
  case atStart=>exact⟨0,ff _,rfl,rfl⟩
  case round=>
   obtain⟨k,aa,rfl,rfl⟩:=hrel;by_cases W:k<s.lg.length
   .obtain⟨x,L⟩:=aq W;have ad:=u.out.2.2 x (de L);obtain⟨X,n,P,D,_,_,_,⟨rfl,g⟩,d⟩:=a3.at_ L;subst D;have a0:cE x.s:=g.2;unfold cE at a0;have Q:w0.cell? ⟨X,n+k*2+1,none⟩=some (.int .i64 x.s):=by simpa using d 1 _ rfl
    have J:=ajx (l:=s.lg.take k) (b:=1000001) (by omega) λy j=>by have:=u.out.2.2 y (pu j);omega
    have fj:=alM L;have U:=ab fj;clear fj L d g;revert U J;generalize gj (s.lg.take k)=m;intro J U;go_wp2
    go_round
    case rel=>exact⟨k+1,by omega,by go_num,by rw[U.out,ayo]⟩
    simp[intOf];omega
   .obtain rfl:k=s.lg.length:=by omega
    rw[ip];have T:=gZ.loc.below K M aR;rcases qg s.sn.length with j|j
    .have t2:=db (show ¬(0<s.sn.length) by omega);have H:fB s=gj s.lg:=by unfold fB;rw[rc.1 j];rfl
     have R:=ab H;have HY:=ab j;clear H j;go_wp2;go_ret2;exact⟨by rw[HP.out,R.out];rfl,M⟩
    .have t2:=dj (show 0<s.sn.length by omega);obtain⟨y,O,G⟩:=wS j;have a8:=u.out.2.1 y (de O);have a2:=q.out y (de O);unfold cE at a2;have H:fB s=max (gj s.lg) (y.no+1):=by unfold fB;rw[G]
     obtain⟨X,n,P,D,_,_,_,⟨v5,rfl,g⟩,d⟩:=T.at_ O;subst D;obtain⟨m,J⟩:∃m,m=s.sn.length-1:=⟨_,rfl⟩;rw[<-J] at d;have e1:(s.sn.length:Int)-1=((m:Nat):Int):=by omega
     have an:m<s.sn.length:=by omega
     have Q:w0.cell? ⟨X,n+m*2,none⟩=some (.int .i64 y.no):=by simpa using d 0 _ rfl
     have R:=ab H;clear H G O d g J j;go_wp2;all_goals
      go_ret2;exact⟨by rw[HP.out,R.out];first|(rw[Int.max_eq_right (by omega)];rfl)|(rw[Int.max_eq_left (by omega)];rfl),M⟩
end
section
variable {β:Bool}
open Go.RowKit
def gp(key:Int)(no:Int)(l:List ByteArray):List Pk:=
 if h:l=[] then[] else⟨no,ib key (l.take 4)⟩::gp key (no+1) (l.drop 4)
termination_by l.length
decreasing_by
 have:0<l.length:=List.length_pos_iff.2 h;rw[qr];omega
def abl(key a:Int):gp key a []=[]:=by rw[gp];rfl
def ado(key a:Int){l:List ByteArray}(h:0<l.length):gp key a l=⟨a,ib key (l.take 4)⟩::gp key (a+1) (l.drop 4):=by
 rw[gp,dif_neg (by rintro rfl;simp at h)]
open Classical in
noncomputable def acn(l:List Pk):List Sp:=if ∀s∈ep l,spP s then fG (ep l) [] else[]
def anq(l:List Pk):IOf l (acn l):=by
 unfold acn;by_cases h:∀s∈ep l,spP s
 .rw[eg h];exact .inl ⟨h,rfl⟩
 .rw[da h];exact .inr ⟨h,rfl⟩
noncomputable def ahJ(key:Int)(s:dJ)(t:List Nd):List Pk:=gp key (gh s.pk) (abj key (acn s.pk) t)
def afd(key:Int)(s:dJ)(t:List Nd):Prop:=(s.pk++ahJ key s t).length<=20/\gh s.pk+(ahJ key s t).length-1<=99/\fB s<=20/\s.lg.length<9
noncomputable def acU(key:Int)(s:dJ)(by_:Int)(t:List Nd):dJ:=⟨s.pk++ahJ key s t,s.sn++[kN (fB s) key t],s.lg++[⟨by_,fB s⟩]⟩
structure afJ (w wr:World) (va vb vc:Value) (gm:Nat) (vp vs vl:Value) (pk:List Pk) (sn:List Sn) (lg:List Hd) (H:Nat):Prop where
 k0:aX wr w.heap.size 27 #[va,vb,vc]
 k1:aX wr (w.heap.size+1) 27 #[.slice none 0 0,.slice none 0 0,.slice none 0 0]
 m:aX wr gm 27 #[vp,vs,vl]
 op:bH wr w.heap.size H pk [vp]
 os:bW wr w.heap.size H sn [vs]
 ol:dF wr w.heap.size H lg [vl]
 bl:Below w.heap.size w wr
 gm1:w.heap.size+1<gm
 gm2:gm<wr.heap.size
 hH:H<=wr.heap.size
def afJ.below{wr : World}{c i f:Value}{k g d:Value}{j:List Pk}{b:List Sn}{e:List Hd}(h:afJ w wr c i f Z k g d j b e W)(a:Below wr.heap.size wr w'):afJ w w' c i f Z k g d j b e W:=
 ⟨ah h.k0 a,ah h.k1 a,ah h.m a,bH.ar.below h.op a h.hH,bW.ar.below h.os a h.hH,dF.ar.below h.ol a h.hH,ag h.bl a,h.gm1,bd h.gm2 a.size,ap h.hH a.size⟩
def afJ.up{wr : World}{c i f:Value}{k g d:Value}{j:List Pk}{b:List Sn}{e:List Hd}{H' : Nat}(h:afJ w wr c i f Z k g d j b e W)(a:W<=H')(l:H'<=wr.heap.size):afJ w wr c i f Z k g d j b e H':=
 ⟨h.k0,h.k1,h.m,bH.ar.wide h.op (am _) a,bW.ar.wide h.os (am _) a,dF.ar.wide h.ol (am _) a,h.bl,h.gm1,h.gm2,l⟩
def aAP:Value->Nat
 |.slice _ n _=>n
 |_=>0
def ar0(key:Int)(s:dJ)(by_:Int)(t:List Nd)(w:World)(e:Ending)(w':World):Prop:=
 ∃c b a q r,e=.returned (.tuple #[.agg #[c,b,a],.bool q])/\eY w' w.heap.size w'.heap.size r c b a/\((q=true/\afd key s t/\r=acU key s by_ t)\/(q=false/\¬afd key s t/\r=s))/\Below w.heap.size w w'
def ajz (key:Int) (hk:1<=key/\key<=99) (s:dJ) (r:Int) (aZ:cE r) (t:List Nd) (ht:∀x∈t,dR x.b=true) (hl:t.length<=10) (hs:alN 1000000 s) (e4:(ep s.pk).length<=10000) (bl:kD s<=1000000)
  (va vb vc vt:Value) (w:World) (lo hi ao jy:Nat) (h:eY w lo hi s va vb vc) (aR:hi<=w.heap.size) (h1:eL w ao jy t [vt]) (lO:jy<=w.heap.size) :
  Calls (ai β) 33 #[.int .i64 key,.agg #[va,vb,vc],.int .i64 r,vt] w (ar0 key s r t w):=by
 replace ht:=ab ht;have HS:=ab hs;have HK:=ab hk;replace aZ:=ab aZ;clear hs;obtain⟨A,a,rfl⟩:=h.pk.form;obtain⟨B,b,rfl⟩:=h.sn.form;obtain⟨C,c,rfl⟩:=h.lg.form;obtain⟨D,d,rfl⟩:=h1.form;have e3:s.pk.length<=1000000:=by
  have h1:=dU (f:=bPk) (l:=s.pk);unfold kD at bl;omega
 have el:s.sn.length<=1000000:=by
  have h1:=dU (f:=bSn) (l:=s.sn);unfold kD at bl;omega
 have e6:s.lg.length<=1000000:=by unfold kD at bl;omega
 go_enter zU,ntmps33;go_wp2;generalize hG:(w.alloc (.cells #[.slice A s.pk.length a,.slice B s.sn.length b,.slice C s.lg.length c] 27)).alloc (.cells #[.slice none 0 0,.slice none 0 0,.slice none 0 0] 27)=w0 at *;obtain⟨aH,iz,k0,cQ,dW,k1,cJ,dz⟩:=oP hG;clear hG;have ch:=h.below aH aR;refine(fq s _ _ _ w0 lo hi ch.l (by omega) (by omega)).mono ?_;rintro e w1 ⟨vp,vs,vl,rfl,oc,b1⟩;obtain⟨Ap,cp,rfl⟩:=oc.pk.form;obtain⟨As,cs,rfl⟩:=oc.sn.form;obtain⟨Al,cl,rfl⟩:=oc.lg.form;replace k0:=ah k0 b1;replace cQ:=k0.cell;replace dW:=k0.frozen;replace k1:=ah k1 b1;replace cJ:=k1.cell;replace dz:=k1.frozen;replace aH:=ag aH b1;have bO:=ab oc;have z1:=b1.size;clear oc ch;have ax:=av w1 (.cells #[.slice Ap s.pk.length cp,.slice As s.sn.length cs,.slice Al s.lg.length cl] 27);have cD:=(ah k0 ax).cell;go_wp2;clear ax cD;generalize hG:w1.alloc (.cells #[.slice Ap s.pk.length cp,.slice As s.sn.length cs,.slice Al s.lg.length cl] 27)=w2 at *;obtain⟨kE,ek,m0,mz,cC⟩:=mK hG;clear hG;replace k0:=ah k0 kE;replace cQ:=k0.cell;replace dW:=k0.frozen;replace k1:=ah k1 kE;replace cJ:=k1.cell;replace dz:=k1.frozen;have a6:=bO.out.below kE (am _);have M:afJ w w2 (.slice A s.pk.length a) (.slice B s.sn.length b) (.slice C s.lg.length c) w1.heap.size (.slice Ap s.pk.length cp) (.slice As s.sn.length cs) (.slice Al s.lg.length cl) s.pk s.sn s.lg w1.heap.size:=
  ⟨k0,k1,m0,bH.ar.wide a6.pk (by omega) (am _),bW.ar.wide a6.sn (by omega) (am _),dF.ar.wide a6.lg (by omega) (am _),ag aH kE,by omega,by omega,kE.size⟩
 obtain⟨u,c9⟩:∃u,u=w1.heap.size:=⟨_,rfl⟩;rw[<-c9] at M ⊢;have E:=ab M;have br:=h.below (ag aH kE) aR;have HST:=ab br;clear c9 M a6 bO k0 k1 m0 cQ cJ mz dW dz cC aH kE b1;refine(ajy s HS.out _ _ _ w2 lo hi br.l (by have:=E.out.bl.size;omega)).mono ?_;rintro e w3 ⟨rfl,b3⟩;have ad:=E.out.below b3;have bT:=ab ad;have bt:=HST.out.below b3 (by have:=E.out.bl.size;omega);have cw:=ab bt;have cQ:=ad.k0.cell;have z3:=ad.bl.size;clear ad E HST br b3;go_wp2;refine(adM s.pk _ w3 lo hi (by omega) (bH.t bt.pk) (by omega) (acn s.pk) (anq _)).mono ?_;rintro e w4 ⟨vi,rfl,oi,b4⟩;clear bt;have bL:=(anq s.pk).ix;have c1:=((oi.deep (au1 bL) 0).sl (ff _)).1;have aa:=bT.out.below b4;have bN:=ab aa;have cd:=eL.ar.wide (eL.ar.below h1 aa.bl lO) (ff ao) (show jy<=w4.heap.size by have:=aa.bl.size;omega);obtain⟨Ai,ci,rfl⟩:=oi.form;clear aa bT cQ oi bL b4;have bg:Hid (afd key s t↔((s.pk++gp key (gh s.pk) (abj key (acn s.pk) t)).length<=20/\gh s.pk+(gp key (gh s.pk) (abj key (acn s.pk) t)).length-1<=99/\fB s<=20/\s.lg.length<9)):=ab Iff.rfl;have bn:Hid (acU key s r t=⟨s.pk++gp key (gh s.pk) (abj key (acn s.pk) t),s.sn++[kN (fB s) key t],s.lg++[⟨r,fB s⟩]⟩):=ab rfl;have cv : -9223372036854775807<=gh s.pk/\gh s.pk<=1000001:=by
  rcases qg s.pk.length with hz|hz
  .rw[rc.1 hz];show _<=(1:Int)/\(1:Int)<=_;omega
  .obtain⟨z,c3,d1⟩:=wS hz;have dB:=HS.out.1 z (de c3);obtain⟨es,v,_,hg,_⟩:=(cw.out.l).pk.aqz z (de c3);unfold cE at hg;unfold gh;rw[d1];show _<=z.no+1/\z.no+1<=_;omega
 have ct : -9223372036854775807<=fB s/\fB s<=1000001:=by
  have hm:=ajx (l:=s.lg) (b:=1000001) (by omega) λx hx=>by have:=HS.out.2.2 x hx;omega
  unfold fB;cases cA:s.sn.getLast? with
  |none=>show _<=gj s.lg/\gj s.lg<=_;omega
  |some x=>
   have:=HS.out.2.1 x (wv cA);show _<=max (gj s.lg) (x.no+1)/\max (gj s.lg) (x.no+1)<=_;omega
 clear cw;have ce:(abj key (acn s.pk) t).length<=400:=by
  have a1:=aci (key:=key) (ix:=acn s.pk) (ach t) [];have a2:=acS (t:=t) ht.out;show(acg key (acn s.pk) [] (ach t)).length<=_;simp only[mp,me] at a1;omega
 have Z:=od (key:=key) (ix:=acn s.pk) ht.out;have a8:=ab (alF (β:=β) key HK.out t ht.out (by omega) (acn s.pk) _ _ w4 0 w4.heap.size (am _) cd c1);clear cd c1;revert Z ce bn bg a8;generalize abj key (acn s.pk) t=pieces;revert cv;generalize gh s.pk=n0;revert ct;generalize fB s=s0;intro ct cv bg bn ce Z a8;go_wp2;refine a8.out.mono ?_;rintro e w5 ⟨vq,rfl,oq,b5⟩;clear a8;have cg:=(oq.deep (λx hx=>lM (Z x hx)) 0).sl (ff _);have bb:=bN.out.below b5;have ck:=bb.up (H':=w5.heap.size) bb.hH (am _);obtain⟨Aq,cq,rfl⟩:=oq.form;have a9:=ab (And.intro cg (And.intro Z ck));clear bN cg Z bb ck oq b5;go_wp2;go_loopw [11,13] (λnn pp wr=>∃(no:Int) (j:List ByteArray) (n:List Pk) (vp:Value),nn=.int .i64 no/\s.pk++gp key n0 pieces=n++gp key no j/\no=n0+((n.length:Int)-s.pk.length)/\n.length+j.length<=s.pk.length+pieces.length/\s.pk.length<=n.length/\w5.heap.size<=wr.heap.size/\dA wr 0 w5.heap.size j [pp]/\(∀x∈j,bF (bs x))/\afJ w wr (.slice A s.pk.length a) (.slice B s.sn.length b) (.slice C s.lg.length c) u vp (.slice As s.sn.length cs) (.slice Al s.lg.length cl) n s.sn s.lg wr.heap.size) (λ_ pp _=>aAP pp)
 case atStart=>exact⟨n0,pieces,s.pk,_,rfl,rfl,by omega,am _,am _,am _,a9.out.1,a9.out.2.1,a9.out.2.2⟩
 case round=>
  clear a9;obtain⟨no,j,n,e8,rfl,ca,bR,dx,ed,d0,hr,hp,M⟩:=hrel;obtain⟨Ar,cr,rfl⟩:=hr.form;obtain⟨O,K,rfl⟩:=M.op.form;have bX:=ab ca;have co:=ab bR;have ej : -9223372036854775807<=no/\no<=9000000:=by omega
  have HR:=ab hr;have HP:=ab hp;have E:=ab M;have em:=hr.len_.2.1;have d3:=hr.len_.2.2;unfold maxLen at d3;clear ca bR hr hp M;by_cases iw:0<j.length
  .have t1:decide (0<j.length)=true:=dj iw;have mz:=E.out.m.cell 0;by_cases h4:j.length<=4
   case' pos=>
    have t2:=dj (show(j.length:Int)<=4 by omega);have g2:((j.length:Nat):Int)<=(cr:Int):=by omega
    have q1:=am j.length;have q2:j.take j.length=j.take 4:=by rw[pa (am _),pa h4]
    have q3:j.drop j.length=j.drop 4:=by rw[rU (am _),rU h4]
   case' neg=>
    have t2:=db (show ¬((j.length:Int)<=4) by omega);have g2:((4:Nat):Int)<=(cr:Int):=by omega
    have q1:4<=j.length:=by omega
    have q2:=@rfl _ (j.take 4);have q3:=@rfl _ (j.drop 4)
   all_goals
    have b2:∀x∈j.take 4,bF (bs x):=λx hx=>HP.out x (pu hx);have c6:∀x∈j.drop 4,bF (bs x):=λx hx=>HP.out x (uS hx);have bf:=HR.out.adk q1;rw[q2] at bf;have bi:=HR.out.am9 q1;rw[q3] at bi;have V:=ado key no iw;have c7:(j.take 4).length<=4:=by rw[fa];omega
    have bS:=ae5 (key:=key) b2;have cz:(ib key (j.take 4)).length<=4:=by rw[aam];exact c7
    have b6:w5.heap.size<=wr.heap.size:=d0;have bk:cE no:=by unfold cE;omega
    have c4:=λ(y:World) (hy:Below wr.heap.size wr y)=>alC (β:=β) no key HK.out (j.take 4) b2 (by omega) _ y 0 w5.heap.size (ap b6 hy.size) (dA.ar.below bf hy b6)
    have b8:=ab c4;have cW:=ab bi;have HST:=ab V;have bw:=ab bS;have d7:=ab c6;have cZ:Hid ((j.drop 4).length+1<=j.length):=ab (by rw[qr];omega);clear c4 bi V bS bf q2 q3 c7 b2 c6;revert cz;revert bw;revert HST;revert b8;generalize ib key (j.take 4)=L;intro b8 HST bw cz;go_wp2;have aF:=ae mz;refine aC 9 [0,1,2,3,4,5,6] [7,8] (h:= ?_);simp only[pick,List.map,gt,gE];repeat(go_big_quiet_step (fail))
    refine io ?_;clear aF;apply Exists.intro;apply bc (λv Y=>∃A c,v=.agg #[.int .i64 no,.slice A L.length c]/\aL mN 68 Y wr.heap.size (.slice A L.length c) L)
    .rfl
    .exact λv x y ⟨A,c,e,h⟩ hle=>⟨A,c,e,h.below hle⟩
    .intro x P Qx o;replace o:=ab o;clear P;go_wp2;refine(b8.out x.to x.ok).mono ?_;rintro e wy ⟨vy,rfl,oy,b0⟩;obtain⟨Ay,cy,rfl⟩:=oy.form;go_wp2;exact o.out _ _ b0 ⟨_,_,rfl,oy.base x.ok.size⟩
    intro u7;apply bc (λv Y=>∃g A c,v=.slice (some ⟨g,0,none⟩) 1 1/\aX Y g 59 #[.int .i64 no,.slice A L.length c]/\aL mN 68 Y wr.heap.size (.slice A L.length c) L)
    .rfl
    .exact λv x y ⟨g,A,c,e,hk,h⟩ hle=>⟨g,A,c,e,ah hk hle,h.below hle⟩
    .intro x P Qx o;replace o:=ab o;obtain⟨A5,c5,rfl,ho⟩:=P.1 (by kernel_rfl);go_wp2;have ba:=av x.to (.cells #[.int .i64 no,.slice A5 L.length c5] 59);exact o.out _ _ ba ⟨_,_,_,rfl,aX.new _ _ _,ho.below ba⟩
    intro u8;refine aS ?_;intro w6 iC xx df P;dsimp only[dP] at P;try rw[df] at P
    clear df xx;obtain⟨⟨g8,A8,c8,rfl,bz,o8⟩, -⟩:=P;simp only[List.drop];have z6:=iC.size;have U:=E.out.below iC;have cN:=dA.ar.below cW.out iC b6;have an:Hid (kL w6 wr.heap.size w6.heap.size ⟨no,L⟩ [.int .i64 no,.slice A8 L.length c8]):=ab ⟨_,rfl,bk,o8.aat bw.out (by omega) λg hg=>(o8.at_ hg).2⟩;have bq:=ab bz;have k:=ab U;have d2:=ab cN;have zb:=U.bl.size;go_wp2_with(at_builtin;refine gK ?_);refine⟨?_,trivial⟩;refine ie kL.ar (by decide) (v:=.slice O n.length K) rfl (.tmp 35) (.tmp 42) 23 rfl adZ ⟨no,L⟩ rfl k.out.op rfl bq.out rfl (by simp[Value.oneCell']) (show wr.heap.size<=w6.heap.size by omega) an.out (am _) (by omega) (by omega) ?_;intro v9 W o9 I cB;obtain⟨J,H,rfl⟩:=o9.form;rw[aE,mw] at o9;rw[aE,mw];have m:=k.out.op;have z9:=I.size;have ay:=k.out.gm1;have dd:=k.out.gm2;have q:=dG m I k.out.m (by decide);have d5:W.cell? ⟨u,0,none⟩=some (.slice O n.length K):=q.cell 0;have dg:=q.frozen 0;have lZ:=q.bj 0 (.slice J (n.length+1) H);simp only[bv,ef,fd] at lZ;have b9:afJ w (W.setCell ⟨u,0,none⟩ (.slice J (n.length+1) H)) _ _ _ u (.slice J (n.length+1) H) (.slice As s.sn.length cs) (.slice Al s.lg.length cl) (n++[⟨no,L⟩]) s.sn s.lg (W.setCell ⟨u,0,none⟩ (.slice J (n.length+1) H)).heap.size:=
     ⟨bZ (dG m I k.out.k0 (by decide)) (p:=⟨u,0,none⟩) _ (by dsimp only;omega),bZ (dG m I k.out.k1 (by decide)) (p:=⟨u,0,none⟩) _ (by dsimp only;omega),lZ,
      by simp only[be];exact cT bH.ar o9 q (by decide) 0 _,
      by simp only[be];exact bW.ar.wide (cT bW.ar (jF m I bW.ar k.out.os (by decide)) q (by decide) 0 _) (am _) (by omega),
      by simp only[be];exact dF.ar.wide (cT dF.ar (jF m I dF.ar k.out.ol (by decide)) q (by decide) 0 _) (am _) (by omega),
      (k.out.bl.trans (I.below k.out.bl.size λi hi hs=>by have:=m.ob hs;omega)).setCell (by dsimp only;omega) _,ay,by simp only[be];omega,am _⟩
    have d6:dA (W.setCell ⟨u,0,none⟩ (.slice J (n.length+1) H)) 0 w5.heap.size (j.drop 4) _:=cT dA.ar (jF m I dA.ar d2.out (by decide)) q (by decide) 0 _;have af:=ab b9;have cX:=ab d6;have cL:Hid (w5.heap.size<=(W.setCell ⟨u,0,none⟩ (.slice J (n.length+1) H)).heap.size):=ab (by simp only[be];omega);go_wp2;go_roundw
    case rel=>exact⟨no+1,j.drop 4,n++[⟨no,L⟩],_,rfl,by rw[bX.out,HST.out,th];rfl,by have:=co.out;rw[aE,mw];omega,by have:=cZ.out;rw[aE,mw];omega,by rw[aE,mw];omega,cL.out,by have:=cX.out;first|(simpa only[Nat.mul_one,tu] using this)|(simp only[da (show ¬cr=4 by omega),Addr.add] at this;simpa using this),d7.out,af.out⟩
    simp[aAP];omega
  .have hz:j=[]:=rc.1 (by omega);subst hz;have mV:s.pk++gp key n0 pieces=n:=by rw[bX.out,abl,sj]
   have bo:afd key s t↔(n.length<=20/\no-1<=99/\s0<=20/\s.lg.length<9):=by
    refine bg.out.trans ?_;rw[mV];have e:(n.length:Int)=s.pk.length+(gp key n0 pieces).length:=by rw[<-mV,aE];omega
    have:=co.out;constructor
    .rintro⟨a1,a2,a3,a4⟩;exact⟨a1,by omega,a3,a4⟩
    .rintro⟨a1,a2,a3,a4⟩;exact⟨a1,by omega,a3,a4⟩
   have cS:acU key s r t=⟨n,s.sn++[kN s0 key t],s.lg++[⟨r,s0⟩]⟩:=by rw[bn.out,mV]
   have cn:=ab bo;have d9:=ab cS;have e0:n.length<=2000000:=by omega
   have cm:=E.out.m.cell;have cQ:=E.out.k0.cell;have bk:cE (no-1):=by unfold cE;omega
   unfold cE at bk;rcases(by omega:(n.length<=20/\no-1<=99/\s0<=20/\s.lg.length<9)\/¬n.length<=20\/(n.length<=20/\¬no-1<=99)\/(n.length<=20/\no-1<=99/\¬s0<=20)\/(n.length<=20/\no-1<=99/\s0<=20/\¬s.lg.length<9)) with hc|hc|hc|hc|hc
   .have t3:=db (show ¬((20:Int)<(n.length:Int)) by omega);have t4:=db (show ¬(99<no-1) by omega);have t5:=db (show ¬(20<s0) by omega);have t6:=db (show ¬((9:Int)<=(s.lg.length:Int)) by omega);have HY:=ab (cn.out.2 hc);go_wp2;have cO:=cm 1;have HC:=ab (λ(y:World) (hy:Below wr.heap.size wr y)=>ao7 (β:=β) s0 key HK.out (by unfold cE;omega) t ht.out (by omega) _ y ao jy (by have:=hy.size;have:=E.out.bl.size;omega) (eL.ar.below h1 (ag E.out.bl hy) lO));have aF:=ae cO;refine aC 7 [0,1,2,3,4] [5,6] (h:= ?_);simp only[pick,List.map,gt,gE];repeat(go_big_quiet_step (fail))
    refine io ?_;apply Exists.intro;apply bc (λv Y=>∃A c,v=.agg #[.int .i64 s0,.slice A (kN s0 key t).all.length c]/\fK Y wr.heap.size Y.heap.size (kN s0 key t).all [.slice A (kN s0 key t).all.length c])
    .rfl
    .exact λv x y ⟨A,c,e,h⟩ hle=>⟨A,c,e,fK.ar.wide (fK.ar.below h hle (am _)) (am _) hle.size⟩
    .intro x P Qx o;replace o:=ab o;go_wp2;refine(HC.out x.to x.ok).mono ?_;rintro e wy ⟨vy,rfl,oy,b0⟩;obtain⟨Ay,cy,rfl⟩:=oy.form;go_wp2;exact o.out _ _ b0 ⟨_,_,rfl,fK.ar.wide oy x.ok.size (am _)⟩
    intro u5;apply bc (λv Y=>∃g A c,v=.slice (some ⟨g,0,none⟩) 1 1/\aX Y g 63 #[.int .i64 s0,.slice A (kN s0 key t).all.length c]/\fK Y wr.heap.size Y.heap.size (kN s0 key t).all [.slice A (kN s0 key t).all.length c])
    .rfl
    .exact λv x y ⟨g,A,c,e,hk,h⟩ hle=>⟨g,A,c,e,ah hk hle,fK.ar.wide (fK.ar.below h hle (am _)) (am _) hle.size⟩
    .intro x P Qx o;replace o:=ab o;obtain⟨A5,c5,rfl,ho⟩:=P.1 (by kernel_rfl);go_wp2;have ba:=av x.to (.cells #[.int .i64 s0,.slice A5 (kN s0 key t).all.length c5] 63);exact o.out _ _ ba ⟨_,_,_,rfl,aX.new _ _ _,fK.ar.wide (fK.ar.below ho ba (am _)) (am _) ba.size⟩
    intro u6;refine aS ?_;intro w6 iC xx df P;dsimp only[dP] at P;try rw[df] at P
    obtain⟨⟨g8,A8,c8,rfl,bz,o8⟩, -⟩:=P;simp only[List.drop];have z6:=iC.size;have U:=E.out.below iC;have an:Hid (ma w6 wr.heap.size w6.heap.size (kN s0 key t) [.int .i64 s0,.slice A8 (kN s0 key t).all.length c8]):=ab ⟨_,rfl,by show cE s0;unfold cE;omega,o8⟩;have bq:=ab bz;have k:=ab U;have zb:=U.bl.size;go_wp2_with(at_builtin;refine gK ?_);refine⟨?_,trivial⟩;refine ie ma.ar (by decide) (v:=.slice As s.sn.length cs) rfl (.tmp 72) (.tmp 77) 24 rfl ad2 (kN s0 key t) rfl k.out.os rfl bq.out rfl (by simp[Value.oneCell']) (show wr.heap.size<=w6.heap.size by omega) an.out (am _) (by omega) (by omega) ?_;intro v9 W o9 I cB;obtain⟨J,H,rfl⟩:=o9.form;rw[aE,mw] at o9;rw[aE,mw];have m:=k.out.os;have z9:=I.size;have ay:=k.out.gm1;have dd:=k.out.gm2;have q:=dG m I k.out.m (by decide);have d5:W.cell? ⟨u,1,none⟩=some (.slice As s.sn.length cs):=q.cell 1;have dg:=q.frozen 1;have lZ:=q.bj 1 (.slice J (s.sn.length+1) H);simp only[bv,ef,fd] at lZ;have b9:afJ w (W.setCell ⟨u,1,none⟩ (.slice J (s.sn.length+1) H)) (.slice A s.pk.length a) (.slice B s.sn.length b) (.slice C s.lg.length c) u (.slice O n.length K) (.slice J (s.sn.length+1) H) (.slice Al s.lg.length cl) n (s.sn++[kN s0 key t]) s.lg (W.setCell ⟨u,1,none⟩ (.slice J (s.sn.length+1) H)).heap.size:=
     ⟨bZ (dG m I k.out.k0 (by decide)) (p:=⟨u,1,none⟩) _ (by dsimp only;omega),bZ (dG m I k.out.k1 (by decide)) (p:=⟨u,1,none⟩) _ (by dsimp only;omega),lZ,
      by simp only[be];exact bH.ar.wide (cT bH.ar (jF m I bH.ar k.out.op (by decide)) q (by decide) 1 _) (am _) (by omega),
      by simp only[be];exact cT bW.ar o9 q (by decide) 1 _,
      by simp only[be];exact dF.ar.wide (cT dF.ar (jF m I dF.ar k.out.ol (by decide)) q (by decide) 1 _) (am _) (by omega),
      (k.out.bl.trans (I.below k.out.bl.size λi hi hs=>by have:=m.ob hs;omega)).setCell (by dsimp only;omega) _,ay,by simp only[be];omega,am _⟩
    have af:=ab b9;have d4:=lZ.cell;go_wp2_with(at_builtin;refine gK ?_);refine⟨?_,trivial⟩;obtain⟨Q,cb⟩:∃Q,Q=W.setCell ⟨u,1,none⟩ (.slice J (s.sn.length+1) H):=⟨_,rfl⟩;have c2:Q.heap.size=W.heap.size:=by rw[cb];simp only[be]
    have ds:w6.heap.size<=Q.heap.size:=by rw[c2];exact z9
    rw[<-cb] at af d4 ⊢;generalize hG:Q.alloc (.cells #[.int .i64 r,.int .i64 s0] 42)=w11 at *;obtain⟨bA,ee,q0,dH,dp⟩:=mK hG;rw[c2] at q0;have N:=af.out.below bA;have m:=N.ol;refine ie (bV.ar oQ) (by decide) (v:=.slice Al s.lg.length cl) rfl (.tmp 81) (.tmp 85) 25 rfl ahB (⟨r,s0⟩:Hd) rfl m rfl q0 rfl (by simp[Value.oneCell']) (show Q.heap.size<=w11.heap.size from bA.size) ⟨rfl,aZ.out,by show cE s0;unfold cE;omega⟩ (am _) (by omega) (by omega) ?_;intro er a5 X R eo;obtain⟨G,F,rfl⟩:=X.form;rw[aE,mw] at X;rw[aE,mw];have S:=dG m R N.m (by decide);have a0:=dG m R N.k1 (by decide);have ei:=S.cell;have en:=S.frozen;have ex:=a0.cell;have e5:=a0.frozen;have bp:=jF m R bH.ar N.op (by decide);have bI:=jF m R bW.ar N.os (by decide);have bx:Below w.heap.size w a5:=N.bl.trans (R.below N.bl.size λi hi hs=>by have:=m.ob hs;omega);have e9:=R.size;have ev:=bA.size;have HF:=ab (And.intro bp (And.intro bI (And.intro X (And.intro bx (And.intro S a0)))));go_wp2;obtain⟨bp,bI,X,bx,S,a0⟩:=HF.out;have e7:=S.bj 2 (.slice G (s.lg.length+1) F);have a7:=bZ a0 (p:=⟨u,2,none⟩) (.slice G (s.lg.length+1) F) (by dsimp only;omega);have k4:=((a7.bj 0 (.slice O n.length K)).bj 1 (.slice J (s.sn.length+1) H)).bj 2 (.slice G (s.lg.length+1) F);simp only[bv,ef,fd] at k4;have aU:=k4.cell;have aJ:∀{β:Type} {D:fW β} {T:List TypeId} {y:β} {cs:List Value},dM D T->27∉T->D a5 w.heap.size a5.heap.size y cs->D ((((a5.setCell ⟨u,2,none⟩ (.slice G (s.lg.length+1) F)).setCell ⟨w.heap.size+1,0,none⟩ (.slice O n.length K)).setCell ⟨w.heap.size+1,1,none⟩ (.slice J (s.sn.length+1) H)).setCell ⟨w.heap.size+1,2,none⟩ (.slice G (s.lg.length+1) F)) w.heap.size ((((a5.setCell ⟨u,2,none⟩ (.slice G (s.lg.length+1) F)).setCell ⟨w.heap.size+1,0,none⟩ (.slice O n.length K)).setCell ⟨w.heap.size+1,1,none⟩ (.slice J (s.sn.length+1) H)).setCell ⟨w.heap.size+1,2,none⟩ (.slice G (s.lg.length+1) F)).heap.size y cs:=λ{_ _ _ _ _} hD hT hy=>by
     simp only[be];exact cT hD (cT hD (cT hD (cT hD hy S hT 2 _) a7 hT 0 _) (a7.bj 0 _) hT 1 _) ((a7.bj 0 _).bj 1 _) hT 2 _
    refine nf (v:=.tuple #[.agg #[.slice O n.length K,.slice J (s.sn.length+1) H,.slice G (s.lg.length+1) F],.bool true]) (by simp[results,results33,go_sem,aU]) rfl ⟨_,_,_,true,acU key s r t,rfl, ?_,.inl ⟨rfl,HY.out,rfl⟩,(((bx.setCell (by dsimp only;omega) _).setCell (by simp) _).setCell (by simp) _).setCell (by simp) _⟩;rw[d9.out];exact⟨aJ bH.ar (by decide) (bH.ar.wide bp (am _) (by omega)),aJ bW.ar (by decide) (bW.ar.wide bI (am _) (by omega)),aJ dF.ar (by decide) X⟩
   all_goals
    have HN:Hid (¬afd key s t):=ab λh=>by have:=cn.out.1 h;omega
    first|have t3:=dj (show(20:Int)<(n.length:Int) by omega)|have t3:=db (show ¬((20:Int)<(n.length:Int)) by omega)
    first|have t4:=dj (show 99<no-1 by omega)|(try have t4:=db (show ¬(99<no-1) by omega))
    first|have t5:=dj (show 20<s0 by omega)|(try have t5:=db (show ¬(20<s0) by omega))
    try have t6:=dj (show(9:Int)<=(s.lg.length:Int) by omega)
    go_wp2;have d8:=h.below E.out.bl aR;refine(fq s _ _ _ wr lo hi d8.l (by have:=E.out.bl.size;omega) (by omega)).mono ?_;rintro e w7 ⟨v1,v2,v3,rfl,oc,b7⟩;obtain⟨A1,cc,rfl⟩:=oc.pk.form;obtain⟨A2,c0,rfl⟩:=oc.sn.form;obtain⟨A3,cf,rfl⟩:=oc.lg.form;have kr:=ah E.out.k1 b7;have ec:=kr.cell;have e2:=kr.frozen;have z7:=E.out.bl.size;have dn:=ag E.out.bl b7;go_wp2;have k4:=((kr.bj 0 (.slice A1 s.pk.length cc)).bj 1 (.slice A2 s.sn.length c0)).bj 2 (.slice A3 s.lg.length cf);simp only[bv,ef,fd] at k4;have aU:=k4.cell;refine nf (v:=.tuple #[.agg #[.slice A1 s.pk.length cc,.slice A2 s.sn.length c0,.slice A3 s.lg.length cf],.bool false]) (by simp[results,results33,go_sem,aU]) rfl ⟨_,_,_,false,s,rfl, ?_,.inr ⟨rfl,HN.out,rfl⟩,((dn.setCell (by simp) _).setCell (by simp) _).setCell (by simp) _⟩;simp only[be];have dD:=E.out.k1.lt;exact oc.go (λb ew e1=>by
     have al:b≠w.heap.size+1:=by omega
     rw[iS _ _ _ _ al,iS _ _ _ _ al,iS _ _ _ _ al]) (by omega) (am _)
end
section
variable {β:Bool}
open Go.RowKit
inductive iP:dJ->Prop
 |nil:iP ⟨[],[],[]⟩
 |save {s:dJ} {b:Int} {t:List Nd}:iP s->b=1\/b=2->lK t->afd 7 s t->iP (acU 7 s b t)
structure WfS (s:dJ):Prop where
 pl:s.pk.length<=20
 pn:∀p∈s.pk,(1<=p.no/\p.no<=99)/\p.its.length<=4/\∀x∈p.its,x.b.size<=8
 sl:s.sn.length=s.lg.length
 sn:∀x∈s.sn,(1<=x.no/\x.no<=20)/\x.all.length<=6/\∀y∈x.all,y.p.size<=3/\y.ns.length<=40
 ll:s.lg.length<=9
 lg:∀h∈s.lg,(1<=h.b/\h.b<=2)/\1<=h.s/\h.s<=20
def om(key:Int):∀(n:Nat) (no:Int) (l:List ByteArray),l.length<=n->∀p∈gp key no l,no<=p.no/\p.no<no+(gp key no l).length/\∃c:List ByteArray,p.its=ib key c/\1<=c.length/\c.length<=4/\∀x∈c,x∈l
 |0,no,l,h,p,a=>by rw[rc.1 (by omega:l.length=0),abl] at a;cases a
 |n+1,no,l,h,p,a=>by
  rcases qg l.length with d|d
  .rw[rc.1 d,abl] at a;cases a
  .rw[ado key no d] at a ⊢;rw[gc];rcases pb.1 a with rfl|a
   .exact⟨vg _,by show no<_;omega,l.take 4,rfl,by rw[fa];omega,by rw[fa];omega,λx b=>pu b⟩
   .obtain⟨k,j,c,e,g,i,f⟩:=om key n (no+1) (l.drop 4) (by rw[qr];omega) p a;exact⟨by omega,by omega,c,e,g,i,λx b=>uS (f x b)⟩
def alR{l:List Pk}(h:∀p∈l,1<=p.no):1<=gh l:=by
 unfold gh;cases a:l.getLast? with
 |none=>show(1:Int)<=0+1;omega
 |some p=>have:=h p (wv a);show(1:Int)<=p.no+1;omega
def adp:∀(l:List Hd) (a:Int),1<=a->1<=l.foldl (λa h=>max a (h.s+1)) a
 |[],a,ha=>ha
 |x::l,a,ha=>adp l (max a (x.s+1)) (by omega)
def alS(s:dJ):1<=fB s:=by
 have a:1<=gj s.lg:=adp s.lg 1 (by omega);unfold fB;cases s.sn.getLast? with
 |none=>exact a
 |some x=>show 1<=max (gj s.lg) (x.no+1);omega
def ajC(h:bF (bs s)):(lL key s).b.size<=8:=by
 show(rL (gF (bs s))).size<=8;rw[<-aO,ag6,aiI h];exact aaf.1
def acV{t:List Nd}(h:lK t):∀x∈t,dR x.b=true:=λx a=>(h.1 x a).2
def WfS.saved{s:dJ}{b:Int}{t:List Nd}(h:WfS s)(D:b=1\/b=2)(j:lK t)(A:afd 7 s t):WfS (acU 7 s b t):=by
 obtain⟨r,F,n,E⟩:=A;have i:=alS s;refine⟨r,λp d=> ?_, ?_,λx a=> ?_, ?_,λy g=> ?_⟩
 .rcases oR.1 d with d|d
  .exact h.pn p d
  .obtain⟨k,o,c,m,v,w,B⟩:=om 7 _ _ _ (am _) p d;have C:=alR (l:=s.pk) λp d=>(h.pn p d).1.1;refine⟨⟨by omega, ?_⟩,by rw[m,aam];exact w,λx a=> ?_⟩
   .have e:(ahJ 7 s t).length=(gp 7 (gh s.pk) (abj 7 (acn s.pk) t)).length:=rfl;omega
   .rw[m] at a;obtain⟨q,u,rfl⟩:=acR.1 a;exact ajC (od (acV j) q (B q u))
 .show(s.sn++[_]).length=(s.lg++[_]).length;rw[aE,aE,h.sl];rfl
 .rcases oR.1 a with a|a
  .exact h.sn x a
  .rw[pi.1 a];refine⟨⟨i,n⟩,by show(t.map (acm 7)).length<=6;rw[qi];exact j.2.1,λy g=> ?_⟩;obtain⟨f,z,rfl⟩:=qu.1 g;have k:=j.1 f z;have o:=lD k.1;have m:=ab6 f.b;have v:=(kY k.2).1;exact⟨by show f.p.size<=3;omega,by show((ku f.b).map _).length<=40;rw[qi];omega⟩
 .show(s.lg++[_]).length<=9;rw[aE,mw];omega
 .rcases oR.1 g with g|g
  .exact h.lg y g
  .rw[pi.1 g];exact⟨by show 1<=b/\b<=2;omega,i,n⟩
def iP.wf{s:dJ}(h:iP s):WfS s:=by
 induction h with
 |nil=>exact⟨ff _,λp a=>(by cases a),rfl,λp a=>(by cases a),ff _,λp a=>(by cases a)⟩
 |save _ e d c b=>exact b.saved e d c
def jl{a:Type}{f:a->Nat}{b:Nat}:∀{l:List a},(∀x∈l,f x<=b)->et f l<=l.length*(b+1)
 |[],_=>pe (uP _).symm
 |x::l,h=>by
  have g:=h x (by simp);have d:=jl (f:=f) (b:=b) (l:=l) λy c=>h y (by simp[c]);have e:et f (x::l)=et f l+1+f x:=by unfold et;simp only[gc,sF,List.sum_cons];omega
  rw[e,gc,rz];omega
def WfS.small{s:dJ}(h:WfS s):alN 1000000 s:=⟨λp a=>by have:=(h.pn p a).1;omega,λx c=>by have:=(h.sn x c).1;omega,λy b=>by have:=(h.lg y b).2;omega⟩
def ajD:∀l:List Pk,(∀p∈l,p.its.length<=4)->(ep l).length<=l.length*4
 |[],_=>ff _
 |p::l,hl=>by
  have b:=ajD l λq a=>hl q (by simp[a]);have d:=hl p (by simp);show(aa8 p++ep l).length<=_;have c:(aa8 p).length=p.its.length:=qi _;rw[aE,gc,rz];omega
def WfS.ep{s:dJ}(h:WfS s):(ep s.pk).length<=10000:=by
 have b:=ajD s.pk λp a=>(h.pn p a).2.1;have:=h.pl;omega
def WfS.ave{s:dJ}(h:WfS s):kD s<=10000:=by
 have e:et bPk s.pk<=s.pk.length*(36+1):=jl λp b=>by
  have c:et bIt p.its<=p.its.length*(8+1):=jl λx a=>(h.pn p b).2.2 x a;have:=(h.pn p b).2.1;show et bIt p.its<=36;omega
 have f:et bSn s.sn<=s.sn.length*(264+1):=jl λx a=>by
  have c:et bLs x.all<=x.all.length*(43+1):=jl λy d=>by
   have:=(h.sn x a).2.2 y d;show y.p.size+y.ns.length<=43;omega
  have:=(h.sn x a).2.1;show et bLs x.all<=264;omega
 have:=h.pl;have:=h.sl;have:=h.ll;unfold kD;omega
end
section
variable {β:Bool}
open Go.RowKit
def pkd(p:Pk):iR:=(p.no,p.its.map λx=>(x.n,x.b))
def acW(l:List Pk):List iR:=l.map pkd
open Classical in
noncomputable def jY(l:List ByteArray):ByteArray×Bool:=if dR (rL (jR l))=true/\ku (rL (jR l))=l then(rL (jR l),true) else(⟨#[]⟩,false)
def ao9(key:Int)(l:List iR)(ns:List Int):Prop:=∀n∈ns,(dh key l n).2=true
noncomputable def pV(key:Int)(l:List iR)(ns:List Int):List ByteArray:=ns.map λn=>(dh key l n).1
open Classical in
noncomputable def lQ(key:Int)(l:List iR)(x:Ls):Option Nd:=if ao9 key l x.ns/\(jY (pV key l x.ns)).2=true then some ⟨x.p,(jY (pV key l x.ns)).1⟩ else none
noncomputable def gS(key:Int)(l:List iR)(xs:List Ls):List Nd:=xs.filterMap (lQ key l)
def acX(g f:ByteArray):Bool:=(bs g++[47]).isPrefixOf (bs f)
def ans(t:List Nd):Prop:=t.length<=6/\∀i x,t[i]?=some x->ahA x/\(∀y,0<i->t[i-1]?=some y->Op.bytesLess y.p.toList x.p.toList=true)/\∀k y,k<i->t[k]?=some y->acX y.p x.p=false
open Classical in
noncomputable def kO(key:Int)(l:List iR)(xs:List Ls):Option (List Nd):=if(∀x∈xs,(lQ key l x).isSome=true)/\ans (gS key l xs) then some (gS key l xs) else none
noncomputable def dE(key:Int)(s:dJ)(no:Int):Option (List Nd):=match s.sn.find? (λx=>x.no ==no) with
 |some x=>kO key (acW s.pk) x.all
 |none=>none
def pW{key nm:Int}:∀{l:List iR},(dh key l nm).2=true↔∃p∈l,(iB key p.2 nm).2=true
 |[]=>by simp[dh]
 |p::l=>by
  show(if(iB key p.2 nm).2=true then((iB key p.2 nm).1,true) else dh key l nm:ByteArray×Bool).2=true↔_;by_cases h:(iB key p.2 nm).2=true
  .rw[eg h];exact⟨λ_=>⟨p,by simp,h⟩,λ_=>rfl⟩
  .rw[da h,pW];constructor
   .rintro⟨q,a,b⟩;exact⟨q,by simp[a],b⟩
   .rintro⟨q,a,b⟩;rcases pb.1 a with rfl|a
    .exact absurd b h
    .exact⟨q,a,b⟩
def aff{nm:Int}:∀{l:List (Int×ByteArray)} {k:Nat} {x:Int×ByteArray},fJ nm l=k->l[k]?=some x->x.1=nm
 |[],k,x,_,h=>by simp at h
 |y::l,k,x,h,hx=>by
  have h:(if y.1=nm then 0 else let j:=fJ nm l;if j<0 then -1 else j+1:Int)=k:=h;by_cases a:y.1=nm
  .rw[eg a] at h;obtain rfl:k=0:=by omega
   simp at hx;subst hx;exact a
  .rw[da a] at h;by_cases b:fJ nm l<0
   .have h:(if fJ nm l<0 then -1 else fJ nm l+1:Int)=k:=h;rw[eg b] at h;omega
   .have h:(if fJ nm l<0 then -1 else fJ nm l+1:Int)=k:=h;rw[da b] at h;obtain⟨m,rfl⟩:∃m,k=m+1:=⟨k-1,by omega⟩;exact aff (l:=l) (k:=m) (by omega) (by simpa using hx)
def ant{nm : Int}{l:List (Int×ByteArray)}{x:Int×ByteArray}(h:fJ nm l=k)(a:l[k]?=some x):iB key l nm=gR key x:=by
 unfold iB;rw[h,show((k:Nat):Int).toNat=k from rfl,a];show(if((k:Nat):Int)<0 then _ else _)=_;rw[da (by omega)]
def apa{nm : Int}{l:List (Int×ByteArray)}(h:fJ nm l=-1):iB key l nm=(⟨#[]⟩,false):=by
 unfold iB;rw[h];split
 .rw[eg (by omega)]
 .rfl
def ajE{nm : Int}{l:List (Int×ByteArray)}(h:(iB key l nm).2=true):∃(k:Nat) (x:Int×ByteArray),fJ nm l=k/\l[k]?=some x/\x.1=nm/\iB key l nm=gR key x:=by
 rcases acd nm l with a|⟨k,x,a,b⟩
 .rw[apa a] at h;cases h
 .exact⟨k,x,a,b,aff a b,ant a b⟩
def alT{x:Int×ByteArray}(h:(gR key x).2=true):bF (bs (gR key x).1)/\dc key (bs (gR key x).1)=x.1:=by
 unfold gR at h ⊢;split
 .rename_i a;exact⟨agl a.1,a.2⟩
 .rename_i a;rw[da a] at h;cases h
def alU{nm : Int}{l:List (Int×ByteArray)}(h:(iB key l nm).2=true):bF (bs (iB key l nm).1)/\dc key (bs (iB key l nm).1)=nm:=by
 obtain⟨k,x,d,c,b,a⟩:=ajE h;rw[a] at h ⊢;have:=alT h;exact⟨this.1,this.2.trans b⟩
def ov{key nm:Int}:∀{l:List iR},(dh key l nm).2=true->bF (bs (dh key l nm).1)/\dc key (bs (dh key l nm).1)=nm
 |[],h=>by cases h
 |p::l,h=>by
  have e:dh key (p::l) nm=if(iB key p.2 nm).2=true then((iB key p.2 nm).1,true) else dh key l nm:=rfl
  rw[e] at h ⊢;by_cases a:(iB key p.2 nm).2=true
  .rw[eg a];exact alU a
  .rw[da a] at h ⊢;exact ov h
def ar4{x y k m r:Int}(e:r+999999999989*k=15*x+55433)(j:r+999999999989*m=15*y+55433)(i:0<=x/\x<282429536481)(g:0<=y/\y<282429536481):x=y:=by
 have a:15*(x-y)=999999999989*(k-m):=by
  rw[Int.mul_sub 999999999989];generalize 999999999989*k=A at *;generalize 999999999989*m=B at *;omega
 clear e j;generalize k-m=d at *;have l:x-y<282429536481/\ -282429536481<x-y:=by clear a;omega
 have f:x-y=0->x=y:=by clear a;omega
 clear i g;generalize x-y=z at *;have c:d<5:=by
  refine Int.lt_of_not_ge λh=> ?_;have:=uV h (show(0:Int)<=999999999989 by decide);rw[<-a] at this;omega
 have b : -5<d:=by
  refine Int.lt_of_not_ge λh=> ?_;have:=uV h (show(0:Int)<=999999999989 by decide);rw[<-a] at this;omega
 have:d=-4\/d=-3\/d=-2\/d=-1\/d=0\/d=1\/d=2\/d=3\/d=4:=by omega
 rcases this with rfl|rfl|rfl|rfl|rfl|rfl|rfl|rfl|rfl<;>(first|(exact f (by omega))|(exfalso;omega))
def ar5{x y:Int}(b:0<=x/\x<282429536481)(d:0<=y/\y<282429536481)(h:(15*x+55433) % 999999999989=(15*y+55433) % 999999999989):x=y:=by
 have a:=wi (15*x+55433) 999999999989;have c:=wi (15*y+55433) 999999999989;rw[h] at a;exact ar4 a c b d
def alV{a b:List Nat}(c:bF a)(d:bF b)(h:dc 7 a=dc 7 b):a=b:=by
 have i:=abV c;have f:=abV d;have e:∀l,dc 7 l=(15*(code l:Int)+55433) % 999999999989:=λl=>by
  unfold dc;rw[show(code l:Int)*(2*7+1)+7*7919=15*(code l:Int)+55433 by clear h i f;generalize (code l:Int)=z;omega]
 rw[e,e] at h;have j:(code a:Int)<282429536481:=by omega
 have g:(code b:Int)<282429536481:=by omega
 have k:(code a:Int)=code b:=ar5 ⟨Int.natCast_nonneg _,j⟩ ⟨Int.natCast_nonneg _,g⟩ h;refine aom c.2 d.2 ?_;show code a=code b;exact Int.ofNat_inj.1 k
def apb{nm:Int}(h:(dh 7 l nm).2=true)(e:(dh 7 l' nm).2=true):(dh 7 l nm).1=(dh 7 l' nm).1:=by
 obtain⟨a,b⟩:=ov h;obtain⟨c,d⟩:=ov e;exact pC (alV a c (b.trans d.symm))
def apc(b:∀nm,(dh 7 l' nm).2=true->(dh 7 l nm).2=true)(h:ao9 7 l' dH):ao9 7 l dH/\pV 7 l dH=pV 7 l' dH:=
 ⟨λn a=>b n (h n a),wG λn a=>apb (b n (h n a)) (h n a)⟩
def alW(d:∀nm,(dh 7 l' nm).2=true->(dh 7 l nm).2=true){y:Nd}(h:lQ 7 l' x=some y):lQ 7 l x=some y:=by
 unfold lQ at h ⊢;split at h
 .rename_i b;obtain⟨c,a⟩:=apc d b.1;rw[eg ⟨c,by rw[a];exact b.2⟩,a];exact h
 .cases h
def adq{l l':List iR}(e:∀nm,(dh 7 l' nm).2=true->(dh 7 l nm).2=true):∀{xs:List Ls},(∀x∈xs,(lQ 7 l' x).isSome=true)->(∀x∈xs,(lQ 7 l x).isSome=true)/\gS 7 l xs=gS 7 l' xs
 |[],_=>⟨λx g=>(by cases g),rfl⟩
 |x::xs,h=>by
  obtain⟨y,d⟩:=rF.1 (h x (by simp));have b:=alW e d;obtain⟨f,c⟩:=adq e (xs:=xs) λz a=>h z (by simp[a]);refine⟨λz a=> ?_, ?_⟩
  .rcases pb.1 a with rfl|a
   .rw[b];rfl
   .exact f z a
  .unfold gS at c ⊢;rw[wH,wH,d,b,c]
def alX(d:∀nm,(dh 7 l' nm).2=true->(dh 7 l nm).2=true){t:List Nd}(h:kO 7 l' xs=some t):kO 7 l xs=some t:=by
 unfold kO at h ⊢;split at h
 .rename_i b;obtain⟨c,a⟩:=adq d b.1;rw[eg ⟨c,by rw[a];exact b.2⟩,a];exact h
 .cases h
def alY{x:It}:agf key x↔(gR key (x.n,x.b)).2=true:=by
 have e:∀s,(fH s).2=true↔nL (bs s)=some (bs (fH s).1):=λs=>by
  unfold fH nL;rw[ahn];by_cases h:bF (vI (bs s))/\gF (vI (bs s))=bs s
  .rw[eg h,eg h];simp only[tM];rw[ahn]
  .rw[da h,da h];simp
 unfold agf gR;constructor
 .rintro⟨p,c,f⟩;have d:(fH x.b).2=true:=by
   unfold fH;rw[ahn];unfold nL at c;split at c
   .rename_i b;rw[eg b]
   .cases c
  have a:=(e x.b).1 d;rw[c] at a;have a:=dq a;rw[eg ⟨d,by rw[<-a];exact f⟩]
 .intro h;split at h
  .rename_i b;exact⟨_,(e x.b).1 b.1,b.2⟩
  .cases h
def ar6(h:bF (bs s)):agf key (lL key s):=⟨bs s,by show nL (bs (rL (gF (bs s))))=_;rw[ag6,aiJ h],rfl⟩
def avf(p:Pk)(i:Nat):(pkd p).2[i]?=(p.its[i]?).map λx=>(x.n,x.b):=by show(p.its.map _)[i]?=_;rw[qO]
def alZ{nm : Int}{p:Pk}(c:∀x∈p.its,agf key x)(h:fJ nm (pkd p).2=k):(iB key (pkd p).2 nm).2=true:=by
 rcases acd nm (pkd p).2 with b|⟨e,x,b,a⟩
 .omega
 .rw[ant b a];rw[avf] at a;obtain⟨y,d,rfl⟩:=lw.1 a;exact alY.1 (c y (de d))
def ajF{nm:Int}:∀{l a:List (Int×ByteArray)},l.map (·.1)=a.map (·.1)->fJ nm l=fJ nm a
 |[],[],_=>rfl
 |[],_::_,h=>by simp at h
 |_::_,[],h=>by simp at h
 |x::l,y::a,h=>by
  simp only[sF,qj] at h;show(if x.1=nm then 0 else let j:=fJ nm l;if j<0 then -1 else j+1:Int)=(if y.1=nm then 0 else let j:=fJ nm a;if j<0 then -1 else j+1:Int);rw[h.1,ajF h.2]
def apd{a β:Type}(g:a->β)(f:a->a)(d:∀x,g (f x)=g x)(l:List a)(i:Nat):(sd l i f).map g=l.map g:=by
 unfold sd;split
 .rename_i x c;apply tN;intro j;rw[qO,qO];by_cases b:i=j
  .subst b;rw[rA (aD c),c];simp[d]
  .rw[rN b]
 .rfl
def avg{s:dJ}(m:∀p∈s.pk,∀x∈p.its,agf 7 x)(L:iU)(nm:Int)(h:(dh 7 (acW (dK s L).pk) nm).2=true):(dh 7 (acW s.pk) nm).2=true:=by
 have same:(dK s L).pk=s.pk->(dh 7 (acW s.pk) nm).2=true:=λe=>by rw[e] at h;exact h
 by_cases l:L.k=1
 .rw[pO l] at h;obtain⟨p,c,f⟩:=pW.1 h;refine pW.2 ⟨p, ?_,f⟩;obtain⟨q,g,rfl⟩:=qu.1 c;exact wF ((sU.1 g).1)
 by_cases d:L.k=2
 .by_cases b:0<=L.n/\L.n<=s.lg.length
  .exact same (by rw[mQ d b])
  .exact same (by rw[kT d b])
 by_cases j:L.k=3
 .rw[pP j] at h;obtain⟨p,c,f⟩:=pW.1 h;obtain⟨q,g,rfl⟩:=qu.1 c;obtain⟨r,a,rfl⟩:=qu.1 g;obtain⟨k,x,n, -, -, -⟩:=ajE f;refine pW.2 ⟨pkd r,wF a,alZ (m r a) (k:=k) ?_⟩;rw[<-n];refine ajF ?_;show(r.its.map _).map _=((fN L r).its.map _).map _;rw[vP,vP];unfold fN;split
  .exact(apd (λx:It=>x.n) (λx=>(⟨x.n,L.b⟩:It)) (λ_=>rfl) r.its L.m.toNat).symm
  .rfl
 by_cases i:L.k=4
 .by_cases b:0<=L.n/\L.n<s.lg.length
  .exact same (by rw[pQ i b])
  .exact same (by rw[kU i b])
 exact same (by rw[pR l d j i])
def iP.items{s:dJ}(h:iP s):∀p∈s.pk,∀x∈p.its,agf 7 x:=by
 induction h with
 |nil=>exact λp a=>(by cases a)
 |save _ l d k i=>
  intro p a x b;rcases oR.1 a with a|a
  .exact i p a x b
  .obtain⟨n,j,c,e,m,o,f⟩:=om 7 _ _ _ (am _) p a;rw[e] at b;obtain⟨q,g,rfl⟩:=acR.1 b;exact ar6 (od (acV d) q (f q g))
def iP.one{s:dJ}(h:iP s):∀p∈s.pk,1<=p.its.length:=by
 induction h with
 |nil=>exact λp a=>(by cases a)
 |save _ m l i b=>
  intro p a;rcases oR.1 a with a|a
  .exact b p a
  .obtain⟨j,g,c,e,d,k,f⟩:=om 7 _ _ _ (am _) p a;rw[e,aam];exact d
def adr{e:Type}(q:e->Bool)(f:Int->Bool)(a:e->Int)(n:Int)(i:∀x,q x=f (a x)):∀{l:List e} {x:e},(l.filter q).find? (λx=>a x ==n)=some x->l.find? (λx=>a x ==n)=some x
 |[],x,h=>by simp at h
 |y::l,x,h=>by
  rw[sg];by_cases d:a y=n
  .rw[show(a y ==n)=true from oE.2 d];by_cases c:q y=true
   .rw[rX,eg c,sg,show(a y ==n)=true from oE.2 d] at h;exact h
   .exfalso;have j:=List.mem_of_find?_eq_some h;have g:=List.find?_some h;have b:=(sU.1 j).2;rw[i] at b c;rw[oE.1 g] at b;rw[d] at c;exact c b
  .rw[show(a y ==n)=false from dk.2 d];refine adr q f a n i (l:=l) ?_;by_cases c:q y=true
   .rw[rX,eg c,sg,show(a y ==n)=false from dk.2 d] at h;exact h
   .rw[rX,da c] at h;exact h
def ayv{s:dJ}(L:iU){x:Sn}(h:(dK s L).sn.find? (λx=>x.no ==key)=some x):s.sn.find? (λx=>x.no ==key)=some x:=by
 by_cases d:L.k=1
 .rw[pO d] at h;exact h
 by_cases b:L.k=2
 .by_cases a:0<=L.n/\L.n<=s.lg.length
  .rw[mQ b a] at h;exact adr (λx:Sn=>!((s.lg.drop L.n.toNat).any λh=>h.s ==x.no)) (λm=>!((s.lg.drop L.n.toNat).any λh=>h.s ==m)) (λx:Sn=>x.no) key (λ_=>rfl) h
  .rw[kT b a] at h;exact h
 by_cases e:L.k=3
 .rw[pP e] at h;exact h
 by_cases c:L.k=4
 .by_cases a:0<=L.n/\L.n<s.lg.length
  .rw[pQ c a] at h;exact h
  .rw[kU c a] at h;exact h
 rw[pR d b e c] at h;exact h
def Bf{s:dJ}(h:iP s)(L:iU){t:List Nd}(a:dE 7 (dK s L) key=some t):dE 7 s key=some t:=by
 unfold dE at a ⊢;split at a
 .rename_i x b;rw[ayv L b];exact alX (avg h.items L) a
 .cases a
end
section
variable {β:Bool}
open Go.RowKit
def mR:∀(a b:List UInt8),(Op.bytesLess a b||a ==b)=!(Op.bytesLess b a)
 |[],[]=>by simp[Op.bytesLess]
 |[],_::_=>by simp[Op.bytesLess]
 |_::_,[]=>by simp[Op.bytesLess]
 |x::a,y::b=>by
  have j:=mR a b;by_cases i:x.toNat<y.toNat
  .have c:decide (x<y)=true:=dj (rY.2 i);have g:decide (y<x)=false:=db λh=>by have:=rY.1 h;omega
   have d:(y ==x)=false:=dk.2 λh=>by rw[h] at i;omega
   simp[Op.bytesLess,c,g,d]
  .by_cases e:y.toNat<x.toNat
   .have c:decide (y<x)=true:=dj (rY.2 e);have g:decide (x<y)=false:=db λh=>by have:=rY.1 h;omega
    have d:(x ==y)=false:=dk.2 λh=>by rw[h] at e;omega
    have f:(x::a ==y::b)=false:=dk.2 λh=>by rw[qj] at h;rw[h.1] at e;omega
    rw[f];simp[Op.bytesLess,c,g,d]
   .obtain rfl:x=y:=uO.1 (by omega);have c:decide (x<x)=false:=db λh=>by have:=rY.1 h;omega
    have f:(x::a ==x::b)=(a ==b):=by rw[List.cons_beq_cons,tq,vC]
    rw[f];simp only[Op.bytesLess,c,uC,tq,vC];exact j
def pX(h:k<s.size):s.toList[k]?=some (s[k]'h):=by
 rw[qR,fi];exact gn h
def aco(s:ByteArray):s.toList.length=s.size:=by rw[qR,qS];rfl
end
section
variable {β:Bool}
open Go.RowKit
def ajG(s:ByteArray)(w:World) :
  Calls (ai β) 156 #[.string s,.int .u8 47] w λe a=>e=.returned (.int .i64 (Lib.indexByte s.data.toList 47))/\w=a:=by
 go_enter yz,ntmps156;go_wp2;rw[run_callFunc_extern yw (by kernel_rfl) (by kernel_rfl) (by kernel_rfl) (e:=Extern.BytealgIndexByte.indexByte) (by kernel_rfl),Lib.run_indexByteString];simp only[Result.andThen];rw[Oper.upon_value];go_wp2;go_ret;exact⟨rfl,rfl⟩
noncomputable def al0:Code:=gP (f150.body.getD .skip)
def aDz:Code->Code
 |.seq a _=>a
 |c=>c
def ar7:Code->Code
 |.cond _ _ b=>b
 |c=>c
def ayw:Code->Code
 |.block _ b=>b
 |c=>c
noncomputable def aAX:Code:=cu (cu (cu al0))
noncomputable def aAY:Code:=ar7 (cu (ar7 (cu (ayw (aDz (cu (cu al0)))))))
noncomputable def xIx:Func:={f150 with body:=some ((Code.region 0 #[⟨some 4,Op.assign (Operand.const (Value.int IntKind.i64 0)),3,"strings.go:28",#[],none⟩] false).seq ((Code.region 1 #[⟨some 14,Op.move (Operand.tmp 1),9,"strings.go:29",#[],none⟩,⟨some 15,Op.call ⟨Callee.builtin Builtin.len,#[Operand.tmp 14],#[9]⟩,3,"strings.go:29",#[⟨0,Ground.data⟩],none⟩,⟨some 5,Op.assign (Operand.tmp 15),3,"strings.go:29",#[⟨1,Ground.data⟩,⟨0,Ground.phase⟩,⟨1,Ground.phase⟩],none⟩] false).seq ((Code.block 0 ((Code.region 2 #[⟨some 17,Op.move (Operand.tmp 5),3,"strings.go:31",#[],none⟩,⟨some 18,Op.binOp BinOp.eql 3 (Operand.tmp 17) (Operand.const (Value.int IntKind.i64 0)) 3,4,"strings.go:31",#[⟨0,Ground.data⟩],none⟩,⟨some 19,Op.move (Operand.tmp 18),4,"strings.go:31",#[⟨1,Ground.data⟩],none⟩,⟨some 20,Op.move (Operand.tmp 1),9,"strings.go:31",#[⟨2,Ground.guard⟩],some (2,false)⟩,⟨some 21,Op.move (Operand.tmp 0),9,"strings.go:31",#[⟨2,Ground.guard⟩],some (2,false)⟩,⟨some 22,Op.binOp BinOp.eql 9 (Operand.tmp 20) (Operand.tmp 21) 9,4,"strings.go:31",#[⟨3,Ground.data⟩,⟨4,Ground.data⟩,⟨2,Ground.guard⟩],some (2,false)⟩,⟨some 23,Op.pick (Operand.tmp 19) (Operand.const (Value.bool true)) (Operand.tmp 22),4,"strings.go:31",#[⟨2,Ground.data⟩,⟨5,Ground.data⟩],none⟩,⟨some 16,Op.assign (Operand.tmp 23),4,"strings.go:31",#[⟨6,Ground.data⟩,⟨2,Ground.chain⟩],none⟩] false).seq (Code.cond (Operand.tmp 16) ((Code.region 3 #[⟨some 4,Op.assign (Operand.const (Value.int IntKind.i64 0)),3,"strings.go:32",#[],none⟩] false).seq Code.ret) ((Code.region 4 #[⟨some 25,Op.move (Operand.tmp 5),3,"strings.go:33",#[],none⟩,⟨some 26,Op.binOp BinOp.eql 3 (Operand.tmp 25) (Operand.const (Value.int IntKind.i64 1)) 3,4,"strings.go:33",#[⟨0,Ground.data⟩],none⟩,⟨some 24,Op.assign (Operand.tmp 26),4,"strings.go:33",#[⟨1,Ground.data⟩],none⟩] false).seq (Code.cond (Operand.tmp 24) ((Code.region 5 #[⟨some 27,Op.move (Operand.tmp 0),9,"strings.go:34",#[],none⟩,⟨some 28,Op.move (Operand.tmp 1),9,"strings.go:34",#[],none⟩,⟨some 29,Op.index 9 (Operand.tmp 28) (Operand.const (Value.int IntKind.i64 0)),5,"strings.go:34",#[⟨1,Ground.data⟩],none⟩,⟨some 30,Op.call ⟨Callee.value (Operand.func 156),#[Operand.tmp 27,Operand.tmp 29],#[9,5]⟩,3,"strings.go:34",#[⟨0,Ground.data⟩,⟨2,Ground.data⟩],none⟩,⟨some 4,Op.assign (Operand.tmp 30),3,"strings.go:34",#[⟨3,Ground.data⟩,⟨3,Ground.chain⟩,⟨0,Ground.phase⟩,⟨1,Ground.phase⟩,⟨2,Ground.phase⟩,⟨3,Ground.phase⟩],none⟩] false).seq Code.ret) aAY))))).seq aAX)))}
def ar8:f150.body.map gP=xIx.body:=by
 unfold xIx aAY aAX al0 gP
 kernel_rfl
def al1:(ai β).funcs[150]?=some xIx:=by
 refine(akI β (by decide) (by decide)).trans ?_;have e:Option.map pf (prog.funcs[150]?)=Option.map pf (some f150):=jt _ func150;rw[e,qs];unfold pf;rw[ar8];rfl
@[go_sem] theorem aAZ(args:Array Value)(w:World):(callFunc 150 args).run (ai β) w=.ok (.enter 150 args) w:=by
 have a:=cM func150;exact ly al1 a rfl args w
def avh(s:ByteArray)(w:World) :
  Calls (ai β) 150 #[.string s,.string ⟨#[47]⟩] w λe g=>e=.returned (.int .i64 (Lib.indexByte s.data.toList 47))/\w=g:=by
 have d:xIx.ntmps=143:=ntmps150;have c:xIx.results=#[.tmp 4]:=results150;by_cases a:s.toList=[47]
 .have f:([47] ==s.toList)=true:=by rw[a];rfl
  have b:Lib.indexByte s.data.toList 47=0:=by
   rw[show s.data.toList=s.toList by rw[qR],a];rfl
  replace b:=ab b;go_enter al1,d;go_wp2;exact nf (v:=.int .i64 0) (by simp[results,c,go_sem]) rfl ⟨by rw[b.out],rfl⟩
 .have f:([47] ==s.toList)=false:=dk.2 λe=>a e.symm;go_enter al1,d;go_wp2;refine(ajG s w).mono ?_;rintro e i ⟨rfl,rfl⟩;go_wp2;exact nf (v:=.int .i64 (Lib.indexByte s.data.toList 47)) (by simp[results,c,go_sem]) rfl ⟨rfl,rfl⟩
open Classical in
noncomputable def dy(s:ByteArray):ByteArray×ByteArray×Bool:=if Lib.indexByte s.data.toList 47<0 then(s,⟨#[]⟩,false) else(s.extract 0 (Lib.indexByte s.data.toList 47).toNat,s.extract ((Lib.indexByte s.data.toList 47).toNat+1) s.size,true)
def ajH(s:ByteArray):Lib.indexByte s.data.toList 47=-1\/∃k:Nat,Lib.indexByte s.data.toList 47=k/\k<s.size:=by
 rcases Int.lt_or_le (Lib.indexByte s.data.toList 47) 0 with h|h
 .left;have:=Lib.indexByte_ge s.data.toList 47;omega
 .right;obtain⟨k,a⟩:=ql h;refine⟨k,a, ?_⟩;have:=aD (Lib.indexByte_some a).1;rw[qS] at this;exact this
def ayx(s:ByteArray)(i:s.size<=maxLen)(w:World) :
  Calls (ai β) 143 #[.string s,.string ⟨#[47]⟩] w λe g=>e=.returned (.tuple #[.string (dy s).1,.string (dy s).2.1,.bool (dy s).2.2])/\Below w.heap.size w g:=by
 unfold maxLen at i;have HC:=ab (avh (β:=β) s w);rcases ajH s with h|⟨k,h,n⟩
 .have b:dy s=(s,⟨#[]⟩,false):=by unfold dy;rw[eg (by omega)]
  have a:=ab b;rw[h] at HC;go_enter xC,ntmps143;go_wp2;refine HC.out.mono ?_;rintro e d ⟨rfl,rfl⟩;go_wp2
  go_ret3
  rw[a.out];exact⟨rfl,du _ _⟩
 .have b:dy s=(s.extract 0 k,s.extract (k+1) s.size,true):=by unfold dy;rw[da (by omega),h];rfl
  have a:=ab b;rw[h] at HC;have l:=dj (show 0<=(k:Int) by omega);go_enter xC,ntmps143;go_wp2;refine HC.out.mono ?_;rintro e d ⟨rfl,rfl⟩;go_wp2;refine aC 12 [0,1,2,3,4,5,6,7,8,9,10,11] [] (h:= ?_);simp only[pick,List.map,gt,gE];repeat(go_big_quiet_step (fail))
  refine io ?_;apply Exists.intro;refine aS ?_;intro o j m f c;dsimp only[dP] at c;try rw[f] at c
  simp only[List.drop];go_wp2
  go_ret3
  rw[a.out];exact⟨rfl,j⟩
def aA0(s:ByteArray)(c:s.size<=maxLen)(w:World) :
  Calls (ai β) 124 #[.string s,.string ⟨#[47]⟩] w λe a=>e=.returned (.tuple #[.string (dy s).1,.string (dy s).2.1,.bool (dy s).2.2])/\Below w.heap.size w a:=by
 go_enter yP,ntmps124;go_wp2;refine(ayx s c w).mono ?_;rintro e d ⟨rfl,b⟩;go_wp2
 go_ret3
 exact⟨rfl,b⟩
def acp(s:ByteArray):Bool:=if h:s.size=1 then nm (s[0]'(by omega)).toNat else false
def pY(s:ByteArray)(m:s.size<=maxLen)(w:World) :
  Calls (ai β) 125 #[.string s] w λe l=>e=.returned (.bool (acp s))/\w=l:=by
 unfold maxLen at m;by_cases d:s.size=1
 .have a:0<s.size:=by omega
  have k:((s.size:Int) ==1)=true:=by rw[d];rfl
  have b:acp s=nm (s[0]'a).toNat:=by unfold acp;rw[tX d]
  rw[b];clear b;by_cases g:97<=(s[0]'a).toNat
  .by_cases i:(s[0]'a).toNat<=101
   .have e:nm (s[0]'a).toNat=true:=by unfold nm;rw[dj g,dj i];rfl
    have c:=ab e;clear e;have j:=dj (show((s[0]'a).toNat:Int)<=101 by omega);have f:=dj (show 97<=((s[0]'a).toNat:Int) by omega);go_enter wU,ntmps125;go_wp2;go_ret;exact⟨by rw[c.out];rfl,rfl⟩
   .have e:nm (s[0]'a).toNat=false:=by unfold nm;rw[db i,Bool.and_false]
    have c:=ab e;clear e;have j:=db (show ¬(((s[0]'a).toNat:Int)<=101) by omega);have f:=dj (show 97<=((s[0]'a).toNat:Int) by omega);go_enter wU,ntmps125;go_wp2;go_ret;exact⟨by rw[c.out];rfl,rfl⟩
  .have e:nm (s[0]'a).toNat=false:=by unfold nm;rw[db g,uX]
   have c:=ab e;clear e;have f:=db (show ¬(97<=((s[0]'a).toNat:Int)) by omega);go_enter wU,ntmps125;go_wp2;go_ret;exact⟨by rw[c.out];rfl,rfl⟩
 .have k:((s.size:Int) ==1)=false:=dk.2 (by omega);have b:acp s=false:=by unfold acp;rw[dif_neg d]
  have n:=ab b;clear b;go_enter wU,ntmps125;go_wp2;go_ret;exact⟨by rw[n.out];rfl,rfl⟩
def acY :acp s=match s.toList with|[a]=>nm a.toNat|_=>false:=by
 have c:=aco s;unfold acp;split
 .rename_i h;rw[h] at c;obtain⟨a,d⟩:=uy.1 c;have:=pX (s:=s) (k:=0) (by omega);rw[d] at this ⊢;simp only[uq,mt] at this;rw[<-this]
 .rename_i h
  match hs:s.toList,c with
  |[],_=>rfl
  |[a],c=>exact absurd c.symm h
  |a::b::l,_=>rfl
def afg :jq s=match s.toList with|[a]=>nm a.toNat|[a,b,c]=>nm a.toNat&&(decide (b=47)&&nm c.toNat)|_=>false:=by
 have e:=aco s;unfold jq;split
 .rename_i h;rw[h] at e;obtain⟨a,m⟩:=uy.1 e;have:=pX (s:=s) (k:=0) (by omega);rw[m] at this ⊢;simp only[uq,mt] at this;rw[<-this]
 .rename_i n;split
  .rename_i j;have i:=pX (s:=s) (k:=0) (by omega);have g:=pX (s:=s) (k:=1) (by omega);have f:=pX (s:=s) (k:=2) (by omega)
   match hs:s.toList,e,i,g,f with
   |[a,b,c],_,i,g,f=>
    simp at i g f;show _=(nm a.toNat&&(decide (b=47)&&nm c.toNat));rw[i,g,f]
    congr 2
    rw[uF,<-uO];exact Iff.rfl
   |[],e,_,_,_=>simp at e;omega
   |[a],e,_,_,_=>simp at e;omega
   |[a,b],e,_,_,_=>simp at e;omega
   |a::b::c::d::l,e,_,_,_=>simp at e;omega
  .rename_i j
   match hs:s.toList,e with
   |[],_=>rfl
   |[a],e=>exact absurd e.symm n
   |[a,b],_=>rfl
   |[a,b,c],e=>exact absurd e.symm j
   |a::b::c::d::l,_=>rfl
def ajI(s:ByteArray)(a b:Nat):(s.extract a b).toList=(s.toList.take b).drop a:=by
 rw[qR,qR,vX,tV,vL,List.take_drop];by_cases h:a<=b
 .congr 2;omega
 .have:b-a=0:=by omega
  rw[this,rU (by simp;omega),rU (by simp;omega)]
def ajJ(s:ByteArray):jq s=(acp (dy s).1&&(!(dy s).2.2||acp (dy s).2.1)):=by
 have hd:s.data.toList=s.toList:=by rw[qR]
 rcases ajH s with h|⟨k,h,f⟩
 .have i:dy s=(s,⟨#[]⟩,false):=by unfold dy;rw[eg (by omega)]
  rw[i];show _=(acp s&&true);rw[uD,acY,afg];have m:=Lib.indexByte_none h;rw[hd] at m
  match hs:s.toList with
  |[]=>rfl
  |[a]=>rfl
  |[a,b]=>rfl
  |[a,b,c]=>
   have:=m 1;rw[hs] at this;have j:b≠47:=by simpa using this
   show(nm a.toNat&&(decide (b=47)&&nm c.toNat))=false;rw[db j];simp
  |a::b::c::d::l=>rfl
 .have i:dy s=(s.extract 0 k,s.extract (k+1) s.size,true):=by unfold dy;rw[da (by omega),h];rfl
  rw[i];show _=(acp (s.extract 0 k)&&(false||acp (s.extract (k+1) s.size)));rw[uC,acY,acY,ajI,ajI,afg,rO,<-aco,ip];obtain⟨e,g⟩:=Lib.indexByte_some h;rw[hd] at e g;rw[<-aco] at f
  match hs:s.toList,k,e,g,f with
  |[],_,_,_,f=>simp at f
  |[a],0,e,_,_=>
   simp at e;subst e;rfl
  |[a],k+1,_,_,f=>simp at f
  |[a,b],0,_,_,_=>rfl
  |[a,b],1,_,_,_=>simp
  |[a,b],k+2,_,_,f=>simp at f;omega
  |[a,b,c],0,e,_,_=>
   simp at e;subst e;rfl
  |[a,b,c],1,e,_,_=>
   simp at e;subst e;simp
  |[a,b,c],2,e,g,_=>
   have:=g 1 (by omega);have j:b≠47:=by simpa using this
   simp[j]
  |[a,b,c],k+3,_,_,f=>simp at f;omega
  |a::b::c::d::l,0,_,_,_=>rfl
  |a::b::c::d::l,1,_,_,_=>simp
  |a::b::c::d::l,k+2,_,_,_=>simp
def pZ(s:ByteArray)(j:s.size<=maxLen)(w:World) :
  Calls (ai β) 85 #[.string s] w λe l=>e=.returned (.bool (jq s))/\Below w.heap.size w l:=by
 have d:(dy s).1.size<=maxLen/\(dy s).2.1.size<=maxLen:=by
  unfold dy;split
  .exact⟨j,ff _⟩
  .refine⟨?_, ?_⟩
   .show(s.extract _ _).size<=_;rw[<-aO,dv,qr,fa,aO];omega
   .show(s.extract _ _).size<=_;rw[<-aO,dv,qr,fa,aO];omega
 have c:=ab (ajJ s);have HC:=ab (aA0 (β:=β) s j w);generalize dy s=r at c HC d;obtain⟨a,b,q⟩:=r;dsimp only at c HC d;have n:=ab d.1;have m:=ab d.2;go_enter zm,ntmps85;go_wp2;refine HC.out.mono ?_;rintro e i ⟨rfl,g⟩;go_wp2;refine(pY a n.out i).mono ?_;rintro e o ⟨rfl,rfl⟩;cases k:acp a
 .rw[k] at c;go_wp2;go_ret;exact⟨by rw[c.out];simp,g⟩
 .rw[k] at c;cases q
  .go_wp2;go_ret;exact⟨by rw[c.out];simp,g⟩
  .go_wp2;refine(pY b m.out i).mono ?_;rintro e o ⟨rfl,rfl⟩;cases f:acp b<;>rw[f] at c<;>clear f
   .go_wp2;go_ret;exact⟨by rw[c.out];simp,g⟩
   .go_wp2;go_ret;exact⟨by rw[c.out];simp,g⟩
end
section
variable {β:Bool}
open Go.RowKit
def anu{t : ByteArray}(h:s=t):(s.toList ==t.toList)=true:=by subst h;exact tq _
def al3(xs f:List ByteArray)(K N:Value)(w:World)(T hi H O:Nat)(z:dA w T hi xs [K])(I:dA w H O f [N])(C:hi<=w.heap.size)(D:O<=w.heap.size)(q:Bool)(j:q=true↔xs=f) :
  Calls (ai β) 83 #[K,N] w λe R=>e=.returned (.bool q)/\Below w.heap.size w R:=by
 have v:=ab j;clear j;obtain⟨A,c,rfl⟩:=z.form;obtain⟨B,d,rfl⟩:=I.form;obtain⟨_,hc,Z⟩:=z.len_;unfold maxLen at Z;go_enter zp,ntmps83;by_cases a:xs.length=f.length
 .have X:((xs.length:Int) !=f.length)=false:=by rw[qJ];omega
  replace a:=ab a;go_wp2;go_loopw [13] (λi wr=>∃k:Nat,k<=xs.length/\i=.int .i64 k/\xs.take k=f.take k/\Below w.heap.size w wr) (λi _=>xs.length-(intOf i).toNat)
  case atStart=>exact⟨0,ff _,rfl,rfl,du _ _⟩
  case round=>
   obtain⟨k,hk,rfl,g,b⟩:=hrel;have P:=ab g;clear g;by_cases u:k<xs.length
   .obtain⟨x,r⟩:=aq u;obtain⟨y,o⟩:=aq (l:=f) (k:=k) (by have:=a.out;omega);obtain⟨b1,Y,rfl,_,_,U,L⟩:=lH (dA.ar.below z b C) r;obtain⟨b2,iT,rfl,_,_,V,M⟩:=lH (dA.ar.below I b D) o;have W:(k:Int)<(f.length:Int):=by have:=a.out;omega
    replace r:=ab r;replace o:=ab o;by_cases g:x=y
    .have Q:=anu g;have F:xs.take (k+1)=f.take (k+1):=by rw[li r.out,li o.out,P.out,g]
     replace F:=ab F;clear g;go_wp2;have E:=ae L;have G:=ae M;refine aN (by kernel_rfl) (by kernel_rfl) ?_;repeat(go_big_quiet_step (fail))
     refine io ?_;intro S m;have j:=bC m;clear m E G;go_wp2;go_roundw
     case rel=>exact⟨k+1,by omega,by go_num,F.out,ag b j⟩
     simp[intOf];omega
    .have Q:=aa3 (s:=y) (t:=x) g;have p:q=false:=by
      rw[<-mc,v.out];rintro rfl;exact g (dq (r.out.symm.trans o.out))
     have n:=ab p;clear p g;go_wp2;have E:=ae L;have G:=ae M;refine aN (by kernel_rfl) (by kernel_rfl) ?_;repeat(go_big_quiet_step (fail))
     refine io ?_;intro S m;have j:=bC m;clear m E G;go_wp2;go_ret;exact⟨aB n.out.symm,ag b j⟩
   .obtain rfl:k=xs.length:=by omega
    have J:q=true:=by
     rw[v.out];have:=P.out
     rwa [ip,pa (by have:=a.out;omega)] at this
    have n:=ab J;clear J;go_wp2;go_ret;exact⟨aB n.out.symm,b⟩
 .have X:((xs.length:Int) !=f.length)=true:=by rw[rM];omega
  have p:q=false:=by
   rw[<-mc,v.out];rintro rfl;exact a rfl
  have n:=ab p;clear p;replace a:=ab a;go_wp2;go_ret;exact⟨aB n.out.symm,du _ _⟩
end
section
variable {β:Bool}
open Go.RowKit
def avi(p s:ByteArray):(bs p).isPrefixOf (bs s)=true↔p.size<=s.size/\s.extract 0 p.size=p:=by
 rw[List.isPrefixOf_iff_prefix,List.prefix_iff_eq_take,aO];constructor
 .intro h;have a:=jt List.length h;rw[fa,aO,aO] at a;exact⟨by omega,pC (by rw[dv,rO];exact h.symm)⟩
 .rintro⟨-,h⟩;have:=jt bs h;rw[dv,rO] at this;exact this.symm
def ahL(s p:ByteArray)(m:s.size<=100)(l:p.size<=100)(w:World)(q:Bool)(k:q=(bs p).isPrefixOf (bs s)) :
  Calls (ai β) 127 #[.string s,.string p] w λe j=>e=.returned (.bool q)/\w=j:=by
 have b:q=true↔p.size<=s.size/\s.extract 0 p.size=p:=by rw[k,avi]
 replace b:=ab b;by_cases f:p.size<=s.size
 .have i:decide (p.size<=s.size)=true:=dj f;by_cases d:s.extract 0 p.size=p
  .have g:=anu d;have a:q=true:=b.out.2 ⟨f,d⟩;have c:=ab a;go_enter xi,ntmps127;go_wp2;go_ret;exact⟨by rw[c.out];rfl,rfl⟩
  .have g:=aa3 (s:=p) (t:=s.extract 0 p.size) d;have a:q=false:=by
    rw[<-mc,b.out];exact λh=>d h.2
   have c:=ab a;go_enter xi,ntmps127;go_wp2;go_ret;exact⟨by rw[c.out];rfl,rfl⟩
 .have i:decide (p.size<=s.size)=false:=db f;have a:q=false:=by
   rw[<-mc,b.out];exact λh=>f h.1
  have c:=ab a;go_enter xi,ntmps127;go_wp2;go_ret;exact⟨by rw[c.out];rfl,rfl⟩
def ajK(s p:ByteArray)(d:s.size<=100)(b:p.size<=100)(w:World)(q:Bool)(a:q=(bs p).isPrefixOf (bs s)) :
  Calls (ai β) 88 #[.string s,.string p] w λe c=>e=.returned (.bool q)/\w=c:=by
 replace a:=ab a;go_enter zj,ntmps88;go_wp2;refine(ahL s p d b w q a.out).mono ?_;rintro e f ⟨rfl,rfl⟩;go_wp2;go_ret;exact⟨rfl,rfl⟩
def aA1:bs ⟨#[47]⟩=[47]:=rfl
def ape(y f:Nd)(n:y.p.size<=3)(l:f.p.size<=3)(g:Nat)(w:World)(i:w.cell? ⟨g,0,none⟩=some (.string f.p)) :
  Calls (ai β) 87 #[.agg #[.string y.p,.string y.b],.pointer (some ⟨g,0,none⟩)] w λe j=>e=.returned (.bool (acX y.p f.p))/\Below w.heap.size w j:=by
 have d:=av w (.cells #[.string y.p,.string y.b] 79);have k:(w.alloc (.cells #[.string y.p,.string y.b] 79)).cell? ⟨g,0,none⟩=some (.string f.p):=(qy (d.block g (eO i))).trans i;have a:(y.p++⟨#[47]⟩:ByteArray).size<=100:=by
  rw[<-aO,iI,aE,aO,aA1,mw];omega
 have c:acX y.p f.p=(bs (y.p++⟨#[47]⟩)).isPrefixOf (bs f.p):=by rw[iI,aA1];unfold acX;exact Eq.refl _
 replace c:=ab c;replace a:=ab a;go_enter xO,ntmps87;go_wp2;have b:f.p.size<=100:=by omega
 have HC:=ajK (β:=β) f.p (y.p++⟨#[47]⟩) b a.out (w.alloc (.cells #[.string y.p,.string y.b] 79)) (acX y.p f.p) c.out;refine HC.mono ?_;rintro e m ⟨rfl,rfl⟩;go_wp2;go_ret;exact⟨rfl,d⟩
def avj:aa7 (β:=β) 87:=adI xO (by kernel_rfl) rfl
def ahM(f:Nd)(H:f.p.size<=3)(xs:List Nd)(n:Nat)(Q:n<=xs.length)(o:∀y∈xs.take n,y.p.size<=3)(A:Option Addr)(c g:Nat)(w:World)(L hi:Nat)(h:eL w L hi xs [.slice A xs.length c])(K:hi<=w.heap.size)(C:w.cell? ⟨g,0,none⟩=some (.string f.p)) :
  Calls (ai β) 126 #[.slice A n c,.func (.func 87) #[] #[.pointer (some ⟨g,0,none⟩)]] w λe B=>∃j:Int,e=.returned (.int .i64 j)/\((0<=j/\∃k y,k<n/\xs[k]?=some y/\acX y.p f.p=true)\/(j=-1/\∀k y,k<n->xs[k]?=some y->acX y.p f.p=false))/\Below w.heap.size w B:=by
 obtain⟨_,O,J⟩:=h.1.len_;unfold maxLen at J;have z:=eO C;replace o:=ab o;go_enter yO,ntmps126;go_wp2;go_loopw [8] (λi wr=>∃k:Nat,k<=n/\i=.int .i64 k/\(∀j y,j<k->xs[j]?=some y->acX y.p f.p=false)/\Below w.heap.size w wr) (λi _=>n-(intOf i).toNat)
 case atStart=>exact⟨0,ff _,rfl,λj y E=>absurd E (sT j),du _ _⟩
 case round=>
  obtain⟨k,N,rfl,a,r⟩:=hrel;replace a:=ab a;have u:wr.cell? ⟨g,0,none⟩=some (.string f.p):=(qy (r.block g z)).trans C;by_cases q:k<n
  .obtain⟨x,p⟩:=aq (l:=xs) (k:=k) (by omega);obtain⟨b,I,rfl,_,_,F,G,M⟩:=jV (eL.ar.below h r K) p;have s:x.p.size<=3:=o.out x (by
    have:(xs.take n)[k]?=some x:=by rw[qA,eg q];exact p
    exact de this)
   replace p:=ab p;have P:=avj (β:=β) (#[.agg #[.string x.p,.string x.b]]++#[.pointer (some ⟨g,0,none⟩)]) wr;go_wp2;refine(ape x f s H g wr u).mono ?_;rintro e B ⟨rfl,m⟩;replace m:=ag r m;cases d:acX x.p f.p
   .have v:∀j y,j<k+1->xs[j]?=some y->acX y.p f.p=false:=λj y E t=>by
     rcases pr j k with D|D
     .exact a.out j y D t
     .obtain rfl:j=k:=by omega
      rw[p.out] at t;cases t;exact d
    replace v:=ab v;go_wp2;go_roundw
    case rel=>exact⟨k+1,by omega,by go_num,v.out,m⟩
    simp[intOf];omega
   .replace d:=ab d;go_wp2;go_ret;exact⟨k,rfl,.inl ⟨by omega,k,x,q,p.out,d.out⟩,m⟩
  .obtain rfl:k=n:=by omega
   go_wp2;go_ret;exact⟨-1,rfl,.inr ⟨rfl,a.out⟩,r⟩
def oI(f:Nd)(l:f.p.size<=3)(xs:List Nd)(n:Nat)(r:n<=xs.length)(b:∀y∈xs.take n,y.p.size<=3)(A:Option Addr)(c g:Nat)(w:World)(i hi:Nat)(h:eL w i hi xs [.slice A xs.length c])(s:hi<=w.heap.size)(p:w.cell? ⟨g,0,none⟩=some (.string f.p)) :
  Calls (ai β) 86 #[.slice A n c,.func (.func 87) #[] #[.pointer (some ⟨g,0,none⟩)]] w λe m=>∃q:Bool,e=.returned (.bool q)/\((q=true/\∃k y,k<n/\xs[k]?=some y/\acX y.p f.p=true)\/(q=false/\∀k y,k<n->xs[k]?=some y->acX y.p f.p=false))/\Below w.heap.size w m:=by
 replace b:=ab b;go_enter zl,ntmps86;go_wp2;refine(ahM f l xs n r b.out A c g w i hi h s p).mono ?_;rintro e u ⟨j,rfl,t,d⟩;rcases t with⟨o,a⟩|⟨rfl,a⟩
 .have v:decide (0<=j)=true:=dj o;replace a:=ab a;go_wp2;go_ret;exact⟨true,rfl,.inl ⟨rfl,a.out⟩,d⟩
 .replace a:=ab a;go_wp2;go_ret;exact⟨false,rfl,.inr ⟨rfl,a.out⟩,d⟩
end
section
variable {β:Bool}
open Go.RowKit
def eZ(l:List ByteArray):List UInt8:=l.flatMap λs=>s.data.toList
def agu(l:List ByteArray):(eZ l).map UInt8.toNat=jR l:=by
 unfold eZ jR;rw[List.map_flatMap];rfl
def afh(l:List ByteArray):∀b∈jR l,b<256:=λb a=>by
 obtain⟨s,_,a⟩:=sK.1 a;exact aqD b a
def apf(l:List ByteArray):(⟨(eZ l).toArray⟩:ByteArray)=rL (jR l):=pC (by
 rw[amY (afh l),<-agu];rfl)
def abm{l:List ByteArray}{x:ByteArray}(h:l[k]?=some x):eZ (l.take (k+1))=eZ (l.take k)++x.data.toList:=by
 rw[li h];unfold eZ;rw[tz];simp
def acZ:∀{l:List ByteArray},(∀s∈l,s.size<=8)->(eZ l).length<=8*l.length
 |[],_=>ff _
 |x::l,h=>by
  have b:=acZ (l:=l) λs a=>h s (by simp[a]);have d:=h x (by simp);show(x.data.toList++eZ l).length<=_;have c:x.data.toList.length=x.size:=by rw[qS];rfl
  rw[aE,gc];omega
def gq(h:bF (bs s)):1<=s.size/\s.size<=8:=by have:=h.1;rw[aO] at this;exact this
def ar9(x:ByteArray):x.data.toList.length=x.size:=by rw[qS];rfl
def awK(x:ByteArray)(l:List UInt8):Lib.byteCells l++Lib.strCells x=Lib.byteCells (l++x.data.toList):=by
 simp[Lib.byteCells,Lib.strCells]
def ayy(l:List ByteArray)(r:∀s∈l,bF (bs s))(hl:l.length<=2147483647)(v:Value)(w:World)(lo hi:Nat)(h:dA w lo hi l [v])(Y:hi<=w.heap.size) :
  Calls (ai β) 81 #[v,.string ⟨#[]⟩] w λe w'=>e=.returned (.string (rL (jR l)))/\Below w.heap.size w w':=by
 obtain⟨A,c,rfl⟩:=h.form;obtain⟨_,hc,K⟩:=h.len_;unfold maxLen at K;replace r:=ab r;rcases pr l.length 2 with G|oM
 .rcases qg l.length with N|N
  .obtain rfl:=rc.1 N;go_enter xy,ntmps81;go_wp2;exact nf (v:=.string ⟨#[]⟩) (by simp[results,results81,go_sem]) rfl ⟨rfl,du _ _⟩
  .obtain⟨x,rfl⟩:=uy.1 (show l.length=1 by omega);obtain⟨b,j,rfl,_,_,D,M⟩:=lH h (k:=0) rfl;rw[tv] at M;have Q:rL (jR [x])=x:=by show rL (bs x++[])=x;rw[sj,azN]
   replace Q:=ab Q;go_enter xy,ntmps81;go_wp2;exact nf (v:=.string x) (by simp[results,results81,go_sem]) rfl ⟨by rw[Q.out],du _ _⟩
 .have t0:((l.length:Int) ==0)=false:=dk.2 (by omega);have t1:((l.length:Int) ==1)=false:=dk.2 (by omega);go_enter xy,ntmps81;go_wp2
  go_loop [5,41] (λnn B=>∃k:Nat,k<=l.length/\B=.int .i64 k/\nn=.int .i64 (eZ (l.take k)).length/\(eZ (l.take k)).length<=8*k) (λ_ B=>l.length-(intOf B).toNat)
  case atStart=>exact⟨0,ff _,rfl,rfl,ff _⟩
  case round=>
   obtain⟨k,hk,rfl,rfl,u⟩:=hrel;by_cases G:k<l.length
   .obtain⟨x,L⟩:=aq G;obtain⟨b,j,rfl,_,_,D,M⟩:=lH h L;have S:=(gq (r.out x (de L))).2;have d:(eZ (l.take (k+1))).length=(eZ (l.take k)).length+x.size:=by rw[abm L,aE,ar9]
    have HST:=ab d;clear d L;obtain⟨n,C⟩:∃n,n=(eZ (l.take k)).length:=⟨_,rfl⟩;rw[<-C] at u HST ⊢;clear C;have t3:=db (show ¬(9223372036854775807-(n:Int)<(x.size:Int)) by omega);go_wp2
    go_round
    case rel=>exact⟨k+1,by omega,by go_num,by rw[HST.out];go_num,by rw[HST.out];omega⟩
    simp[intOf];omega
   .obtain rfl:k=l.length:=by omega
    rw[ip] at u ⊢;obtain⟨n,C⟩:∃n,n=(eZ l).length:=⟨_,rfl⟩;rw[<-C] at u ⊢;have HN:=ab C;clear C;go_wp2;generalize q:w.alloc (.cells #[.pointer none,.slice none 0 0] 178)=w0;have V:w0.heap[w.heap.size]?=some (.cells #[.pointer none,.slice none 0 0] 178 (0,0)):=by
     rw[<-q];show(w.heap.push _)[w.heap.size]?=_;rw[qZ]
    have t:Below w.heap.size w w0:=by rw[<-q];exact(du _ w).alloc (am _) _
    refine(ane w.heap.size w.heap.size n w0 (am _) V t.size (by omega)).mono ?_;rintro e w2 ⟨rfl,f,g⟩;replace g:=t.trans g;clear t V q;obtain⟨x,a⟩:=aq (l:=l) (k:=0) (by omega);obtain⟨b,j,rfl,_,_,D,M⟩:=lH (dA.ar.below h g Y) a;rw[tv] at M;have S:=(gq (r.out x (de a))).2;have d:x.data.toList=eZ (l.take 1):=by rw[abm (k:=0) a];simp[eZ]
    have I:1<=x.size:=(gq (r.out x (de a))).1;have T:=ab I;have p:x=l.headD ⟨#[]⟩:=by
     cases l with
     |nil=>simp at a
     |cons y m=>simp at a;rw[a];rfl
    replace p:=ab p;have HST:=ab d;clear d a I;go_wp2;refine(pK w.heap.size w.heap.size [] x w2 (.inr (.of f)) (by show 0+x.size<=_;omega) g.size).mono ?_;rintro e w3 ⟨rfl,F,z⟩;replace z:=g.trans z;have e3:([]:List Value)++Lib.strCells x=Lib.byteCells (eZ (l.take 1)):=by
     have:=awK x [];rw[qX,HST.out] at this;exact this
    rw[e3] at F;go_wp2;have P:l.length-1+1=l.length:=by omega
    go_loopw [65] (λB wr=>∃k:Nat,k+1<=l.length/\B=.int .i64 k/\Lib.IsBuilderF 178 5 w.heap.size w.heap.size (Lib.byteCells (eZ (l.take (k+1)))) wr/\Below w.heap.size w wr) (λB _=>l.length-(intOf B).toNat)
    case atStart=>exact⟨0,by omega,rfl,.inr F,z⟩
    case round=>
     obtain⟨k,hk,rfl,f,i⟩:=hrel;have W:(Lib.byteCells (eZ (l.take (k+1)))).length<=8*l.length:=by
      rw[rP];refine ap (acZ λs hs=>(gq (r.out s (pu hs))).2) ?_;rw[fa];omega
     by_cases a3:k<l.length-1
     .obtain⟨y,R⟩:=aq (l:=l) (k:=k+1) (by omega);obtain⟨b1,a1,U,_,_,a2,d0⟩:=lH (dA.ar.below h i Y) R;simp only[mt,qC,qx] at U;obtain⟨rfl,rfl⟩:=U;rw[show j+(k+1)=j+1+k by omega] at d0;have a0:=(gq (r.out y (de R))).2;have d:=abm R;have HST:=ab d;go_wp2;refine(pK w.heap.size w.heap.size _ ⟨#[]⟩ wr f (by show _+0<=_;omega) i.size).mono ?_;rintro e Z ⟨rfl,J,o⟩;replace o:=i.trans o;have e4:Lib.byteCells (eZ (l.take (k+1)))++Lib.strCells ⟨#[]⟩=Lib.byteCells (eZ (l.take (k+1))):=sj _;rw[e4] at J;go_wp2;refine(pK w.heap.size w.heap.size _ y Z (.inr J) (by omega) o.size).mono ?_;rintro e w5 ⟨rfl,H,E⟩;replace E:=o.trans E;rw[awK,<-HST.out] at H;go_wp2;go_roundw
      case rel=>exact⟨k+1,by omega,by go_num,.inr H,E⟩
      simp[intOf];omega
     .obtain rfl:k=l.length-1:=by omega
      rw[P,ip] at f;have O:eZ l≠[]:=by
       intro N;have K:x.data.toList <+: eZ l:=by
        obtain⟨y,m,rfl⟩:∃y m,l=y::m:=by
         cases l with
         |nil=>simp at oM
         |cons y m=>exact⟨y,m,rfl⟩
        have e:=p.out;show x.data.toList <+: _;have e:x=y:=e;rw[e];exact⟨eZ m,by simp[eZ]⟩
       rw[N] at K;have:=List.prefix_nil.1 K;have X:=ar9 x;rw[this] at X;have:=T.out;simp at X;omega
      have HJ:=ab (apf l);go_wp2;refine(acN w.heap.size w.heap.size (eZ l) wr f O).mono ?_;rintro e w5 ⟨rfl, -,E⟩;go_wp2;exact nf (v:=.string ⟨(eZ l).toArray⟩) (by simp[results,results81,go_sem]) rfl ⟨by rw[HJ.out],i.trans E⟩
end
section
variable {β:Bool}
open Go.RowKit Go.Shelf
attribute [local go_sem] Oper.semAt_some
def nA(xs:List Hd)(k:Nat):List (Int×Hd):=(List.range k).map λj=>(((xs.length-1-j:Nat):Int),xs[xs.length-1-j]?.getD ⟨0,0⟩)
def al4(xs:List Hd)(k:Nat):nA xs (k+1)=nA xs k++[(((xs.length-1-k:Nat):Int),xs[xs.length-1-k]?.getD ⟨0,0⟩)]:=by simp[nA,uR]
def ahN(xs:List Hd)(k:Nat):(nA xs k).length=k:=by simp[nA]
def apg(xs:List Hd):((nA xs xs.length).map (·.2)).reverse=xs:=by
 apply List.ext_getElem
 .simp[nA]
 .intro i b a;simp only[nA,vP,List.getElem_reverse,List.getElem_map,qi,List.length_range,List.getElem_range,Function.comp_apply];have e:xs.length-1-(xs.length-1-i)=i:=by omega
  rw[e,jp a,qp]
abbrev asa(x:Int×Hd):Array Value:=#[.int .i64 x.1,.agg #[.int .i64 x.2.b,.int .i64 x.2.s]]
def KpB(n₀ Bs:Nat)(A B:World):Prop:=Below n₀ A B/\B.heap[Bs]?=A.heap[Bs]?
def KpB.refl{A:World}:KpB n₀ Z A A:=⟨du _ _,rfl⟩
def KpB.t{A B C:World}(h:KpB n₀ Z A B)(k:KpB n₀ Z B C):KpB n₀ Z A C:=⟨h.1.trans k.1,k.2.trans h.2⟩
def ajL(F:Fence)(n:Nat)(g:F.fn 56)(d:F.round=none)(a:Option Addr)(b cap:Nat)(w:World) :
  CallsIn F n (ai β) 56 #[.slice a b cap] w λe f=>e=.returned (.func (.func 75) #[] #[.pointer (some ⟨w.heap.size,0,none⟩)])/\f=w.alloc (.cells #[.slice a b cap] 25):=by
 refine vm zK rfl g ?_ d;simp only[ntmps56,rS,gc,mp,Nat.reduceAdd,Nat.reduceSub,sq,so,tc,sH,qX,qN];gi_wp2;go_ret;exact⟨rfl,rfl⟩
def ahO (F:Fence) (n:Nat) (X:F.fn 75) (C:F.round=none) (hn:1<=n) (l j n₀:Nat) (A:Option Addr) (c T hi:Nat) (xs:List Hd) (aR:hi<=n₀) (J K:List (Int×Hd)->World->Prop)
  (Z:∀a x W,J a W->a.length<xs.length->YieldAt F (n-1) (ai β) l (asa x) W λe W'=>
   (e=.returned (.bool true)/\J (a++[x]) W'/\KpB n₀ j W W')\/(e=.returned (.bool false)/\K (a++[x]) W'))
  (W:World) (q:Boxed W j 25 (.slice A xs.length c)) (M:cj W T hi xs [.slice A xs.length c]) (V:J [] W) :
  CallsIn F n (ai β) 75 #[.func (.yield l) #[] #[],.pointer (some ⟨j,0,none⟩)] W λe W'=>(∃v,e=.returned v)/\
   ((∃O,O=nA xs xs.length/\J O W')\/(∃a,(∃k,a=nA xs k)/\K a W')):=by
 obtain⟨_,jb,S⟩:=bB.len_ M;unfold maxLen at S;refine vm xQ rfl X ?_ C;simp only[ntmps75,rS,gc,mp,Nat.reduceAdd,Nat.reduceSub,sq,so,tc,sH,qX,qN];have U:=q.cell;gi_wp2
 gi_loopw [3] (λi wr=>∃k:Nat,k<=xs.length/\i=.int .i64 ((xs.length:Int)-1-k)/\J (nA xs k) wr/\KpB n₀ j W wr)
  (λi _=>(intOf i+1).toNat)
 case atStart=>exact⟨0,ff _,by simp,V,KpB.refl⟩
 case round=>
  obtain⟨k,hk,rfl,o,z⟩:=hrel;have G:Boxed wr j 25 (.slice A xs.length c):=z.2.trans q;have Q:=G.cell;clear U;by_cases B:k<xs.length
  .obtain⟨x,t⟩:=aq (l:=xs) (k:=xs.length-1-k) (by omega);obtain⟨N,p,es,w,_,R,_,⟨rfl,Y⟩,g⟩:=(cj.loc.below M z.1 aR).at_ t;subst w;have u:wr.cell? ⟨N,p+(xs.length-1-k)*2,none⟩=some (.int .i64 x.b):=by simpa using g 0 _ rfl
   have H:wr.cell? ⟨N,p+(xs.length-1-k)*2+1,none⟩=some (.int .i64 x.s):=by simpa using g 1 _ rfl
   clear g;have s:(xs.length:Int)-1-k=((xs.length-1-k:Nat):Int):=by omega
   rw[s];have f:xs[xs.length-1-k]?.getD ⟨0,0⟩=x:=by rw[t];rfl
   obtain⟨i,d⟩:∃i,i=xs.length-1-k:=⟨_,rfl⟩;have b:=al4 xs k;rw[<-d] at t u H f b ⊢;rw[f] at b;have m:=ab b;have P:=ab d;have a0:i<xs.length:=by omega
   clear b d s f t;obtain⟨fn,L,r,I,hy,hR⟩:=Z _ ((i:Int),x) wr o (by rw[ahN];exact B);dsimp only[asa] at hy;gi_wp2;refine hR.mono ?_;rintro e W3 (⟨rfl,E,y⟩|⟨rfl,D⟩)
   .gi_wp2;go_roundw
    case rel=>exact⟨k+1,by omega,by have:=P.out;congr 1;omega,by rw[m.out];exact E,z.t y⟩
    have:=P.out;first|(simp[intOf];done)|(simp[intOf];omega)
   .gi_wp2;refine nf (results_none rfl _ _ _) rfl ?_;exact⟨⟨_,rfl⟩,.inr ⟨_,⟨k+1,m.out.symm⟩,D⟩⟩
  .obtain rfl:k=xs.length:=by omega
   have s:(xs.length:Int)-1-xs.length=-1:=by omega
   rw[s];gi_wp2
   go_end0
   exact⟨⟨_,rfl⟩,.inl ⟨_,rfl,o⟩⟩
def afi (F:Fence) (n:Nat) (r:F.fn 75) (e:F.round=none) (p:1<=n) (a n₀:Nat) (A:Option Addr) (c i hi:Nat) (xs:List Hd) (w:World) (b:a<w.heap.size) (d:n₀<=w.heap.size) (j:hi<=n₀)
  (s:Boxed w a 25 (.slice A xs.length c)) (t:cj w i hi xs [.slice A xs.length c]) :
  SeqStopsK F n (ai β) 75 #[.pointer (some ⟨a,0,none⟩)] asa (KpB n₀ a) (λq=>q=nA xs xs.length) (λf=>∃k,f=nA xs k) xs.length w:=λl J o W g _ _ u m=>
 ahO F n r e p l a n₀ A c i hi xs j J o u W ((g.block a b).trans s) (cj.loc.below t (g.mono d) j) m
def LkL(lo:Nat)(W:World):Option Addr->List Hd->Prop
 |p,[]=>p=none
 |p,x::xs=>∃(b:Nat) (q:Option Addr),p=some ⟨b,0,none⟩/\lo<=b/\aX W b 106 #[.int .i64 x.b,.int .i64 x.s,.pointer q]/\LkL lo W q xs
def LkL.go{a:Nat}{A B:World}(h:∀b o,a<=b->A.heap[b]?=some (.cells o 106 (0,0))->B.heap[b]?=A.heap[b]?):∀{p:Option Addr} {c:List Hd},LkL a A p c->LkL a B p c
 |_,[],hl=>hl
 |_,_::_,⟨b,q,hp,hb,hk,hr⟩=>⟨b,q,hp,hb,(h b _ hb hk).trans hk,LkL.go h hr⟩
def LkL.below{A B:World}(h:Below A.heap.size A B){p:Option Addr}{xs:List Hd}(c:LkL Z A p xs):LkL Z B p xs:=LkL.go (λb _ _ a=>h.block b (dl.1 a).1) c
def LkL.asb{c fg:Nat}{W:World}(h:fg<=c):∀{p:Option Addr} {a:List Hd},LkL c W p a->LkL fg W p a
 |_,[],hl=>hl
 |_,_::_,⟨b,q,hp,hb,hk,hr⟩=>⟨b,q,hp,ap h hb,hk,LkL.asb h hr⟩
def avk{β:Type}(B:Nat)(k:Nat)(f:β->List Hd):Own (λs W=>∃p,Boxed W B 70 (.pointer p)/\LkL k W p (f s)):=λs X Y c g d a=>by
 obtain⟨p,j,e⟩:=g;exact⟨p,boxed_own B 70 (λ(_:Unit)=>Value.pointer p) () X Y c j d a,LkL.go (λb o _ i=>grownBy_keeps_cells d a i rfl) e⟩
def aph(F:Fence)(n:Nat)(G:F.fn 24)(h4:F.fn 56)(U:F.fn 75)(j:F.round=none)(hn:6<=n)(xs:List Hd)(A:Option Addr)(c T hi:Nat)(w:World)(I:cj w T hi xs [.slice A xs.length c])(Z:hi<=w.heap.size) :
  CallsIn F n (ai β) 24 #[.slice A xs.length c] w λe W'=>∃p,e=.returned (.pointer p)/\LkL w.heap.size W' p xs/\Below w.heap.size w W':=by
 have M:1<=n:=by omega
 refine callsIn_of_wp_marks zZ rfl G ?_ j;simp only[ntmps24,rS,gc,mp,Nat.reduceAdd,Nat.reduceSub,sq,so,tc,sH,qX,qN]
 gi_wp2_with (gi_at_call 56;refine(ajL F (n-1) h4 j _ _ _ _).mono ?_;rintro e w' ⟨rfl,rfl⟩)
 have S:=(Boxed.new w 70 (.pointer none)).alloc (.cells #[.slice A xs.length c] 25);have v:=Boxed.new (w.alloc (.cells #[.pointer none] 70)) 25 (.slice A xs.length c);simp only[mx] at v;have k:Below w.heap.size w ((w.alloc (.cells #[.pointer none] 70)).alloc (.cells #[.slice A xs.length c] 25)):=((du _ w).alloc (am _) _).alloc (by simp) _;have E:((w.alloc (.cells #[.pointer none] 70)).alloc (.cells #[.slice A xs.length c] 25)).heap.size=w.heap.size+2:=by simp
 obtain⟨W0,B⟩:∃W0,(w.alloc (.cells #[.pointer none] 70)).alloc (.cells #[.slice A xs.length c] 25)=W0:=⟨_,rfl⟩;try simp only[mx]
 rw[B] at S v k E ⊢;refine wpIn_rangeFunc_ownH j M (gf:=75) (lb:=#[.pointer (some ⟨w.heap.size+1,0,none⟩)]) rfl U (enters_of xQ (by kernel_rfl) rfl)
  (afi F (n-1) U j (by omega) (w.heap.size+1) w.heap.size A c T hi xs W0 (by omega) (by omega) Z v (cj.loc.below I k Z)) KpB.t
  (λW l o o' hl h I hw=>⟨belowK_b (w:=w) (am _) W l o o' (by omega) h I hw,um (by omega)⟩) (du _ _) (λ_=>rfl)
  (λi W=>((∃p,Boxed W w.heap.size 70 (.pointer p)/\LkL (w.heap.size+2) W p ((i.map (·.2)).reverse))/\Boxed W (w.heap.size+1) 25 (.slice A xs.length c))/\Below w.heap.size w W)
  (λ_ _ _=>False)
  (uZ (uZ (Own.from (avk _ _ _) _) (Own.from (boxed_own _ _ _) _)) (ownFrom_below (am _) (by omega)))
  (λ_ _ _ _ _ O _ _=>O)
  ⟨⟨⟨none,S,rfl⟩,v⟩,k⟩
  (λx C W=>∃s,w.heap.size+1<s/\aX W s 42 #[.int .i64 x.2.b,.int .i64 x.2.s]/\C={tmps:=#[.slice A xs.length c,undef,.pointer none,.pointer (some ⟨w.heap.size,0,none⟩),undef,.pointer (some ⟨s,0,none⟩),.slice A xs.length c,.func (.func 75) #[] #[.pointer (some ⟨w.heap.size+1,0,none⟩)],.int .i64 x.1,.agg #[.int .i64 x.2.b,.int .i64 x.2.s],undef,undef,undef,undef,undef],defers:=[]})
  (λx C _ X Y a0 O hg V=>by obtain⟨s,M,Q,G⟩:=O;exact⟨s,M,(grownBy_keeps_cells hg (λr e=>(V r e).2) Q rfl).trans Q,G⟩)
  ?assign ?body ?done ?stop
 case assign=>
  rintro l i x W K ⟨⟨⟨p,d,f⟩,g⟩,a⟩ u;gi_wp2;have m:=g.lt;exact u _ _ ((KeepsOthers.alloc _ _).from _) ⟨(du _ W).alloc a.size _,rI _ _ _ m⟩ ⟨⟨⟨p,d.alloc _,f.below (sN (du _ _) (am _) _)⟩,g.alloc _⟩,a.alloc a.size _⟩ ⟨W.heap.size,m,aX.new _ _ _,rfl⟩
 case body=>
  rintro l i x C W hl ⟨r,V⟩ ⟨⟨⟨p,d,f⟩,g⟩,a⟩ ⟨s,a1,R,rfl⟩ m;have cS:=d.cell;have fS:=d.frozen;have a2:=R.cell 0;have a3:=R.cell 1;have q:=d.alloc (.cells #[.int .i64 x.2.b,.int .i64 x.2.s,.pointer p] 106);have L:=g.alloc (.cells #[.int .i64 x.2.b,.int .i64 x.2.s,.pointer p] 106);have bN:=aX.new W 106 #[.int .i64 x.2.b,.int .i64 x.2.s,.pointer p];have z:=f.below (sN (du _ _) (am _) (.cells #[.int .i64 x.2.b,.int .i64 x.2.s,.pointer p] 106));have t:Below w.heap.size W (W.alloc (.cells #[.int .i64 x.2.b,.int .i64 x.2.s,.pointer p] 106)):=(du _ W).alloc a.size _;have P:KeepsOthers W (W.alloc (.cells #[.int .i64 x.2.b,.int .i64 x.2.s,.pointer p] 106)):=KeepsOthers.alloc _ _;have H:=g.lt;have N:(W.alloc (.cells #[.int .i64 x.2.b,.int .i64 x.2.s,.pointer p] 106)).heap[w.heap.size+1]?=W.heap[w.heap.size+1]?:=rI _ _ _ H;have a4:=q.cell;have a5:=q.frozen;gi_wp2;have e2:((i++[x]).map (·.2)).reverse=x.2::(i.map (·.2)).reverse:=by simp
  exact⟨(P.trans (wI _ _ _)).from _,⟨t.setCell (p:=⟨w.heap.size,0,none⟩) (am _) _,(iS _ _ _ _ (by dsimp only;omega)).trans N⟩,
   ⟨⟨some ⟨W.heap.size,0,none⟩,q.set _,by
     rw[e2];exact⟨W.heap.size,p,rfl,by omega,bZ bN _ (by dsimp only;omega),z.go λb o hb J=>iS _ _ _ _ (by dsimp only;omega)⟩⟩,L.other (by omega) _⟩,(a.trans t).setCell (p:=⟨w.heap.size,0,none⟩) (am _) _⟩
 case done=>
  rintro D zs W hD rfl ⟨⟨⟨p,d,f⟩,g⟩,a⟩ u;have cS:=d.cell;gi_wp2;refine⟨by simp,.inl ⟨_,_,rfl,run_takeDeferred u, ?_⟩⟩;have y:=belowK_b (w:=w) (am _) W D _ (.deferred none) (by omega) u rfl rfl;exact⟨_,results_tmp rfl _ _ _,p,rfl,by rw[apg] at f;exact(f.go λb o hb J=>um (by rintro rfl;rw[u] at J;cases J)).asb (by omega),a.trans y⟩
 case stop=>
  rintro D c i W _ _ h _;exact h.elim
end
section
variable {β:Bool}
open Go.RowKit
def ac0:Op->Bool
 |.move .. | .assign .. | .load .. | .slice .. | .buildSlice .. | .store .. =>true
 |.call c=>match c.callee with
  |.builtin .append=>true
  |_=>false
 |_=>false
def ase{P:Program}{o:Oper}(h:ac0 o.op=true){ρ:Operand->Value}{i:Next}(d:(execOp ρ o).run P w=.ok i w'):(∃v,i=.value v)\/i=.skip:=by
 obtain⟨dst,op,j,k,after,g⟩:=o;cases op<;>simp only[ac0,lc] at h
 case call c=>
  obtain⟨a,args,e⟩:=c;cases a with
  |value x=>cases h
  |invoke x n=>cases h
  |builtin b=>
   cases b<;>first
    |(exfalso;cases h;done)
    |(revert d
      simp only[execOp,resolve,invoke,builtin,tP,ug,uv];generalize (Sem.run P (Builtin.append_ _ _ _) w:Result _)=r;cases r with
      |ok v f=>simp only[Result.andThen];intro d;cases d;exact .inl ⟨_,rfl⟩
      |halt x f=>simp[Result.andThen])
 all_goals
  revert d;simp only[execOp,tP,ug]
 all_goals
  first
   |(intro d;cases d;exact .inl ⟨_,rfl⟩)
   |(generalize (Sem.run P _ w:Result _)=r
     cases r with
     |ok v f=>simp only[Result.andThen];intro d;cases d;first|exact .inl ⟨_,rfl⟩|exact .inr rfl
     |halt x f=>simp[Result.andThen])
section
variable {F:Fence} {m:Nat} {P:Program} {Q:Exit->Act->World->Prop} {md:Region.Mode} {ops:Array Oper}
def avl{o:Oper}{a:Act}{r:Result Next}(e:∀b c,r=.ok b c->(∃v,b=.value v)\/b=.skip)(d:∀a w,Y a w->X a w)(h:o.upon P a Y Q r):o.uponIn F m P a X Q r:=by
 cases r with
 |ok b c=>
  rcases e b c rfl with⟨v,rfl⟩|rfl
  .exact d _ _ h
  .exact d _ _ h
 |halt x c=>cases x<;>first|exact h|exact h.elim
def avm(k:∀f,F.fn f)(p:∀o∈ops,ac0 o.op=true)(n:¬LetsOut Q){i:Nat}(j:∀a w,Y a w->X a w){a:Act}(h:wpOp P ops Q i Y a w):wpOpIn F m P ops Q i X a w:=by
 unfold wpOp at h;unfold wpOpIn;cases e:ops[i]? with
 |none=>rw[e] at h;exact j _ _ h
 |some o=>
  rw[e] at h;have b:=p o (qI e);dsimp only at h ⊢;split
  .rename_i d;rw[eg d] at h;rcases h with h|h
   .refine⟨λf _=>k f, ?_⟩;rw[Oper.semAt_plain F _ _ (by intro c g;rw[g] at b;cases b)];exact avl (λr q l=>ase b l) j h
   .exact absurd h.2 n
  .rename_i d;rw[da d] at h;exact⟨λf _=>k f,j _ _ h⟩
def ajM(e:∀f,F.fn f)(d:∀o∈ops,ac0 o.op=true)(c:¬LetsOut Q):∀(k:Nat) (b:Array Bool) (a:Act) (w:World),wpAny P md ops Q k b a w->wpAnyIn F m P md ops Q k b a w
 |0,_,_,_,h=>h
 |k+1,b,a,w,h=>⟨h.1,λi g=>avm e d c (λa w h=>ajM e d c k _ a w h) (h.2 i g)⟩
end
section
variable {F:Fence} {m:Nat} {P:Program} {Q:Exit->Act->World->Prop} {X:Type} [Nonempty X] [bm X]
def ajN (z:∀f,F.fn f) {l:List Oper} (c:(l.all λo=>ac0 o.op)=true) (s:¬LetsOut Q) {e:Act} (to:X->World) (le:X->X->Prop) (g:∀x,le x x) (n:Nat) (j k:List Nat) (v:P.follows .mixedOrders=true) (A:ahd l n j k=true) (p:adF l.toArray n e.tmps.size=true)
  (a:X) (b:∀m,m<=n->bm.live m a) (d:∀i,i<n->bm.pend i a) (t:to a=w.drew)
  (h:wpQuiet P l.toArray (λr=>∃x,r=to x) (λy=>∃u,bY P l.toArray to le (wpList P l.toArray Q (l.drop n)) (pick l k) [] u y) ((pick l j).map (·.2)) e):(Code.region Z l.toArray true).wpIn F m P Q e w:=
 wpIn_region_any v (ajM z (λo q=>lP.1 c o (by simpa using q)) s _ _ _ _ (aiP to le g n j k A p a b d t h))
def afK (q:∀f,F.fn f) {l:List Oper} (a:(l.all λo=>ac0 o.op)=true) (i:¬LetsOut Q) {b:Act} (n:Nat) (c d:List Nat) (k:P.follows .mixedOrders=true) (r:ahd l n c d=true) (e:adF l.toArray n b.tmps.size=true)
  (h:wpQuiet P l.toArray (λg=>∃x:fp w,g=x.to) (λp=>∃j:List (gW (fp w)),bY P l.toArray (fp.to (w:=w)) (fp.le (w:=w)) (wpList P l.toArray Q (l.drop n)) (pick l d) [] j p) ((pick l c).map (·.2)) b):(Code.region Z l.toArray true).wpIn F m P Q b w:=
 ajN q a i (fp.to (w:=w)) (fp.le (w:=w)) fp.le_refl n c d k r e ⟨w.drew,⟨rfl,rfl,rfl,am _,λ_ _=>rfl⟩⟩ (λ_ _=>trivial) (λ_ _=>trivial) rfl h
end
end
section
variable {β:Bool}
open Go.RowKit Go.Shelf
attribute [local go_sem] Oper.semAt_some
def Prs(l:List Nat):Nat->List (Nat×Nat)->Nat->Prop
 |a,[],b=>a=b
 |a,x::xs,b=>a<l.length/\x=(a,atL l a)/\Prs l (atL l a) xs b
def Prs.snoc{l:List Nat}:∀{a:Nat} {c:List (Nat×Nat)} {b:Nat},Prs l a c b->b<l.length->Prs l a (c++[(b,atL l b)]) (atL l b)
 |a,[],b,h,h1=>by
  have h:a=b:=h;subst h;exact⟨h1,rfl,rfl⟩
 |a,x::c,b,⟨h2,h3,h4⟩,h1=>⟨h2,h3,h4.snoc h1⟩
def Prs.len{l:List Nat}:∀{a:Nat} {c:List (Nat×Nat)} {b:Nat},Prs l a c b->a+c.length<=b
 |a,[],b,h=>by
  have h:a=b:=h;simp;omega
 |a,x::c,b,⟨h1,_,h⟩=>by
  have:=h.len;have:=(fw h1).1;simp only[gc];omega
def Prs.ends{l:List Nat}:∀{a:Nat} {c:List (Nat×Nat)} {b:Nat},Prs l a c b->dI l a (c.map λx=>(x.2:Int)) b
 |a,[],b,h=>h
 |a,x::c,b,⟨h1,e,h⟩=>⟨h1,by rw[e],h.ends⟩
def eb(s:ByteArray)(xs:List (Nat×Nat)):List ByteArray:=xs.map λx=>s.extract x.1 x.2
def Prs.pieces{l:List Nat}:∀{a:Nat} {c:List (Nat×Nat)} {b:Nat},Prs l a c b->eb s c=cK s a (c.map λx=>(x.2:Int))
 |a,[],b,h=>rfl
 |a,x::c,b,⟨h1,e,h⟩=>by
  show s.extract x.1 x.2::eb s c=s.extract a (x.2:Int).toNat::cK s (x.2:Int).toNat _;rw[e,sB,h.pieces]
def Prs.cut{xs:List (Nat×Nat)}(h:Prs (bs s) 0 xs s.size):eb s xs=ku s:=by
 rw[h.pieces,anb h.ends]
def wW(h:Below w.heap.size w w'):w.grownBy w' none:=⟨h.os,h.tape,h.output,h.size,λk a _=>h.block k a⟩
def api {W : World} {B : Nat} {t e:TypeId} {v v':Value} {m : Nat} {xs z:List Value}
  (A:Boxed W B t v) (n:t≠e) (d:W.ownsRow Z e c v k xs) (s:n₀<=W.heap.size) (y:n₀<=Z) (E:n₀<=B)
  (b:w.ownsRow Z e c v' m z) (a:W.grownBy w v.ownBlock) :
  Boxed w B t v/\Boxed (w.setCell ⟨B,0,none⟩ v') B t v'/\(w.setCell ⟨B,0,none⟩ v').ownsRow Z e c v' m z/\KeepsOthers W (w.setCell ⟨B,0,none⟩ v')/\Below n₀ W (w.setCell ⟨B,0,none⟩ v')/\(∀k,k<Z->k<W.heap.size->k≠B->(w.setCell ⟨B,0,none⟩ v').heap[k]?=W.heap[k]?):=by
 have i:Boxed w B t v:=A.kept a (A.not_row n d);have l:∀j,v.ownBlock=some j->Z<=j:=λj f=>by
  rcases d.2 with⟨rfl,_⟩|⟨g,cap,u,rfl,D,_,_⟩
  .simp[Value.ownBlock] at f
  .obtain rfl:g=j:=by simpa[Value.ownBlock] using f
   exact D
 refine⟨i,i.set v',b.kept (grownBy_setCell' w B v') (.inr (i.not_row n b).symm), ?_, ?_, ?_⟩
 .refine(vW a λj o f C=> ?_).trans (wI _ _ _);rcases d.2 with⟨rfl,_⟩|⟨g,cap,u,rfl,_,x,_⟩
  .simp[Value.ownBlock] at f
  .obtain rfl:g=j:=by simpa[Value.ownBlock] using f
   rw[x] at C;cases C;rfl
 .exact((du n₀ W).grown a s λj f=>ap y (l j f)).setCell (p:=⟨B,0,none⟩) E v'
 .intro k F r q;exact(iS _ _ _ k q).trans (a.block k r λf=>by have:=l k f.symm;omega)
def apj{v:Value}(h:bh (λb=>v.ownBlock=some b) w w'):w.grownBy w' v.ownBlock:=⟨h.os,h.tape,h.output,h.size,λk c a=>h.block k c λe=>a e.symm⟩
structure PrC (n:Nat) where
 p:Nat×Nat
 le:p.1<=p.2/\p.2<=n
abbrev ayB{n:Nat}(x:PrC n):Array Value:=#[.int .i64 x.p.1,.int .i64 x.p.2]
abbrev mS{n:Nat}(xs:List (PrC n)):List (Nat×Nat):=xs.map PrC.p
def asg (n:Nat) (hn:2<=n) (l j n₀:Nat) (s:ByteArray) (V:s.size<=1000000) (J H:List (PrC s.size)->World->Prop) (W:World) (U:AbidesFrom W.heap.size J)
  (R:∀b x W,J b W->b.length<s.size->YieldAt Fence.wide (n-1) (ai β) l (ayB x) W λe W'=>
   (e=.returned (.bool true)/\J (b++[x]) W'/\KpB n₀ j W W')\/(e=.returned (.bool false)/\H (b++[x]) W'))
  (p:Boxed W j 9 (.string s)) (O:n₀<=W.heap.size) (N:J [] W) :
  CallsIn Fence.wide n (ai β) 141 #[.func (.yield l) #[] #[],.pointer (some ⟨j,0,none⟩)] W λe W'=>(∃v,e=.returned v)/\
   ((∃L,Prs (bs s) 0 (mS L) s.size/\J L W')\/(∃b,(∃m,Prs (bs s) 0 (mS b) m)/\H b W')):=by
 refine vm xD rfl trivial ?_ rfl;simp only[ntmps141,rS,gc,mp,Nat.reduceAdd,Nat.reduceSub,sq,so,tc,sH,qX,qN];have Z:=p.lt;have T:Fence.wide.fn 142:=trivial;have Y:1<=n:=by omega
 gi_wp2
 gi_loopw [3] (λi wr=>∃(k:Nat) (f:List (PrC s.size)),k<=s.size/\i=.int .i64 k/\Prs (bs s) 0 (mS f) k/\J f wr/\KpB n₀ j W wr/\W.heap.size<=wr.heap.size) (λi _=>s.size-(intOf i).toNat)
 case atStart=>exact⟨0,[],ff _,rfl,rfl,N,KpB.refl,am _⟩
 case round=>
  obtain⟨k,f,hk,rfl,B,o,M,S⟩:=hrel;have E:Boxed wr j 9 (.string s):=M.2.trans p;have P:=E.cell;by_cases g:k<s.size
  .gi_wp2_with (gi_at_call 142;refine(callsIn_wide.2 (aus s k g V wr)).mono ?_;rintro e t ⟨rfl,u⟩)
   have y:J f t:=U f wr t none o (wW u) (λr e=>by cases e);have z:KpB n₀ j W t:=M.t ⟨u.mono (by omega),u.block j (by omega)⟩;have Q:=u.size;have F:=B.snoc (by rw[aO];exact g);have C:=fw (l:=bs s) (a:=k) (by rw[aO];exact g);rw[aO] at C;obtain⟨fn,I,w,G,K,X⟩:=R f ⟨(k,atL (bs s) k),by show k<=atL (bs s) k/\atL (bs s) k<=s.size;omega⟩ t y (by have:=B.len;rw[qi] at this;omega);dsimp only[ayB] at K;rw[K];have d:Prs (bs s) 0 (mS (f++[⟨(k,atL (bs s) k),by show k<=atL (bs s) k/\atL (bs s) k<=s.size;omega⟩])) (atL (bs s) k):=by
    show Prs (bs s) 0 (List.map PrC.p (f++_)) _;rw[tH];exact F
   replace d:=ab d;gi_wp2;refine X.mono ?_;rintro e W3 (⟨rfl,D,q⟩|⟨rfl,A⟩)
   .gi_wp2;go_roundw
    case rel=>exact⟨atL (bs s) k,_,by omega,rfl,d.out,D,z.t q,by have:=q.1.size;omega⟩
    simp[intOf];omega
   .gi_wp2;refine nf (results_none rfl _ _ _) rfl ?_;exact⟨⟨_,rfl⟩,.inr ⟨_,⟨_,d.out⟩,A⟩⟩
  .obtain rfl:k=s.size:=by omega
   gi_wp2
   go_end0
   exact⟨⟨_,rfl⟩,.inl ⟨_,B,o⟩⟩
def al5(n:Nat)(k:2<=n)(a n₀:Nat)(s:ByteArray)(i:s.size<=1000000)(w:World)(b:a<w.heap.size)(c:n₀<=w.heap.size)(p:Boxed w a 9 (.string s)) :
  SeqStopsK Fence.wide n (ai β) 141 #[.pointer (some ⟨a,0,none⟩)] ayB (KpB n₀ a) (λo:List (PrC s.size)=>Prs (bs s) 0 (mS o) s.size) (λd=>∃m,Prs (bs s) 0 (mS d) m) s.size w:=λl J j W e f _ q g=>
 asg n k l a n₀ s i J j W f q ((e.block a b).trans p) (ap c e.size) g
def avn(n:Nat)(s:ByteArray)(w:World) :
  CallsIn Fence.wide n (ai β) 123 #[.string s] w λe a=>e=.returned (.func (.func 141) #[] #[.pointer (some ⟨w.heap.size,0,none⟩)])/\a=w.alloc (.cells #[.string s] 9):=by
 refine vm yQ rfl trivial ?_ rfl;simp only[ntmps123,rS,gc,mp,Nat.reduceAdd,Nat.reduceSub,sq,so,tc,sH,qX,qN];gi_wp2;go_ret;exact⟨rfl,rfl⟩
def apk(n:Nat)(hn:6<=n)(s:ByteArray)(G:dR s=true)(w:World) :
  CallsIn Fence.wide n (ai β) 84 #[.string s] w λe W'=>∃v,e=.returned v/\aL iA 9 W' w.heap.size v (ku s)/\Below w.heap.size w W':=by
 have h1:1<=n:=by omega
 have ad:Fence.wide.fn 82:=trivial;have aH:Fence.wide.fn 123:=trivial;have af:s.size<=40:=by unfold dR at G;rw[ge] at G;exact ta G.1
 have H:s.size<=maxLen:=by unfold maxLen;omega
 have HS:=ab G;replace H:=ab H;refine callsIn_of_wp_marks zn rfl trivial ?_ rfl;simp only[ntmps84,rS,gc,mp,Nat.reduceAdd,Nat.reduceSub,sq,so,tc,sH,qX,qN]
 gi_wp2_with (first|(gi_at_call 82;refine(callsIn_wide.2 (nt s H.out _)).mono ?_;rintro e w' ⟨rfl,rfl⟩;rw[HS.out])|(gi_at_call 123;refine(avn (n-1) s _).mono ?_;rintro e w' ⟨rfl,rfl⟩))
 have bS:=((Boxed.new w 9 (.string s)).alloc (.cells #[.slice none 0 0] 89)).alloc (.cells #[.string s] 9);have bO:=(Boxed.new (w.alloc (.cells #[.string s] 9)) 89 (.slice none 0 0)).alloc (.cells #[.string s] 9);have S:=Boxed.new ((w.alloc (.cells #[.string s] 9)).alloc (.cells #[.slice none 0 0] 89)) 9 (.string s);simp only[mx] at bO S;have N:Below w.heap.size w (((w.alloc (.cells #[.string s] 9)).alloc (.cells #[.slice none 0 0] 89)).alloc (.cells #[.string s] 9)):=(((du _ w).alloc (am _) _).alloc (by simp) _).alloc (by simp;omega) _;have hz:(((w.alloc (.cells #[.string s] 9)).alloc (.cells #[.slice none 0 0] 89)).alloc (.cells #[.string s] 9)).heap.size=w.heap.size+3:=by simp
 obtain⟨W0,V⟩:∃W0,((w.alloc (.cells #[.string s] 9)).alloc (.cells #[.slice none 0 0] 89)).alloc (.cells #[.string s] 9)=W0:=⟨_,rfl⟩;try simp only[mx]
 rw[V] at bS bO S N hz ⊢;refine wpIn_rangeFunc_ownH rfl h1 (gf:=141) (lb:=#[.pointer (some ⟨w.heap.size+1+1,0,none⟩)]) rfl trivial (enters_of xD (by kernel_rfl) rfl)
  (al5 (n-1) (by omega) (w.heap.size+1+1) w.heap.size s (by omega) W0 (by omega) (by omega) S) KpB.t
  (λW l o o' hl h hc hw=>⟨belowK_b (w:=w) (am _) W l o o' (by omega) h hc hw,um (by omega)⟩) (du _ _) (λ_=>rfl)
  (λb W=>(((∃v,Boxed W (w.heap.size+1) 89 v/\W.ownsRow W0.heap.size 9 1 v b.length (eh iA (eb s (mS b)))/\True)/\Boxed W w.heap.size 9 (.string s))/\Boxed W (w.heap.size+1+1) 9 (.string s))/\Below w.heap.size w W)
  (λ_ _ _=>False)
  (uZ (uZ (uZ (Own.from (holdsRow_own W0.heap.size (w.heap.size+1) 89 9 1 (λb:List (PrC s.size)=>b.length) (λb=>eh iA (eb s (mS b))) (λ_ _=>True)) _) (Own.from (boxed_own _ _ _) _)) (Own.from (boxed_own _ _ _) _)) (ownFrom_below (am _) (by omega)))
  (λ_ _ _ _ _ G _ _=>G)
  ⟨⟨⟨⟨_,bO,uu _ _ _ _,trivial⟩,bS⟩,S⟩,N⟩
  (λx Z W=>Z={tmps:=#[.string s,.pointer (some ⟨w.heap.size,0,none⟩),.slice none 0 0,.pointer (some ⟨w.heap.size+1,0,none⟩),.int .i64 x.p.1,.int .i64 x.p.2,.string s,.bool true,.bool false,.string s,.func (.func 141) #[] #[.pointer (some ⟨w.heap.size+1+1,0,none⟩)],.int .i64 x.p.1,.int .i64 x.p.2,undef,undef,undef,undef,undef,undef,undef,undef],defers:=[]})
  (λx Z _ X Y al G hg hr=>G)
  ?assign ?body ?done ?stop
 case assign=>
  rintro l b x W K ⟨⟨⟨⟨v,f,d, -⟩,t⟩,u⟩,i⟩ O;gi_wp2;exact O _ _ ((KeepsOthers.refl _).from _) KpB.refl ⟨⟨⟨⟨v,f,d,trivial⟩,t⟩,u⟩,i⟩ rfl
 case body=>
  rintro l b x Z W hl ⟨r,hr⟩ ⟨⟨⟨⟨v,f,d, -⟩,t⟩,u⟩,i⟩ rfl an;obtain⟨⟨B,z⟩,m,q⟩:=x;dsimp only at m q ⊢;have a1:eb s (mS (b++[⟨(B,z),m,q⟩]))=eb s (mS b)++[s.extract B z]:=by simp[eb,mS]
  have cO:W.cell? ⟨w.heap.size+1,0,none⟩=some v:=f.cell;have cS:W.cell? ⟨w.heap.size,0,none⟩=some (.string s):=t.cell;have I:=ad0 (β:=β);have a0:=i.size;gi_wp2;have aF:=ae cO;have aJ:=ae cS;refine afK (λ_=>trivial) (by kernel_rfl) (by rintro⟨a,w,h⟩;exact h) 6 [0,1,2,3,4] [5] I (by kernel_rfl) (by kernel_rfl) ?_;simp only[pick,List.map,gt,gE];repeat(go_big_quiet_step (fail))
  refine io ?_;apply Exists.intro;apply bc (akS W.heap.size 9 #[.string (s.extract B z)])
  .rfl
  .exact λv x y h a8=>h.keep a8
  .intro x _ Qx hQ;go_wp2;exact hQ _ _ (av _ _) (akS.new _ _ _ x.ok.size)
  intro v5;refine aS ?_;intro w2 p xx df hF;dsimp only[dP] at hF;try rw[df] at hF
  obtain⟨⟨g,rfl,hg,a2⟩, -⟩:=hF;simp only[List.drop];have aa:=p.size;have ax:l<W.heap.size:=(dl.1 hr).1;have L:=aeC d p;have a5:Boxed w2 (w.heap.size+1) 89 v:=(p.block _ f.lt).trans f;obtain⟨A,c,rfl⟩:=gV d;refine agb (F:=iA) (base:=W0.heap.size) (v:=.slice A b.length c) (xs:=eb s (mS b)) rfl (.tmp 13) (.tmp 18) 89 rfl ab5 (s.extract B z) rfl (by unfold aL;rw[show(eb s (mS b)).length=b.length from by simp[eb,mS]];exact L) rfl a2 rfl (by rw[show(eb s (mS b)).length=b.length from by simp[eb,mS]];omega) (by omega) ?_;intro v3 w3 R mM a9;have ay:(eb s (mS b)++[s.extract B z]).length=(b++[(⟨(B,z),m,q⟩:PrC s.size)]).length:=by simp[eb,mS]
  unfold aL at R;rw[<-a1,show(eb s (mS (b++[⟨(B,z),m,q⟩]))).length=(b++[(⟨(B,z),m,q⟩:PrC s.size)]).length from by simp[eb,mS]] at R;obtain⟨Q,P,nu,iC,a6,a4⟩:=api (W:=w2) (n₀:=w.heap.size) a5 (by decide) L (by omega) (by omega) (by omega) R (apj mM);have aR:=Q.cell;have ao:=Q.frozen;obtain⟨A3,c3,rfl⟩:=gV R;go_wp2;have a7:KeepsOthers W w2:=vW (wW p) λj o ej _=>by cases ej
  have C:∀k,k<W0.heap.size->k≠w.heap.size+1->(w3.setCell ⟨w.heap.size+1,0,none⟩ (.slice A3 (b++[(⟨(B,z),m,q⟩:PrC s.size)]).length c3)).heap[k]?=W.heap[k]?:=λk hk T=>(a4 k hk (by omega) T).trans (p.block k (by omega));have J:=(p.mono a0).trans a6;simp only[aE,gc,mp,me] at P nu iC C J;refine⟨(a7.trans iC).from _,⟨J,C _ (by omega) (by omega)⟩,⟨⟨⟨_,P, ?_,trivial⟩,(C _ (by omega) (by omega)).trans t⟩,(C _ (by omega) (by omega)).trans u⟩,i.trans J⟩;simp only[aE,gc,mp,me];exact nu
 case done=>
  rintro D zs W hD a3 ⟨⟨⟨⟨v,f,d, -⟩,t⟩,u⟩,i⟩ O;have cO:=f.cell;obtain⟨A,c,rfl⟩:=gV d;gi_wp2;refine⟨by simp,.inl ⟨_,_,rfl,run_takeDeferred O, ?_⟩⟩;have U:=belowK_b (w:=w) (am _) W D _ (.deferred none) (by omega) O rfl rfl;have E:=a3.cut;have M:(ku s).length=zs.length:=by rw[<-E];simp[eb,mS]
  refine⟨_,results_tmp rfl _ _ _,_,rfl, ?_,i.trans U⟩;have:=ownsRow_putObj d (.deferred none) O rfl;unfold aL;rw[M,<-E];exact aiR this (by omega)
 case stop=>
  rintro D c b W _ _ h _;exact h.elim
def ash(s:ByteArray)(a:dR s=true)(w:World) :
  Calls (ai β) 84 #[.string s] w λe W'=>∃v,e=.returned v/\aL iA 9 W' w.heap.size v (ku s)/\Below w.heap.size w W':=
 callsIn_wide.1 (apk 6 (am _) s a w)
end
section
variable {β:Bool}
open Go.RowKit
def apl{l:List ByteArray}(a:dR (rL (jR l))=true)(b:ku (rL (jR l))=l):jY l=(rL (jR l),true):=by unfold jY;rw[eg ⟨a,b⟩]
def asi{l:List ByteArray}(h:¬(dR (rL (jR l))=true/\ku (rL (jR l))=l)):jY l=(⟨#[]⟩,false):=by unfold jY;rw[da h]
def avo(l:List ByteArray)(b:∀s∈l,bF (bs s)):(rL (jR l)).size<=8*l.length:=by
 rw[<-aO,amY (afh l),<-agu,qi];exact acZ λs a=>(gq (b s a)).2
def apm(l:List ByteArray)(y:∀s∈l,bF (bs s))(J:l.length<=2147483647)(v:Value)(w:World)(p hi:Nat)(h:dA w p hi l [v])(A:hi<=w.heap.size) :
  Calls (ai β) 58 #[v] w λe D=>e=.returned (.tuple #[.string (jY l).1,.bool (jY l).2])/\Below w.heap.size w D:=by
 have m:=avo l y;have d:(rL (jR l)).size<=maxLen:=by unfold maxLen;omega
 have n:=ab (λH E=>apl (l:=l) H E);have g:=ab (asi (l:=l));have t:=ab (ayy (β:=β) l y J v w p hi h A);generalize rL (jR l)=s at n g t m d;generalize jY l=r at n g ⊢;go_enter zJ,ntmps58;go_wp2;refine t.out.mono ?_;rintro e B ⟨rfl,f⟩;go_wp2;refine(nt (β:=β) s d _).mono ?_;rintro e O ⟨rfl,rfl⟩;by_cases a:dR s=true
 .rw[a];go_wp2;refine(ash (β:=β) s a _).mono ?_;rintro e N ⟨F,rfl,I,j⟩;have k:∀x∈ku s,x.size<=maxLen:=λx i=>by have:=(gq (nU (kY a).2 x i)).2;unfold maxLen;omega
  have C:=gX.sl (aL.deep I k B.heap.size) (am _);have G:=j.size;have u:=f.size;have L:=dA.ar.below h (f.trans (j.mono u)) A;obtain⟨q,c⟩:∃q:Bool,q=true↔ku s=l:=by
   by_cases i:ku s=l
   .exact⟨true,by simp[i]⟩
   .exact⟨false,by simp[i]⟩
  replace c:=ab c;go_wp2;refine(al3 (β:=β) (ku s) l F v _ _ _ p hi C L (am _) (by omega) q c.out).mono ?_;rintro e M ⟨rfl,K⟩;have z:=f.trans ((j.mono u).trans (K.mono (by omega)));cases q with
  |true=>
   have b:=n.out a (c.out.1 rfl);go_wp2;go_ret2;exact⟨by rw[b];rfl,z⟩
  |false=>
   have b:=g.out λo=>by have:=c.out.2 o.2;cases this
   go_wp2;go_ret2;exact⟨by rw[b];rfl,z⟩
 .have b:=g.out λo=>a o.1;rw[Bool.eq_false_iff.2 a];go_wp2;go_ret2;exact⟨by rw[b];rfl,f⟩
end
section
variable {β:Bool}
open Go.RowKit
def asj(t:List Nd)(i:Nat)(x:Nd):Prop:=ahA x/\(∀y,0<i->t[i-1]?=some y->Op.bytesLess y.p.toList x.p.toList=true)/\∀k y,k<i->t[k]?=some y->acX y.p x.p=false
def ad3(h:jq s=true):s.size<=3:=by rcases lD h with h|h<;>omega
def asl(xs:List Nd)(v:Value)(w:World)(lo hi:Nat)(h:eL w lo hi xs [v])(V:hi<=w.heap.size)(q:Bool)(o:q=true↔ans xs) :
  Calls (ai β) 59 #[v] w λe w'=>e=.returned (.bool q)/\Below w.heap.size w w':=by
 have K:=ab o;clear o;obtain⟨A,c,rfl⟩:=h.form;obtain⟨_,hc,hx⟩:=h.1.len_;unfold maxLen at hx;go_enter zI,ntmps59;go_wp2;go_loopw [7] (λii wr=>∃k:Nat,k<=xs.length/\ii=.int .i64 k/\(∀i x,i<k->xs[i]?=some x->asj xs i x)/\Below w.heap.size w wr) (λii _=>xs.length-(intOf ii).toNat)
 case atStart=>exact⟨0,ff _,rfl,λi x hi=>absurd hi (sT i),du _ _⟩
 case round=>
  obtain⟨k,hk,rfl,T,Z⟩:=hrel;replace T:=ab T;by_cases C:k<xs.length
  .obtain⟨x,G⟩:=aq C;obtain⟨b0,a6,rfl,_,a5,J,c0,c1⟩:=jV (eL.ar.below h Z V) G;replace G:=ab G;go_wp2;have kb:=aX.new wr 79 #[.string x.p,.string x.b];have ba:=av wr (.cells #[.string x.p,.string x.b] 79);have a3:wr.heap.size+1=(wr.alloc (.cells #[.string x.p,.string x.b] 79)).heap.size:=by simp
   generalize wr.alloc (.cells #[.string x.p,.string x.b] 79)=wf at *;have g:wf.cell? ⟨wr.heap.size,0,none⟩=some (.string x.p):=kb.cell 0;have u:wf.cell? ⟨wr.heap.size,1,none⟩=some (.string x.b):=kb.cell 1;have p:=ag Z ba;clear kb c0 c1;cases a:jq x.p
   .replace a:=ab a;have d:q=false:=by
     rw[<-mc,K.out];rintro⟨-,h⟩;replace h:=h _ _ G.out;have h:=h.1.1;rw[a.out] at h;cases h
    have r:=ab d;clear d;have H:=ae g;have I:=ae u;refine aN (by kernel_rfl) (by kernel_rfl) ?_;repeat(go_big_quiet_step (first|(go_at_call 85;refine dS (v:=.bool false) ?_;rw[<-a.out];exact pZ (β:=β) x.p J.1 _)))
    refine io ?_;intro wq n;have o:=bC n;clear n H I;go_wp2;go_ret;exact⟨aB r.out.symm,ag p o⟩
   .replace a:=ab a;cases b:dR x.b
    .replace b:=ab b;have d:q=false:=by
      rw[<-mc,K.out];rintro⟨-,h⟩;replace h:=h _ _ G.out;have h:=h.1.2;rw[b.out] at h;cases h
     have r:=ab d;clear d;have H:=ae g;have I:=ae u;refine aN (by kernel_rfl) (by kernel_rfl) ?_;repeat(go_big_quiet_step (first|(go_at_call 85;refine dS (v:=.bool true) ?_;rw[<-a.out];exact pZ (β:=β) x.p J.1 _)|(go_at_call 82;refine dT (v:=.bool false) ?_;rw[<-b.out];exact nt (β:=β) x.b J.2 _)))
     refine io ?_;intro wq n;have o:=bC n;clear n H I;go_wp2;go_ret;exact⟨aB r.out.symm,ag p o⟩
    .replace b:=ab b;by_cases a2:k=0
     .have t1:=db (show ¬(0<k) by omega);have X:ahA x/\∀y,0<k->xs[k-1]?=some y->Op.bytesLess y.p.toList x.p.toList=true:=⟨⟨a.out,b.out⟩,λy h0=>by omega⟩;have Y:=ab X;clear X;clear a2;have H:=ae g;have I:=ae u;refine aN (by kernel_rfl) (by kernel_rfl) ?_;repeat(go_big_quiet_step (first|(go_at_call 85;refine dS (v:=.bool true) ?_;rw[<-a.out];exact pZ (β:=β) x.p J.1 _)|(go_at_call 82;refine dT (v:=.bool true) ?_;rw[<-b.out];exact nt (β:=β) x.b J.2 _)))
      refine io ?_;intro wq n;have o:=bC n;clear n H I;have D:∀y∈xs.take k,y.p.size<=3:=λy f=>by
       obtain⟨i,hi⟩:=rE.1 f;rw[qA] at hi;split at hi
       .rename_i R;exact ad3 (T.out i y R hi).1.1
       .cases hi
      have O:=ab D;clear D;have cz:=aT o g;have l:=ag p o;have P:=ad3 a.out;go_wp2;refine(oI (β:=β) x P xs k hk O.out _ c wr.heap.size _ lo hi (eL.ar.below h l V) (ap V l.size) cz).mono ?_;rintro e w4 ⟨q4,rfl,N,b4⟩;have s:=ag l b4;rcases N with⟨rfl,j,y,M,f,U⟩|⟨rfl,B⟩
      .have HY:=ab f;replace U:=ab U;clear f;have d:q=false:=by
        rw[<-mc,K.out];rintro⟨-,h⟩;replace h:=h _ _ G.out;have h:=h.2.2 j y M HY.out;rw[U.out] at h;cases h
       have r:=ab d;clear d;go_wp2;go_ret;exact⟨aB r.out.symm,s⟩
      .have t:∀i z,i<k+1->xs[i]?=some z->asj xs i z:=λi z hi L=>by
        rcases pr i k with C|oM
        .exact T.out i z C L
        .obtain rfl:i=k:=by omega
         rw[G.out] at L;cases L;exact⟨Y.out.1,Y.out.2,λj y M f=>B j y M f⟩
       have Q:=ab t;clear t B;go_wp2;go_roundw
       case rel=>exact⟨k+1,by omega,by go_num,Q.out,s⟩
       simp[intOf];omega
     .obtain⟨k',oV⟩:∃m,m=k-1:=⟨_,rfl⟩;have e1:(k:Int)-1=((k':Nat):Int):=by omega
      have a1:k'<xs.length:=by omega
      have t1:=dj (show 0<k by omega);obtain⟨z,F⟩:=aq a1;obtain⟨b1,a4,e0,_,_,a7,d0,_⟩:=jV (eL.ar.below h p V) F;simp only[mt,qC,qx] at e0;obtain⟨rfl,rfl⟩:=e0;replace F:=ab F;have W:=ab oV;have a0:0<k:=by omega
      clear oV;cases E:Op.bytesLess z.p.toList x.p.toList
      .have S:=ab E;have tr:=mR x.p.toList z.p.toList;rw[E,Bool.not_false] at tr;have d:q=false:=by
        rw[<-mc,K.out];rintro⟨-,h⟩;replace h:=h _ _ G.out;have h:=h.2.1 z a0 (by rw[<-W.out];exact F.out);rw[S.out] at h;cases h
       have r:=ab d;clear d;have H:=ae g;have I:=ae u;have bg:=ae d0;refine aN (by kernel_rfl) (by kernel_rfl) ?_;repeat(go_big_quiet_step (first|(go_at_call 85;refine dS (v:=.bool true) ?_;rw[<-a.out];exact pZ (β:=β) x.p J.1 _)|(go_at_call 82;refine dT (v:=.bool true) ?_;rw[<-b.out];exact nt (β:=β) x.b J.2 _)))
       refine io ?_;intro wq n;have o:=bC n;clear n H I bg;go_wp2;go_ret;exact⟨aB r.out.symm,ag p o⟩
      .have S:=ab E;have tr:=mR x.p.toList z.p.toList;rw[E,vE] at tr;have X:ahA x/\∀y,0<k->xs[k-1]?=some y->Op.bytesLess y.p.toList x.p.toList=true:=⟨⟨a.out,b.out⟩,λy h0 f=>by
        rw[<-W.out,F.out] at f;cases f;exact S.out⟩
       have Y:=ab X;clear X;have H:=ae g;have I:=ae u;have bg:=ae d0;refine aN (by kernel_rfl) (by kernel_rfl) ?_;repeat(go_big_quiet_step (first|(go_at_call 85;refine dS (v:=.bool true) ?_;rw[<-a.out];exact pZ (β:=β) x.p J.1 _)|(go_at_call 82;refine dT (v:=.bool true) ?_;rw[<-b.out];exact nt (β:=β) x.b J.2 _)))
       refine io ?_;intro wq n;have o:=bC n;clear n H I bg;clear d0 E e1 tr;have D:∀y∈xs.take k,y.p.size<=3:=λy f=>by
        obtain⟨i,hi⟩:=rE.1 f;rw[qA] at hi;split at hi
        .rename_i R;exact ad3 (T.out i y R hi).1.1
        .cases hi
       have O:=ab D;clear D;have cz:=aT o g;have l:=ag p o;have P:=ad3 a.out;go_wp2;refine(oI (β:=β) x P xs k hk O.out _ c wr.heap.size _ lo hi (eL.ar.below h l V) (ap V l.size) cz).mono ?_;rintro e w4 ⟨q4,rfl,N,b4⟩;have s:=ag l b4;rcases N with⟨rfl,j,y,M,f,U⟩|⟨rfl,B⟩
       .have HY:=ab f;replace U:=ab U;clear f;have d:q=false:=by
         rw[<-mc,K.out];rintro⟨-,h⟩;replace h:=h _ _ G.out;have h:=h.2.2 j y M HY.out;rw[U.out] at h;cases h
        have r:=ab d;clear d;go_wp2;go_ret;exact⟨aB r.out.symm,s⟩
       .have t:∀i z,i<k+1->xs[i]?=some z->asj xs i z:=λi z hi L=>by
         rcases pr i k with C|oM
         .exact T.out i z C L
         .obtain rfl:i=k:=by omega
          rw[G.out] at L;cases L;exact⟨Y.out.1,Y.out.2,λj y M f=>B j y M f⟩
        have Q:=ab t;clear t B;go_wp2;go_roundw
        case rel=>exact⟨k+1,by omega,by go_num,Q.out,s⟩
        simp[intOf];omega
  .obtain rfl:k=xs.length:=by omega
   by_cases h6:xs.length<=6
   .have t1:=dj (show(xs.length:Int)<=6 by omega);have d:q=true:=K.out.2 ⟨h6,λi x hx=>T.out i x (aD hx) hx⟩;have r:=ab d;clear d;go_wp2;go_ret;exact⟨aB r.out.symm,Z⟩
   .have t1:=db (show ¬((xs.length:Int)<=6) by omega);have d:q=false:=by
     rw[<-mc,K.out];rintro⟨h, -⟩;exact h6 h
    have r:=ab d;clear d;go_wp2;go_ret;exact⟨aB r.out.symm,Z⟩
end
section
variable {β:Bool}
open Go.RowKit
noncomputable def xFA:Func:=by
 apply(λ(x:Func) (_:{f57 with body:=some ki}=x)=>x)
 case x=>dsimp only[ki,aaW,atV,av3,av4,av5,av6,av7,av8,av9,awa,awb,awg,azE,awc,awd,awe,awf,aqr,aqs,aqt,amP,aiD,adb,awh,awi,aiB,aiC,iH,aaX,atW,atX,atY,aqq,atZ,aoi,kOp,aaZ,aaY,mG,cV,cU,cu,f57,Option.getD,List.map]
def ayC:qFA true=xFA:=by kernel_rfl
def asm:(ai true).funcs[57]?=some xFA:=(acD true).trans (jt some ayC)
@[go_sem] theorem aA3(args:Array Value)(w:World):(callFunc 57 args).run (ai true) w=.ok (.enter 57 args) w:=by
 have a:=cM func57;exact ly asm a rfl args w
end
section
variable {β:Bool}
open Go.RowKit
def FFe:Flat (ByteArray×Bool):=⟨2,λx=>[.string x.1,.bool x.2],λx=>x.1.size<=maxLen,λ_=>rfl,λx u a=>by
 simp only[pb,rG,uf] at a;rcases a with rfl|rfl<;>rfl,by decide⟩
def avp:((ai true).info? 140).map (λi=>(i.zero,i.size,i.bytes))=some (some (.agg #[.string ⟨#[]⟩,.bool false]),2,24):=by kernel_rfl
@[go_sem] theorem aBT(n:Int)(B:Option Addr)(m c:Nat)(w:World):(Instr.field 59 (.agg #[.int .i64 n,.slice B m c]) 0).run (ai true) w=.ok (.int .i64 n) w:=by simp[Instr.field,mu xK,asAgg,go_sem]
@[go_sem] theorem aBU(n:Int)(B:Option Addr)(m c:Nat)(w:World):(Instr.field 59 (.agg #[.int .i64 n,.slice B m c]) 1).run (ai true) w=.ok (.slice B m c) w:=by simp[Instr.field,mu xK,asAgg,go_sem]
@[go_sem] theorem aBV(n:Int)(s:ByteArray)(w:World):(Instr.field 68 (.agg #[.int .i64 n,.string s]) 0).run (ai true) w=.ok (.int .i64 n) w:=by simp[Instr.field,mu xJ,asAgg,go_sem]
@[go_sem] theorem aBW(n:Int)(s:ByteArray)(w:World):(Instr.field 68 (.agg #[.int .i64 n,.string s]) 1).run (ai true) w=.ok (.string s) w:=by simp[Instr.field,mu xJ,asAgg,go_sem]
def ayD(key:Int)(l:List iR)(dH:List Int)(w:World)(e:Ending)(w':World):Prop:=
 ∃v b,e=.returned (.tuple #[v,.bool b])/\(b=true↔∀n∈dH,(dh key l n).2=true)/\(b=true->aL iA 9 w' w.heap.size v (dH.map λn=>(dh key l n).1))/\Below w.heap.size w w'
noncomputable def al6(key:Int)(l:List iR)(ns:List Int):List ByteArray:=ns.map λn=>(dh key l n).1
noncomputable def aau(key:Int)(l:List iR)(dH:List Int)(k:Nat):List (ByteArray×Bool):=(dH.take k).map (dh key l)++List.replicate (dH.length-k) (⟨#[]⟩,false)
def avq(h:k<dH.length):(aau key l dH k)[k]?=some (⟨#[]⟩,false):=by
 unfold aau;have a:((dH.take k).map (dh key l)).length=k:=by rw[qi,fa];omega
 rw[qm (by omega),a,tu,uo,eg (by omega)]
def asn{n:Int}(h:dH[k]?=some n):(aau key l dH k).set k (dh key l n)=aau key l dH (k+1):=by
 have b:=aD h;unfold aau;have c:((dH.take k).map (dh key l)).length=k:=by rw[qi,fa];omega
 rw[uM _ _ (by omega),c,tu,li h,tH,th]
 congr 1
 obtain⟨m,a⟩:∃m,dH.length-k=m+1:=⟨dH.length-k-1,by omega⟩;rw[a,List.replicate_succ,ef,show dH.length-(k+1)=m by omega];rfl
def apn:∀n:Nat,(madeCells #[.string ⟨#[]⟩,.bool false] (n*2)).toList=eh FFe (List.replicate n (⟨#[]⟩,false)):=λn=>by
 apply tN;intro j;rcases pr j (n*2) with h|h
 .have d:j / 2<n:=by omega
  have b:(List.replicate n ((⟨#[]⟩,false):ByteArray×Bool))[j / 2]?=some (⟨#[]⟩,false):=by rw[uo,eg d]
  have e:j=j / 2*2+j % 2:=by omega
  rw[fi];have c:(madeCells #[.string ⟨#[]⟩,.bool false] (n*2))[j]?=some (#[Value.string ⟨#[]⟩,Value.bool false][j % 2]!):=by
   unfold madeCells;simp[h]
  rw[c];rcases vx j with a|a
  .have:=eB FFe _ (j / 2) 0 _ (.string ⟨#[]⟩) b rfl;rw[show j / 2*FFe.sz+0=j by show j / 2*2+0=j;omega] at this;rw[this,a];rfl
  .have:=eB FFe _ (j / 2) 1 _ (.bool false) b rfl;rw[show j / 2*FFe.sz+1=j by show j / 2*2+1=j;omega] at this;rw[this,a];rfl
 .rw[fi,qk (by rw[size_madeCells];exact h),rq (by rw[eu,qE];exact h)]
def aso(w:World)(n:Nat)(a:n<=maxLen)(h:dH.length=n:=by rfl) :
  aL FFe 140 (w.alloc (.cells (madeCells #[.string ⟨#[]⟩,.bool false] (n*2)) 140)) w.heap.size (.slice (some ⟨w.heap.size,0,none⟩) n n) (aau key l dH 0):=by
 have e:aau key l dH 0=List.replicate n (⟨#[]⟩,false):=by unfold aau;rw[h];rfl
 rw[e];refine⟨eu FFe _,.inr ⟨w.heap.size,n,_,by rw[qE],am _,aX.new _ _ _,by rw[qE];exact am _,a,by rw[size_madeCells];rfl, ?_⟩⟩;rw[apn,qE];exact pa (by rw[eu,qE];exact am _)
def anv{base g : Nat}{xs:List (ByteArray×Bool)}(h:aL FFe 140 w base (.slice (some ⟨g,0,none⟩) n n) xs){x:ByteArray×Bool}(a:xs[k]?=some x) :
  w.cell? ⟨g,k*2,none⟩=some (.string x.1)/\w.cell? ⟨g,k*2+1,none⟩=some (.bool x.2):=by
 obtain⟨A,c,e⟩:=aL.form h;simp only[nF] at e;obtain⟨-,rfl, -⟩:=e;exact⟨h.cell a (j:=0) rfl,h.cell a (j:=1) rfl⟩
def avr{base g : Nat}(h:aL FFe 140 w base (.slice (some ⟨g,0,none⟩) n n) (aau key l dH k))(m:k<dH.length) :
  w.cell? ⟨g,k*2,none⟩=some (.string ⟨#[]⟩)/\w.cell? ⟨g,k*2+1,none⟩=some (.bool false)/\(∀j,w.frozen? ⟨g,j,none⟩=false)/\(∀j (p:Addr) u,(w.setCell p u).frozen? ⟨g,j,none⟩=false)/\
  ∀y:ByteArray×Bool,aL FFe 140 ((w.setCell ⟨g,k*2,none⟩ (.string y.1)).setCell ⟨g,k*2+1,none⟩ (.bool y.2)) base (.slice (some ⟨g,0,none⟩) n n) ((aau key l dH k).set k y):=by
 obtain⟨A,c,e⟩:=aL.form h;simp only[nF] at e;obtain⟨-,rfl, -⟩:=e;have a:=avq (key:=key) (l:=l) m;obtain⟨o,q⟩:=anv h a;refine⟨o,q,λj=>h.frozen rfl j,λj p u=> ?_,λy=> ?_⟩
 .rw[uL];exact h.frozen rfl j
 .have d:=h.put a (j:=0) (y:=(y.1,false)) (u:=.string y.1) (by decide) rfl;have f:aL FFe 140 (w.setCell ⟨g,k*FFe.sz+0,none⟩ (.string y.1)) base (.slice (some ⟨g,0,none⟩) ((aau key l dH k).set k (y.1,false)).length (aau key l dH k).length) ((aau key l dH k).set k (y.1,false)):=by rw[qY];exact d
  have b:=f.put (i:=k) (x:=(y.1,false)) (by rw[rA (aD a)]) (j:=1) (y:=y) (u:=.bool y.2) (by decide) rfl;rw[qY,ace] at b;exact b
def al7 (key:Int) (hk:1<=key/\key<=99) (l:List iR) (A:Option Addr) (c:Nat) (dH:List Int) (v2:Value) (lo hi:Nat) (w:World) (x0 x1:Value)
  (aR:hi<=w.heap.size) (hl:PkL w A l) (a4:l.length<=c) (hc:c<=maxLen) (iw:∀p∈l,1<=p.2.length/\cE p.1) (u:bB aaq 1 w lo hi dH [v2]) (b6:dH.length<=2147483647)
  (e0:w.cell? ⟨1,0,none⟩=some x0) (e1:w.cell? ⟨2,0,none⟩=some x1) :
  Calls (ai true) 57 #[.int .i64 key,.slice A l.length c,v2] w (ayD key l dH w):=by
 obtain⟨A2,c2,rfl⟩:=u.form;obtain⟨-,aH,a2⟩:=u.len_;have HC:=ab hc;unfold maxLen at hc a2;have aJ:=aoI (P:=ai true) 127 140 _ 2 24 yp avp dH.length (by omega) (by omega);have a6:xFA.ntmps=45:=ntmps57;have N:xFA.results=#[.tmp 6,.tmp 7]:=results57;go_enter asm,a6;go_wp2
 go_loop [20] (λi=>∃k:Nat,k<=l.length/\i=.int .i64 k) (λi=>l.length-(intOf i).toNat)
 case atStart=>exact⟨0,ff _,rfl⟩
 case round=>
  obtain⟨k,al,rfl⟩:=hrel;by_cases Z:k<l.length
  .obtain⟨p,mV⟩:=aq Z;obtain⟨b,aF,B,c3,rfl,ao,aZ,ay,aU,a5,a1⟩:=hl k p mV;have M:=iw p (de mV);obtain⟨M,a7⟩:=M;unfold cE at a7;unfold maxLen at a5;obtain⟨S,T⟩:=p;dsimp only at *;have w1:wrap64 (S*1)=S:=by unfold wrap64;omega
   have t1:(S ==S)=true:=tq _;go_wp2
   go_loop [5] (λjj=>∃j:Nat,j<=T.length/\jj=.int .i64 j) (λjj=>T.length-(intOf jj).toNat)
   case atStart=>exact⟨0,ff _,rfl⟩
   case round=>
    obtain⟨j,b9,rfl⟩:=hrel;by_cases U:j<T.length
    .obtain⟨x,ad⟩:=aq U;obtain⟨b2,iT,rfl,b4,b5,af,a9,a8⟩:=a1 j x ad;unfold cE at a9;unfold maxLen at a8;obtain⟨R,xb⟩:=x;dsimp only at *;have w2:wrap64 (R*1)=R:=by unfold wrap64;omega
     have t2:(R ==R)=true:=tq _;go_wp2
     go_round
     case rel=>exact⟨j+1,by omega,by go_num⟩
     simp[intOf];omega
    .obtain rfl:j=T.length:=by omega
     go_wp2
     go_round
     case rel=>exact⟨_,_,_,_,_,_,_,_,_,⟨k+1,by omega,rfl⟩,rfl,rfl,rfl,rfl,rfl,rfl,rfl,rfl,by go_num⟩
     show l.length-((k:Int)+1).toNat<l.length-(k:Int).toNat;omega
  .obtain rfl:k=l.length:=by omega
   go_wp2;have L:=aso (key:=key) (l:=l) (dH:=dH) w dH.length (by unfold maxLen;omega);have a3:=av w (.cells (madeCells #[.string ⟨#[]⟩,.bool false] (dH.length*2)) 140);generalize w.alloc (.cells (madeCells #[.string ⟨#[]⟩,.bool false] (dH.length*2)) 140)=w0 at *;go_loopw [28] (λz wr=>∃k:Nat,k<=dH.length/\z=.int .i64 k/\aL FFe 140 wr w.heap.size (.slice (some ⟨w.heap.size,0,none⟩) dH.length dH.length) (aau key l dH k)/\Below w.heap.size w wr) (λz _=>dH.length-(intOf z).toNat)
   case atStart=>exact⟨0,ff _,rfl,L,a3⟩
   case round=>
    obtain⟨k,b1,rfl,C,a⟩:=hrel;by_cases o:k<dH.length
    .obtain⟨n,f⟩:=aq o;obtain⟨b3,a0,es,rfl,b8,b0,_,⟨rfl,O⟩,aa⟩:=((bB.loc aaq.loc).below u a aR).at_ f;have d0:wr.cell? ⟨b3,a0+k,none⟩=some (.int .i64 n):=by simpa using aa 0 _ rfl
     unfold cE at O;have w3:wrap64 (n*1)=n:=by unfold wrap64;omega
     have t3:(n ==n)=true:=tq _;have s:=asn (key:=key) (l:=l) f;replace s:=ab s;go_wp2;refine(ann wr key A c l n hk.1 hk.2 a4 (by omega) (hl.below a) O).mono ?_;rintro e w5 ⟨v,rfl,rfl,nu⟩;have V:=C.below nu;obtain⟨f0,f1,z0,z1,Q⟩:=avr V o;have iC:=ag a nu;have HP:=ab (Q (dh key l n));go_wp2;go_roundw
     case rel=>exact⟨k+1,by omega,by go_num,by rw[<-s.out];exact HP.out,(iC.setCell (by dsimp only;omega) _).setCell (by dsimp only;omega) _⟩
     simp[intOf];omega
    .obtain rfl:k=dH.length:=by omega
     replace u:=ab u;go_wp2;have H:=av wr (.cells #[.slice (some ⟨w.heap.size,0,none⟩) dH.length dH.length] 127);have q:=C.below H;have g:=ag a H;have e1:aau key l dH dH.length=dH.map (dh key l):=by unfold aau;rw[ip,tu,List.replicate_zero,sj]
     rw[e1] at q;generalize wr.alloc (.cells #[.slice (some ⟨w.heap.size,0,none⟩) dH.length dH.length] 127)=w1 at *;go_loopw [12,31] (λoo z wr=>∃k:Nat,k<=dH.length/\z=.int .i64 k/\aL iA 9 wr w.heap.size oo (al6 key l (dH.take k))/\aL FFe 140 wr w.heap.size (.slice (some ⟨w.heap.size,0,none⟩) dH.length dH.length) (dH.map (dh key l))/\(∀n∈dH.take k,(dh key l n).2=true)/\Below w.heap.size w wr) (λ_ z _=>dH.length-(intOf z).toNat)
     case atStart=>exact⟨0,ff _,rfl,aL.nil _ _ _,q,λn u=>(by simp at u),g⟩
     case round=>
      obtain⟨k,b7,rfl,I,C,d,a⟩:=hrel;replace d:=ab d;obtain⟨So,sc,rfl⟩:=I.form;by_cases o:k<dH.length
      .obtain⟨n,f⟩:=aq o;have X:(dH.map (dh key l))[k]?=some (dh key l n):=by rw[qO,f];rfl
       obtain⟨f0,f1⟩:=anv C X;have r:(al6 key l (dH.take k)).length=k:=by unfold al6;rw[qi,fa];omega
       have Y:al6 key l (dH.take (k+1))=al6 key l (dH.take k)++[(dh key l n).1]:=by unfold al6;rw[li f,tH];rfl
       have t:=aox C I (by decide);replace t:=ab t;have K:=ab f;replace r:=ab r;cases E:(dh key l n).2 with
       |false=>
        rw[E] at f1;replace E:=ab E;go_wp2;refine nf (v:=.tuple #[.slice none 0 0,.bool false]) (by simp[results,N,go_sem]) rfl ⟨_,false,rfl, ?_,λh=>(by cases h),a.alloc a.size _⟩;simp only[lc,uK];intro h;have:=h n (de K.out);rw[E.out] at this;cases this
       |true=>
        rw[E] at f1;have y:∀m∈dH.take (k+1),(dh key l m).2=true:=λm D=>by
         rw[li K.out,oR] at D;rcases D with D|D
         .exact d.out m D
         .rw[pi.1 D];exact E
        replace y:=ab y;replace Y:=ab Y;have ax:=av wr (.cells #[.string (dh key l n).1,.bool true] 140);have W:=av (wr.alloc (.cells #[.string (dh key l n).1,.bool true] 140)) (.cells #[.string (dh key l n).1] 9);have kB:=aX.new (wr.alloc (.cells #[.string (dh key l n).1,.bool true] 140)) 9 #[.string (dh key l n).1];simp only[mx] at kB;have J:=(I.below ax).below W;have q:=(C.below ax).below W;have g:=ag (ag a ax) W;go_wp2_with(at_builtin;refine agb (F:=iA) (v:=.slice So (al6 key l (dH.take k)).length sc) rfl (.tmp 38) (.tmp 41) 89 rfl ab5 (dh key l n).1 rfl J rfl kB rfl (by have:=r.out;omega) g.size ?_;intro va wa oa G an;obtain⟨Aa,ca,rfl⟩:=oa.form);go_roundw
        case rel=>exact⟨k+1,by omega,by go_num,by rw[Y.out];rw[aE] at oa;exact oa,q.fe G λb hb=>t.out b hb,y.out,g.trans (G.below g.size λi hi hx=>by have:=(J.at_ hx).1;omega)⟩
        simp[intOf];omega
      .obtain rfl:k=dH.length:=by omega
       rw[ip] at I d;go_wp2;refine nf (v:=.tuple #[_,.bool true]) (by simp[results,N,go_sem]) rfl ⟨_,true,rfl,by simp only[tM];exact d.out,λ_=>I,a⟩
end
section
open Go.RowKit
structure Glo (w:World):Prop where
 key:∃x,w.cell? ⟨1,0,none⟩=some x
 piece:∃x,w.cell? ⟨2,0,none⟩=some x
def Glo.below(h:Glo w)(b:Below w.heap.size w w'):Glo w':=by
 obtain⟨⟨x,c⟩,y,a⟩:=h;exact⟨⟨x,(qy (b.block _ (eO c))).trans c⟩,⟨y,(qy (b.block _ (eO a))).trans a⟩⟩
def apo(a:ao9 key l x.ns)(b:(jY (pV key l x.ns)).2=true):lQ key l x=some ⟨x.p,(jY (pV key l x.ns)).1⟩:=by unfold lQ;rw[eg ⟨a,b⟩]
def ajO(h:¬(ao9 key l x.ns/\(jY (pV key l x.ns)).2=true)):lQ key l x=none:=by unfold lQ;rw[da h]
def ajP(b:x∈xs)(h:lQ key l x=none):kO key l xs=none:=by
 unfold kO;rw[da];rintro⟨a, -⟩;have:=a x b;rw[h] at this;cases this
def al8{l:List ByteArray}:(jY l).1.size<=40:=by
 unfold jY;split
 .rename_i h;exact(kY h.1).1
 .exact ff _
def ajQ{y:Nd}(a:xs[k]?=some x)(h:lQ key l x=some y):gS key l (xs.take (k+1))=gS key l (xs.take k)++[y]:=by
 unfold gS;rw[li a,List.filterMap_append];simp[h]
def jk.itl{a:List It}(h:jk w Z hi a [.slice A n c])(o:hi<=w.heap.size):ItL w A (a.map λx=>(x.n,x.b)):=λi x e=>by
 rw[qO] at e;obtain⟨y,g,rfl⟩:=lw.1 e;obtain⟨b,d,m,rfl,p,l, -,⟨rfl,j,k⟩,f⟩:=h.at_ g;exact⟨b,d,rfl,by omega,by simpa using f 0 _ rfl,f 1 _ rfl,j,k⟩
def iL.pkl{l:List Pk}(h:iL w Z hi l [.slice A n c])(m:hi<=w.heap.size):PkL w A (acW l):=λi x e=>by
 unfold acW at e;rw[qO] at e;obtain⟨y,j,rfl⟩:=lw.1 e;obtain⟨b,a,q,rfl,s,p, -,⟨v,rfl,r,f⟩,g⟩:=h.at_ j;obtain⟨B,d,rfl⟩:=f.form;obtain⟨-,o,k⟩:=f.len_;refine⟨b,a,B,d,rfl,by omega,by have:=g 0 _ rfl;rw[tv] at this;exact this, ?_, ?_,k,f.itl m⟩
 .have:=g 1 _ rfl;rw[show(pkd y).2.length=y.its.length from qi _];exact this
 .rw[show(pkd y).2.length=y.its.length from qi _];exact o
def ayE(h:gb w Z hi xs [.slice A n c])(i:xs[k]?=some x) :
  ∃b a A' d,A=some ⟨b,a,none⟩/\Z<=b/\b<hi/\x.p.size<=maxLen/\w.cell? ⟨b,a+k*2,none⟩=some (.string x.p)/\w.cell? ⟨b,a+k*2+1,none⟩=some (.slice A' x.ns.length d)/\bB aaq 1 w Z hi x.ns [.slice A' x.ns.length d]:=by
 obtain⟨b,a,m,rfl,j,g,l,⟨v,rfl,f,hi⟩,e⟩:=h.at_ i;obtain⟨A',d,rfl⟩:=hi.form;exact⟨b,a,A',d,rfl,j,g,f,by simpa using e 0 _ rfl,e 1 _ rfl,hi⟩
def qa(o:Option (List Nd))(w:World)(e:Ending)(w':World):Prop:=∃v,e=.returned (.tuple #[v,.bool o.isSome])/\aL mP 79 w' w.heap.size v (o.getD [])/\(∀y∈o.getD [],mP.good y)/\Below w.heap.size w w'
def qa.no{o:Option (List Nd)}(h:o=none)(a:Below w.heap.size w w'):qa o w (.returned (.tuple #[.slice none 0 0,.bool false])) w':=by
 subst h;exact⟨_,rfl,aL.nil _ _ _,λy b=>(by cases b),a⟩
theorem al9 (l:List iR) (A:Option Addr) (c:Nat) (x:Sn) (vn:Value) (lo hi:Nat) (w:World) (hg:Glo w) (aR:hi<=w.heap.size) (hl:PkL w A l) (ad:l.length<=c) (hc:c<=maxLen) (iw:∀p∈l,1<=p.2.length/\cE p.1)
  (hn:gb w lo hi x.all [vn]) (o:∀y∈x.all,y.ns.length<=2147483647) (oL:x.all.length<=1099511627) :
  Calls (ai true) 30 #[.int .i64 7,.agg #[.int .i64 x.no,vn],.slice A l.length c] w (qa (kO 7 l x.all) w):=by
 obtain⟨B,d,rfl⟩:=hn.form;obtain⟨-,hd,X⟩:=hn.len_;have HD:=ab X;unfold maxLen at X;have aJ:=ab iw;have ay:=ab o;clear iw o;go_enter zW,ntmps30;go_wp2;refine(ag7 (β:=true) 7 _ true (by simp)).mono ?_;rintro e w1 ⟨rfl,rfl⟩;go_wp2;have aH:=av w (.cells #[.int .i64 x.no,.slice B x.all.length d] 63);generalize w.alloc (.cells #[.int .i64 x.no,.slice B x.all.length d] 63)=w0 at *;have b1:=aH.size;go_loopw [8,20] (λoo ii wr=>∃k:Nat,k<=x.all.length/\ii=.int .i64 k/\(∀y∈x.all.take k,(lQ 7 l y).isSome=true)/\aL mP 79 wr w.heap.size oo (gS 7 l (x.all.take k))/\(∀y∈gS 7 l (x.all.take k),mP.good y)/\(gS 7 l (x.all.take k)).length=k/\Below w.heap.size w wr) (λ_ ii _=>x.all.length-(intOf ii).toNat)
 case atStart=>exact⟨0,ff _,rfl,λy hy=>(by cases hy),aL.nil _ _ _,λy hy=>(by cases hy),rfl,aH⟩
 case round=>
  obtain⟨k,hk,rfl,m,U,P,T,hb⟩:=hrel;have D:=ab m;have u:=ab P;have H:=ab T;clear m P T aH;have an:=hb.size;by_cases a7:k<x.all.length
  .obtain⟨y,cX⟩:=aq a7;have R:gb wr lo hi x.all [.slice B x.all.length d]:=gb.loc.below hn hb aR;obtain⟨b,b0,A',c',rfl,b2,G,aa,af,aU,o⟩:=ayE R cX;have HY:=ab cX;have a1:=ay.out y (de cX);clear cX;go_wp2;have ba:=av wr (.cells #[.string y.p,.slice A' y.ns.length c'] 100);have kb:=aX.new wr 100 #[.string y.p,.slice A' y.ns.length c'];generalize wr.alloc (.cells #[.string y.p,.slice A' y.ns.length c'] 100)=wa at *;have t:=ag hb ba;have aF:=t.size;obtain⟨⟨g0,e0⟩,g1,e1⟩:=hg.below t;have HF:=al7 7 (by omega) l A c y.ns _ lo hi wa g0 g1 (ap aR aF) (hl.below t) ad hc aJ.out (nY.loc.below o ba (ap aR an)) a1 e0 e1;refine HF.mono ?_;clear HF e0 e1 R af aU o;rintro e w2 ⟨v2,q,rfl,O,S,J⟩;have Q:=ag t J;have L:=ab O;clear O;have ao:=ah kb J;cases q with
   |false=>
    have a:kO 7 l x.all=none:=ajP (de HY.out) (ajO λN=>by have:=L.out.2 N.1;cases this);have g:=ab a;clear a S;go_wp2;go_ret2;exact qa.no g.out Q
   |true=>
    have j:=L.out.1 rfl;have I:∀s∈pV 7 l y.ns,bF (bs s):=λs hs=>by
     obtain⟨n,hn,rfl⟩:=qu.1 hs;exact(ov (j n hn)).1
    have W:∀s∈pV 7 l y.ns,s.size<=maxLen:=λs hs=>by have:=(gq (I s hs)).2;unfold maxLen;omega
    have o2:aL iA 9 w2 wa.heap.size v2 (pV 7 l y.ns):=S rfl;have t2:=gX.sl (aL.deep o2 W wa.heap.size) (am _);have V:(pV 7 l y.ns).length<=2147483647:=by unfold pV;rw[qi];exact a1
    have HC:=λM (r:Below w2.heap.size w2 M)=>apm (β:=true) (pV 7 l y.ns) I V v2 M _ _ (dA.ar.below t2 r (am _)) r.size;have a3:=ab HC;have ax:=ab (show ao9 7 l y.ns from j);clear HC j I W o2 t2 V S L;go_wp2;refine(a3.out _ (du _ _)).mono ?_;rintro e M ⟨rfl,r⟩;have K:=ag Q r;have al:=ah ao r;have cp:=al.cell 0;cases hj:(jY (pV 7 l y.ns)).2
    .have a:kO 7 l x.all=none:=ajP (de HY.out) (ajO λN=>by rw[hj] at N;cases N.2);have g:=ab a;clear a hj;go_wp2;go_ret2;exact qa.no g.out K
    .have C:=apo (x:=y) ax.out hj;have a5:(jY (pV 7 l y.ns)).1.size<=maxLen:=by have:=al8 (l:=pV 7 l y.ns);unfold maxLen;omega
     generalize (jY (pV 7 l y.ns)).1=tx at *;have a2:=ajQ HY.out C;have Y:∀z∈x.all.take (k+1),(lQ 7 l z).isSome=true:=λz f=>by
      rw[li HY.out] at f;rcases oR.1 f with f|f
      .exact D.out z f
      .rw[pi.1 f,C];rfl
     have HN:=ab a2;have a8:=ab Y;clear a2 Y C hj;have oF:=(U.below (ag ba (J.trans (r.mono J.size)))).below (du _ _);obtain⟨Ao,co,rfl⟩:=oF.form;have Z:=K.size;go_wp2_with(at_builtin;refine cH (F:=mP) (v:=.slice Ao (gS 7 l (x.all.take k)).length co) rfl (.tmp 41) (.tmp 46) 38 rfl nZ (⟨y.p,tx⟩:Nd) rfl oF rfl rfl (by rw[H.out];omega) Z ?_;intro va w4 oa a6 aZ;obtain⟨Aa,ca,rfl⟩:=oa.form);go_roundw
     case rel=>
      have a4:=K.trans (a6.below Z λi hi hx=>by have:=(oF.at_ hx).1;omega);refine⟨k+1,by omega,by go_num,a8.out,by rw[HN.out];simp only[aE,gc,mp,me] at oa;exact oa, ?_,by rw[HN.out,aE,H.out];rfl,a4⟩;rw[HN.out];intro z f;rcases oR.1 f with f|f
      .exact u.out z f
      .rw[pi.1 f];exact⟨aa,a5⟩
     case measure=>simp[intOf];omega
  .obtain rfl:k=x.all.length:=by omega
   rw[ip] at D u H U;have t3:=gX.sl (aL.deep U u.out w.heap.size) (am _);obtain⟨q,O⟩:∃q:Bool,q=true↔ans (gS 7 l x.all):=by
    by_cases hx:ans (gS 7 l x.all)
    .exact⟨true,by simp[hx]⟩
    .exact⟨false,by simp[hx]⟩
   have HT:=λM (r:Below wr.heap.size wr M)=>asl (β:=true) (gS 7 l x.all) u8 M _ _ (eL.ar.below t3 r (am _)) r.size q O;have a9:=ab HT;have L:=ab O;clear HT O t3;go_wp2;refine(a9.out _ (du _ _)).mono ?_;rintro e w2 ⟨rfl,J⟩;have G:=ag hb J;cases q with
   |false=>
    have a:kO 7 l x.all=none:=by
     unfold kO;rw[da];rintro⟨-,N⟩;have:=L.out.2 N;cases this
    have g:=ab a;clear a;go_wp2;go_ret2;exact qa.no g.out G
   |true=>
    have a0:kO 7 l x.all=some (gS 7 l x.all):=by
     unfold kO;rw[eg ⟨D.out,L.out.1 rfl⟩]
    have E:=ab a0;clear a0;have S:=U.below J;clear U;go_wp2;go_ret2;refine⟨u8,by rw[E.out];rfl,by rw[E.out];exact S,by rw[E.out];exact u.out,G⟩
end
section
variable {β:Bool}
open Go.RowKit
def mB(l:List Int)(g p s hi:Nat)(w:World)(v:Rd w s hi g l p)(x:p<=100000) :
  Calls (ai β) 35 #[.pointer (some ⟨g,0,none⟩)] w (aoE w s hi g l p):=by
 go_enter zS,ntmps35;go_wp2;refine(dm _ _ _ _ _ _ 40 v (by omega)).mono ?_;rintro e a ⟨m,rfl,⟨_,y⟩,q,o⟩;by_cases r:m=0
 .have t:(m ==0)=true:=oE.2 r;go_wp2;have rl:dA (a.alloc (.cells #[.string ⟨#[]⟩,.string ⟨#[102]⟩,.string ⟨#[97,47]⟩,.string ⟨#[97,98]⟩,.string ⟨#[97,47,98,47,99]⟩,.string ⟨#[47,97]⟩] 9)) a.heap.size (a.alloc (.cells #[.string ⟨#[]⟩,.string ⟨#[102]⟩,.string ⟨#[97,47]⟩,.string ⟨#[97,98]⟩,.string ⟨#[97,47,98,47,99]⟩,.string ⟨#[47,97]⟩] 9)).heap.size [⟨#[]⟩,⟨#[102]⟩,⟨#[97,47]⟩,⟨#[97,98]⟩,⟨#[97,47,98,47,99]⟩,⟨#[47,97]⟩] [.slice (some ⟨a.heap.size,0,none⟩) 6 6]:=
   (aL.deep (F:=iA) (ab0 (F:=iA) (aX.new a 9 #[.string ⟨#[]⟩,.string ⟨#[102]⟩,.string ⟨#[97,47]⟩,.string ⟨#[97,98]⟩,.string ⟨#[97,47,98,47,99]⟩,.string ⟨#[47,97]⟩]) rfl (am _) rfl (by simp[maxLen])) (nS (by decide)) a.heap.size).sl (am _)
  have n:=(q).alloc (.cells #[.string ⟨#[]⟩,.string ⟨#[102]⟩,.string ⟨#[97,47]⟩,.string ⟨#[97,98]⟩,.string ⟨#[97,47,98,47,99]⟩,.string ⟨#[47,97]⟩] 9);have k:=(o).alloc (.cells #[.string ⟨#[]⟩,.string ⟨#[102]⟩,.string ⟨#[97,47]⟩,.string ⟨#[97,98]⟩,.string ⟨#[97,47,98,47,99]⟩,.string ⟨#[47,97]⟩] 9);generalize (a).alloc (.cells #[.string ⟨#[]⟩,.string ⟨#[102]⟩,.string ⟨#[97,47]⟩,.string ⟨#[97,98]⟩,.string ⟨#[97,47,98,47,99]⟩,.string ⟨#[47,97]⟩] 9)=w3 at *;refine(ahm _ (by simp) _ _ _ _ _ _ _ _ w3 n (by omega) rl).mono ?_;rintro e u ⟨j,d,rfl,c,b⟩;have f:(j).size<=9:=ahl (by decide) j d;replace k:=(k).trans b λi _ e=>e;go_wp2;go_ret;exact⟨j,_,rfl,f,c,by omega,k⟩
 .have t:(m ==0)=false:=dk.2 r;go_wp2;have rl:dA (a.alloc (.cells #[.string ⟨#[97]⟩,.string ⟨#[98]⟩,.string ⟨#[99,47,97]⟩,.string ⟨#[99,47,98]⟩,.string ⟨#[100,47,97]⟩,.string ⟨#[101]⟩,.string ⟨#[97,47,98]⟩,.string ⟨#[100]⟩] 9)) a.heap.size (a.alloc (.cells #[.string ⟨#[97]⟩,.string ⟨#[98]⟩,.string ⟨#[99,47,97]⟩,.string ⟨#[99,47,98]⟩,.string ⟨#[100,47,97]⟩,.string ⟨#[101]⟩,.string ⟨#[97,47,98]⟩,.string ⟨#[100]⟩] 9)).heap.size [⟨#[97]⟩,⟨#[98]⟩,⟨#[99,47,97]⟩,⟨#[99,47,98]⟩,⟨#[100,47,97]⟩,⟨#[101]⟩,⟨#[97,47,98]⟩,⟨#[100]⟩] [.slice (some ⟨a.heap.size,0,none⟩) 8 8]:=
   (aL.deep (F:=iA) (ab0 (F:=iA) (aX.new a 9 #[.string ⟨#[97]⟩,.string ⟨#[98]⟩,.string ⟨#[99,47,97]⟩,.string ⟨#[99,47,98]⟩,.string ⟨#[100,47,97]⟩,.string ⟨#[101]⟩,.string ⟨#[97,47,98]⟩,.string ⟨#[100]⟩]) rfl (am _) rfl (by simp[maxLen])) (nS (by decide)) a.heap.size).sl (am _)
  have n:=(q).alloc (.cells #[.string ⟨#[97]⟩,.string ⟨#[98]⟩,.string ⟨#[99,47,97]⟩,.string ⟨#[99,47,98]⟩,.string ⟨#[100,47,97]⟩,.string ⟨#[101]⟩,.string ⟨#[97,47,98]⟩,.string ⟨#[100]⟩] 9);have k:=(o).alloc (.cells #[.string ⟨#[97]⟩,.string ⟨#[98]⟩,.string ⟨#[99,47,97]⟩,.string ⟨#[99,47,98]⟩,.string ⟨#[100,47,97]⟩,.string ⟨#[101]⟩,.string ⟨#[97,47,98]⟩,.string ⟨#[100]⟩] 9);generalize (a).alloc (.cells #[.string ⟨#[97]⟩,.string ⟨#[98]⟩,.string ⟨#[99,47,97]⟩,.string ⟨#[99,47,98]⟩,.string ⟨#[100,47,97]⟩,.string ⟨#[101]⟩,.string ⟨#[97,47,98]⟩,.string ⟨#[100]⟩] 9)=w3 at *;refine(ahm _ (by simp) _ _ _ _ _ _ _ _ w3 n (by omega) rl).mono ?_;rintro e u ⟨j,d,rfl,c,b⟩;have f:(j).size<=9:=ahl (by decide) j d;replace k:=(k).trans b λi _ e=>e;go_wp2;go_ret;exact⟨j,_,rfl,f,c,by omega,k⟩
def asp(w:World)(lo hi g:Nat)(l:List Int)(p:Nat)(e:Ending)(w':World):Prop:=∃s q,e=.returned (.string s)/\s.size<=1000/\Rd w' lo hi g l q/\q<=p+30/\bh (λb=>b=g) w w'
def acr(a b:ByteArray):(a++b).size=a.size+b.size:=by rw[<-aO,iI,aE,aO,aO]
def asq(w:World)(n:Int):∃t:ByteArray,t.size=1/\Sem.run (ai β) (convert 22 9 (.slice (some ⟨w.heap.size,0,none⟩) 1 1)) (w.alloc (.cells #[.int .u8 n] 5))=.ok (.string t) (w.alloc (.cells #[.int .u8 n] 5)):=by
 refine⟨([n].foldl (λr n=>r.push (UInt8.ofNat n.toNat)) ByteArray.empty),rfl, ?_⟩;rw[run_convert_bytes_string _ _ _ 5 _ _ _ wZ qU5 qU9];refine run_bytesToString _ _ 1 1 [n] ?_;have c:=(aX.new w 5 #[.int .u8 n]).cell 0;refine run_loadCells_list (a:=⟨w.heap.size,0,none⟩) (cs:=[.int .u8 n]) (w:=w.alloc (.cells #[.int .u8 n] 5)) (P:=(ai β)) (λj v b=> ?_)
 match j,b with
 |0,b=>
  cases b;exact c
def ads(l:List Int)(g p V hi:Nat)(w:World)(hr:Rd w V hi g l p)(hp:p<=100000) :
  Calls (ai β) 36 #[.pointer (some ⟨g,0,none⟩)] w (asp w V hi g l p):=by
 go_enter zR,ntmps36;go_wp2;refine(dm _ _ _ _ _ _ 5 hr (by omega)).mono ?_;rintro e w2 ⟨m,rfl,⟨_,hm⟩,Q,T⟩;have al:=hm (by omega);obtain⟨mm,rfl⟩:=ql (show 0<=m by omega);clear hm;go_wp2;go_loopw [3,4] (λtt H wr=>∃(j q:Nat) (x:ByteArray),j<=4/\H=.int .i64 j/\tt=.string x/\x.size+9*j<=36/\Rd wr V hi g l q/\q+j<=p+5/\bh (λb=>b=g) w wr) (λ_ H _=>(intOf H).toNat)
 case atStart=>exact⟨mm,_,⟨#[]⟩,by omega,rfl,rfl,by show 0+_<=_;omega,Q,by omega,T⟩
 case round=>
  clear Q T;obtain⟨j,q,x,hj,rfl,rfl,hx,rd,U⟩:=hrel;obtain⟨ao,U⟩:=U;by_cases h0:j=0
  .subst h0;go_wp2;refine(dm _ _ _ _ _ _ 4 rd (by omega)).mono ?_;rintro e w3 ⟨m2,rfl,⟨_,a7⟩,r,A⟩;clear a7;have E:=U.trans A λi _ e=>e;have a8:x.size<=60:=by omega
   have af:x.size<=36:=by omega
   clear rd A hx;by_cases X:m2=0
   .have t1:(m2 ==0)=true:=oE.2 X;clear X;go_wp2;refine(dm _ _ _ _ _ _ 12 r (by omega)).mono ?_;rintro e w5 ⟨m5,rfl,⟨_,N⟩,K,S⟩;have a9:=N (by omega);obtain⟨n5,rfl⟩:=ql (show 0<=m5 by omega);have R:=E.trans S λi _ e=>e;clear N S E r;go_wp2;go_loopw [3,5] (λtt H wr=>∃(j W:Nat) (y:ByteArray),j<=11/\H=.int .i64 j/\tt=.string y/\y.size+j<=47/\Rd wr V hi g l W/\W+j<=p+18/\bh (λb=>b=g) w wr) (λ_ H _=>(intOf H).toNat)
    case atStart=>exact⟨n5,_,x,by omega,rfl,rfl,by omega,K,by omega,R⟩
    case round=>
     clear K R;obtain⟨j,W,y,f,rfl,rfl,hy,G,ay,B⟩:=hrel;by_cases O:j=0
     .subst O;have a4:y.size<=60:=by omega
      clear hy;have a0:W<=p+20:=by omega
      by_cases Z:40<(y).size
      case' pos=>
       have t4:=dj (show(40:Int)<((y).size:Int) by omega);have g2:(40:Int)<=((y).size:Int):=by omega
       obtain⟨z,n,o⟩:∃z,z=(y).extract 0 40/\z.size=40:=⟨_,rfl,by rw[aeS _ (by omega)]⟩;have P:=ab n;go_wp2;rw[<-P.out];clear n P
      case' neg=>
       have t4:=db (show ¬((40:Int)<((y).size:Int)) by omega);go_wp2;have o:=a4;obtain⟨z,n⟩:∃z,z=y:=⟨_,rfl⟩;rw[<-n] at o ⊢;clear n
      all_goals
       refine(dm _ _ _ _ _ _ 60 G (by omega)).mono ?_;rintro e Y ⟨d,rfl,⟨_,D⟩,a,s⟩;have c:=(B).trans s λi _ e=>e;clear D s;by_cases k:d=0
       .have t5:(d ==0)=true:=oE.2 k;clear k;go_wp2;go_ret;exact⟨_,_,rfl,by rw[acr];have:(⟨#[65]⟩:ByteArray).size=1:=rfl;omega,a,by omega,c⟩
       .have t5:(d ==0)=false:=dk.2 k;by_cases u:d=1
        .have t6:(d ==1)=true:=oE.2 u;clear k u;go_wp2;refine(aeI ⟨#[97,98,99,100,101]⟩ 9 (by decide) (by decide) (by decide) Y).mono ?_;rintro e w5 ⟨⟨t,rfl,ht⟩,rfl⟩;go_wp2;go_ret;exact⟨t,_,rfl,by omega,a,by omega,c⟩
        .have t6:(d ==1)=false:=dk.2 u;clear k u;go_wp2;go_ret;exact⟨_,_,rfl,by omega,a,by omega,c⟩
     .have t7:=dj (show(0:Int)<(j:Int) by omega);obtain⟨C,I⟩:∃y,y=j-1:=⟨_,rfl⟩;have e7:(j:Int)-1=((C:Nat):Int):=by omega
      have iw:0<(j:Int):=by omega
      have f:j=C+1:=by omega
      clear I O;have v:=ab f;clear f;go_wp2;refine(dm _ _ _ _ _ _ 26 G (by omega)).mono ?_;rintro e w7 ⟨m7,rfl,⟨_,L⟩,a1,M⟩;have ax:=L (by omega);have a6:=B.trans M λi _ e=>e;clear L M B G;have a5:=a1.alloc (.cells #[.int .u8 (97+m7)] 5);have a3:=a6.alloc (.cells #[.int .u8 (97+m7)] 5);obtain⟨t,ht,ad⟩:=asq (β:=β) w7 (97+m7);go_wp2;go_roundw
      case rel=>exact⟨C,_,y++t,by have:=v.out;omega,rfl,rfl,by rw[acr,ht];have:=v.out;omega,a5,by have:=v.out;omega,a3⟩
      simp[intOf];have:=v.out;omega
   .have t1:(m2 ==0)=false:=dk.2 X;clear X;have a0:q+1<=p+20:=by omega
    by_cases Z:40<(x).size
    case' pos=>
     have t4:=dj (show(40:Int)<((x).size:Int) by omega);have g2:(40:Int)<=((x).size:Int):=by omega
     obtain⟨z,n,o⟩:∃z,z=(x).extract 0 40/\z.size=40:=⟨_,rfl,by rw[aeS _ (by omega)]⟩;have P:=ab n;go_wp2;rw[<-P.out];clear n P
    case' neg=>
     have t4:=db (show ¬((40:Int)<((x).size:Int)) by omega);go_wp2;have o:=a8;obtain⟨z,n⟩:∃z,z=x:=⟨_,rfl⟩;rw[<-n] at o ⊢;clear n
    all_goals
     refine(dm _ _ _ _ _ _ 60 r (by omega)).mono ?_;rintro e Y ⟨d,rfl,⟨_,D⟩,a,s⟩;have c:=(E).trans s λi _ e=>e;clear D s;by_cases k:d=0
     .have t5:(d ==0)=true:=oE.2 k;clear k;go_wp2;go_ret;exact⟨_,_,rfl,by rw[acr];have:(⟨#[65]⟩:ByteArray).size=1:=rfl;omega,a,by omega,c⟩
     .have t5:(d ==0)=false:=dk.2 k;by_cases u:d=1
      .have t6:(d ==1)=true:=oE.2 u;clear k u;go_wp2;refine(aeI ⟨#[97,98,99,100,101]⟩ 9 (by decide) (by decide) (by decide) Y).mono ?_;rintro e w5 ⟨⟨t,rfl,ht⟩,rfl⟩;go_wp2;go_ret;exact⟨t,_,rfl,by omega,a,by omega,c⟩
      .have t6:(d ==1)=false:=dk.2 u;clear k u;go_wp2;go_ret;exact⟨_,_,rfl,by omega,a,by omega,c⟩
  .have t1:=dj (show(0:Int)<(j:Int) by omega);have an:x.size<=36:=by omega
   obtain⟨C,I⟩:∃y,y=j-1:=⟨_,rfl⟩;have u:(j:Int)-1=((C:Nat):Int):=by omega
   have iw:0<(j:Int):=by omega
   have f:j=C+1:=by omega
   clear I h0;have v:=ab f;clear f;go_wp2;have rl:dA (wr.alloc (.cells #[.string ⟨#[97,98,99]⟩,.string ⟨#[104,101,108,108,111]⟩,.string ⟨#[119,111,114,108,100]⟩,.string ⟨#[97,97,97,97]⟩,.string ⟨#[107,101,101,112]⟩,.string ⟨#[122,122]⟩,.string ⟨#[98,97,99,107,117,112]⟩,.string ⟨#[113]⟩] 9)) wr.heap.size (wr.alloc (.cells #[.string ⟨#[97,98,99]⟩,.string ⟨#[104,101,108,108,111]⟩,.string ⟨#[119,111,114,108,100]⟩,.string ⟨#[97,97,97,97]⟩,.string ⟨#[107,101,101,112]⟩,.string ⟨#[122,122]⟩,.string ⟨#[98,97,99,107,117,112]⟩,.string ⟨#[113]⟩] 9)).heap.size [⟨#[97,98,99]⟩,⟨#[104,101,108,108,111]⟩,⟨#[119,111,114,108,100]⟩,⟨#[97,97,97,97]⟩,⟨#[107,101,101,112]⟩,⟨#[122,122]⟩,⟨#[98,97,99,107,117,112]⟩,⟨#[113]⟩] [.slice (some ⟨wr.heap.size,0,none⟩) 8 8]:=
    (aL.deep (F:=iA) (ab0 (F:=iA) (aX.new wr 9 #[.string ⟨#[97,98,99]⟩,.string ⟨#[104,101,108,108,111]⟩,.string ⟨#[119,111,114,108,100]⟩,.string ⟨#[97,97,97,97]⟩,.string ⟨#[107,101,101,112]⟩,.string ⟨#[122,122]⟩,.string ⟨#[98,97,99,107,117,112]⟩,.string ⟨#[113]⟩]) rfl (am _) rfl (by simp[maxLen])) (nS (by decide)) wr.heap.size).sl (am _)
   have r:=(rd).alloc (.cells #[.string ⟨#[97,98,99]⟩,.string ⟨#[104,101,108,108,111]⟩,.string ⟨#[119,111,114,108,100]⟩,.string ⟨#[97,97,97,97]⟩,.string ⟨#[107,101,101,112]⟩,.string ⟨#[122,122]⟩,.string ⟨#[98,97,99,107,117,112]⟩,.string ⟨#[113]⟩] 9);have mM:=(U).alloc (.cells #[.string ⟨#[97,98,99]⟩,.string ⟨#[104,101,108,108,111]⟩,.string ⟨#[119,111,114,108,100]⟩,.string ⟨#[97,97,97,97]⟩,.string ⟨#[107,101,101,112]⟩,.string ⟨#[122,122]⟩,.string ⟨#[98,97,99,107,117,112]⟩,.string ⟨#[113]⟩] 9);generalize (wr).alloc (.cells #[.string ⟨#[97,98,99]⟩,.string ⟨#[104,101,108,108,111]⟩,.string ⟨#[119,111,114,108,100]⟩,.string ⟨#[97,97,97,97]⟩,.string ⟨#[107,101,101,112]⟩,.string ⟨#[122,122]⟩,.string ⟨#[98,97,99,107,117,112]⟩,.string ⟨#[113]⟩] 9)=w3 at *;refine(ahm _ (by simp) _ _ _ _ _ _ _ _ w3 r (by omega) rl).mono ?_;rintro e v3 ⟨s3,J,rfl,a2,A⟩;have aa:(s3).size<=9:=ahl (by decide) s3 J;replace mM:=(mM).trans A λi _ e=>e;clear J rl;go_wp2;go_roundw
   case rel=>exact⟨C,_,x++s3,by have:=v.out;omega,rfl,rfl,by rw[acr];have:=v.out;omega,a2,by have:=v.out;omega,mM⟩
   simp[intOf];have:=v.out;omega
end
section
variable {β:Bool}
open Go.RowKit
def apq(w:World)(lo hi g:Nat)(l:List Int)(p:Nat)(e:Ending)(w':World):Prop:=∃v a q,e=.returned v/\aL mP 79 w' w.heap.size v a/\(∀y∈a,mP.good y)/\a.length<=7/\Rd w' lo hi g l q/\q<=p+300/\bh (λb=>b=g) w w'
def ajR(l:List Int)(g p P hi:Nat)(w:World)(hr:Rd w P hi g l p)(hp:p<=50000) :
  Calls (ai β) 60 #[.pointer (some ⟨g,0,none⟩)] w (apq w P hi g l p):=by
 have ax:=hr.lt;go_enter zH,ntmps60;go_wp2;have V:=hr.alloc (.cells #[] 79);have D:=(bh.refl (λb=>b=g) w).alloc (.cells #[] 79);have H:aL mP 79 (w.alloc (.cells #[] 79)) w.heap.size (.slice (some ⟨w.heap.size,0,none⟩) 0 0) []:=(eE.new w 79 (am _)).own 2;generalize w.alloc (.cells #[] 79)=w0 at *;refine(dm _ _ _ _ _ _ 6 V (by omega)).mono ?_;rintro e w1 ⟨m,rfl,⟨_,hm⟩,a2,G⟩;have ay:=hm (by omega);obtain⟨mm,rfl⟩:=ql (show 0<=m by omega);have Y:=H.fe G λb r e=>by have:=(H.at_ r).1;omega
 replace D:=D.trans G λi _ e=>e;clear hm V G H;go_wp2;go_loopw [3,4] (λtt jj wr=>∃(j q:Nat) (n:List Nd),j<=5/\jj=.int .i64 j/\aL mP 79 wr w.heap.size tt n/\lK n/\Rd wr P hi g l q/\q+40*j<=p+201/\bh (λb=>b=g) w wr) (λ_ jj _=>(intOf jj).toNat)
 case atStart=>exact⟨mm,_,[],by omega,rfl,Y,lK.nil,a2,by omega,D⟩
 case round=>
  clear Y a2 D;obtain⟨j,q,n,hj,rfl,J,K,rd,hq,T⟩:=hrel;obtain⟨A,c,rfl⟩:=J.form;replace K:=ab K;have ao:=T.size;by_cases h0:j=0
  .subst h0;have z:=ab (aan K.out);have af:n.length<=6:=K.out.2.1;go_wp2;refine(dm _ _ _ _ _ _ 40 rd (by omega)).mono ?_;rintro e N ⟨Q,rfl,⟨_,a9⟩,a,k⟩;have o:=J.fe k λb r e=>by have:=(J.at_ r).1;omega
   have d:=T.trans k λi _ e=>e;clear a9 rd J k T;by_cases R:Q=0
   .have t5:(Q ==0)=true:=oE.2 R;clear R;go_wp2;refine(mB l g (q+1) P hi N a (by omega)).mono ?_;rintro e w3 ⟨s,q3,rfl,a8,B,a7,x⟩;have M:=o.fe x λb r e=>by have:=(o.at_ r).1;omega
    have O:=d.trans x λi _ e=>e;have I:=O.size;clear a o d;go_wp2_with(at_builtin;refine cH (F:=mP) (v:=.slice A n.length c) rfl (.tmp 29) (.tmp 33) 38 rfl nZ ⟨s,⟨#[97]⟩⟩ rfl M rfl rfl (by omega) I ?_;intro va wa oa a0 al;obtain⟨Aa,ca,rfl⟩:=oa.form;simp only[aE,gc,mp,me] at oa);go_ret;refine⟨_,n++[⟨s,⟨#[97]⟩⟩],q3,rfl,by simpa using oa,λy L=> ?_,by simp;omega,B.fe a0 λb r e=> ?_,by omega,O.trans a0 λb r e=> ?_⟩
    .rcases oR.1 L with L|L
     .exact z.out y L
     .rw[pi.1 L];exact⟨by show s.size<=maxLen;unfold maxLen;omega,by show(⟨#[97]⟩:ByteArray).size<=maxLen;decide⟩
    .have:=(M.at_ e).1;have:=B.hi_;omega
    .have:=(M.at_ e).1;omega
   .have t5:(Q ==0)=false:=dk.2 R;by_cases Z:Q=1
    .have t6:(Q ==1)=true:=oE.2 Z;clear R Z;by_cases a1:n.length=0
     .have t7:=db (show ¬(0<n.length) by omega);clear a1;go_wp2;go_ret;exact⟨_,n,q+1,rfl,o,z.out,by omega,a,by omega,d⟩
     .have t7:=dj (show 0<n.length by omega);have iw:0<n.length:=by omega
      obtain⟨y0,cX⟩:=aq iw;obtain⟨X,c',e⟩:=aL.some_ o iw;simp only[nF] at e;obtain⟨rfl, -,rfl⟩:=e;have an:=(o.at_ rfl).1;have G:N.cell? ⟨X,1,none⟩=some (.string y0.b):=by
       have:=aL.cell o (j:=1) cX rfl;simpa using this
      have aF:=aL.frozen o rfl 1;have C:=aL.put o (j:=1) (u:=.string ⟨#[65]⟩) (y:=⟨y0.p,⟨#[65]⟩⟩) cX (by decide) rfl;rw[uP,me] at C;have HP:=ab C;have E:bh (λb=>b=X) N (N.setCell ⟨X,1,none⟩ (.string ⟨#[65]⟩)):=(bh.refl (λb=>b=X) N).setCell (p:=⟨X,1,none⟩) (.inl rfl) _;replace E:=ab E;replace cX:=ab cX;clear C a1;go_wp2;go_ret;refine⟨_,n.set 0 ⟨y0.p,⟨#[65]⟩⟩,q+1,rfl,HP.out,λy L=> ?_,by rw[qY];omega,a.fe E.out λb r e=> ?_,by omega,d.trans E.out λb r e=> ?_⟩
      .rcases tj L with h1|rfl
       .exact z.out y h1
       .exact⟨(z.out y0 (de cX.out)).1,by show(⟨#[65]⟩:ByteArray).size<=maxLen;decide⟩
      .have:=a.hi_;omega
      .omega
    .have t6:(Q ==1)=false:=dk.2 Z;clear R Z;go_wp2;go_ret;exact⟨_,n,q+1,rfl,o,z.out,by omega,a,by omega,d⟩
  .have iw:0<(j:Int):=by omega
   obtain⟨j',ad⟩:∃y,y=j-1:=⟨_,rfl⟩;have Z:(j:Int)-1=((j':Nat):Int):=by omega
   have f:j=j'+1:=by omega
   replace f:=ab f;clear ad h0;go_wp2;refine(mB l g q P hi wr rd (by omega)).mono ?_;rintro e N ⟨s,q2,rfl,a8,a,aH,k⟩;have o:=J.fe k λb r e=>by have:=(J.at_ r).1;omega
   have d:=T.trans k λi _ e=>e;clear rd J k T;go_wp2;refine(ads l g q2 P hi N a (by omega)).mono ?_;rintro e w3 ⟨t,q3,rfl,ht,B,a7,x⟩;have M:=o.fe x λb r e=>by have:=(o.at_ r).1;omega
   have O:=d.trans x λi _ e=>e;have r3:=(M.deep (aan K.out) w.heap.size).sl (am _);clear a o x d;go_wp2;refine(adn n s t (by unfold maxLen;omega) (by unfold maxLen;omega) _ w3 w.heap.size w3.heap.size r3 (am _) (by have:=K.out.2.1;omega)).mono ?_;rintro e w4 ⟨v4,zs,a6,rfl,o4,a3,b4⟩;have I:=O.size;have aa:=o4.base I;have a5:=M.below b4;have W:=B.fe (bh.aM (S:=λ_=>False) b4) λ_ _ h=>h;have U:=O.trans (bh.aM (S:=λ_=>False) b4) λ_ _ h=>h.elim;have a4:=ab a3;obtain⟨A4,c4,rfl⟩:=o4.form;clear a3 B O M o4 r3;cases a6
   .go_wp2;go_roundw
    case rel=>exact⟨j',q3,n,by have:=f.out;omega,rfl,a5,K.out,W,by have:=f.out;omega,U⟩
    simp[intOf];have:=f.out;omega
   .go_wp2;go_roundw
    case rel=>exact⟨j',q3,zs,by have:=f.out;omega,rfl,aa,a4.out,W,by have:=f.out;omega,U⟩
    simp[intOf];have:=f.out;omega
def asr(w:World)(lo hi g:Nat)(l:List Int)(p:Nat)(e:Ending)(w':World):Prop:=∃v a q,e=.returned v/\aL mP 79 w' w.heap.size v a/\lK a/\Rd w' lo hi g l q/\q<=p+300/\bh (λb=>b=g) w w'
theorem ajS(l:List Int)(g p m hi:Nat)(w:World)(z:Rd w m hi g l p)(y:p<=50000) :
  Calls (ai β) 31 #[.pointer (some ⟨g,0,none⟩)] w (asr w m hi g l p):=by
 go_enter zV,ntmps31;go_wp2;refine(ajR l g p m hi w z y).mono ?_;rintro e n ⟨D,s,q,rfl,k,f,v,j,o,b⟩;obtain⟨A,c,rfl⟩:=k.form;have C:=b.size;have t:=(k.deep f w.heap.size).sl (am _);clear f;go_wp2;refine(abh s _ n w.heap.size n.heap.size t (am _)).mono ?_;rintro e B ⟨⟨rfl,r⟩|rfl,i⟩
 .have u:=ab r;have x:=k.below i;have d:=j.fe (bh.aM (S:=λ_=>False) i) λ_ _ h=>h;have a:=b.trans (bh.aM (S:=λ_=>False) i) λ_ _ h=>h.elim;clear r;go_wp2;go_ret;exact⟨_,s,q,rfl,x,u.out,d,o,a⟩
 .have d:=j.fe (bh.aM (S:=λ_=>False) i) λ_ _ h=>h;have a:=b.trans (bh.aM (S:=λ_=>False) i) λ_ _ h=>h.elim;go_wp2;go_ret;exact⟨_,[⟨⟨#[97]⟩,⟨#[104,101,108,108,111]⟩⟩],q,rfl,ab0 (F:=mP) (xs:=[⟨⟨#[97]⟩,⟨#[104,101,108,108,111]⟩⟩]) (aX.new B 79 #[.string ⟨#[97]⟩,.string ⟨#[104,101,108,108,111]⟩]) rfl a.size rfl (by simp[maxLen]),lK.one ⟨by decide,by decide⟩,d.alloc _,o,a.alloc _⟩
end
end Go.Proofs.YtgjaikdifcbnkaaGreatDoor