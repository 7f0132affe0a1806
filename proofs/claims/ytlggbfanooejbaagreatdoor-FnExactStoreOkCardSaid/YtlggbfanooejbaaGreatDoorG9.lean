/- A part. -/
import Derived.Test.YtlggbfanooejbaaGreatDoorG8
set_option maxRecDepth 100000
set_option maxHeartbeats 8000000
set_option linter.all false
open Go Go.RowKit Go.Proofs.Tryz Go.Proofs.YtlggbfanooejbaaGreatDoor
variable {s:gC} {l:List Int}
namespace Go.Proofs.YtlggbfanooejbaaGreatDoor
section
variable {β:Bool}
open Go.RowKit
def aos(l:List Int):(je l).Pairwise λa b=>a<=b:=by
 have h:=List.pairwise_mergeSort (le:=λx y:Int=>decide (x<=y)) (λa b c e d=>by simp at *;omega) (λa b=>by simp;omega) l;exact h.imp λh=>by simpa using h
def alp(l:List Int):(je l).Perm l:=List.mergeSort_perm _ _
def ahf :(Lib.compact (je l)).length=l.length↔l.Nodup:=by
 rw[<-(alp l).nodup_iff,<-lr l];have c:=aos l;generalize je l=z at c;constructor
 .intro h;have g:∀j,j<z.length->Lib.keeps z.toArray j=true:=λj a=>by
   unfold Lib.compact Lib.compactUpTo at h;rw[pr] at h;have d:((List.range z.length).filter (Lib.keeps z.toArray)).length=(List.range z.length).length:=by rw[h,List.length_range]
   exact List.length_filter_eq_length_iff.1 d j (ph.2 a)
  refine pm.2 λi j m a n=> ?_;have f:=g j a;unfold Lib.keeps at f;have b:¬j=0:=by omega
  have k:z[j]≠z[j-1]:=by
   intro e;simp[b,getElem!_pos,a,show j-1<z.length by omega,e] at f
  have d:=pm.1 c (j-1) j (by omega) a (by omega);have o:z[i]<=z[j-1]:=by
   by_cases e:i=j-1
   .subst e;exact ui _
   .exact pm.1 c i (j-1) m (by omega) (by omega)
  omega
 .intro h;rw[Lib.compact_all z λj a=> ?_];unfold Lib.keeps;by_cases b:j=0
  .simp[b]
  .have:=pm.1 h (j-1) j (by omega) a (by omega);simp[b,getElem!_pos,a,show j-1<z.length by omega];omega
end
section
open Go.RowKit
def jW{α:Type}(P:α->Prop)(f:α->Int)(l:List α):Prop:=(∀x∈l,P x)/\l.Pairwise λa b=>f a<f b
section
variable {α:Type} {P:α->Prop} {f:α->Int} {xs:List α} {x y:α} {j k:Nat}
def abt:jW P f []:=⟨λx h=>(by cases h),List.Pairwise.nil⟩
def aeG:jW P f (xs++[x])↔jW P f xs/\P x/\∀y∈xs,f y<f x:=by
 unfold jW;rw[rT];constructor
 .intro⟨d,e,_,g⟩;exact⟨⟨λy c=>d y (by simp[c]),e⟩,d x (by simp),λy c=>g y c x (by simp)⟩
 .intro⟨⟨d,e⟩,g,j⟩;refine⟨λy c=> ?_,e,so _ _,λa i b k=> ?_⟩
  .rcases jt.1 c with c|c
   .exact d y c
   .rw[gE.1 c];exact g
  .rw[gE.1 k];exact j a i
def abu(b:xs[0]?=some x)(h:P x):jW P f (xs.take 1):=by
 rw[kw b];exact aeG.2 ⟨abt,h,λy a=>(by cases a)⟩
def ac8(c:jW P f (xs.take (j+1)))(d:xs[j]?=some y)(e:xs[j+1]?=some x)(h:P x)(b:f y<f x):jW P f (xs.take (j+1+1)):=by
 rw[kw e];refine aeG.2 ⟨c,h,λz a=> ?_⟩;rw[kw d] at a c;rcases jt.1 a with a|a
 .have:=(aeG.1 c).2.2 z a;omega
 .rw[gE.1 a];exact b
def awl(a:xs[k]?=some x)(h:¬P x):¬jW P f xs:=λb=>h (b.1 x (da a))
def ac9(b:xs[j]?=some y)(c:xs[j+1]?=some x)(h:¬f y<f x):¬jW P f xs:=λd=>by
 have a:=pm.1 d.2 j (j+1) (aH b) (aH c) (by omega);rw[(jn.1 b).2,(jn.1 c).2] at a;exact h a
end
def amG(key:Int)(l:List Pk):Prop:=jW (aa7 key) Pk.no l/\l.length<=20/\(aM l).Nodup
def aja(key:Int)(pk:List Pk)(x:Sn):Prop:=(1<=x.no/\x.no<=20)/\(dx key (bQ pk) x.all).isSome=true
def ari(key:Int)(pk:List Pk)(l:List Sn):Prop:=jW (aja key pk) Sn.no l
def amH(key:Int)(s:gC):Prop:=amG key s.pk/\ari key s.pk s.sn
end
section
variable {β:Bool}
open Go.RowKit
def afZ(key:Int)(n:1<=key/\key<=99)(l:List Pk)(B C:Option Addr)(nb b nc c':Nat)(v:Value)(w:World)(P z:Nat)(h:gO w P z l [v])(aU:z<=w.heap.size)(hl:acQ pkN l<=100000000)(r:Bool)(hr:r=true↔amG key l) :
  Calls (aj β) 20 #[.agg #[v,.slice B nb b,.slice C nc c'],.int .i64 key] w λe w'=>e=.returned (.bool r)/\Below w.heap.size w w':=by
 replace hr:=ab hr;obtain⟨A,c,rfl⟩:=h.form;obtain⟨_,hc,hx⟩:=h.len_;unfold maxLen at hx;go_enter zm,ntmps20;go_wp2;generalize hG:w.alloc (.cells #[.slice A l.length c,.slice B nb b,.slice C nc c'] 58)=w0 at *;obtain⟨X,eP,k0,dg,et⟩:=iK hG;clear hG;have h0:=gO.aK.below h X aU;have z0:=X.size;go_loopw [11] (λi wr=>∃k:Nat,k<=l.length/\i=.int .i64 k/\jW (aa7 key) Pk.no (l.take k)/\Below w0.heap.size w0 wr) (λi _=>l.length-(intOf i).toNat)
 case atStart=>exact⟨0,fb _,rfl,abt,dk _ _⟩
 case round=>
  obtain⟨k,hk,rfl,hn,d⟩:=hrel;have HN:=ab hn;clear hn;have G:=aB k0 d;clear k0 dg et;have zr:=d.size;by_cases a7:k<l.length
  .obtain⟨p,O⟩:=ar a7;have V:=gO.aK.below h0 d (by omega);obtain⟨b1,aF,A5,c5,rfl, -, -,aI,a6,a8,ow⟩:=acd V O;replace O:=ab O;have HH:=ab aU;obtain⟨q,o⟩:=dO (aa7 key p);have HQ:=ab o;clear o;go_wp2;generalize hG:wr.alloc (.cells #[.int .i64 p.no,.slice A5 p.its.length c5] 40)=wa at *;obtain⟨W,ax,m0,a4,al⟩:=iK hG;clear hG;have ha:=gO.aK.below V W (by omega);have HI:=ab (gX.aK.below ow W (by omega));have ka:=aB G W;have u:=ae d W;have za:=W.size;have L:Hid (z<=wa.heap.size):=ab (by omega);have f0:=ka.cell 0;have J:=a4 0;have H:=a4 1;clear G ow a6 a8 V W;cases q with
   |false=>
    have N:r=false:=by
     rw[<-be,hr.out];intro hp;have:=HQ.out.2 (hp.1.1 p (da O.out));cases this
    have ld:=ab N;clear N;go_wp2;have I:=ah f0;have U:=ah J;have R:=ah H;refine aA (by kernel_rfl) (by kernel_rfl) ?_;repeat(go_big_quiet_step (first|(go_at_call 41;refine aO (abb (β:=β) key n p _ _ P z (am L.out (dC.ok _).size) (gX.aK.below HI.out (dC.ok _) L.out) _ HQ.out))))
    refine ge ?_;intro wq m;have o:=aG m;clear m I U R;go_wp2;go_ret;exact⟨ak ld.out.symm,ae X (ae u o)⟩
   |true=>
    have t:=HQ.out.1 rfl;have g:=ab t;clear t;rcases mu k with a3|a3
    .subst a3;have bM:=abu (f:=Pk.no) O.out g.out;have HK:=ab bM;clear bM;go_wp2;have I:=ah f0;have U:=ah J;have R:=ah H;refine aA (by kernel_rfl) (by kernel_rfl) ?_;repeat(go_big_quiet_step (first|(go_at_call 41;refine aO (abb (β:=β) key n p _ _ P z (am L.out (dC.ok _).size) (gX.aK.below HI.out (dC.ok _) L.out) true ⟨λ_=>g.out,λ_=>rfl⟩))))
     refine ge ?_;intro wq m;have o:=aG m;clear m I U R;go_wp2;go_roundw
     case rel=>first|exact⟨1,by omega,by go_num,HK.out,ae u o⟩|((repeat apply Exists.intro);refine⟨?_,rfl⟩;exact⟨1,by omega,by go_num,HK.out,ae u o⟩)
     simp[intOf];omega
    .obtain⟨j,rfl⟩:∃j,k=j+1:=⟨k-1,by omega⟩;have e1:((j+1:Nat):Int)-1=(j:Int):=by omega
     obtain⟨y,dr⟩:=ar (l:=l) (k:=j) (by omega);obtain⟨b2,gW,A7,c7,a1, -, -,ay,a5, -, -⟩:=acd ha dr;simp only[lE,qa,qn] at a1;obtain⟨rfl,rfl⟩:=a1;replace dr:=ab dr;by_cases oO:y.no<p.no
     .have u1:=bv (show ¬(p.no<=y.no) by omega);have bM:=ac8 HN.out dr.out O.out g.out oO;have HK:=ab bM;clear bM oO;go_wp2;have I:=ah f0;have U:=ah J;have R:=ah H;have bZ:=ah a5;refine aA (by kernel_rfl) (by kernel_rfl) ?_;repeat(go_big_quiet_step (first|(go_at_call 41;refine aO (abb (β:=β) key n p _ _ P z (am L.out (dC.ok _).size) (gX.aK.below HI.out (dC.ok _) L.out) true ⟨λ_=>g.out,λ_=>rfl⟩))))
      refine ge ?_;intro wq m;have o:=aG m;clear m I U R bZ;go_wp2;go_roundw
      case rel=>first|exact⟨j+1+1,by omega,by go_num,HK.out,ae u o⟩|((repeat apply Exists.intro);refine⟨?_,rfl⟩;exact⟨j+1+1,by omega,by go_num,HK.out,ae u o⟩)
      simp[intOf];omega
     .have u1:=du (show p.no<=y.no by omega);have N:r=false:=by
       rw[<-be,hr.out];exact λhp=>ac9 dr.out O.out oO hp.1
      have ld:=ab N;clear N oO;go_wp2;have I:=ah f0;have U:=ah J;have R:=ah H;have bZ:=ah a5;refine aA (by kernel_rfl) (by kernel_rfl) ?_;repeat(go_big_quiet_step (first|(go_at_call 41;refine aO (abb (β:=β) key n p _ _ P z (am L.out (dC.ok _).size) (gX.aK.below HI.out (dC.ok _) L.out) true ⟨λ_=>g.out,λ_=>rfl⟩))))
      refine ge ?_;intro wq m;have o:=aG m;clear m I U R bZ;go_wp2;go_ret;exact⟨ak ld.out.symm,ae X (ae u o)⟩
  .obtain rfl:k=l.length:=by omega
   have t:=HN.out;rw[fd] at t;have g:=ab t;clear t HN;have f0:=G.cell 0;have V:=gO.aK.below h0 d (by omega);go_wp2;refine(mm l _ _ P z (by omega) V hl).mono ?_;rintro e w1 ⟨v1,rfl,o1,b1⟩;have hn:(aM l).length=acQ pkN l:=by
    have:=lV l l.length;rw[fd,anp] at this;exact this
   go_wp2;refine(arh o1 (by omega)).mono ?_;rintro e w2 ⟨rfl,o2,a2⟩;have hS:∀b,v1.ownBlock=some b->wr.heap.size<=b:=λb hb=>(o1.at_ hb).1;have F:Below wr.heap.size wr w2:=b1.trans (a2.below b1.size λi z e=>by have:=hS i e;omega);have z2:=F.size;have k2:=aB G F;have h2:=gO.aK.below V F (by omega);have f2:=k2.cell 0;obtain⟨A2,c2,rfl⟩:=o2.form;have a9:=lr (aM l);have jR:=tU (je (aM l));have a0:=ae X (ae d F);have HC:=ab (ahf (l:=aM l));have af:Hid ((je (aM l)).length<=9223372036854775807):=ab (by omega);have aa:=ab o2;have ad:Hid ((aM l).length<=100000000):=ab (by omega);clear G f0 V o1 b1 a2 o2 hn X d F h0 h k2;obtain⟨M,hM⟩:∃M,M=Lib.compact (je (aM l)):=⟨_,rfl⟩;rw[<-hM] at HC jR;replace hM:=ab hM;have an:Hid (M.length<=100000000):=ab (by have:=ad.out;omega);clear a9 jR;by_cases E:(l.length:Int)<=20
   case' neg=>
    have u1:decide ((l.length:Int)<=20)=false:=bv E;have N:r=false:=by
     rw[<-be,hr.out];exact λhp=>E (by have:=hp.2.1;omega)
    have ld:=ab N;clear N E;go_wp2;have I:=ah f2;refine aA (by kernel_rfl) (by kernel_rfl) ?_;repeat(go_big_quiet_step (fail))
    refine ge ?_;intro wq m;have o:=aG m;clear m I;go_wp2;go_ret;exact⟨ak ld.out.symm,ae a0 o⟩
   have u1:decide ((l.length:Int)<=20)=true:=du E;have u2:((M.length:Int) ==((aM l).length:Int))=r:=by
    have h3:r=true↔M.length=(aM l).length:=by
     rw[hr.out,HC.out];exact⟨λh=>h.2.2,λh=>⟨g.out,by omega,h⟩⟩
    rw[oE,h3,mT];omega
   clear E;have U2:=ab u2;clear u2;go_wp2;have aP:=ajD (s:=6) (ty:=3) (S:=λb=>(Value.slice A2 (je (aM l)).length c2).ownBlock=some b) (pre:=[]) f2 (λe=>by have:=hS _ e;dsimp only at this;omega);refine ajE 6 3 (λb=>(Value.slice A2 (je (aM l)).length c2).ownBlock=some b) [] 15 [0,1,2,3,4,5,8,9] [6,7,10,11,12,13,14] (by kernel_rfl) (by kernel_rfl) (by kernel_rfl) ?_;simp only[pick,List.map,qF,qG];repeat(go_big_quiet_step (fail))
   refine ge ?_;apply Exists.intro;apply ave (λv x=>x.done=true/\aQ gv 3 x.to wr.heap.size v M)
   .rfl
   .rfl
   .exact λj hj=>(by cases hj)
   .exact λv x y ⟨hd,ho⟩ hle=>⟨(hle.from_ hd).1,ho.below (hle.from_ hd).2⟩
   .intro x _ D Z a;replace a:=ab a;have Y:=x.till D;have ox:=aa.out.below Y;go_wp2;refine(ai9 ox af.out).mono ?_;rintro e wy ⟨v5,rfl,K,c5⟩;rw[<-hM.out] at K;go_wp2;exact a.out _ _ (c5.mono λb hb e=>.inl e) ⟨rfl,K⟩
   intro av;simp only[Act.put,pv,qd,qg];apply adN (.int .i64 M.length)
   .intro x Q _ Z a;replace a:=ab a;obtain⟨D,K⟩:=Q.1 (by kernel_rfl);obtain⟨A5,c5,rfl⟩:=K.form;go_wp2;exact a.out _ (dk _ _)
   simp only[Act.put,pv,qd,qg];apply avd (λv x=>x.done=true/\aQ gv 3 x.to wr.heap.size v (aM l))
   .rfl
   .exact λv x y ⟨hd,ho⟩ hle=>⟨(hle.from_ hd).1,ho.below (hle.from_ hd).2⟩
   .intro x Q _ Z a;replace a:=ab a;obtain⟨D, -⟩:=Q.1 (by kernel_rfl);have Y:Below wr.heap.size w2 x.to:=(x.ok.mono (T:=λb=>(Value.slice A2 (je (aM l)).length c2).ownBlock=some b) λb _ h=>h.2).below z2 λi z e=>by have:=hS i e;omega
    have h3:=gO.aK.below h2 Y (by omega);have zx:=x.ok.size;go_wp2;refine(mm l _ _ P z (by omega) h3 hl).mono ?_;rintro e wy ⟨v5,rfl,K,b5⟩;go_wp2;exact a.out _ _ b5 ⟨D,K.base (by omega)⟩
   intro ao;simp only[Act.put,pv,qd,qg];apply adN (.int .i64 (aM l).length)
   .intro x Q _ Z a;replace a:=ab a;obtain⟨D,K⟩:=Q.1 (by kernel_rfl);obtain⟨A5,c5,rfl⟩:=K.form;go_wp2;exact a.out _ (dk _ _)
   simp only[Act.put,pv,qd,qg];apply adN (.bool r)
   .intro x _ _ Z a;replace a:=ab a;have u2:=U2.out;go_wp2;exact a.out _ (dk _ _)
   simp only[Act.put,pv,qd,qg];apply adN (.bool r)
   .intro x _ _ Z a;replace a:=ab a;go_wp2;exact a.out _ (dk _ _)
   simp only[Act.put,pv,qd,qg];apply adN (.bool r)
   .intro x _ _ Z a;replace a:=ab a;go_wp2;exact a.out _ (dk _ _)
   simp only[Act.put,pv,qd,qg];refine avf λx Q=> ?_;have Y:Below wr.heap.size w2 x.to:=(x.ok.mono (T:=λb=>(Value.slice A2 (je (aM l)).length c2).ownBlock=some b) λb _ h=>h.2).below z2 λi z e=>by have:=hS i e;omega
   have mf:=a0.trans (Y.mono (by omega));clear Q Y;simp only[List.drop];go_wp2;go_ret;exact⟨rfl,mf⟩
end
section
open Go.RowKit
def aot(key:Int)(o:1<=key/\key<=99)(c:List Pk)(l:List Sn)(C:Option Addr)(nc c':Nat)(v1 v2:Value)(w:World)(lo hi:Nat)(hg:Glo w)(h1:cK w lo hi c [v1])(h2:dm w lo hi l [v2])(aU:hi<=w.heap.size)(a0:∀p∈c,1<=p.its.length)(J:∀x∈l,x.all.length<=1099511627/\∀y∈x.all,y.ns.length<=2147483647)(r:Bool)(Q:r=true↔ari key c l) :
  Calls (aj true) 21 #[.agg #[v1,v2,.slice C nc c'],.int .i64 key] w λe w'=>e=.returned (.bool r)/\Below w.heap.size w w':=by
 replace Q:=ab Q;replace o:=ab o;replace J:=ab J;obtain⟨A,a,rfl⟩:=cJ.form h1;obtain⟨B,b,rfl⟩:=cJ.form h2;have kI:∀p∈bQ c,1<=p.2.length/\fg p.1:=λp z=>⟨by
  obtain⟨q,g,rfl⟩:=lP.1 z;have:=a0 q g;unfold pkd;simpa using this,h1.am8 p z⟩
 obtain⟨-,ha,R⟩:=cJ.len_ h1;obtain⟨-,hb,af⟩:=cJ.len_ h2;replace R:=ab R;replace kI:=ab kI;clear a0;unfold maxLen at af;go_enter zl,ntmps21;go_wp2;generalize X:w.alloc (.cells #[.slice A c.length a,.slice B l.length b,.slice C nc c'] 58)=w0 at *;obtain⟨E,eP,k0,dg,et⟩:=iK X;clear X;have a8:=cK.loc.below h1 E aU;have aa:=dm.loc.below h2 E aU;have a4:=hg.below E;have z0:=E.size;clear h1 h2 hg;go_loopw [12] (λi wr=>∃k:Nat,k<=l.length/\i=.int .i64 k/\jW (aja key c) Sn.no (l.take k)/\Below w0.heap.size w0 wr) (λi _=>l.length-(intOf i).toNat)
 case atStart=>exact⟨0,fb _,rfl,abt,dk _ _⟩
 case round=>
  obtain⟨k,hk,rfl,hn,n⟩:=hrel;replace hn:=ab hn;have a2:=aB k0 n;clear k0 dg et;have zr:=n.size;by_cases a6:k<l.length
  .obtain⟨x,bH⟩:=ar a6;have S:=dm.loc.below aa n (by omega);obtain⟨bb,ay,D,d,rfl,_,_,aF,al,an,a5⟩:=ag7 S bH;have V:=ab bH;have a3:=ab (J.out x (da bH));clear bH;go_wp2;generalize X:wr.alloc (.cells #[.int .i64 x.no,.slice D x.all.length d] 35)=wa at *;obtain⟨W,aI,m0,t,a9⟩:=iK X;clear X;have ao:=dm.loc.below S W (by omega);have T:=aB a2 W;have G:=ae n W;have za:=W.size;have f0:=T.cell 0;have f1:=T.cell 1;have v:=t 0;have ax:=t 1;clear a2 al an S;by_cases g1:1<=x.no
   case' neg=>
    have u1:=du (show x.no<1 by omega);have f:r=false:=by
     rw[<-be,Q.out];exact λz=>g1 (z.1 x (da V.out)).1.1
    have F:=ab f;clear f g1;go_wp2;have O:=ah f1;have N:=ah v;refine aA (by kernel_rfl) (by kernel_rfl) ?_;repeat(go_big_quiet_step (fail))
    refine ge ?_;intro wq m;have g:=aG m;clear m O N;go_wp2;go_ret;exact⟨ak F.out.symm,ae E (ae G g)⟩
   have u1:=bv (show ¬(x.no<1) by omega);by_cases g2:x.no<=20
   case' neg=>
    have u2:=du (show 20<x.no by omega);have f:r=false:=by
     rw[<-be,Q.out];exact λz=>g2 (z.1 x (da V.out)).1.2
    have F:=ab f;clear f g1 g2;go_wp2;have O:=ah f1;have N:=ah v;refine aA (by kernel_rfl) (by kernel_rfl) ?_;repeat(go_big_quiet_step (fail))
    refine ge ?_;intro wq m;have g:=aG m;clear m O N;go_wp2;go_ret;exact⟨ak F.out.symm,ae E (ae G g)⟩
   have u2:=bv (show ¬(20<x.no) by omega);have a7:=ab (And.intro g1 g2);clear g1 g2;have ad:(∃j y,k=j+1/\l[j]?=some y/\¬y.no<x.no)\/k=0\/∃j y,k=j+1/\l[j]?=some y/\y.no<x.no:=by
    rcases mu k with h|h
    .exact .inr (.inl h)
    .obtain⟨j,rfl⟩:∃j,k=j+1:=⟨k-1,by omega⟩;obtain⟨y,hy⟩:=ar (l:=l) (k:=j) (by omega);by_cases hc:y.no<x.no
     .exact .inr (.inr ⟨j,y,rfl,hy,hc⟩)
     .exact .inl ⟨j,y,rfl,hy,hc⟩
   rcases ad with⟨j,y,rfl,U,oO⟩|rfl|⟨j,y,rfl,U,oO⟩
   case' inl|inr.inr=>
    have e1:((j+1:Nat):Int)-1=(j:Int):=by omega
    obtain⟨b2,gW,D2,d2,Y, -, -, -,H, -, -⟩:=ag7 ao U;simp only[lE,qa,qn] at Y;obtain⟨rfl,rfl⟩:=Y
   case' inl=>
    have u3:=du (show x.no<=y.no by omega);have f:r=false:=by
     rw[<-be,Q.out];exact λz=>ac9 U V.out oO z
    have F:=ab f;clear f oO U;go_wp2;have O:=ah f1;have N:=ah v;have aV:=ah H;refine aA (by kernel_rfl) (by kernel_rfl) ?_;repeat(go_big_quiet_step (fail))
    refine ge ?_;intro wq m;have g:=aG m;clear m O N aV;go_wp2;go_ret;exact⟨ak F.out.symm,ae E (ae G g)⟩
   case' inr.inr=>
    have u3:=bv (show ¬(x.no<=y.no) by omega);have bM:aja key c x->jW (aja key c) Sn.no (l.take (j+1+1)):=λhx=>ac8 hn.out U V.out hx oO;clear oO U
   case' inr.inl=>
    have H:=v;have bM:aja key c x->jW (aja key c) Sn.no (l.take (0+1)):=λhx=>abu V.out hx
   all_goals
    have HK:=ab bM;clear bM;go_wp2;have O:=ah f1;have N:=ah v;have aV:=ah H;refine aA (by kernel_rfl) (by kernel_rfl) ?_;repeat(go_big_quiet_step (fail))
    refine ge ?_;intro wq m;have g:=aG m;clear m O N aV;replace T:=aB T g;replace Z:=T.cell;replace aW:=T.frozen;replace m0:=aB m0 g;replace t:=m0.cell;replace a9:=m0.frozen;have P:=ae G g;have aZ:=Z 0;have aT:=Z 1;have aP:=t 0;have av:=t 1;have zq:=g.size;have jV:=(cK.loc.below a8 P (by omega)).pkl (by omega);have I:=bK.loc.below a5 (ae W g) (by omega);have M:(bQ c).length=c.length:=pr _;have HT:=akV key o.out (bQ c) A a x _ lo hi wq (a4.below P) (by omega) jV (by rw[M];exact ha) R.out kI.out I a3.out.2 a3.out.1;rw[M] at HT;replace HT:=ab HT;clear jV I M H;go_wp2;refine HT.out.mono ?_;rintro e w5 ⟨u,rfl, -, -,b5⟩;have a1:=ae P b5;obtain⟨q,s⟩:∃q,q=(dx key (bQ c) x.all).isSome:=⟨_,rfl⟩;rw[<-s];replace s:=ab s;clear HT;cases q
    .have f:r=false:=by
      rw[<-be,Q.out];intro z;have:=(z.1 x (da V.out)).2;rw[<-s.out] at this;cases this
     have F:=ab f;clear f;go_wp2;go_ret;exact⟨ak F.out.symm,ae E a1⟩
    .have K:=HK.out ⟨a7.out,s.out.symm⟩;replace K:=ab K;clear HK;go_wp2;go_roundw
     case rel=>exact⟨_,by omega,by go_num,K.out,a1⟩
     simp[intOf];omega
  .obtain rfl:k=l.length:=by omega
   have L:=hn.out;rw[fd] at L;have f:r=true:=Q.out.2 L;have F:=ab f;clear L hn f;go_wp2;go_ret;exact⟨ak F.out.symm,ae E n⟩
def aou(key:Int)(s:gC)(j:acQ pkN s.pk<=100000000)(o:∀x∈s.sn,x.all.length<=1099511627/\∀y∈x.all,y.ns.length<=2147483647)(P V Y:Value)(u t:Nat)(w:World)(hg:Glo w)(I:t<=w.heap.size)(M:gO w u t s.pk [P])(h:mg w u t s P V Y)(r:Bool)(v:r=true↔(1<=key/\key<=99)/\amH key s/\acy s.lg) :
  Calls (aj true) 6 #[.int .i64 key,.agg #[P,V,Y]] w λe w'=>e=.returned (.bool r)/\Below w.heap.size w w':=by
 obtain⟨W,S,T⟩:=h;obtain⟨A,a,rfl⟩:=cJ.form W;obtain⟨B,b,rfl⟩:=cJ.form S;obtain⟨C,c,rfl⟩:=cJ.form T;replace v:=ab v;replace o:=ab o;replace j:=ab j;go_enter qF6,ntmps6;go_wp2;generalize F:w.alloc (.cells #[.slice A s.pk.length a,.slice B s.sn.length b,.slice C s.lg.length c] 27)=w0 at *;obtain⟨J,eP,f,E,L⟩:=iK F;clear F;refine(aiG _ _ _ ⟨_,_,_,rfl⟩ ⟨_,_,_,rfl⟩ ⟨_,_,_,rfl⟩ w0).mono ?_;rintro e w1 ⟨rfl,Q⟩;replace f:=aB f Q;replace E:=f.cell;replace L:=f.frozen;replace J:=ae J Q;go_wp2;by_cases d:1<=key/\key<=99
 case' neg=>
  have m:r=false:=by
   rw[<-be,v.out];exact λh=>d h.1
  have K:=ab m;clear m;refine(aaU (β:=true) key _ false (by simp only[fa,qN];exact d)).mono ?_;clear d;rintro e O ⟨rfl,rfl⟩;go_wp2;go_ret;exact⟨ak K.out.symm,ae J (aJ _ _)⟩
 replace d:=ab d;refine(aaU (β:=true) key _ true (by simp only[qe];exact d.out)).mono ?_;rintro e O ⟨rfl,rfl⟩;go_wp2;generalize F:w1.alloc (.cells #[.slice A s.pk.length a,.slice B s.sn.length b,.slice C s.lg.length c] 58)=O at *;obtain⟨n,a0,N,k,R⟩:=iK F;clear F;replace f:=aB f n;replace E:=f.cell;replace L:=f.frozen;have g:=ae J n;have z2:=g.size;clear J n Q;by_cases z:amG key s.pk
 case' neg=>
  have m:r=false:=by
   rw[<-be,v.out];exact λh=>z h.2.1.1
  have K:=ab m;clear m;refine(afZ (β:=true) key d.out s.pk B C _ b _ c _ O u t (gO.aK.below M g I) (by omega) j.out false (by simp[z])).mono ?_;clear z;rintro e U ⟨rfl,D⟩;go_wp2;go_ret;exact⟨ak K.out.symm,ae g D⟩
 have H:=ab z;refine(afZ (β:=true) key d.out s.pk B C _ b _ c _ O u t (gO.aK.below M g I) (by omega) j.out true (by simp[z])).mono ?_;clear z;rintro e U ⟨rfl,D⟩;replace f:=aB f D;replace E:=f.cell;replace L:=f.frozen;replace N:=aB N D;replace k:=N.cell;replace R:=N.frozen;have i:=ae g D;have z3:=i.size;have a3:=k 0;have a2:=k 1;have a1:=k 2;go_wp2;obtain⟨q,G⟩:=dO (ari key s.pk s.sn);refine(aot key d.out s.pk s.sn C _ c _ _ U u t (hg.below i) (cK.loc.below W i I) (dm.loc.below S i I) (by omega) (λp M=>(H.out.1.1 p M).2.2.1.1) o.out q G).mono ?_;rintro e Z ⟨rfl,X⟩;replace f:=aB f X;replace E:=f.cell;replace L:=f.frozen;have l:=ae i X;have z4:=l.size;replace G:=ab G;have f02:=E 2;cases q
 .have m:r=false:=by
   rw[<-be,v.out];intro h;have:=G.out.2 h.2.1.2;cases this
  have K:=ab m;clear m;go_wp2;go_ret;exact⟨ak K.out.symm,l⟩
 .go_wp2;refine(aiI s.lg _ Z u t (eh.loc.below T l I) (by omega) r (by
   rw[v.out];exact⟨λh=>h.2.2,λh=>⟨d.out,⟨H.out,G.out.1 (by trivial)⟩,h⟩⟩)).mono ?_
  rintro e w5 ⟨rfl,b5⟩;cases r<;>(go_wp2;go_ret;exact⟨rfl,ae l b5⟩)
def abv{a:List It}{k:Nat}{x:It}(h:a[k]?=some x):bC (a.take (k+1))=bC (a.take k)++[x.n]:=by
 rw[kw h];unfold bC;rw[pI];rfl
def alq{n:Int}(h:l.Nodup)(f:n∉l):(l++[n]).Nodup:=by
 rw[qV];exact⟨h,sB.2 ⟨by simp,List.nodup_nil⟩,λa c b d e=>f (by rw[gE.1 d] at e;exact e▸c)⟩
def atD{l:List Pk}{i k:Nat}{p:Pk}{x:It}(c:l[i]?=some p)(g:p.its[k]?=some x)(h:x.n∈aM (l.take i)++bC (p.its.take k)):¬(aM l).Nodup:=by
 intro b;have d:l=l.take (i+1)++l.drop (i+1):=(pH _ _).symm;have f:aM l=aM (l.take (i+1))++aM (l.drop (i+1)):=by
  conv=>lhs;rw[d]
  exact qZ
 rw[f,qV] at b;have a:=b.1;rw[kN c] at a;have e:bC p.its=bC (p.its.take (k+1))++bC (p.its.drop (k+1)):=by
  unfold bC;rw[<-pI,pH]
 rw[e,abv g,<-sL,<-sL,qV,qV] at a;exact a.1.2.2 x.n h x.n (gE.2 rfl) rfl
def alr (key:Int) (s:gC) (x:Sn) (l n t r:Value) (k g:Nat) (w:World) (p:g<=w.heap.size) (o:gO w k g s.pk [l]) (h:mg w k g s l n t)
  (m:bK w k g x.all [r]) (f:∀y∈x.all,y.ns.length<=2147483647) (i:x.all.length<=1099511627) :
  Calls (aj true) 26 #[.int .i64 key,.agg #[l,n,t],.agg #[.int .i64 x.no,r]] w λe z=>e=.returned (.bool (aew key (bQ s.pk) x.all).isSome)/\Below w.heap.size w z:=by
 obtain⟨A,a,rfl⟩:=cJ.form h.pk;obtain⟨B,b,rfl⟩:=cJ.form h.sn;obtain⟨C,c,rfl⟩:=cJ.form h.lg;obtain⟨D,d,rfl⟩:=m.form;go_enter zh,ntmps26;go_wp2;generalize q:(w.alloc (.cells #[.slice A s.pk.length a,.slice B s.sn.length b,.slice C s.lg.length c] 27)).alloc (.cells #[.int .i64 x.no,.slice D x.all.length d] 35)=w0 at *;obtain⟨j,H,G,I,J,F,K,M⟩:=pB q;clear q;have L:=j.size;have E:=ab (aez key s.pk x _ _ k g w0 (by omega) (gO.aK.below o j p) (bK.loc.below m j p) f i);clear f i m o h;go_wp2;refine E.out.mono ?_;rintro e N ⟨u,rfl, -, -,v⟩;go_wp2;go_ret;exact⟨rfl,ae j v⟩
def acH(key:Int)(pk:List Pk)(x:Sn):Prop:=(1<=x.no/\x.no<=20)/\(aew key (bQ pk) x.all).isSome=true
def af0{key:Int}(b:1<=key/\key<=99)(a:List Pk)(x:Sn):acH key a x↔aja key a x:=by
 unfold acH aja aew;rw[dj b]
def atE{key:Int} :((1<=key/\key<=99)/\amH key s/\acy s.lg)↔(1<=key/\key<=99)/\amG key s.pk/\jW (acH key s.pk) Sn.no s.sn/\acy s.lg:=
 ⟨λ⟨a,⟨b,c⟩,d⟩=>⟨a,b,⟨λx e=>(af0 a _ x).2 (c.1 x e),c.2⟩,d⟩,λ⟨a,b,c,d⟩=>⟨a,⟨b,⟨λx e=>(af0 a _ x).1 (c.1 x e),c.2⟩⟩,d⟩⟩
def acW(key:Int)(s:gC)(ad:acQ pkN s.pk<=100000000)(af:∀x∈s.sn,x.all.length<=1099511627/\∀y∈x.all,y.ns.length<=2147483647)(va vb vc:Value)(lo hi:Nat)(w:World)(aU:hi<=w.heap.size)(hp:gO w lo hi s.pk [va])(h:mg w lo hi s va vb vc)(r:Bool)(Z:r=true↔(1<=key/\key<=99)/\amH key s/\acy s.lg) :
  Calls (aj true) 7 #[.int .i64 key,.agg #[va,vb,vc]] w λe w'=>e=.returned (.bool r)/\Below w.heap.size w w':=by
 replace Z:=Z.trans atE;obtain⟨A,a,rfl⟩:=cJ.form h.pk;obtain⟨B,b,rfl⟩:=cJ.form h.sn;obtain⟨C,c,rfl⟩:=cJ.form h.lg;have b5:=ab h;obtain⟨h1,h2,h3⟩:=h;obtain⟨-,ha,bW⟩:=cJ.len_ h1;obtain⟨-,hb,bO⟩:=cJ.len_ h2;unfold maxLen at bW bO;have aT:∀z∈aM s.pk,fg z:=λz U=>by
  obtain⟨p,bp,U⟩:=pa.1 U;obtain⟨k,hk⟩:=qk.1 bp;obtain⟨_,_,_,_,_,_,_,_,_,_,ow⟩:=acd hp hk;obtain⟨it,ao,rfl⟩:=lP.1 U;exact((cJ.good ow.1) it ao).1
 replace aT:=ab aT;clear h1 h2 h3;replace Z:=ab Z;replace af:=ab af;replace ad:=ab ad;go_enter qF7,ntmps7;go_wp2;generalize hG:(w.alloc (.cells #[.slice A s.pk.length a,.slice B s.sn.length b,.slice C s.lg.length c] 27)).alloc (.cells #[] 3)=w0 at *;obtain⟨av,eP,g,P,et,k1,jS,lK⟩:=pB hG;clear hG;have o0:aQ gv 3 w0 w.heap.size (.slice (some ⟨w.heap.size+1,0,none⟩) 0 0) []:=aQ.agu ⟨_,rfl,by omega,k1⟩;go_loopw [5,6] (λoo i wr=>∃k:Nat,k<=s.pk.length/\i=.int .i64 k/\aQ gv 3 wr w.heap.size oo (aM (s.pk.take k))/\gK wr w.heap.size 27 #[.slice A s.pk.length a,.slice B s.sn.length b,.slice C s.lg.length c]/\(∀b,oo.ownBlock=some b->w.heap.size<b)/\(jW (aa7 key) Pk.no (s.pk.take k)/\(aM (s.pk.take k)).Nodup)/\Below w.heap.size w wr) (λ_ i _=>s.pk.length-(intOf i).toNat)
 case atStart=>exact⟨0,fb _,rfl,o0,g,(by intro b e;cases e;exact uC _),⟨abt,List.nodup_nil⟩,av⟩
 case round=>
  clear g P et av o0 k1 jS lK eP;obtain⟨k,hk,rfl,G,g,f,T,H⟩:=hrel;obtain⟨Ao,co,rfl⟩:=G.form;have HN:=ab T;clear T;have zr:=H.size;have P:=g.cell;by_cases al:k<s.pk.length
  .obtain⟨p,jV⟩:=ar al;have jU:=gO.aK.below hp H aU;obtain⟨b1,ba,A5,c5,rfl, -, -,c2,R,S,ow⟩:=acd jU jV;have bV:=lV s.pk k;have b9:=adS (n:=pkN) jV;have br:=adT (n:=pkN) (l:=s.pk) (j:=k+1);have bi:pkN p=p.its.length:=rfl;have bo:=ad.out;rw[bi] at b9;have K:(aM (s.pk.take k)).length+p.its.length<=100000000:=by omega
   have hT:=kN jV;have t:∀(m:Nat) (x:It),p.its[m]?=some x->x.n∈aM (s.pk.take k)++bC (p.its.take m)->r=false:=λm x hx hm=>by
    rw[<-be,Z.out];exact λI=>atD jV hx hm I.2.1.2.2
   have a0:∀z∈aM (s.pk.take k)++bC p.its,fg z:=λz U=>aT.out z (by
    rw[<-hT] at U;obtain⟨p',bn,U⟩:=pa.1 U;exact pa.2 ⟨p',qb bn,U⟩)
   replace jV:=ab jV;clear bV b9 br bi bo;have aW:=HN.out.1;have a4:=HN.out.2;replace aW:=ab aW;clear HN;have H9:=And.intro G (And.intro f (And.intro K (And.intro hT (And.intro t (And.intro a0 a4)))));clear G f K hT t a0 a4;revert H9;generalize aM (s.pk.take k)=L;rintro⟨G,f,K,hT,t,a0,a4⟩;have HLEN:=ab K;have HT:=ab hT;have bw:=ab t;have bt:=ab a0;have bu:=ab a4;clear K hT t a0 a4;obtain⟨q,J⟩:=dO (aa7 key p);have HQ:=ab J;clear J;have gZ:∀x:dC wr,Calls (aj true) 23 #[.int .i64 key,.agg #[.int .i64 p.no,.slice A5 p.its.length c5]] x.to λe w'=>e=.returned (.bool q)/\Below x.to.heap.size x.to w':=λx=>aef key p _ x.to lo hi (by have:=x.ok.size;omega) (gX.aK.below ow x.ok (by omega)) q HQ.out;replace gZ:=ab gZ;have f0:wr.cell? ⟨w.heap.size,0,none⟩=some (.slice (some ⟨b1,ba,none⟩) s.pk.length a):=P 0;cases q with
   |false=>
    have o:r=false:=by
     rw[<-be,Z.out];exact λI=>awl jV.out (λh=>by have:=HQ.out.2 h;cases this) I.2.1.1
    have O:=ab o;clear o;go_wp2;have aF:=ah f0;have aI:=ah R;have aV:=ah S;refine aA (by kernel_rfl) (by kernel_rfl) ?_;repeat(go_big_quiet_step (first|(go_at_call 23;refine aO (gZ.out _))))
    refine ge ?_;intro wq N;have J:=aG N;clear N aF aI aV;go_wp2;go_ret;exact⟨ak O.out.symm,ae H J⟩
   |true=>
   have ax:(∃j y,k=j+1/\s.pk[j]?=some y/\¬y.no<p.no)\/k=0\/∃j y,k=j+1/\s.pk[j]?=some y/\y.no<p.no:=by
    rcases mu k with h|h
    .exact .inr (.inl h)
    .obtain⟨j,rfl⟩:∃j,k=j+1:=⟨k-1,by omega⟩;obtain⟨y,hy⟩:=ar (l:=s.pk) (k:=j) (by omega);by_cases hc:y.no<p.no
     .exact .inr (.inr ⟨j,y,rfl,hy,hc⟩)
     .exact .inl ⟨j,y,rfl,hy,hc⟩
   rcases ax with⟨j,y,rfl,X,oO⟩|rfl|⟨j,y,rfl,X,oO⟩
   case' inl|inr.inr=>
    have e1:((j+1:Nat):Int)-1=(j:Int):=by omega
    obtain⟨b3,bT,A7,c7,a3, -, -, -,Q, -, -⟩:=acd jU X;simp only[lE,qa,qn] at a3;obtain⟨rfl,rfl⟩:=a3
   case' inl=>
    have u3:=du (show p.no<=y.no by omega);have o:r=false:=by
     rw[<-be,Z.out];exact λI=>ac9 X jV.out oO I.2.1.1
    have O:=ab o;clear o oO X;go_wp2;have aF:=ah f0;have aI:=ah R;have aV:=ah S;have bZ:=ah Q;refine aA (by kernel_rfl) (by kernel_rfl) ?_;repeat(go_big_quiet_step (first|(go_at_call 23;refine aO (gZ.out _))))
    refine ge ?_;intro wq N;have J:=aG N;clear N aF aI aV bZ;go_wp2;go_ret;exact⟨ak O.out.symm,ae H J⟩
   case' inr.inr=>
    have u3:=bv (show ¬(p.no<=y.no) by omega);have bM:jW (aa7 key) Pk.no (s.pk.take (j+1+1)):=ac8 aW.out X jV.out (HQ.out.1 rfl) oO;clear oO X
   case' inr.inl=>
    simp only[se,rI] at R S;have Q:=R;have bM:jW (aa7 key) Pk.no (s.pk.take (0+1)):=abu jV.out (HQ.out.1 rfl)
   all_goals
    have HK:=ab bM;clear bM;go_wp2;have aF:=ah f0;have aI:=ah R;have aV:=ah S;have bZ:=ah Q;refine aA (by kernel_rfl) (by kernel_rfl) ?_;repeat(go_big_quiet_step (first|(go_at_call 23;refine aO (gZ.out _))))
    refine ge ?_;intro wq N;have J:=aG N;clear N aF aI aV bZ;replace g:=aB g J;replace P:=g.cell;replace et:=g.frozen;replace G:=G.below J;replace H:=ae H J;clear gZ f0 R S Q ow jU J;go_wp2;go_loopw [5,7] (λoo i wx=>∃m:Nat,m<=p.its.length/\i=.int .i64 m/\aQ gv 3 wx w.heap.size oo (L++bC (p.its.take m))/\gK wx w.heap.size 27 #[.slice (some ⟨b1,ba,none⟩) s.pk.length a,.slice B s.sn.length b,.slice C s.lg.length c]/\(∀b,oo.ownBlock=some b->w.heap.size<b)/\(L++bC (p.its.take m)).Nodup/\Below w.heap.size w wx) (λ_ i _=>p.its.length-(intOf i).toNat)
    case atStart=>exact⟨0,fb _,rfl,by rw[show bC (p.its.take 0)=[] from rfl,ta];exact G,g,f,by rw[show bC (p.its.take 0)=[] from rfl,ta];exact bu.out,H⟩
    case round=>
     clear g P et H G f zr;obtain⟨m,hm,rfl,G,g,f,T,u⟩:=hrel;obtain⟨Ax,cx,rfl⟩:=G.form;have zx:=u.size;have P:=g.cell;have Y:=gO.aK.below hp u aU;obtain⟨b2,gW,A6,c6,e6, -, -, -,R,S,ow⟩:=acd Y jV.out;simp only[lE,qa,qn] at e6;obtain⟨rfl,rfl⟩:=e6;try simp only[se,rI] at S
     have c3:p.its.length<=100000000:=by have:=HLEN.out;omega
     by_cases bk:m<p.its.length
     .obtain⟨x,bH⟩:=ar bk;obtain⟨b3,bT,rfl, -, -,bl,cn, -⟩:=ace ow bH;have t:=bw.out m x bH;have aZ:∀z∈L++bC (p.its.take m),fg z:=λz U=>bt.out z (by
       rcases jt.1 U with U|U
       .exact jt.2 (.inl U)
       .obtain⟨it,ao,rfl⟩:=lP.1 U;exact jt.2 (.inr (lP.2 ⟨it,qb ao,rfl⟩)))
      have a5:=(apd.2 G).sl aZ (ap _);have a2:L++bC (p.its.take (m+1))=(L++bC (p.its.take m))++[x.n]:=by rw[abv bH,sL]
      have a6:(L++bC (p.its.take m)).length<=100000000:=by
       have:=HLEN.out;rw[gn,ku,lm];omega
      clear aZ bl bH;have H9:=And.intro G (And.intro f (And.intro T (And.intro t (And.intro a5 (And.intro a2 a6)))));clear G f T t a5 a2 a6;revert H9;generalize L++bC (p.its.take m)=M;rintro⟨G,f,T,t,a5,a2,a6⟩;have HM:=ab a6;have HST:=ab a2;have HO:=ab G;have bf:=ab a5;clear a6 a2 G a5 Y ow;have f0:=P 0;by_cases V:x.n∈M
      .have o:=t V;have O:=ab o;clear o t;go_wp2;refine(afj M x.n _ _ _ _ _ _ bf.out).mono ?_;rintro e w5 ⟨rfl,rfl⟩;rw[du V];clear V T;go_wp2;go_ret;exact⟨ak O.out.symm,u⟩
      .have bS:=ab (alq T V);clear T t;go_wp2;refine(afj M x.n _ _ _ _ _ _ bf.out).mono ?_;rintro e w5 ⟨rfl,rfl⟩;rw[bv V];clear V;go_wp2_with(at_builtin;refine jD (F:=gv) (v:=.slice Ax M.length cx) rfl (.tmp 68) (.tmp 79) 31 rfl aaH x.n rfl HO.out rfl rfl (by have:=HM.out;omega) u.size ?_;intro v8 w8 o8 b0 b4;obtain⟨A8,c8,rfl⟩:=o8.form;simp only[gn,mp,qr,pb] at o8 b4);go_roundw
       case rel=>exact⟨m+1,by omega,by go_num,by rw[HST.out];exact o8,alX g b0 (λe=>by have:=f _ e;omega),(λb hb=>(b4 b hb).elim (f b) λh=>by have:=g.lt;omega),by rw[HST.out];exact bS.out,u.trans (b0.below u.size λi hi hs=>by have:=(HO.out.at_ hs).1;omega)⟩
       simp[intOf];omega
     .obtain rfl:m=p.its.length:=by omega
      rw[fd] at f;rw[fd,<-HT.out] at G T;have bL:=ab T;clear T;rw[HT.out] at G;rw[fd];clear Y ow;have HO:=ab G;clear G;go_wp2;go_roundw
      case rel=>exact⟨_,by omega,by go_num,by rw[HT.out];exact HO.out,g,f,⟨HK.out,bL.out⟩,u⟩
      simp[intOf];omega
  .obtain rfl:k=s.pk.length:=by omega
   have a1:=HN.out;rw[fd] at a1;replace a1:=ab a1;clear HN G f;generalize (aM (s.pk.take s.pk.length)).length=nn;go_wp2;go_loopw [8] (λi wx=>∃m:Nat,m<=s.sn.length/\i=.int .i64 m/\jW (acH key s.pk) Sn.no (s.sn.take m)/\gK wx w.heap.size 27 #[.slice A s.pk.length a,.slice B s.sn.length b,.slice C s.lg.length c]/\Below w.heap.size w wx) (λi _=>s.sn.length-(intOf i).toNat)
   case atStart=>exact⟨0,fb _,rfl,abt,g,H⟩
   case round=>
    clear g P H zr;obtain⟨k,hk,rfl,T,g,u⟩:=hrel;have HN:=ab T;clear T;have zx:=u.size;have P:=g.cell;by_cases al:k<s.sn.length
    .obtain⟨x,bH⟩:=ar al;have Y:=gO.aK.below hp u aU;have W:=b5.out.below u aU;obtain⟨bb,bN,D,d,rfl, -, -,c1,a7,aa,b8⟩:=ag7 W.sn bH;have ay:=af.out x (da bH);have HX:=ab bH;clear bH;obtain⟨q1,ik⟩:=dO (1<=x.no/\x.no<=20);obtain⟨q2,E⟩:∃q,q=(aew key (bQ s.pk) x.all).isSome:=⟨_,rfl⟩;have a8:∀y:dC wr,Calls (aj true) 25 #[.int .i64 x.no,.int .i64 1,.int .i64 20] y.to λe w'=>e=.returned (.bool q1)/\Below y.to.heap.size y.to w':=λy=>(agx x.no 1 20 y.to q1 ik).mono λe w' ⟨h,hw⟩=>⟨h,by rw[<-hw];exact dk _ _⟩;replace a8:=ab a8;have b7:∀y:dC wr,Calls (aj true) 26 #[.int .i64 key,.agg #[.slice A s.pk.length a,.slice (some ⟨bb,bN,none⟩) s.sn.length b,.slice C s.lg.length c],.agg #[.int .i64 x.no,.slice D x.all.length d]] y.to λe w'=>e=.returned (.bool q2)/\Below y.to.heap.size y.to w':=λy=>by
      rw[E];have:=y.ok.size;exact alr key s x _ _ _ _ lo hi y.to (by omega) (gO.aK.below Y y.ok (by omega)) (W.below y.ok (by omega)) (bK.loc.below b8 y.ok (by omega)) ay.2 ay.1
     have c0:=ab b7;have f0:=P 0;have f1:=P 1;have f2:=P 2;replace ik:=ab ik;replace E:=ab E;clear b7 ay b8 Y;cases q1 with
     |false=>
      have o:r=false:=by
       rw[<-be,Z.out];exact λI=>by have:=ik.out.2 (I.2.2.1.1 x (da HX.out)).1;cases this
      have O:=ab o;clear o W;go_wp2;have aF:=ah f0;have aI:=ah f1;have aV:=ah f2;have bZ:=ah a7;have ni:=ah aa;refine aA (by kernel_rfl) (by kernel_rfl) ?_;repeat(go_big_quiet_step (first|(go_at_call 25;refine aO (a8.out _))))
      refine ge ?_;intro wq N;have J:=aG N;clear N aF aI aV bZ ni;go_wp2;go_ret;exact⟨ak O.out.symm,ae u J⟩
     |true=>
      have ax:(∃j y,k=j+1/\s.sn[j]?=some y/\¬y.no<x.no)\/k=0\/∃j y,k=j+1/\s.sn[j]?=some y/\y.no<x.no:=by
       rcases mu k with h|h
       .exact .inr (.inl h)
       .obtain⟨j,rfl⟩:∃j,k=j+1:=⟨k-1,by omega⟩;obtain⟨y,hy⟩:=ar (l:=s.sn) (k:=j) (by omega);by_cases hc:y.no<x.no
        .exact .inr (.inr ⟨j,y,rfl,hy,hc⟩)
        .exact .inl ⟨j,y,rfl,hy,hc⟩
      rcases ax with⟨j,y,rfl,X,oO⟩|rfl|⟨j,y,rfl,X,oO⟩
      case' inl|inr.inr=>
       have e1:((j+1:Nat):Int)-1=(j:Int):=by omega
       obtain⟨b2,gW,D2,d2,a3, -, -, -,Q, -, -⟩:=ag7 W.sn X;simp only[lE,qa,qn] at a3;obtain⟨rfl,rfl⟩:=a3
      case' inl=>
       have u3:=du (show x.no<=y.no by omega);have o:r=false:=by
        rw[<-be,Z.out];exact λI=>ac9 X HX.out oO I.2.2.1
       have O:=ab o;clear o oO X W;go_wp2;have aF:=ah f0;have aI:=ah f1;have aV:=ah f2;have bZ:=ah a7;have ni:=ah aa;have aP:=ah Q;refine aA (by kernel_rfl) (by kernel_rfl) ?_;repeat(go_big_quiet_step (first|(go_at_call 25;refine aO (a8.out _))))
       refine ge ?_;intro wq N;have J:=aG N;clear N aF aI aV bZ ni aP;go_wp2;go_ret;exact⟨ak O.out.symm,ae u J⟩
      case' inr.inr=>
       have u3:=bv (show ¬(x.no<=y.no) by omega);have bM:acH key s.pk x->jW (acH key s.pk) Sn.no (s.sn.take (j+1+1)):=λhx=>ac8 HN.out X HX.out hx oO;clear oO X
      case' inr.inl=>
       simp only[se,rI] at a7 aa;have Q:=a7;have bM:acH key s.pk x->jW (acH key s.pk) Sn.no (s.sn.take (0+1)):=λhx=>abu HX.out hx
      all_goals
       have HK:=ab bM;clear bM W;go_wp2;have aF:=ah f0;have aI:=ah f1;have aV:=ah f2;have bZ:=ah a7;have ni:=ah aa;have aP:=ah Q;refine aA (by kernel_rfl) (by kernel_rfl) ?_;repeat(go_big_quiet_step (first|(go_at_call 25;refine aO (a8.out _))|(go_at_call 26;refine aO (c0.out _))))
       refine ge ?_;intro wq N;have J:=aG N;clear N aF aI aV bZ ni aP;replace g:=aB g J;replace P:=g.cell;replace et:=g.frozen;replace u:=ae u J;cases q2
       .have o:r=false:=by
         rw[<-be,Z.out];exact λI=>by have:=(I.2.2.1.1 x (da HX.out)).2;rw[<-E.out] at this;cases this
        have O:=ab o;clear o;go_wp2;go_ret;exact⟨ak O.out.symm,u⟩
       .have an:=HK.out ⟨ik.out.1 (by trivial),E.out.symm⟩;replace an:=ab an;clear HK;go_wp2;go_roundw
        case rel=>exact⟨_,by omega,by go_num,an.out,g,u⟩
        simp[intOf];omega
    .obtain rfl:k=s.sn.length:=by omega
     have a9:=HN.out;rw[fd] at a9;replace a9:=ab a9;clear HN;obtain⟨q1,ik⟩:=dO (1<=key/\key<=99);replace ik:=ab ik;have f0:=P 0;have f2:=P 2;go_wp2;refine(js (β:=true) key _ q1 ik.out).mono ?_;rintro e w5 ⟨rfl,rfl⟩;cases q1
     .have o:r=false:=by
       rw[<-be,Z.out];exact λI=>by have:=ik.out.2 I.1;cases this
      have O:=ab o;clear o;go_wp2;go_ret;exact⟨ak O.out.symm,u⟩
     .obtain⟨q2,E⟩:=dO (acy s.lg);replace E:=ab E;have bx:=ab (b5.out.below u aU).lg;go_wp2;refine(aeZ s.lg _ _ lo hi bx.out (by omega) q2 E.out).mono ?_;rintro e w6 ⟨rfl,b6⟩;replace g:=aB g b6;replace P:=g.cell;replace et:=g.frozen;replace u:=ae u b6;clear f0 f2;have f0:=P 0;cases q2
      .have o:r=false:=by
        rw[<-be,Z.out];exact λI=>by have:=E.out.2 I.2.2.2;cases this
       have O:=ab o;clear o;go_wp2;go_ret;exact⟨ak O.out.symm,u⟩
      .have o:r=decide ((s.pk.length:Int)<=20):=by
        rw[oE,Z.out,decide_eq_true_iff];exact⟨λI=>by have:=I.2.1.2.1;omega,λI=>⟨ik.out.1 (by trivial),⟨a1.out.1,by omega,a1.out.2⟩,a9.out,E.out.1 (by trivial)⟩⟩
       have O:=ab o;clear o;go_wp2;go_ret;exact⟨ak O.out.symm,u⟩
end
end Go.Proofs.YtlggbfanooejbaaGreatDoor
namespace Go.Proofs.YtlggbfanooejbaaGreatDoor.laweo
open Go.RowKit Go.ChangeShapes Go.WideShapes Go.ChangeAt
def ajc{a:Type}{f:a->Nat}{l:List a}{x:a}(h:x∈l):f x<=bh f l:=by
 unfold bh;have:f x<=(l.map f).sum:=by
  induction l with
  |nil=>cases h
  |cons y l b=>
   rw[qo,sT];rcases lw.1 h with rfl|h
   .omega
   .have:=b h;omega
 omega
def arj(h:ad0 s<=1048576):∀x∈s.sn,x.all.length<=1099511627/\∀y∈x.all,y.ns.length<=2147483647:=λx c=>by
 unfold ad0 at h;have e:=ajc (f:=bSn) c;have d:x.all.length<=bSn x:=by unfold bSn bh;omega
 refine⟨by omega,λy a=> ?_⟩;have b:oh y<=bSn x:=by unfold bSn;exact ajc a
 unfold oh at b;omega
def wN{w w':World}(a:w'.heap=w.heap){b c:Nat}{v:Value}(h:agD w b c s v):agD w' b c s v:=by
 obtain⟨g,f,d,e,h⟩:=h;exact⟨g,f,d,e,cK.loc.go (λ_ _ _=>by rw[a]) (ap _) (ap _) h.pk,dm.loc.go (λ_ _ _=>by rw[a]) (ap _) (ap _) h.sn,eh.loc.go (λ_ _ _=>by rw[a]) (ap _) (ap _) h.lg⟩
def walk(key:Int)(hk:fg key)(s:gC){v:Value}{w:World}(hg:Glo w)(t:agD w 0 w.heap.size s v)(w':World)(hw:w'=w:=by rfl) :
  Calls (aj true) 4 #[.int .i64 key,v] w' λe w'=>e=.returned (.bool true)/\Below w.heap.size w w':=by
 subst hw;obtain⟨u,F,J,rfl,h⟩:=t;obtain⟨A,a,rfl⟩:=cJ.form h.pk;obtain⟨B,b,rfl⟩:=cJ.form h.sn;obtain⟨C,c,rfl⟩:=cJ.form h.lg;go_enter qF4,ntmps4;go_wp2;generalize D:w'.alloc (.cells #[.slice A s.pk.length a,.slice B s.sn.length b,.slice C s.lg.length c] 46)=w0 at *;obtain⟨d,eP,f,j,p⟩:=iK D;clear D;refine(ahP s _ _ _ 1048576 _ 0 w'.heap.size (h.below d (ap _)) d.size (by omega) (by omega)).mono ?_;rintro e w1 ⟨rfl,b1⟩;replace f:=aB f b1;replace j:=f.cell;replace p:=f.frozen;replace d:=ae d b1;by_cases o:(1048576:Int)-((ad0 s:Nat):Int)<0
 .rw[bA o];clear o;go_wp2;go_ret;exact⟨rfl,d⟩
 have m:ad0 s<=1048576:=by omega
 replace m:=ab m;rw[cL (by omega)];have K:∃z:Int,z=1048576-((ad0 s:Nat):Int)/\0<=z:=⟨_,rfl,by omega⟩;obtain⟨z,K,a5⟩:=K;rw[<-K];clear K o;have l:acQ pkN s.pk<=100000000:=by
  have h1:=aqx s.pk;have h2:=m.out;unfold ad0 at h2;omega
 replace l:=ab l;have G:=ab (arj m.out);obtain⟨r,t⟩:=dO ((1<=key/\key<=99)/\amH key s/\acy s.lg);replace t:=ab t;go_wp2;refine(mV s _ _ _ _ 0 w'.heap.size (h.below d (ap _)) d.size m.out).mono ?_;rintro e w2 ⟨v1,v2,v3,rfl,q,b2⟩;obtain⟨A1,a1,rfl⟩:=dL.form q.pk;obtain⟨B1,a6,rfl⟩:=dL.form q.sn;obtain⟨C1,c1,rfl⟩:=dL.form q.lg;replace f:=aB f b2;replace j:=f.cell;replace p:=f.frozen;have z1:=d.size;replace d:=ae d b2;go_wp2;refine(acW key s l.out G.out _ _ _ _ _ _ (ap _) (lI.t q.pk) q.l r t.out).mono ?_;rintro e w3 ⟨rfl,b3⟩;replace f:=aB f b3;replace j:=f.cell;replace p:=f.frozen;replace d:=ae d b3;clear q;go_wp2;refine(mV s _ _ _ _ 0 w'.heap.size (h.below d (ap _)) d.size m.out).mono ?_;rintro e O ⟨v4,Z,S,rfl,H,b4⟩;obtain⟨A2,a2,rfl⟩:=dL.form H.pk;obtain⟨B2,T,rfl⟩:=dL.form H.sn;obtain⟨C2,c2,rfl⟩:=dL.form H.lg;replace f:=aB f b4;replace j:=f.cell;replace p:=f.frozen;replace d:=ae d b4;go_wp2;generalize D:O.alloc (.cells #[.slice A2 s.pk.length a2,.slice B2 s.sn.length T,.slice C2 s.lg.length c2] 27)=w5 at *;obtain⟨i,a4,M,k,V⟩:=iK D;clear D;replace f:=aB f i;replace j:=f.cell;replace p:=f.frozen;replace d:=ae d i;have L:=H.below i (ap _);refine(aou key s l.out G.out _ _ _ _ _ w5 (hg.below d) i.size (lI.t L.pk) L.l r t.out).mono ?_;rintro e w6 ⟨rfl,E⟩;replace f:=aB f E;replace j:=f.cell;replace p:=f.frozen;replace M:=aB M E;replace k:=M.cell;replace V:=M.frozen;replace d:=ae d E;have N:=L.below E i.size;have a3:O.heap.size<=w6.heap.size:=am i.size E.size;have X:=ab N.l;clear N L H;have a0:(r !=r)=false:=by simp
 go_wp2;have fk:=j 0;have lK:=j 1;have P:=j 2;have fm:=k 0;have R:=k 1;have U:=k 2;have aF:=ah fk;have aI:=ah lK;have aV:=ah P;have bZ:=ah fm;have ni:=ah R;have Y:=ah U;refine fh 5 [0,1] [2,3,4] (h:= ?_);simp only[pick,List.map,qF,qG];repeat(go_big_quiet_step (fail))
 refine ge ?_;clear aF aI aV bZ ni Y;apply Exists.intro;apply ahD (λv w'=>∃u F J,v=.agg #[u,F,J]/\aeP w' w6.heap.size w'.heap.size s u F J)
 .rfl
 .exact λv x y ⟨u,F,J,e,h⟩ hle=>⟨u,F,J,e,(h.below hle (ap _)).go (λ_ _ _=>rfl) (ap _) hle.size⟩
 .intro x _ Qx g;replace g:=ab g;go_wp2;have mA:=ae d x.ok;refine(mV s _ _ _ _ 0 w'.heap.size (h.below mA (ap _)) mA.size m.out).mono ?_;rintro e wy ⟨Z,S,v7,rfl,Q,n⟩;go_wp2;exact g.out _ _ n ⟨Z,S,v7,rfl,Q.go (λ_ _ _=>rfl) x.ok.size (ap _)⟩
 intro vr;apply ahE (.bool true)
 .intro x I Qx g;replace g:=ab g;obtain⟨Z,S,v7,rfl,Q⟩:=I.1 (by kernel_rfl);go_wp2;have N:=X.out.below x.ok (by omega);refine(ahQ s s _ _ _ _ _ _ _ _ O.heap.size _ _ N Q.l (by have:=x.ok.size;omega) (ap _) true (by simp)).mono ?_;rintro e wy ⟨rfl,n⟩;go_wp2;exact g.out _ n
 apply ahE (.bool false)
 .intro x I Qx g;replace g:=ab g;go_wp2;exact g.out _ (dk _ _)
 refine jC ?_;intro w2 W x hx I;dsimp only[abI] at I;rw[hx] at I;clear hx x;replace d:=ae d W;simp only[List.drop];go_wp2;go_ret;exact⟨rfl,d⟩
end Go.Proofs.YtlggbfanooejbaaGreatDoor.laweo