/- A part. -/
import Derived.Test.YtepfjblhjlefiaaGreatDoorG9
set_option maxRecDepth 100000
set_option maxHeartbeats 8000000
set_option linter.all false
open Go Go.RowKit Go.Proofs.Tryz Go.Proofs.YtepfjblhjlefiaaGreatDoor
namespace Go.Proofs.YtepfjblhjlefiaaGreatDoor
section
variable {β:Bool}
open Go.RowKit
def af2(key:Int)(n:1<=key/\key<=99)(l:List Pk)(B C:Option Addr)(nb b nc c':Nat)(v:Value)(w:World)(lo hi:Nat)(h:fh w lo hi l [v])(bG:hi<=w.heap.size)(hl:aek pkN l<=100000000)(r:Bool)(hr:r=true↔aqx key l) :
  Calls (ah β) 20 #[.agg #[v,.slice B nb b,.slice C nc c'],.int .i64 key] w λe w'=>e=.returned (.bool r)/\Below w.heap.size w w':=by
 replace hr:=ab hr;obtain⟨A,c,rfl⟩:=h.form;obtain⟨_,hc,hx⟩:=h.len_;unfold maxLen at hx;go_enter zD,ntmps20;go_wp2;generalize hG:w.alloc (.cells #[.slice A l.length c,.slice B nb b,.slice C nc c'] 53)=w0 at *;obtain⟨X,jU,k0,dV,gz⟩:=iB hG;clear hG;have h0:=fh.aw.below h X bG;have z0:=X.size;go_loopw [11] (λi wr=>∃k:Nat,k<=l.length/\i=.int .i64 k/\abj (am8 key) Pk.no (l.take k)/\Below w0.heap.size w0 wr) (λi _=>l.length-(intOf i).toNat)
 case atStart=>exact⟨0,fa _,rfl,ahb,ff _ _⟩
 case round=>
  obtain⟨k,hk,rfl,hn,d⟩:=hrel;have HN:=ab hn;clear hn;have G:=av k0 d;clear k0 dV gz;have zr:=d.size;by_cases a8:k<l.length
  .obtain⟨p,U⟩:=aq a8;have W:=fh.aw.below h0 d (by omega);obtain⟨b1,aP,A5,c5,rfl, -, -,aJ,a6,a5,a0⟩:=af3 W U;replace U:=ab U;have HH:=ab bG;obtain⟨q,o⟩:=jv (am8 key p);have HQ:=ab o;clear o;go_wp2;generalize hG:wr.alloc (.cells #[.int .i64 p.no,.slice A5 p.its.length c5] 62)=wa at *;obtain⟨fR,an,m0,mO,ao⟩:=iB hG;clear hG;have ha:=fh.aw.below W fR (by omega);have HI:=ab (gK.aw.below a0 fR (by omega));have ka:=av G fR;have z:=ae d fR;have za:=fR.size;have O:Hid (hi<=wa.heap.size):=ab (by omega);have Z:=ka.cell 0;have L:=mO 0;have J:=mO 1;clear G a0 a6 a5 W fR;cases q with
   |false=>
    have P:r=false:=by
     rw[<-lc,hr.out];intro hp;have:=HQ.out.2 (hp.1.1 p (be U.out));cases this
    have H:=ab P;clear P;go_wp2;have I:=aj Z;have Q:=aj L;have V:=aj J;refine aG (by kernel_rfl) (by kernel_rfl) ?_;repeat(go_big_quiet_step (first|(go_at_call 29;refine eL (abk (β:=β) key n p _ _ lo hi (da O.out (gC.ok _).size) (gK.aw.below HI.out (gC.ok _) O.out) _ HQ.out))))
    refine iS ?_;intro wq m;have o:=aN m;clear m I Q V;go_wp2;go_ret;exact⟨aA H.out.symm,ae X (ae z o)⟩
   |true=>
    have u:=HQ.out.1 rfl;have g:=ab u;clear u;rcases oE k with a3|a3
    .subst a3;have eM:=aiz (f:=Pk.no) U.out g.out;have HK:=ab eM;clear eM;go_wp2;have I:=aj Z;have Q:=aj L;have V:=aj J;refine aG (by kernel_rfl) (by kernel_rfl) ?_;repeat(go_big_quiet_step (first|(go_at_call 29;refine eL (abk (β:=β) key n p _ _ lo hi (da O.out (gC.ok _).size) (gK.aw.below HI.out (gC.ok _) O.out) true ⟨λ_=>g.out,λ_=>rfl⟩))))
     refine iS ?_;intro wq m;have o:=aN m;clear m I Q V;go_wp2;go_roundw
     case rel=>first|exact⟨1,by omega,by go_num,HK.out,ae z o⟩|((repeat apply Exists.intro);refine⟨?_,rfl⟩;exact⟨1,by omega,by go_num,HK.out,ae z o⟩)
     simp[intOf];omega
    .obtain⟨j,rfl⟩:∃j,k=j+1:=⟨k-1,by omega⟩;have e1:((j+1:Nat):Int)-1=(j:Int):=by omega
     obtain⟨y,dI⟩:=aq (l:=l) (k:=j) (by omega);obtain⟨b2,nP,A7,c7,a1, -, -,al,a4, -, -⟩:=af3 ha dI;simp only[lw,qo,qk] at a1;obtain⟨rfl,rfl⟩:=a1;replace dI:=ab dI;by_cases K:y.no<p.no
     .have u1:=bv (show ¬(p.no<=y.no) by omega);have eM:=am9 HN.out dI.out U.out g.out K;have HK:=ab eM;clear eM K;go_wp2;have I:=aj Z;have Q:=aj L;have V:=aj J;have jA:=aj a4;refine aG (by kernel_rfl) (by kernel_rfl) ?_;repeat(go_big_quiet_step (first|(go_at_call 29;refine eL (abk (β:=β) key n p _ _ lo hi (da O.out (gC.ok _).size) (gK.aw.below HI.out (gC.ok _) O.out) true ⟨λ_=>g.out,λ_=>rfl⟩))))
      refine iS ?_;intro wq m;have o:=aN m;clear m I Q V jA;go_wp2;go_roundw
      case rel=>first|exact⟨j+1+1,by omega,by go_num,HK.out,ae z o⟩|((repeat apply Exists.intro);refine⟨?_,rfl⟩;exact⟨j+1+1,by omega,by go_num,HK.out,ae z o⟩)
      simp[intOf];omega
     .have u1:=de (show p.no<=y.no by omega);have P:r=false:=by
       rw[<-lc,hr.out];exact λhp=>ana dI.out U.out K hp.1
      have H:=ab P;clear P K;go_wp2;have I:=aj Z;have Q:=aj L;have V:=aj J;have jA:=aj a4;refine aG (by kernel_rfl) (by kernel_rfl) ?_;repeat(go_big_quiet_step (first|(go_at_call 29;refine eL (abk (β:=β) key n p _ _ lo hi (da O.out (gC.ok _).size) (gK.aw.below HI.out (gC.ok _) O.out) true ⟨λ_=>g.out,λ_=>rfl⟩))))
      refine iS ?_;intro wq m;have o:=aN m;clear m I Q V jA;go_wp2;go_ret;exact⟨aA H.out.symm,ae X (ae z o)⟩
  .obtain rfl:k=l.length:=by omega
   have u:=HN.out;rw[gt] at u;have g:=ab u;clear u HN;have Z:=G.cell 0;have W:=fh.aw.below h0 d (by omega);go_wp2;refine(nE l _ _ lo hi (by omega) W hl).mono ?_;rintro e w1 ⟨v1,rfl,o1,b1⟩;have hn:(bD l).length=aek pkN l:=by
    have:=abl l l.length;rw[gt,aou] at this;exact this
   go_wp2;refine(aqy o1 (by omega)).mono ?_;rintro e w2 ⟨rfl,o2,a2⟩;have hS:∀b,v1.ownBlock=some b->wr.heap.size<=b:=λb hb=>(o1.at_ hb).1;have F:Below wr.heap.size wr w2:=b1.trans (a2.below b1.size λi hi e=>by have:=hS i e;omega);have z2:=F.size;have k2:=av G F;have h2:=fh.aw.below W F (by omega);have f2:=k2.cell 0;obtain⟨A2,c2,rfl⟩:=o2.form;have a9:=mn (bD l);have jS:=Lib.compact_length_le (ko (bD l));have ow:=ae X (ae d F);have HC:=ab (ahd (l:=bD l));have af:Hid ((ko (bD l)).length<=9223372036854775807):=ab (by omega);have aa:=ab o2;have ad:Hid ((bD l).length<=100000000):=ab (by omega);clear G Z W o1 b1 a2 o2 hn X d F h0 h k2;obtain⟨M,hM⟩:∃M,M=Lib.compact (ko (bD l)):=⟨_,rfl⟩;rw[<-hM] at HC jS;replace hM:=ab hM;have ax:Hid (M.length<=100000000):=ab (by have:=ad.out;omega);clear a9 jS;by_cases E:(l.length:Int)<=20
   case' neg=>
    have u1:decide ((l.length:Int)<=20)=false:=bv E;have P:r=false:=by
     rw[<-lc,hr.out];exact λhp=>E (by have:=hp.2.1;omega)
    have H:=ab P;clear P E;go_wp2;have I:=aj f2;refine aG (by kernel_rfl) (by kernel_rfl) ?_;repeat(go_big_quiet_step (fail))
    refine iS ?_;intro wq m;have o:=aN m;clear m I;go_wp2;go_ret;exact⟨aA H.out.symm,ae ow o⟩
   have u1:decide ((l.length:Int)<=20)=true:=de E;have u2:((M.length:Int) ==((bD l).length:Int))=r:=by
    have h3:r=true↔M.length=(bD l).length:=by
     rw[hr.out,HC.out];exact⟨λh=>h.2.2,λh=>⟨g.out,by omega,h⟩⟩
    rw[qh,h3,mp];omega
   clear E;have U2:=ab u2;clear u2;go_wp2;have aM:=aem (s:=6) (ty:=3) (S:=λb=>(Value.slice A2 (ko (bD l)).length c2).ownBlock=some b) (pre:=[]) f2 (λe=>by have:=hS _ e;dsimp only at this;omega);refine aen 6 3 (λb=>(Value.slice A2 (ko (bD l)).length c2).ownBlock=some b) [] 15 [0,1,2,3,4,5,8,9] [6,7,10,11,12,13,14] (by kernel_rfl) (by kernel_rfl) (by kernel_rfl) ?_;simp only[pick,List.map,pa,pb];repeat(go_big_quiet_step (fail))
   refine iS ?_;apply Exists.intro;apply aqz (λv x=>x.done=true/\aD ie 3 x.to wr.heap.size v M)
   .rfl
   .rfl
   .exact λj hj=>(by cases hj)
   .exact λv x y ⟨hd,ho⟩ hle=>⟨(hle.from_ hd).1,ho.below (hle.from_ hd).2⟩
   .intro x _ D Y a;replace a:=ab a;have t:=x.till D;have ox:=aa.out.below t;go_wp2;refine(aiA ox af.out).mono ?_;rintro e wy ⟨v5,rfl,N,c5⟩;rw[<-hM.out] at N;go_wp2;exact a.out _ _ (c5.mono λb hb e=>.inl e) ⟨rfl,N⟩
   intro aL;simp only[Act.put,db,fd,ga];apply aeo (.int .i64 M.length)
   .intro x R _ Y a;replace a:=ab a;obtain⟨D,N⟩:=R.1 (by kernel_rfl);obtain⟨A5,c5,rfl⟩:=N.form;go_wp2;exact a.out _ (ff _ _)
   simp only[Act.put,db,fd,ga];apply akM (λv x=>x.done=true/\aD ie 3 x.to wr.heap.size v (bD l))
   .rfl
   .exact λv x y ⟨hd,ho⟩ hle=>⟨(hle.from_ hd).1,ho.below (hle.from_ hd).2⟩
   .intro x R _ Y a;replace a:=ab a;obtain⟨D, -⟩:=R.1 (by kernel_rfl);have t:Below wr.heap.size w2 x.to:=(x.ok.mono (T:=λb=>(Value.slice A2 (ko (bD l)).length c2).ownBlock=some b) λb _ h=>h.2).below z2 λi hi e=>by have:=hS i e;omega
    have h3:=fh.aw.below h2 t (by omega);have zx:=x.ok.size;go_wp2;refine(nE l _ _ lo hi (by omega) h3 hl).mono ?_;rintro e wy ⟨v5,rfl,N,b5⟩;go_wp2;exact a.out _ _ b5 ⟨D,N.base (by omega)⟩
   intro ay;simp only[Act.put,db,fd,ga];apply aeo (.int .i64 (bD l).length)
   .intro x R _ Y a;replace a:=ab a;obtain⟨D,N⟩:=R.1 (by kernel_rfl);obtain⟨A5,c5,rfl⟩:=N.form;go_wp2;exact a.out _ (ff _ _)
   simp only[Act.put,db,fd,ga];apply aeo (.bool r)
   .intro x _ _ Y a;replace a:=ab a;have u2:=U2.out;go_wp2;exact a.out _ (ff _ _)
   simp only[Act.put,db,fd,ga];apply aeo (.bool r)
   .intro x _ _ Y a;replace a:=ab a;go_wp2;exact a.out _ (ff _ _)
   simp only[Act.put,db,fd,ga];apply aeo (.bool r)
   .intro x _ _ Y a;replace a:=ab a;go_wp2;exact a.out _ (ff _ _)
   simp only[Act.put,db,fd,ga];refine aqA λx R=> ?_;have t:Below wr.heap.size w2 x.to:=(x.ok.mono (T:=λb=>(Value.slice A2 (ko (bD l)).length c2).ownBlock=some b) λb _ h=>h.2).below z2 λi hi e=>by have:=hS i e;omega
   have a7:=ow.trans (t.mono (by omega));clear R t;simp only[List.drop];go_wp2;go_ret;exact⟨rfl,a7⟩
end
section
open Go.RowKit
def aov(key:Int)(s:1<=key/\key<=99)(g:List Pk)(l:List Sn)(C:Option Addr)(nc c':Nat)(v1 v2:Value)(w:World)(lo hi:Nat)(hg:Glo w)(h1:iJ w lo hi g [v1])(h2:iK w lo hi l [v2])(bG:hi<=w.heap.size)(Y:∀p∈g,1<=p.its.length)(K:∀x∈l,x.all.length<=1099511627/\∀y∈x.all,y.ns.length<=2147483647)(r:Bool)(Q:r=true↔aqB key g l) :
  Calls (ah true) 21 #[.agg #[v1,v2,.slice C nc c'],.int .i64 key] w λe w'=>e=.returned (.bool r)/\Below w.heap.size w w':=by
 replace Q:=ab Q;replace s:=ab s;replace K:=ab K;obtain⟨A,a,rfl⟩:=cR.form h1;obtain⟨B,b,rfl⟩:=cR.form h2;have fN:∀p∈bI g,1<=p.2.length/\cA p.1:=λp E=>⟨by
  obtain⟨q,m,rfl⟩:=mx.1 E;have:=Y q m;unfold pkd;simpa using this,h1.akN p E⟩
 obtain⟨-,ha,R⟩:=cR.len_ h1;obtain⟨-,hb,ad⟩:=cR.len_ h2;replace R:=ab R;replace fN:=ab fN;clear Y;unfold maxLen at ad;go_enter zC,ntmps21;go_wp2;generalize W:w.alloc (.cells #[.slice A g.length a,.slice B l.length b,.slice C nc c'] 53)=w0 at *;obtain⟨F,jU,k0,dV,gz⟩:=iB W;clear W;have a7:=iJ.loc.below h1 F bG;have a9:=iK.loc.below h2 F bG;have a3:=hg.below F;have z0:=F.size;clear h1 h2 hg;go_loopw [12] (λi wr=>∃k:Nat,k<=l.length/\i=.int .i64 k/\abj (aow key g) Sn.no (l.take k)/\Below w0.heap.size w0 wr) (λi _=>l.length-(intOf i).toNat)
 case atStart=>exact⟨0,fa _,rfl,ahb,ff _ _⟩
 case round=>
  obtain⟨k,hk,rfl,hn,o⟩:=hrel;replace hn:=ab hn;have a1:=av k0 o;clear k0 dV gz;have zr:=o.size;by_cases a5:k<l.length
  .obtain⟨x,dQ⟩:=aq a5;have S:=iK.loc.below a9 o (by omega);obtain⟨bb,aJ,D,d,rfl,_,_,aL,af,al,a4⟩:=acm S dQ;have V:=ab dQ;have a2:=ab (K.out x (be dQ));clear dQ;go_wp2;generalize W:wr.alloc (.cells #[.int .i64 x.no,.slice D x.all.length d] 37)=wa at *;obtain⟨fR,ax,m0,mO,a8⟩:=iB W;clear W;have an:=iK.loc.below S fR (by omega);have T:=av a1 fR;have G:=ae o fR;have za:=fR.size;have f0:=T.cell 0;have f1:=T.cell 1;have z:=mO 0;have ay:=mO 1;clear a1 af al S;by_cases g1:1<=x.no
   case' neg=>
    have u1:=de (show x.no<1 by omega);have f:r=false:=by
     rw[<-lc,Q.out];exact λE=>g1 (E.1 x (be V.out)).1.1
    have c:=ab f;clear f g1;go_wp2;have L:=aj f1;have J:=aj z;refine aG (by kernel_rfl) (by kernel_rfl) ?_;repeat(go_big_quiet_step (fail))
    refine iS ?_;intro wq n;have m:=aN n;clear n L J;go_wp2;go_ret;exact⟨aA c.out.symm,ae F (ae G m)⟩
   have u1:=bv (show ¬(x.no<1) by omega);by_cases g2:x.no<=20
   case' neg=>
    have u2:=de (show 20<x.no by omega);have f:r=false:=by
     rw[<-lc,Q.out];exact λE=>g2 (E.1 x (be V.out)).1.2
    have c:=ab f;clear f g1 g2;go_wp2;have L:=aj f1;have J:=aj z;refine aG (by kernel_rfl) (by kernel_rfl) ?_;repeat(go_big_quiet_step (fail))
    refine iS ?_;intro wq n;have m:=aN n;clear n L J;go_wp2;go_ret;exact⟨aA c.out.symm,ae F (ae G m)⟩
   have u2:=bv (show ¬(20<x.no) by omega);have a6:=ab (And.intro g1 g2);clear g1 g2;have aa:(∃j y,k=j+1/\l[j]?=some y/\¬y.no<x.no)\/k=0\/∃j y,k=j+1/\l[j]?=some y/\y.no<x.no:=by
    rcases oE k with h|h
    .exact .inr (.inl h)
    .obtain⟨j,rfl⟩:∃j,k=j+1:=⟨k-1,by omega⟩;obtain⟨y,hy⟩:=aq (l:=l) (k:=j) (by omega);by_cases hc:y.no<x.no
     .exact .inr (.inr ⟨j,y,rfl,hy,hc⟩)
     .exact .inl ⟨j,y,rfl,hy,hc⟩
   rcases aa with⟨j,y,rfl,U,t⟩|rfl|⟨j,y,rfl,U,t⟩
   case' inl|inr.inr=>
    have e1:((j+1:Nat):Int)-1=(j:Int):=by omega
    obtain⟨b2,nP,D2,d2,X, -, -, -,H, -, -⟩:=acm an U;simp only[lw,qo,qk] at X;obtain⟨rfl,rfl⟩:=X
   case' inl=>
    have u3:=de (show x.no<=y.no by omega);have f:r=false:=by
     rw[<-lc,Q.out];exact λE=>ana U V.out t E
    have c:=ab f;clear f t U;go_wp2;have L:=aj f1;have J:=aj z;have cB:=aj H;refine aG (by kernel_rfl) (by kernel_rfl) ?_;repeat(go_big_quiet_step (fail))
    refine iS ?_;intro wq n;have m:=aN n;clear n L J cB;go_wp2;go_ret;exact⟨aA c.out.symm,ae F (ae G m)⟩
   case' inr.inr=>
    have u3:=bv (show ¬(x.no<=y.no) by omega);have eM:aow key g x->abj (aow key g) Sn.no (l.take (j+1+1)):=λhx=>am9 hn.out U V.out hx t;clear t U
   case' inr.inl=>
    have H:=z;have eM:aow key g x->abj (aow key g) Sn.no (l.take (0+1)):=λhx=>aiz V.out hx
   all_goals
    have HK:=ab eM;clear eM;go_wp2;have L:=aj f1;have J:=aj z;have cB:=aj H;refine aG (by kernel_rfl) (by kernel_rfl) ?_;repeat(go_big_quiet_step (fail))
    refine iS ?_;intro wq n;have m:=aN n;clear n L J cB;replace T:=av T m;replace Z:=T.cell;replace aU:=T.frozen;replace m0:=av m0 m;replace mO:=m0.cell;replace a8:=m0.frozen;have P:=ae G m;have aY:=Z 0;have aP:=Z 1;have aM:=mO 0;have ao:=mO 1;have zq:=m.size;have iC:=(iJ.loc.below a7 P (by omega)).pkl (by omega);have I:=gD.loc.below a4 (ae fR m) (by omega);have O:(bI g).length=g.length:=pe _;have HT:=aep key s.out (bI g) A a x _ lo hi wq (a3.below P) (by omega) iC (by rw[O];exact ha) R.out fN.out I a2.out.2 a2.out.1;rw[O] at HT;replace HT:=ab HT;clear iC I O H;go_wp2;refine HT.out.mono ?_;rintro e w5 ⟨u,rfl, -, -,b5⟩;have a0:=ae P b5;obtain⟨q,v⟩:∃q,q=(dC key (bI g) x.all).isSome:=⟨_,rfl⟩;rw[<-v];replace v:=ab v;clear HT;cases q
    .have f:r=false:=by
      rw[<-lc,Q.out];intro E;have:=(E.1 x (be V.out)).2;rw[<-v.out] at this;cases this
     have c:=ab f;clear f;go_wp2;go_ret;exact⟨aA c.out.symm,ae F a0⟩
    .have M:=HK.out ⟨a6.out,v.out.symm⟩;replace M:=ab M;clear HK;go_wp2;go_roundw
     case rel=>exact⟨_,by omega,by go_num,M.out,a0⟩
     simp[intOf];omega
  .obtain rfl:k=l.length:=by omega
   have N:=hn.out;rw[gt] at N;have f:r=true:=Q.out.2 N;have c:=ab f;clear N hn f;go_wp2;go_ret;exact⟨aA c.out.symm,ae F o⟩
def aox(key:Int)(s:dE)(l:aek pkN s.pk<=100000000)(o:∀x∈s.sn,x.all.length<=1099511627/\∀y∈x.all,y.ns.length<=2147483647)(N T W:Value)(lo hi:Nat)(w:World)(hg:Glo w)(E:hi<=w.heap.size)(I:fh w lo hi s.pk [N])(h:oA w lo hi s N T W)(r:Bool)(t:r=true↔(1<=key/\key<=99)/\aqD key s/\aiB s.lg) :
  Calls (ah true) 8 #[.int .i64 key,.agg #[N,T,W]] w λe w'=>e=.returned (.bool r)/\Below w.heap.size w w':=by
 obtain⟨U,Q,R⟩:=h;obtain⟨A,a,rfl⟩:=cR.form U;obtain⟨B,b,rfl⟩:=cR.form Q;obtain⟨C,c,rfl⟩:=cR.form R;replace t:=ab t;replace o:=ab o;replace l:=ab l;go_enter qF8,ntmps8;go_wp2;generalize z:w.alloc (.cells #[.slice A s.pk.length a,.slice B s.sn.length b,.slice C s.lg.length c] 27)=w0 at *;obtain⟨v,jU,f,D,H⟩:=iB z;clear z;refine(aiC _ _ _ ⟨_,_,_,rfl⟩ ⟨_,_,_,rfl⟩ ⟨_,_,_,rfl⟩ w0).mono ?_;rintro e Z ⟨rfl,O⟩;replace f:=av f O;replace D:=f.cell;replace H:=f.frozen;replace v:=ae v O;go_wp2;by_cases d:1<=key/\key<=99
 case' neg=>
  have n:r=false:=by
   rw[<-lc,t.out];exact λh=>d h.1
  have j:=ab n;clear n;refine(py (β:=true) key _ false (by simp only[jn,ut];exact d)).mono ?_;clear d;rintro e K ⟨rfl,rfl⟩;go_wp2;go_ret;exact⟨aA j.out.symm,ae v (aB _ _)⟩
 replace d:=ab d;refine(py (β:=true) key _ true (by simp only[sQ];exact d.out)).mono ?_;rintro e K ⟨rfl,rfl⟩;go_wp2;generalize z:Z.alloc (.cells #[.slice A s.pk.length a,.slice B s.sn.length b,.slice C s.lg.length c] 53)=K at *;obtain⟨M,a2,J,L,P⟩:=iB z;clear z;replace f:=av f M;replace D:=f.cell;replace H:=f.frozen;have i:=ae v M;have z2:=i.size;clear v M O;by_cases g:aqx key s.pk
 case' neg=>
  have n:r=false:=by
   rw[<-lc,t.out];exact λh=>g h.2.1.1
  have j:=ab n;clear n;refine(af2 (β:=true) key d.out s.pk B C _ b _ c _ K lo hi (fh.aw.below I i E) (by omega) l.out false (by simp[g])).mono ?_;clear g;rintro e S ⟨rfl,u⟩;go_wp2;go_ret;exact⟨aA j.out.symm,ae i u⟩
 have G:=ab g;refine(af2 (β:=true) key d.out s.pk B C _ b _ c _ K lo hi (fh.aw.below I i E) (by omega) l.out true (by simp[g])).mono ?_;clear g;rintro e S ⟨rfl,u⟩;replace f:=av f u;replace D:=f.cell;replace H:=f.frozen;replace J:=av J u;replace L:=J.cell;replace P:=J.frozen;have k:=ae i u;have z3:=k.size;have a1:=L 0;have a0:=L 1;have Y:=L 2;go_wp2;obtain⟨q,F⟩:=jv (aqB key s.pk s.sn);refine(aov key d.out s.pk s.sn C _ c _ _ S lo hi (hg.below k) (iJ.loc.below U k E) (iK.loc.below Q k E) (by omega) (λp I=>(G.out.1.1 p I).2.2.1.1) o.out q F).mono ?_;rintro e X ⟨rfl,V⟩;replace f:=av f V;replace D:=f.cell;replace H:=f.frozen;have m:=ae k V;have z4:=m.size;replace F:=ab F;have f02:=D 2;cases q
 .have n:r=false:=by
   rw[<-lc,t.out];intro h;have:=F.out.2 h.2.1.2;cases this
  have j:=ab n;clear n;go_wp2;go_ret;exact⟨aA j.out.symm,m⟩
 .go_wp2;refine(aiD s.lg _ X lo hi (oB.loc.below R m E) (by omega) r (by
   rw[t.out];exact⟨λh=>h.2.2,λh=>⟨d.out,⟨G.out,F.out.1 (by trivial)⟩,h⟩⟩)).mono ?_
  rintro e w5 ⟨rfl,b5⟩;cases r<;>(go_wp2;go_ret;exact⟨rfl,ae m b5⟩)
def at0{key:Int}{s:dE}{x:Sn}(h:aqD key s)(b:x∈s.sn):(nG key s x.no).isSome=true:=by
 have e:nG key s x.no=match s.sn.find? (λy=>y.no ==x.no) with|some y=>dC key (bI s.pk) y.all|none=>none:=rfl
 rw[e];cases a:s.sn.find? (λy=>y.no ==x.no) with
 |none=>exact absurd (List.find?_eq_none.1 a x b) (by simp)
 |some y=>exact(h.2.1 y (uZ a)).2
end
end Go.Proofs.YtepfjblhjlefiaaGreatDoor
namespace Go.Proofs.YtepfjblhjlefiaaGreatDoor.lawlk
open Go.RowKit
def walk{v:Value}{w:World}(hg:Glo w)(l:List Int)(h:cR jC 1 w 0 w.heap.size l [v])(w':World)(hw:w'=w:=by rfl) :
  Calls (ah true) 3 #[v] w' λe w'=>e=.returned (.bool true)/\Below w.heap.size w w':=by
 subst hw;obtain⟨A,c,rfl⟩:=h.form;have t:l.length<=maxLen:=by obtain⟨_,h1,h2⟩:=h.len_;omega
 unfold maxLen at t;by_cases ay:1048576<l.length
 .go_enter qF3,ntmps3;go_wp2;go_ret;exact⟨rfl,ff _ _⟩
 go_enter qF3,ntmps3;go_wp2;refine(abm A _ c l _ h).mono ?_;rintro e w1 ⟨b,va,vb,vc,no,s,x,rfl,aU,b0,os,n,p,bb⟩;have D:=p.sm n.wf.sm;have V:aiB x.lg:=by rw[p.lg];exact n.wf.okl
 have Y:=p.one n.one;have m:=ab D;have b6:=ab V;have a8:=ab Y;have B:aek pkN x.pk<=100000000:=by have:=aqE x.pk;have:=D.axI;unfold aeq at this;omega
 replace B:=ab B;clear t ay D V n p Y;have s1:=bb.size;obtain⟨A1,a1,B1,b1,C1,c1,rfl,rfl,rfl⟩:=os.form;have b2:=m.out.sl;go_wp2;generalize hG:w1.alloc (.cells #[.slice A1 x.pk.length a1,.slice B1 x.sn.length b1,.slice C1 x.lg.length c1] 27)=w2 at *;obtain⟨N,b3,f,dV,S⟩:=iB hG;clear hG;have q:=os.below N (am _);replace N:=ae bb N;clear os bb;refine(adw b x m.out no _ _ _ _ _ w2 (by omega) q.pk q.l).mono ?_;rintro e w3 ⟨v3,rfl,P,W,O⟩;replace f:=av f O;replace dV:=f.cell;replace S:=f.frozen;have I:=q.below O (by omega);have z3:=O.size;have E:=ae N O;clear q N O;have U:=hg.below E;go_wp2;refine(acV b x m.out a8.out no _ _ _ _ _ w3 U (by omega) I.l).mono ?_;rintro e w4 ⟨v4,rfl,o4,a5,M⟩;replace f:=av f M;replace dV:=f.cell;replace S:=f.frozen;have a3:=I.below M (by omega);replace P:=P.below M;have z4:=M.size;have R:=ae E M;clear I E M U;have X:=acn.sl (aD.deep P W 0) (fa _);have a4:=acn.sl (aD.deep o4 a5 0) (fa _);have a2:=ab X;have Q:=ab a4;obtain⟨A3,c3,rfl⟩:=P.form;obtain⟨A4,c4,rfl⟩:=o4.form;clear X a4 P o4 W a5;go_wp2;refine(aqF _ _ _ _ w4 _ _ _ _ Q.out a2.out (am _) (am _) true (by simp)).mono ?_;rintro e w5 ⟨rfl,H⟩;replace f:=av f H;replace dV:=f.cell;replace S:=f.frozen;have o:=a3.below H (by omega);have z5:=H.size;have J:=ae R H;have a7:=hg.below J;clear a3 R H a2 Q;obtain⟨r,hr⟩:=jv ((1<=b/\b<=99)/\aqD b x/\aiB x.lg);replace hr:=ab hr;go_wp2;refine(aox b x B.out (λy hy=>by
  have:=m.out.sn y hy;exact⟨by omega,λz hz=>by have:=(this.2 z hz).2;omega⟩) _ _ _ _ _ w5 a7 (by omega) o.pk o.l r hr.out).mono ?_
 rintro e w6 ⟨rfl,T⟩;replace f:=av f T;replace dV:=f.cell;replace S:=f.frozen;have ad:=o.below T (by omega);have z6:=T.size;have K:=ae J T;have ax:=hg.below K;clear o J T a7;cases r
 .go_wp2;go_ret;exact⟨rfl,K⟩
 .have a0:=ab (hr.out.1 rfl);clear hr;go_wp2;clear dV S;have ao:=f;clear f;go_loopw [10] (λii wr=>∃i:Nat,i<=x.sn.length/\ii=.int .i64 i/\Below w6.heap.size w6 wr) (λii _=>x.sn.length-(intOf ii).toNat)
  case atStart=>exact⟨0,fa _,rfl,ff _ _⟩
  case round=>
   obtain⟨i,hi,rfl,k⟩:=hrel;have L:=av ao k;have F:=ad.below k (by omega);have a6:=ax.below k;have zr:=k.size;have f0:=L.cell 0;have f1:=L.cell 1;have f2:=L.cell 2;by_cases af:i<x.sn.length
   .obtain⟨y,dI⟩:=aq af;obtain⟨bb,b4,C,d,aa,_,_,b5,Z,aP, -⟩:=acm F.l.sn dI;subst aa;have G:(dt b x y.no).isSome=true:=by
     rw[aqG a0.out.1];exact at0 a0.out.2.1 (be dI)
    replace G:=ab G;clear aP dI;go_wp2;have aJ:=aj f0;have aL:=aj f1;have cB:=aj f2;have jA:=aj Z;refine bB 13 [0,1,2,3,4,5,6,7] [8,9,10,11,12] (h:= ?_);simp only[pick,List.map,pa,pb];repeat(go_big_quiet_step (fail))
    refine iS ?_;clear aJ aL cB jA;apply Exists.intro;apply bN (aqH (dt b x y.no) wr.heap.size)
    .rfl
    .exact λv x y h g=>h.below g
    .intro z j Qx a;replace a:=ab a;clear j;have hz:=z.ok.size;go_wp2;refine((acV b x m.out a8.out y.no _ _ _ _ _ z.to (a6.below z.ok) (by have:=z.ok.size;omega) (F.below z.ok (by omega)).l)).mono ?_;rintro e wy ⟨u,rfl,o5,al,H⟩;go_wp2;exact a.out _ _ H ⟨_,rfl,o5.base (by omega),al⟩
    intro v7;apply bN (aqH (dt b x y.no) wr.heap.size)
    .rfl
    .exact λv x y h g=>h.below g
    .intro z j Qx a;replace a:=ab a;have h7:=j.1 (by kernel_rfl);go_wp2;exact a.out _ _ (ff _ _) h7
    intro v8;apply bN (aqI (dt b x y.no) wr.heap.size)
    .rfl
    .exact λv x y h g=>h.below g
    .intro z j Qx a;replace a:=ab a;obtain⟨u,rfl,h8⟩:=j.1 (by kernel_rfl);go_wp2;exact a.out _ _ (ff _ _) h8
    intro v9;apply kQ (.bool ((dt b x y.no)).isSome)
    .intro z j Qx a;replace a:=ab a;obtain⟨u,rfl,h8⟩:=j.2.1 (by kernel_rfl);go_wp2;exact a.out _ (ff _ _)
    apply bN (aqI (dt b x y.no) wr.heap.size)
    .rfl
    .exact λv x y h g=>h.below g
    .intro z j Qx a;replace a:=ab a;have h9:=j.1 (by kernel_rfl);go_wp2;exact a.out _ _ (ff _ _) h9
    intro aY;refine dD ?_;intro w7 a9 xx kR j;dsimp only[iZ] at j;try rw[kR] at j
    clear kR xx;have an:=j.1;clear j;simp only[List.drop];rw[G.out];have aM:=ae k a9;clear f0 f1 f2 Z F a6 an;go_wp2;go_roundw
    case rel=>exact⟨i+1,by omega,by go_num,aM⟩
    simp[intOf];omega
   .obtain rfl:i=x.sn.length:=by omega
    go_wp2;go_ret;exact⟨rfl,ae K k⟩
end Go.Proofs.YtepfjblhjlefiaaGreatDoor.lawlk