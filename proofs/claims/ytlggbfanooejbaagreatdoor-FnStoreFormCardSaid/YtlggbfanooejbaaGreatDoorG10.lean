/- A part. -/
import Derived.Test.YtlggbfanooejbaaGreatDoorG9
set_option maxRecDepth 100000
set_option maxHeartbeats 8000000
set_option linter.all false
open Go Go.RowKit Go.Proofs.Tryz Go.Proofs.YtlggbfanooejbaaGreatDoor
variable {p:Pk} {s:dJ} {x:Ls} {k:Nat} {key n:Int} {w:World} {a b:List Pk} {l m:List Int}
namespace Go.Proofs.YtlggbfanooejbaaGreatDoor
def vm:=@Decidable.byContradiction
def wh:=@List.Sublist.append
section
open Go.RowKit
def aln (key:Int) (s:dJ) (x:Sn) (j l q p:Value) (lo hi:Nat) (w:World) (n:hi<=w.heap.size) (m:dQ w lo hi s.pk [j]) (h:aaF w lo hi s j l q)
  (k:fB w lo hi x.all [p]) (f:∀y∈x.all,y.ns.length<=2147483647) (g:x.all.length<=1099511627) :
  Calls (ai true) 26 #[.int .i64 key,.agg #[j,l,q],.agg #[.int .i64 x.no,p]] w λe t=>e=.returned (.bool (aeR key (aX s.pk) x.all).isSome)/\Below w.heap.size w t:=by
 obtain⟨A,a,rfl⟩:=cB.form h.pk;obtain⟨B,b,rfl⟩:=cB.form h.sn;obtain⟨C,c,rfl⟩:=cB.form h.lg;obtain⟨D,d,rfl⟩:=k.form;go_enter zL,ntmps26;go_wp2;generalize o:(w.alloc (.cells #[.slice A s.pk.length a,.slice B s.sn.length b,.slice C s.lg.length c] 27)).alloc (.cells #[.int .i64 x.no,.slice D x.all.length d] 35)=w0 at *;obtain⟨i,I,G,F,J,E,H,v⟩:=agc o;clear o;have K:=i.size;have z:=ab (aeS key s.pk x _ _ lo hi w0 (by omega) (dQ.az.below m i n) (fB.loc.below k i n) f g);clear f g k m h;go_wp2;refine z.out.mono ?_;rintro e L ⟨u,rfl, -, -,r⟩;go_wp2;go_ret;exact⟨rfl,ae i r⟩
def adp(key:Int)(pk:List Pk)(x:Sn):Prop:=(1<=x.no/\x.no<=20)/\(aeR key (aX pk) x.all).isSome=true
def agJ(b:1<=key/\key<=99)(a:List Pk)(x:Sn):adp key a x↔ai7 key a x:=by
 unfold adp ai7 aeR;rw[dj b]
def auq  :((1<=key/\key<=99)/\abH key s/\ld s.lg)↔(1<=key/\key<=99)/\ai8 key s.pk/\lO (adp key s.pk) Sn.no s.sn/\ld s.lg:=
 ⟨λ⟨a,⟨b,c⟩,d⟩=>⟨a,b,⟨λx e=>(agJ a _ x).2 (c.1 x e),c.2⟩,d⟩,λ⟨a,b,c,d⟩=>⟨a,⟨b,⟨λx e=>(agJ a _ x).1 (c.1 x e),c.2⟩⟩,d⟩⟩
def ow(key:Int)(s:dJ)(af:mC pkN s.pk<=100000000)(al:∀x∈s.sn,x.all.length<=1099511627/\∀y∈x.all,y.ns.length<=2147483647)(va vb vc:Value)(lo hi:Nat)(w:World)(bE:hi<=w.heap.size)(hp:dQ w lo hi s.pk [va])(h:aaF w lo hi s va vb vc)(r:Bool)(Y:r=true↔(1<=key/\key<=99)/\abH key s/\ld s.lg) :
  Calls (ai true) 7 #[.int .i64 key,.agg #[va,vb,vc]] w λe w'=>e=.returned (.bool r)/\Below w.heap.size w w':=by
 replace Y:=Y.trans auq;obtain⟨A,a,rfl⟩:=cB.form h.pk;obtain⟨B,b,rfl⟩:=cB.form h.sn;obtain⟨C,c,rfl⟩:=cB.form h.lg;have ba:=ab h;obtain⟨h1,h2,h3⟩:=h;obtain⟨-,ha,c4⟩:=cB.len_ h1;obtain⟨-,hb,c1⟩:=cB.len_ h2;unfold maxLen at c4 c1;have b4:∀z∈aL s.pk,bX z:=λz U=>by
  obtain⟨p,bt,U⟩:=ph.1 U;obtain⟨k,hk⟩:=rb.1 bt;obtain⟨_,_,_,_,_,_,_,_,_,_,jL⟩:=lV hp hk;obtain⟨it,aQ,rfl⟩:=mc.1 U;exact((cB.good jL.1) it aQ).1
 replace b4:=ab b4;clear h1 h2 h3;replace Y:=ab Y;replace al:=ab al;replace af:=ab af;go_enter qF7,ntmps7;go_wp2;generalize hG:(w.alloc (.cells #[.slice A s.pk.length a,.slice B s.sn.length b,.slice C s.lg.length c] 27)).alloc (.cells #[] 3)=w0 at *;obtain⟨aP,jh,g,O,fg,k1,oP,bT⟩:=agc hG;clear hG;have o0:aD fp 3 w0 w.heap.size (.slice (some ⟨w.heap.size+1,0,none⟩) 0 0) []:=aD.abJ ⟨_,rfl,by omega,k1⟩;go_loopw [5,6] (λoo i wr=>∃k:Nat,k<=s.pk.length/\i=.int .i64 k/\aD fp 3 wr w.heap.size oo (aL (s.pk.take k))/\cg wr w.heap.size 27 #[.slice A s.pk.length a,.slice B s.sn.length b,.slice C s.lg.length c]/\(∀b,oo.ownBlock=some b->w.heap.size<b)/\(lO (abK key) Pk.no (s.pk.take k)/\(aL (s.pk.take k)).Nodup)/\Below w.heap.size w wr) (λ_ i _=>s.pk.length-(intOf i).toNat)
 case atStart=>exact⟨0,fa _,rfl,o0,g,(by intro b e;cases e;exact vx _),⟨abL,List.nodup_nil⟩,aP⟩
 case round=>
  clear g O fg aP o0 k1 oP bT jh;obtain⟨k,hk,rfl,H,g,f,T,I⟩:=hrel;obtain⟨Ao,co,rfl⟩:=H.form;have HN:=ab T;clear T;have zr:=I.size;have O:=g.cell;by_cases ax:k<s.pk.length
  .obtain⟨p,eP⟩:=ak ax;have b5:=dQ.az.below hp I bE;obtain⟨b1,bk,A5,c5,rfl, -, -,ca,S,oK,jL⟩:=lV b5 eP;have c2:=nC s.pk k;have bj:=aaX (n:=pkN) eP;have bI:=pw (n:=pkN) (l:=s.pk) (j:=k+1);have bn:pkN p=p.its.length:=rfl;have bL:=af.out;rw[bn] at bj;have N:(aL (s.pk.take k)).length+p.its.length<=100000000:=by omega
   have hT:=mD eP;have t:∀(m:Nat) (x:It),p.its[m]?=some x->x.n∈aL (s.pk.take k)++aO (p.its.take m)->r=false:=λm x hx hm=>by
    rw[<-gc,Y.out];exact λJ=>aur eP hx hm J.2.1.2.2
   have a0:∀z∈aL (s.pk.take k)++aO p.its,bX z:=λz U=>b4.out z (by
    rw[<-hT] at U;obtain⟨p',bq,U⟩:=ph.1 U;exact ph.2 ⟨p',oS bq,U⟩)
   replace eP:=ab eP;clear c2 bj bI bn bL;have ao:=HN.out.1;have a5:=HN.out.2;replace ao:=ab ao;clear HN;have H9:=And.intro H (And.intro f (And.intro N (And.intro hT (And.intro t (And.intro a0 a5)))));clear H f N hT t a0 a5;revert H9;generalize aL (s.pk.take k)=L;rintro⟨H,f,N,hT,t,a0,a5⟩;have HLEN:=ab N;have HT:=ab hT;have bO:=ab t;have bw:=ab a0;have bx:=ab a5;clear N hT t a0 a5;obtain⟨q,K⟩:=ed (abK key p);have HQ:=ab K;clear K;have jd:∀x:gh wr,Calls (ai true) 23 #[.int .i64 key,.agg #[.int .i64 p.no,.slice A5 p.its.length c5]] x.to λe w'=>e=.returned (.bool q)/\Below x.to.heap.size x.to w':=λx=>aeT key p _ x.to lo hi (by have:=x.ok.size;omega) (fC.az.below jL x.ok (by omega)) q HQ.out;replace jd:=ab jd;have f0:wr.cell? ⟨w.heap.size,0,none⟩=some (.slice (some ⟨b1,bk,none⟩) s.pk.length a):=O 0;cases q with
   |false=>
    have o:r=false:=by
     rw[<-gc,Y.out];exact λJ=>axX eP.out (λh=>by have:=HQ.out.2 h;cases this) J.2.1.1
    have P:=ab o;clear o;go_wp2;have aG:=ag f0;have aK:=ag S;have bc:=ag oK;refine aB (by kernel_rfl) (by kernel_rfl) ?_;repeat(go_big_quiet_step (first|(go_at_call 23;refine bH (jd.out _))))
    refine gE ?_;intro wq Q;have K:=aN Q;clear Q aG aK bc;go_wp2;go_ret;exact⟨av P.out.symm,ae I K⟩
   |true=>
   have aV:(∃j y,k=j+1/\s.pk[j]?=some y/\¬y.no<p.no)\/k=0\/∃j y,k=j+1/\s.pk[j]?=some y/\y.no<p.no:=by
    rcases nf k with h|h
    .exact .inr (.inl h)
    .obtain⟨j,rfl⟩:∃j,k=j+1:=⟨k-1,by omega⟩;obtain⟨y,hy⟩:=ak (l:=s.pk) (k:=j) (by omega);by_cases hc:y.no<p.no
     .exact .inr (.inr ⟨j,y,rfl,hy,hc⟩)
     .exact .inl ⟨j,y,rfl,hy,hc⟩
   rcases aV with⟨j,y,rfl,X,oQ⟩|rfl|⟨j,y,rfl,X,oQ⟩
   case' inl|inr.inr=>
    have e1:((j+1:Nat):Int)-1=(j:Int):=by omega
    obtain⟨b3,bz,A7,c7,a4, -, -, -,R, -, -⟩:=lV b5 X;simp only[jt,qd,qh] at a4;obtain⟨rfl,rfl⟩:=a4
   case' inl=>
    have u3:=de (show p.no<=y.no by omega);have o:r=false:=by
     rw[<-gc,Y.out];exact λJ=>aej X eP.out oQ J.2.1.1
    have P:=ab o;clear o oQ X;go_wp2;have aG:=ag f0;have aK:=ag S;have bc:=ag oK;have eQ:=ag R;refine aB (by kernel_rfl) (by kernel_rfl) ?_;repeat(go_big_quiet_step (first|(go_at_call 23;refine bH (jd.out _))))
    refine gE ?_;intro wq Q;have K:=aN Q;clear Q aG aK bc eQ;go_wp2;go_ret;exact⟨av P.out.symm,ae I K⟩
   case' inr.inr=>
    have u3:=da (show ¬(p.no<=y.no) by omega);have cK:lO (abK key) Pk.no (s.pk.take (j+1+1)):=aek ao.out X eP.out (HQ.out.1 rfl) oQ;clear oQ X
   case' inr.inl=>
    simp only[sA,rO] at S oK;have R:=S;have cK:lO (abK key) Pk.no (s.pk.take (0+1)):=abM eP.out (HQ.out.1 rfl)
   all_goals
    have HK:=ab cK;clear cK;go_wp2;have aG:=ag f0;have aK:=ag S;have bc:=ag oK;have eQ:=ag R;refine aB (by kernel_rfl) (by kernel_rfl) ?_;repeat(go_big_quiet_step (first|(go_at_call 23;refine bH (jd.out _))))
    refine gE ?_;intro wq Q;have K:=aN Q;clear Q aG aK bc eQ;replace g:=ar g K;replace O:=g.cell;replace fg:=g.frozen;replace H:=H.below K;replace I:=ae I K;clear jd f0 S oK R jL b5 K;go_wp2;go_loopw [5,7] (λoo i wx=>∃m:Nat,m<=p.its.length/\i=.int .i64 m/\aD fp 3 wx w.heap.size oo (L++aO (p.its.take m))/\cg wx w.heap.size 27 #[.slice (some ⟨b1,bk,none⟩) s.pk.length a,.slice B s.sn.length b,.slice C s.lg.length c]/\(∀b,oo.ownBlock=some b->w.heap.size<b)/\(L++aO (p.its.take m)).Nodup/\Below w.heap.size w wx) (λ_ i _=>p.its.length-(intOf i).toNat)
    case atStart=>exact⟨0,fa _,rfl,by rw[show aO (p.its.take 0)=[] from rfl,sM];exact H,g,f,by rw[show aO (p.its.take 0)=[] from rfl,sM];exact bx.out,I⟩
    case round=>
     clear g O fg I H f zr;obtain⟨m,hm,rfl,H,g,f,T,G⟩:=hrel;obtain⟨Ax,cx,rfl⟩:=H.form;have zx:=G.size;have O:=g.cell;have W:=dQ.az.below hp G bE;obtain⟨b2,mV,A6,c6,e6, -, -, -,S,oK,jL⟩:=lV W eP.out;simp only[jt,qd,qh] at e6;obtain⟨rfl,rfl⟩:=e6;try simp only[sA,rO] at oK
     have cb:p.its.length<=100000000:=by have:=HLEN.out;omega
     by_cases c3:m<p.its.length
     .obtain⟨x,dn⟩:=ak c3;obtain⟨b3,bz,rfl, -, -,bp,cn, -⟩:=aaG jL dn;have t:=bO.out m x dn;have b7:∀z∈L++aO (p.its.take m),bX z:=λz U=>bw.out z (by
       rcases io.1 U with U|U
       .exact io.2 (.inl U)
       .obtain⟨it,aQ,rfl⟩:=mc.1 U;exact io.2 (.inr (mc.2 ⟨it,oS aQ,rfl⟩)))
      have a6:=(aq8.2 H).sl b7 (am _);have a3:L++aO (p.its.take (m+1))=(L++aO (p.its.take m))++[x.n]:=by rw[abN dn,rY]
      have a7:(L++aO (p.its.take m)).length<=100000000:=by
       have:=HLEN.out;rw[ap,lW,ff];omega
      clear b7 bp dn;have H9:=And.intro H (And.intro f (And.intro T (And.intro t (And.intro a6 (And.intro a3 a7)))));clear H f T t a6 a3 a7;revert H9;generalize L++aO (p.its.take m)=M;rintro⟨H,f,T,t,a6,a3,a7⟩;have HM:=ab a7;have HST:=ab a3;have HO:=ab H;have bl:=ab a6;clear a7 a3 H a6 W jL;have f0:=O 0;by_cases Z:x.n∈M
      .have o:=t Z;have P:=ab o;clear o t;go_wp2;refine(agK M x.n _ _ _ _ _ _ bl.out).mono ?_;rintro e w5 ⟨rfl,rfl⟩;rw[de Z];clear Z T;go_wp2;go_ret;exact⟨av P.out.symm,G⟩
      .have bo:=ab (alo T Z);clear T t;go_wp2;refine(agK M x.n _ _ _ _ _ _ bl.out).mono ?_;rintro e w5 ⟨rfl,rfl⟩;rw[da Z];clear Z;go_wp2_with(at_builtin;refine bM (F:=fp) (v:=.slice Ax M.length cx) rfl (.tmp 68) (.tmp 79) 31 rfl lj x.n rfl HO.out rfl rfl (by have:=HM.out;omega) G.size ?_;intro v8 w8 o8 b8 b9;obtain⟨A8,c8,rfl⟩:=o8.form;simp only[ap,fi,lP,lm] at o8 b9);go_roundw
       case rel=>exact⟨m+1,by omega,by go_num,by rw[HST.out];exact o8,aY g b8 (λe=>by have:=f _ e;omega),(λb hb=>(b9 b hb).elim (f b) λh=>by have:=g.lt;omega),by rw[HST.out];exact bo.out,G.trans (b8.below G.size λi hi hs=>by have:=(HO.out.at_ hs).1;omega)⟩
       simp[intOf];omega
     .obtain rfl:m=p.its.length:=by omega
      rw[ga] at f;rw[ga,<-HT.out] at H T;have bZ:=ab T;clear T;rw[HT.out] at H;rw[ga];clear W jL;have HO:=ab H;clear H;go_wp2;go_roundw
      case rel=>exact⟨_,by omega,by go_num,by rw[HT.out];exact HO.out,g,f,⟨HK.out,bZ.out⟩,G⟩
      simp[intOf];omega
  .obtain rfl:k=s.pk.length:=by omega
   have a2:=HN.out;rw[ga] at a2;replace a2:=ab a2;clear HN H f;generalize (aL (s.pk.take s.pk.length)).length=nn;go_wp2;go_loopw [8] (λi wx=>∃m:Nat,m<=s.sn.length/\i=.int .i64 m/\lO (adp key s.pk) Sn.no (s.sn.take m)/\cg wx w.heap.size 27 #[.slice A s.pk.length a,.slice B s.sn.length b,.slice C s.lg.length c]/\Below w.heap.size w wx) (λi _=>s.sn.length-(intOf i).toNat)
   case atStart=>exact⟨0,fa _,rfl,abL,g,I⟩
   case round=>
    clear g O I zr;obtain⟨k,hk,rfl,T,g,G⟩:=hrel;have HN:=ab T;clear T;have zx:=G.size;have O:=g.cell;by_cases ax:k<s.sn.length
    .obtain⟨x,dn⟩:=ak ax;have W:=dQ.az.below hp G bE;have V:=ba.out.below G bE;obtain⟨bb,c0,D,d,rfl, -, -,c9,a8,ad,bf⟩:=aeU V.sn dn;have b0:=al.out x (aE dn);have HX:=ab dn;clear dn;obtain⟨q1,E⟩:=ed (1<=x.no/\x.no<=20);obtain⟨q2,u⟩:∃q,q=(aeR key (aX s.pk) x.all).isSome:=⟨_,rfl⟩;have a9:∀y:gh wr,Calls (ai true) 25 #[.int .i64 x.no,.int .i64 1,.int .i64 20] y.to λe w'=>e=.returned (.bool q1)/\Below y.to.heap.size y.to w':=λy=>(aad x.no 1 20 y.to q1 E).mono λe w' ⟨h,hw⟩=>⟨h,by rw[<-hw];exact fm _ _⟩;replace a9:=ab a9;have bi:∀y:gh wr,Calls (ai true) 26 #[.int .i64 key,.agg #[.slice A s.pk.length a,.slice (some ⟨bb,c0,none⟩) s.sn.length b,.slice C s.lg.length c],.agg #[.int .i64 x.no,.slice D x.all.length d]] y.to λe w'=>e=.returned (.bool q2)/\Below y.to.heap.size y.to w':=λy=>by
      rw[u];have:=y.ok.size;exact aln key s x _ _ _ _ lo hi y.to (by omega) (dQ.az.below W y.ok (by omega)) (V.below y.ok (by omega)) (fB.loc.below bf y.ok (by omega)) b0.2 b0.1
     have br:=ab bi;have f0:=O 0;have f1:=O 1;have f2:=O 2;replace E:=ab E;replace u:=ab u;clear bi b0 bf W;cases q1 with
     |false=>
      have o:r=false:=by
       rw[<-gc,Y.out];exact λJ=>by have:=E.out.2 (J.2.2.1.1 x (aE HX.out)).1;cases this
      have P:=ab o;clear o V;go_wp2;have aG:=ag f0;have aK:=ag f1;have bc:=ag f2;have eQ:=ag a8;have a1:=ag ad;refine aB (by kernel_rfl) (by kernel_rfl) ?_;repeat(go_big_quiet_step (first|(go_at_call 25;refine bH (a9.out _))))
      refine gE ?_;intro wq Q;have K:=aN Q;clear Q aG aK bc eQ a1;go_wp2;go_ret;exact⟨av P.out.symm,ae G K⟩
     |true=>
      have aV:(∃j y,k=j+1/\s.sn[j]?=some y/\¬y.no<x.no)\/k=0\/∃j y,k=j+1/\s.sn[j]?=some y/\y.no<x.no:=by
       rcases nf k with h|h
       .exact .inr (.inl h)
       .obtain⟨j,rfl⟩:∃j,k=j+1:=⟨k-1,by omega⟩;obtain⟨y,hy⟩:=ak (l:=s.sn) (k:=j) (by omega);by_cases hc:y.no<x.no
        .exact .inr (.inr ⟨j,y,rfl,hy,hc⟩)
        .exact .inl ⟨j,y,rfl,hy,hc⟩
      rcases aV with⟨j,y,rfl,X,oQ⟩|rfl|⟨j,y,rfl,X,oQ⟩
      case' inl|inr.inr=>
       have e1:((j+1:Nat):Int)-1=(j:Int):=by omega
       obtain⟨b2,mV,D2,d2,a4, -, -, -,R, -, -⟩:=aeU V.sn X;simp only[jt,qd,qh] at a4;obtain⟨rfl,rfl⟩:=a4
      case' inl=>
       have u3:=de (show x.no<=y.no by omega);have o:r=false:=by
        rw[<-gc,Y.out];exact λJ=>aej X HX.out oQ J.2.2.1
       have P:=ab o;clear o oQ X V;go_wp2;have aG:=ag f0;have aK:=ag f1;have bc:=ag f2;have eQ:=ag a8;have a1:=ag ad;have an:=ag R;refine aB (by kernel_rfl) (by kernel_rfl) ?_;repeat(go_big_quiet_step (first|(go_at_call 25;refine bH (a9.out _))))
       refine gE ?_;intro wq Q;have K:=aN Q;clear Q aG aK bc eQ a1 an;go_wp2;go_ret;exact⟨av P.out.symm,ae G K⟩
      case' inr.inr=>
       have u3:=da (show ¬(x.no<=y.no) by omega);have cK:adp key s.pk x->lO (adp key s.pk) Sn.no (s.sn.take (j+1+1)):=λhx=>aek HN.out X HX.out hx oQ;clear oQ X
      case' inr.inl=>
       simp only[sA,rO] at a8 ad;have R:=a8;have cK:adp key s.pk x->lO (adp key s.pk) Sn.no (s.sn.take (0+1)):=λhx=>abM HX.out hx
      all_goals
       have HK:=ab cK;clear cK V;go_wp2;have aG:=ag f0;have aK:=ag f1;have bc:=ag f2;have eQ:=ag a8;have a1:=ag ad;have an:=ag R;refine aB (by kernel_rfl) (by kernel_rfl) ?_;repeat(go_big_quiet_step (first|(go_at_call 25;refine bH (a9.out _))|(go_at_call 26;refine bH (br.out _))))
       refine gE ?_;intro wq Q;have K:=aN Q;clear Q aG aK bc eQ a1 an;replace g:=ar g K;replace O:=g.cell;replace fg:=g.frozen;replace G:=ae G K;cases q2
       .have o:r=false:=by
         rw[<-gc,Y.out];exact λJ=>by have:=(J.2.2.1.1 x (aE HX.out)).2;rw[<-u.out] at this;cases this
        have P:=ab o;clear o;go_wp2;go_ret;exact⟨av P.out.symm,G⟩
       .have ay:=HK.out ⟨E.out.1 (by trivial),u.out.symm⟩;replace ay:=ab ay;clear HK;go_wp2;go_roundw
        case rel=>exact⟨_,by omega,by go_num,ay.out,g,G⟩
        simp[intOf];omega
    .obtain rfl:k=s.sn.length:=by omega
     have aa:=HN.out;rw[ga] at aa;replace aa:=ab aa;clear HN;obtain⟨q1,E⟩:=ed (1<=key/\key<=99);replace E:=ab E;have f0:=O 0;have f2:=O 2;go_wp2;refine(kS (β:=true) key _ q1 E.out).mono ?_;rintro e w5 ⟨rfl,rfl⟩;cases q1
     .have o:r=false:=by
       rw[<-gc,Y.out];exact λJ=>by have:=E.out.2 J.1;cases this
      have P:=ab o;clear o;go_wp2;go_ret;exact⟨av P.out.symm,G⟩
     .obtain⟨q2,u⟩:=ed (ld s.lg);replace u:=ab u;have bS:=ab (ba.out.below G bE).lg;go_wp2;refine(agf s.lg _ _ lo hi bS.out (by omega) q2 u.out).mono ?_;rintro e w6 ⟨rfl,b6⟩;replace g:=ar g b6;replace O:=g.cell;replace fg:=g.frozen;replace G:=ae G b6;clear f0 f2;have f0:=O 0;cases q2
      .have o:r=false:=by
        rw[<-gc,Y.out];exact λJ=>by have:=u.out.2 J.2.2.2;cases this
       have P:=ab o;clear o;go_wp2;go_ret;exact⟨av P.out.symm,G⟩
      .have o:r=decide ((s.pk.length:Int)<=20):=by
        rw[qc,Y.out,decide_eq_true_iff];exact⟨λJ=>by have:=J.2.1.2.1;omega,λJ=>⟨E.out.1 (by trivial),⟨a2.out.1,by omega,a2.out.2⟩,aa.out,u.out.1 (by trivial)⟩⟩
       have P:=ab o;clear o;go_wp2;go_ret;exact⟨av P.out.symm,G⟩
end
section
variable {β:Bool}
open Go.RowKit
def agL(key:Int)(m:1<=key/\key<=99)(l:List Pk)(B C:Option Addr)(nb b nc c':Nat)(v:Value)(w:World)(lo hi:Nat)(h:dQ w lo hi l [v])(bE:hi<=w.heap.size)(hl:mC pkN l<=100000000)(r:Bool)(X:r=true↔ai8 key l) :
  Calls (ai β) 20 #[.agg #[v,.slice B nb b,.slice C nc c'],.int .i64 key] w λe w'=>e=.returned (.bool r)/\Below w.heap.size w w':=by
 replace X:=ab X;obtain⟨A,c,rfl⟩:=h.form;obtain⟨_,hc,hx⟩:=h.len_;unfold maxLen at hx;go_enter zP,ntmps20;go_wp2;generalize hG:w.alloc (.cells #[.slice A l.length c,.slice B nb b,.slice C nc c'] 58)=w0 at *;obtain⟨R,jh,k0,dv,fg⟩:=gU hG;clear hG;have h0:=dQ.az.below h R bE;have z0:=R.size;go_loopw [11] (λi wr=>∃k:Nat,k<=l.length/\i=.int .i64 k/\lO (abK key) Pk.no (l.take k)/\Below w0.heap.size w0 wr) (λi _=>l.length-(intOf i).toNat)
 case atStart=>exact⟨0,fa _,rfl,abL,fm _ _⟩
 case round=>
  obtain⟨k,hk,rfl,hn,d⟩:=hrel;have HN:=ab hn;clear hn;have E:=ar k0 d;clear k0 dv fg;have zr:=d.size;by_cases a7:k<l.length
  .obtain⟨p,P⟩:=ak a7;have Q:=dQ.az.below h0 d (by omega);obtain⟨b1,ax,A5,c5,rfl, -, -,aP,a5,oK,jL⟩:=lV Q P;replace P:=ab P;have HH:=ab bE;obtain⟨q,o⟩:=ed (abK key p);have HQ:=ab o;clear o;go_wp2;generalize hG:wr.alloc (.cells #[.int .i64 p.no,.slice A5 p.its.length c5] 40)=wa at *;obtain⟨V,af,m0,jM,al⟩:=gU hG;clear hG;have ha:=dQ.az.below Q V (by omega);have HI:=ab (fC.az.below jL V (by omega));have ka:=ar E V;have u:=ae d V;have za:=V.size;have J:Hid (hi<=wa.heap.size):=ab (by omega);have W:=ka.cell 0;have H:=jM 0;have F:=jM 1;clear E jL a5 oK Q V;cases q with
   |false=>
    have K:r=false:=by
     rw[<-gc,X.out];intro hp;have:=HQ.out.2 (hp.1.1 p (aE P.out));cases this
    have lN:=ab K;clear K;go_wp2;have G:=ag W;have N:=ag H;have L:=ag F;refine aB (by kernel_rfl) (by kernel_rfl) ?_;repeat(go_big_quiet_step (first|(go_at_call 41;refine bH (abQ (β:=β) key m p _ _ lo hi (db J.out (gh.ok _).size) (fC.az.below HI.out (gh.ok _) J.out) _ HQ.out))))
    refine gE ?_;intro wq n;have o:=aN n;clear n G N L;go_wp2;go_ret;exact⟨av lN.out.symm,ae R (ae u o)⟩
   |true=>
    have t:=HQ.out.1 rfl;have g:=ab t;clear t;rcases nf k with a3|a3
    .subst a3;have cK:=abM (f:=Pk.no) P.out g.out;have HK:=ab cK;clear cK;go_wp2;have G:=ag W;have N:=ag H;have L:=ag F;refine aB (by kernel_rfl) (by kernel_rfl) ?_;repeat(go_big_quiet_step (first|(go_at_call 41;refine bH (abQ (β:=β) key m p _ _ lo hi (db J.out (gh.ok _).size) (fC.az.below HI.out (gh.ok _) J.out) true ⟨λ_=>g.out,λ_=>rfl⟩))))
     refine gE ?_;intro wq n;have o:=aN n;clear n G N L;go_wp2;go_roundw
     case rel=>first|exact⟨1,by omega,by go_num,HK.out,ae u o⟩|((repeat apply Exists.intro);refine⟨?_,rfl⟩;exact⟨1,by omega,by go_num,HK.out,ae u o⟩)
     simp[intOf];omega
    .obtain⟨j,rfl⟩:∃j,k=j+1:=⟨k-1,by omega⟩;have e1:((j+1:Nat):Int)-1=(j:Int):=by omega
     obtain⟨y,dM⟩:=ak (l:=l) (k:=j) (by omega);obtain⟨b2,mV,A7,c7,a1, -, -,ay,a4, -, -⟩:=lV ha dM;simp only[jt,qd,qh] at a1;obtain⟨rfl,rfl⟩:=a1;replace dM:=ab dM;by_cases oQ:y.no<p.no
     .have u1:=da (show ¬(p.no<=y.no) by omega);have cK:=aek HN.out dM.out P.out g.out oQ;have HK:=ab cK;clear cK oQ;go_wp2;have G:=ag W;have N:=ag H;have L:=ag F;have eQ:=ag a4;refine aB (by kernel_rfl) (by kernel_rfl) ?_;repeat(go_big_quiet_step (first|(go_at_call 41;refine bH (abQ (β:=β) key m p _ _ lo hi (db J.out (gh.ok _).size) (fC.az.below HI.out (gh.ok _) J.out) true ⟨λ_=>g.out,λ_=>rfl⟩))))
      refine gE ?_;intro wq n;have o:=aN n;clear n G N L eQ;go_wp2;go_roundw
      case rel=>first|exact⟨j+1+1,by omega,by go_num,HK.out,ae u o⟩|((repeat apply Exists.intro);refine⟨?_,rfl⟩;exact⟨j+1+1,by omega,by go_num,HK.out,ae u o⟩)
      simp[intOf];omega
     .have u1:=de (show p.no<=y.no by omega);have K:r=false:=by
       rw[<-gc,X.out];exact λhp=>aej dM.out P.out oQ hp.1
      have lN:=ab K;clear K oQ;go_wp2;have G:=ag W;have N:=ag H;have L:=ag F;have eQ:=ag a4;refine aB (by kernel_rfl) (by kernel_rfl) ?_;repeat(go_big_quiet_step (first|(go_at_call 41;refine bH (abQ (β:=β) key m p _ _ lo hi (db J.out (gh.ok _).size) (fC.az.below HI.out (gh.ok _) J.out) true ⟨λ_=>g.out,λ_=>rfl⟩))))
      refine gE ?_;intro wq n;have o:=aN n;clear n G N L eQ;go_wp2;go_ret;exact⟨av lN.out.symm,ae R (ae u o)⟩
  .obtain rfl:k=l.length:=by omega
   have t:=HN.out;rw[ga] at t;have g:=ab t;clear t HN;have W:=E.cell 0;have Q:=dQ.az.below h0 d (by omega);go_wp2;refine(oA l _ _ lo hi (by omega) Q hl).mono ?_;rintro e w1 ⟨v1,rfl,o1,b1⟩;have hn:(aL l).length=mC pkN l:=by
    have:=nC l l.length;rw[ga,agM] at this;exact this
   go_wp2;refine(aja o1 (by omega)).mono ?_;rintro e w2 ⟨rfl,o2,a2⟩;have hS:∀b,v1.ownBlock=some b->wr.heap.size<=b:=λb hb=>(o1.at_ hb).1;have D:Below wr.heap.size wr w2:=b1.trans (a2.below b1.size λi hi e=>by have:=hS i e;omega);have z2:=D.size;have k2:=ar E D;have h2:=dQ.az.below Q D (by omega);have f2:=k2.cell 0;obtain⟨A2,c2,rfl⟩:=o2.form;have a8:=ji (aL l);have kh:=uE (gQ (aL l));have a0:=ae R (ae d D);have HC:=ab (ahQ (l:=aL l));have ad:Hid ((gQ (aL l)).length<=9223372036854775807):=ab (by omega);have a9:=ab o2;have aa:Hid ((aL l).length<=100000000):=ab (by omega);clear E W Q o1 b1 a2 o2 hn R d D h0 h k2;obtain⟨M,hM⟩:∃M,M=Lib.compact (gQ (aL l)):=⟨_,rfl⟩;rw[<-hM] at HC kh;replace hM:=ab hM;have an:Hid (M.length<=100000000):=ab (by have:=aa.out;omega);clear a8 kh;by_cases z:(l.length:Int)<=20
   case' neg=>
    have u1:decide ((l.length:Int)<=20)=false:=da z;have K:r=false:=by
     rw[<-gc,X.out];exact λhp=>z (by have:=hp.2.1;omega)
    have lN:=ab K;clear K z;go_wp2;have G:=ag f2;refine aB (by kernel_rfl) (by kernel_rfl) ?_;repeat(go_big_quiet_step (fail))
    refine gE ?_;intro wq n;have o:=aN n;clear n G;go_wp2;go_ret;exact⟨av lN.out.symm,ae a0 o⟩
   have u1:decide ((l.length:Int)<=20)=true:=de z;have u2:((M.length:Int) ==((aL l).length:Int))=r:=by
    have h3:r=true↔M.length=(aL l).length:=by
     rw[X.out,HC.out];exact⟨λh=>h.2.2,λh=>⟨g.out,by omega,h⟩⟩
    rw[qc,h3,mt];omega
   clear z;have U2:=ab u2;clear u2;go_wp2;have aK:=ir (s:=6) (ty:=3) (S:=λb=>(Value.slice A2 (gQ (aL l)).length c2).ownBlock=some b) (pre:=[]) f2 (λe=>by have:=hS _ e;dsimp only at this;omega);refine lq 6 3 (λb=>(Value.slice A2 (gQ (aL l)).length c2).ownBlock=some b) [] 15 [0,1,2,3,4,5,8,9] [6,7,10,11,12,13,14] (by kernel_rfl) (by kernel_rfl) (by kernel_rfl) ?_;simp only[pick,List.map,mx,mT];repeat(go_big_quiet_step (fail))
   refine gE ?_;apply Exists.intro;apply aeV (λv x=>x.done=true/\aD fp 3 x.to wr.heap.size v M)
   .rfl
   .rfl
   .exact λj hj=>(by cases hj)
   .exact λv x y ⟨hd,ho⟩ hle=>⟨(hle.from_ hd).1,ho.below (hle.from_ hd).2⟩
   .intro x _ Z U a;replace a:=ab a;have Y:=x.till Z;have ox:=a9.out.below Y;go_wp2;refine(adq ox ad.out).mono ?_;rintro e wy ⟨v5,rfl,I,c5⟩;rw[<-hM.out] at I;go_wp2;exact a.out _ _ (c5.mono λb hb e=>.inl e) ⟨rfl,I⟩
   intro aG;simp only[Act.put,be,dk,dl];apply aeW (.int .i64 M.length)
   .intro x O _ U a;replace a:=ab a;obtain⟨Z,I⟩:=O.1 (by kernel_rfl);obtain⟨A5,c5,rfl⟩:=I.form;go_wp2;exact a.out _ (fm _ _)
   simp only[Act.put,be,dk,dl];apply py (λv x=>x.done=true/\aD fp 3 x.to wr.heap.size v (aL l))
   .rfl
   .exact λv x y ⟨hd,ho⟩ hle=>⟨(hle.from_ hd).1,ho.below (hle.from_ hd).2⟩
   .intro x O _ U a;replace a:=ab a;obtain⟨Z, -⟩:=O.1 (by kernel_rfl);have Y:Below wr.heap.size w2 x.to:=(x.ok.mono (T:=λb=>(Value.slice A2 (gQ (aL l)).length c2).ownBlock=some b) λb _ h=>h.2).below z2 λi hi e=>by have:=hS i e;omega
    have h3:=dQ.az.below h2 Y (by omega);have zx:=x.ok.size;go_wp2;refine(oA l _ _ lo hi (by omega) h3 hl).mono ?_;rintro e wy ⟨v5,rfl,I,b5⟩;go_wp2;exact a.out _ _ b5 ⟨Z,I.base (by omega)⟩
   intro ao;simp only[Act.put,be,dk,dl];apply aeW (.int .i64 (aL l).length)
   .intro x O _ U a;replace a:=ab a;obtain⟨Z,I⟩:=O.1 (by kernel_rfl);obtain⟨A5,c5,rfl⟩:=I.form;go_wp2;exact a.out _ (fm _ _)
   simp only[Act.put,be,dk,dl];apply aeW (.bool r)
   .intro x _ _ U a;replace a:=ab a;have u2:=U2.out;go_wp2;exact a.out _ (fm _ _)
   simp only[Act.put,be,dk,dl];apply aeW (.bool r)
   .intro x _ _ U a;replace a:=ab a;go_wp2;exact a.out _ (fm _ _)
   simp only[Act.put,be,dk,dl];apply aeW (.bool r)
   .intro x _ _ U a;replace a:=ab a;go_wp2;exact a.out _ (fm _ _)
   simp only[Act.put,be,dk,dl];refine aeX λx O=> ?_;have Y:Below wr.heap.size w2 x.to:=(x.ok.mono (T:=λb=>(Value.slice A2 (gQ (aL l)).length c2).ownBlock=some b) λb _ h=>h.2).below z2 λi hi e=>by have:=hS i e;omega
   have a6:=a0.trans (Y.mono (by omega));clear O Y;simp only[List.drop];go_wp2;go_ret;exact⟨rfl,a6⟩
end
section
open Go.RowKit
def ao7(key:Int)(n:1<=key/\key<=99)(f:List Pk)(l:List Sn)(C:Option Addr)(nc c':Nat)(v1 v2:Value)(w:World)(lo hi:Nat)(hg:Glo w)(h1:kF w lo hi f [v1])(h2:lX w lo hi l [v2])(bE:hi<=w.heap.size)(Y:∀p∈f,1<=p.its.length)(I:∀x∈l,x.all.length<=1099511627/\∀y∈x.all,y.ns.length<=2147483647)(r:Bool)(P:r=true↔ara key f l) :
  Calls (ai true) 21 #[.agg #[v1,v2,.slice C nc c'],.int .i64 key] w λe w'=>e=.returned (.bool r)/\Below w.heap.size w w':=by
 replace P:=ab P;replace n:=ab n;replace I:=ab I;obtain⟨A,a,rfl⟩:=cB.form h1;obtain⟨B,b,rfl⟩:=cB.form h2;have iu:∀p∈aX f,1<=p.2.length/\bX p.1:=λp v=>⟨by
  obtain⟨q,g,rfl⟩:=mc.1 v;have:=Y q g;unfold pkd;simpa using this,h1.ao9 p v⟩
 obtain⟨-,ha,Q⟩:=cB.len_ h1;obtain⟨-,hb,ad⟩:=cB.len_ h2;replace Q:=ab Q;replace iu:=ab iu;clear Y;unfold maxLen at ad;go_enter zO,ntmps21;go_wp2;generalize V:w.alloc (.cells #[.slice A f.length a,.slice B l.length b,.slice C nc c'] 58)=w0 at *;obtain⟨z,jh,k0,dv,fg⟩:=gU V;clear V;have a7:=kF.loc.below h1 z bE;have a9:=lX.loc.below h2 z bE;have a3:=hg.below z;have z0:=z.size;clear h1 h2 hg;go_loopw [12] (λi wr=>∃k:Nat,k<=l.length/\i=.int .i64 k/\lO (ai7 key f) Sn.no (l.take k)/\Below w0.heap.size w0 wr) (λi _=>l.length-(intOf i).toNat)
 case atStart=>exact⟨0,fa _,rfl,abL,fm _ _⟩
 case round=>
  obtain⟨k,hk,rfl,hn,m⟩:=hrel;replace hn:=ab hn;have a1:=ar k0 m;clear k0 dv fg;have zr:=m.size;by_cases a5:k<l.length
  .obtain⟨x,dn⟩:=ak a5;have R:=lX.loc.below a9 m (by omega);obtain⟨bb,aG,D,d,rfl,_,_,aK,af,al,a4⟩:=aeU R dn;have U:=ab dn;have a2:=ab (I.out x (aE dn));clear dn;go_wp2;generalize V:wr.alloc (.cells #[.int .i64 x.no,.slice D x.all.length d] 35)=wa at *;obtain⟨fD,ax,m0,jM,a8⟩:=gU V;clear V;have an:=lX.loc.below R fD (by omega);have S:=ar a1 fD;have F:=ae m fD;have za:=fD.size;have f0:=S.cell 0;have f1:=S.cell 1;have t:=jM 0;have ay:=jM 1;clear a1 af al R;by_cases g1:1<=x.no
   case' neg=>
    have u1:=de (show x.no<1 by omega);have c:r=false:=by
     rw[<-gc,P.out];exact λv=>g1 (v.1 x (aE U.out)).1.1
    have E:=ab c;clear c g1;go_wp2;have N:=ag f1;have J:=ag t;refine aB (by kernel_rfl) (by kernel_rfl) ?_;repeat(go_big_quiet_step (fail))
    refine gE ?_;intro wq s;have g:=aN s;clear s N J;go_wp2;go_ret;exact⟨av E.out.symm,ae z (ae F g)⟩
   have u1:=da (show ¬(x.no<1) by omega);by_cases g2:x.no<=20
   case' neg=>
    have u2:=de (show 20<x.no by omega);have c:r=false:=by
     rw[<-gc,P.out];exact λv=>g2 (v.1 x (aE U.out)).1.2
    have E:=ab c;clear c g1 g2;go_wp2;have N:=ag f1;have J:=ag t;refine aB (by kernel_rfl) (by kernel_rfl) ?_;repeat(go_big_quiet_step (fail))
    refine gE ?_;intro wq s;have g:=aN s;clear s N J;go_wp2;go_ret;exact⟨av E.out.symm,ae z (ae F g)⟩
   have u2:=da (show ¬(20<x.no) by omega);have a6:=ab (And.intro g1 g2);clear g1 g2;have aa:(∃j y,k=j+1/\l[j]?=some y/\¬y.no<x.no)\/k=0\/∃j y,k=j+1/\l[j]?=some y/\y.no<x.no:=by
    rcases nf k with h|h
    .exact .inr (.inl h)
    .obtain⟨j,rfl⟩:∃j,k=j+1:=⟨k-1,by omega⟩;obtain⟨y,hy⟩:=ak (l:=l) (k:=j) (by omega);by_cases hc:y.no<x.no
     .exact .inr (.inr ⟨j,y,rfl,hy,hc⟩)
     .exact .inl ⟨j,y,rfl,hy,hc⟩
   rcases aa with⟨j,y,rfl,T,Z⟩|rfl|⟨j,y,rfl,T,Z⟩
   case' inl|inr.inr=>
    have e1:((j+1:Nat):Int)-1=(j:Int):=by omega
    obtain⟨b2,mV,D2,d2,W, -, -, -,G, -, -⟩:=aeU an T;simp only[jt,qd,qh] at W;obtain⟨rfl,rfl⟩:=W
   case' inl=>
    have u3:=de (show x.no<=y.no by omega);have c:r=false:=by
     rw[<-gc,P.out];exact λv=>aej T U.out Z v
    have E:=ab c;clear c Z T;go_wp2;have N:=ag f1;have J:=ag t;have bc:=ag G;refine aB (by kernel_rfl) (by kernel_rfl) ?_;repeat(go_big_quiet_step (fail))
    refine gE ?_;intro wq s;have g:=aN s;clear s N J bc;go_wp2;go_ret;exact⟨av E.out.symm,ae z (ae F g)⟩
   case' inr.inr=>
    have u3:=da (show ¬(x.no<=y.no) by omega);have cK:ai7 key f x->lO (ai7 key f) Sn.no (l.take (j+1+1)):=λhx=>aek hn.out T U.out hx Z;clear Z T
   case' inr.inl=>
    have G:=t;have cK:ai7 key f x->lO (ai7 key f) Sn.no (l.take (0+1)):=λhx=>abM U.out hx
   all_goals
    have HK:=ab cK;clear cK;go_wp2;have N:=ag f1;have J:=ag t;have bc:=ag G;refine aB (by kernel_rfl) (by kernel_rfl) ?_;repeat(go_big_quiet_step (fail))
    refine gE ?_;intro wq s;have g:=aN s;clear s N J bc;replace S:=ar S g;replace X:=S.cell;replace aV:=S.frozen;replace m0:=ar m0 g;replace jM:=m0.cell;replace a8:=m0.frozen;have O:=ae F g;have b0:=X 0;have aQ:=X 1;have aP:=jM 0;have ao:=jM 1;have zq:=g.size;have eP:=(kF.loc.below a7 O (by omega)).pkl (by omega);have H:=fB.loc.below a4 (ae fD g) (by omega);have M:(aX f).length=f.length:=pZ _;have HT:=alp key n.out (aX f) A a x _ lo hi wq (a3.below O) (by omega) eP (by rw[M];exact ha) Q.out iu.out H a2.out.2 a2.out.1;rw[M] at HT;replace HT:=ab HT;clear eP H M G;go_wp2;refine HT.out.mono ?_;rintro e w5 ⟨u,rfl, -, -,b5⟩;have a0:=ae O b5;obtain⟨q,o⟩:∃q,q=(dx key (aX f) x.all).isSome:=⟨_,rfl⟩;rw[<-o];replace o:=ab o;clear HT;cases q
    .have c:r=false:=by
      rw[<-gc,P.out];intro v;have:=(v.1 x (aE U.out)).2;rw[<-o.out] at this;cases this
     have E:=ab c;clear c;go_wp2;go_ret;exact⟨av E.out.symm,ae z a0⟩
    .have K:=HK.out ⟨a6.out,o.out.symm⟩;replace K:=ab K;clear HK;go_wp2;go_roundw
     case rel=>exact⟨_,by omega,by go_num,K.out,a0⟩
     simp[intOf];omega
  .obtain rfl:k=l.length:=by omega
   have L:=hn.out;rw[ga] at L;have c:r=true:=P.out.2 L;have E:=ab c;clear L hn c;go_wp2;go_ret;exact⟨av E.out.symm,ae z m⟩
def acP(key:Int)(s:dJ)(k:mC pkN s.pk<=100000000)(n:∀x∈s.sn,x.all.length<=1099511627/\∀y∈x.all,y.ns.length<=2147483647)(M T W:Value)(lo hi:Nat)(w:World)(hg:Glo w)(z:hi<=w.heap.size)(J:dQ w lo hi s.pk [M])(h:aaF w lo hi s M T W)(r:Bool)(o:r=true↔(1<=key/\key<=99)/\abH key s/\ld s.lg) :
  Calls (ai true) 6 #[.int .i64 key,.agg #[M,T,W]] w λe w'=>e=.returned (.bool r)/\Below w.heap.size w w':=by
 obtain⟨U,Q,R⟩:=h;obtain⟨A,a,rfl⟩:=cB.form U;obtain⟨B,b,rfl⟩:=cB.form Q;obtain⟨C,c,rfl⟩:=cB.form R;replace o:=ab o;replace n:=ab n;replace k:=ab k;go_enter qF6,ntmps6;go_wp2;generalize D:w.alloc (.cells #[.slice A s.pk.length a,.slice B s.sn.length b,.slice C s.lg.length c] 27)=w0 at *;obtain⟨u,jh,f,t,H⟩:=gU D;clear D;refine(ajb _ _ _ ⟨_,_,_,rfl⟩ ⟨_,_,_,rfl⟩ ⟨_,_,_,rfl⟩ w0).mono ?_;rintro e w1 ⟨rfl,N⟩;replace f:=ar f N;replace t:=f.cell;replace H:=f.frozen;replace u:=ae u N;go_wp2;by_cases d:1<=key/\key<=99
 case' neg=>
  have m:r=false:=by
   rw[<-gc,o.out];exact λh=>d h.1
  have E:=ab m;clear m;refine(abR (β:=true) key _ false (by simp only[jp,uC];exact d)).mono ?_;clear d;rintro e L ⟨rfl,rfl⟩;go_wp2;go_ret;exact⟨av E.out.symm,ae u (aC _ _)⟩
 replace d:=ab d;refine(abR (β:=true) key _ true (by simp only[sO];exact d.out)).mono ?_;rintro e L ⟨rfl,rfl⟩;go_wp2;generalize D:w1.alloc (.cells #[.slice A s.pk.length a,.slice B s.sn.length b,.slice C s.lg.length c] 58)=L at *;obtain⟨P,Y,K,I,O⟩:=gU D;clear D;replace f:=ar f P;replace t:=f.cell;replace H:=f.frozen;have i:=ae u P;have z2:=i.size;clear u P N;by_cases g:ai8 key s.pk
 case' neg=>
  have m:r=false:=by
   rw[<-gc,o.out];exact λh=>g h.2.1.1
  have E:=ab m;clear m;refine(agL (β:=true) key d.out s.pk B C _ b _ c _ L lo hi (dQ.az.below J i z) (by omega) k.out false (by simp[g])).mono ?_;clear g;rintro e S ⟨rfl,v⟩;go_wp2;go_ret;exact⟨av E.out.symm,ae i v⟩
 have G:=ab g;refine(agL (β:=true) key d.out s.pk B C _ b _ c _ L lo hi (dQ.az.below J i z) (by omega) k.out true (by simp[g])).mono ?_;clear g;rintro e S ⟨rfl,v⟩;replace f:=ar f v;replace t:=f.cell;replace H:=f.frozen;replace K:=ar K v;replace I:=K.cell;replace O:=K.frozen;have j:=ae i v;have z3:=j.size;have a1:=I 0;have a0:=I 1;have Z:=I 2;go_wp2;obtain⟨q,F⟩:=ed (ara key s.pk s.sn);refine(ao7 key d.out s.pk s.sn C _ c _ _ S lo hi (hg.below j) (kF.loc.below U j z) (lX.loc.below Q j z) (by omega) (λp J=>(G.out.1.1 p J).2.2.1.1) n.out q F).mono ?_;rintro e X ⟨rfl,V⟩;replace f:=ar f V;replace t:=f.cell;replace H:=f.frozen;have l:=ae j V;have z4:=l.size;replace F:=ab F;have f02:=t 2;cases q
 .have m:r=false:=by
   rw[<-gc,o.out];intro h;have:=F.out.2 h.2.1.2;cases this
  have E:=ab m;clear m;go_wp2;go_ret;exact⟨av E.out.symm,l⟩
 .go_wp2;refine(ajc s.lg _ X lo hi (mW.loc.below R l z) (by omega) r (by
   rw[o.out];exact⟨λh=>h.2.2,λh=>⟨d.out,⟨G.out,F.out.1 (by trivial)⟩,h⟩⟩)).mono ?_
  rintro e w5 ⟨rfl,b5⟩;cases r<;>(go_wp2;go_ret;exact⟨rfl,ae l b5⟩)
def ajd{nm : Int}(h:nm∉aO p.its):(eh key (pkd p).2 nm).2=false:=by
 have e:eh key (pkd p).2 nm=(⟨#[]⟩,false):=acQ (nD λy a e=>h (by
  obtain⟨x,b,rfl⟩:=mc.1 a;exact mc.2 ⟨x,b,e⟩))
 rw[e]
def aeY{key nm:Int}:∀{a b:List ig},bB key (a++b) nm=if(bB key a nm).2=true then bB key a nm else bB key b nm
 |[],b=>by rw[bv (by intro h;cases h)];rfl
 |p::a,b=>by
  have e:∀l,bB key (p::l) nm=if(eh key p.2 nm).2=true then((eh key p.2 nm).1,true) else bB key l nm:=λ_=>rfl
  rw[qR,e,e,aeY];by_cases h:(eh key p.2 nm).2=true
  .simp only[dj h,pr]
  .simp only[bv h]
def apa{nm : Int}(h:nm∉aO p.its):bB key (aX (a++b)) nm=bB key (aX (a++p::b)) nm:=by
 unfold aX;rw[qs,qs,qK,aeY,aeY];have e:bB key (pkd p::b.map pkd) nm=bB key (b.map pkd) nm:=by
  show(if(eh key (pkd p).2 nm).2=true then _ else _)=_;rw[ajd h];rfl
 rw[e]
def nE(a b:List Pk):aL (a++b)=aL a++aL b:=qC
def abS{l:List Pk} :n∈aL l↔∃p∈l,n∈aO p.its:=ph
def apb{nm : Int}(d:(aL (a++p::b)).Nodup)(h:nm∈aO p.its):(bB key (aX (a++b)) nm).2=false:=by
 rw[<-gc,lr];rintro⟨q,k,f⟩;obtain⟨x,c,rfl⟩:=mc.1 k;have g:nm∈aO x.its:=by
  refine vm λm=> ?_;rw[ajd m] at f;cases f
 have e:aL (a++p::b)=aL a++(aO p.its++aL b):=by rw[nE];rfl
 rw[e,qY] at d;obtain⟨-,i,j⟩:=d;obtain⟨-, -,l⟩:=qY.1 i;rcases io.1 c with c|c
 .exact j nm (abS.2 ⟨x,c,g⟩) nm (rJ _ h) rfl
 .exact l nm h nm (abS.2 ⟨x,c,g⟩) rfl
def alq(h:∀n∈x.ns,n∉aO p.its):et key (aX (a++b)) x=et key (aX (a++p::b)) x:=by
 have e:∀n∈x.ns,bB key (aX (a++b)) n=bB key (aX (a++p::b)) n:=λn c=>apa (h n c);have d:agh key (aX (a++b)) x.ns=agh key (aX (a++p::b)) x.ns:=propext ⟨λg n c=>by rw[<-e n c];exact g n c,λg n c=>by rw[e n c];exact g n c⟩;have f:fO key (aX (a++b)) x.ns=fO key (aX (a++p::b)) x.ns:=tP λn c=>by rw[e n c]
 unfold et;rw[d,f]
def wn{a c:Type}{f g:a->Option c}:∀{l:List a},(∀x∈l,f x=g x)->l.filterMap f=l.filterMap g
 |[],_=>rfl
 |x::l,h=>by rw[te,te,h x (by simp),wn λy b=>h y (qL _ b)]
def alr{xs:List Ls}(h:∀x∈xs,∀n∈x.ns,n∉aO p.its):dx key (aX (a++b)) xs=dx key (aX (a++p::b)) xs:=by
 have e:∀x∈xs,et key (aX (a++b)) x=et key (aX (a++p::b)) x:=λx c=>alq (h x c);have i:(∀x∈xs,(et key (aX (a++b)) x).isSome=true)=∀x∈xs,(et key (aX (a++p::b)) x).isSome=true:=propext ⟨λg x c=>by rw[<-e x c];exact g x c,λg x c=>by rw[e x c];exact g x c⟩;have f:df key (aX (a++b)) xs=df key (aX (a++p::b)) xs:=wn e;unfold dx;by_cases d:(∀x∈xs,(et key (aX (a++p::b)) x).isSome=true)/\aeZ (df key (aX (a++p::b)) xs)
 .rw[dj d,dj ⟨by rw[i];exact d.1,by rw[f];exact d.2⟩,f]
 .rw[bv d,bv λg=>d ⟨by rw[<-i];exact g.1,by rw[<-f];exact g.2⟩]
def als{xs:List Ls}(d:(aL (a++p::b)).Nodup)(f:x∈xs)(g:n∈x.ns)(c:n∈aO p.its):dx key (aX (a++b)) xs=none:=
 pz f (pA λe=>by
  have:=e.1 n g;rw[apb d c] at this;cases this)
def alu(A:s.pk[k]?=some p)(h:abH key s) :
  abH key ⟨s.pk.take k++s.pk.drop (k+1),s.sn,s.lg⟩↔¬ ∃x∈s.sn,∃n∈mE x,n∈aO p.its:=by
 obtain⟨⟨⟨v,t⟩,u,o⟩,r,B⟩:=h;have e:s.pk=s.pk.take k++p::s.pk.drop (k+1):=by
  obtain⟨w,D⟩:=li.1 A;rw[<-D,<-rz w,qZ]
 generalize s.pk.take k=a at *;generalize s.pk.drop (k+1)=b at *;rw[e] at v t u o r;have c:(a++b).Sublist (a++p::b):=wh (ul _) (List.sublist_cons_self _ _);have m:(aL (a++b)).Sublist (aL (a++p::b)):=by
  rw[nE,nE];exact wh (ul _) (List.sublist_append_right _ _)
 have E:ai8 key (a++b):=⟨⟨λq C=>v q (c.subset C),t.sublist c⟩,db c.length_le u,o.sublist m⟩;constructor
 .rintro⟨-,z, -⟩ ⟨x,d,n,i,j⟩;obtain⟨y,g,l⟩:=ph.1 i;have:=(z x d).2;rw[als o g l j] at this;cases this
 .intro f;refine⟨E,λx d=>⟨(r x d).1, ?_⟩,B⟩;rw[alr (p:=p) λy g n i j=>f ⟨x,d,n,ph.2 ⟨y,g,i⟩,j⟩];exact(r x d).2
def aje(a:s.pk[k]?=some p):¬abH key ⟨s.pk.take (k+1)++s.pk.drop k,s.sn,s.lg⟩:=by
 rintro⟨⟨⟨-,d⟩, -⟩, -⟩;have e:=(rI.1 d).2.2 p (by rw[mp a];simp) p (by
  obtain⟨c,b⟩:=li.1 a;rw[rz c,b];simp)
 omega
end
section
variable {β:Bool}
open Go.RowKit
def ahR(d:Array Int):∀m,n∈Lib.compactUpTo d m↔∃j,j<m/\(d[j]!)=n:=by
 intro m
 induction m with
 |zero=>simp[Lib.compactUpTo]
 |succ m g=>
  rw[Lib.compactUpTo_succ,io,g];constructor
  .rintro(⟨j,f,e⟩|h)
   .exact⟨j,by omega,e⟩
   .split at h
    .exact⟨m,by omega,(ge.1 h).symm⟩
    .cases h
  .rintro⟨j,f,e⟩;by_cases c:j<m
   .exact .inl ⟨j,c,e⟩
   .obtain rfl:j=m:=by omega
    by_cases a:Lib.keeps d j=true
    .exact .inr (by rw[dj a,e];exact ge.2 rfl)
    .have b:¬j=0:=λb=>a (by subst b;simp[Lib.keeps]);have i:(d[j]!)=(d[j-1]!):=vm λh=>a (Lib.keeps_pos h);exact .inl ⟨j-1,by omega,by rw[<-i,e]⟩
def adr  :n∈Lib.compact l↔n∈l:=by
 unfold Lib.compact;rw[ahR,uK];constructor
 .rintro⟨j,a,e⟩;exact⟨j,a,by simpa[getElem!_pos,a] using e⟩
 .rintro⟨j,a,e⟩;exact⟨j,a,by simpa[getElem!_pos,a] using e⟩
def ajf(y:Ls):Nat:=y.ns.length
def kL(l:List Ls):List Int:=l.flatMap λy=>y.ns
def ahS{l:List Ls}(h:l[k]?=some x):kL (l.take (k+1))=kL (l.take k)++x.ns:=by
 unfold kL;rw[mp h,qC];simp
def ajg(l:List Ls):∀j,(kL (l.take j)).length=pB ajf l j:=λj=>by
 unfold kL pB;generalize l.take j=m
 induction m with
 |nil=>rfl
 |cons x m a=>rw[vg,ap,a,qK,tk];rfl
def ajh(x:Sn)(v:Value)(w:World)(lo hi:Nat)(Y:hi<=w.heap.size)(h:fB w lo hi x.all [v])(hl:mC ajf x.all<=100000000) :
  Calls (ai β) 8 #[.agg #[.int .i64 x.no,v]] w (arc w (Lib.compact (gQ (mE x)))):=by
 obtain⟨A,c,rfl⟩:=h.form;obtain⟨_,hc,hx⟩:=h.len_;unfold maxLen at hx;go_enter qF8,ntmps8;go_wp2;generalize P:w.alloc (.cells #[.int .i64 x.no,.slice A x.all.length c] 35)=wa at *;obtain⟨Q,a0,W,I,K⟩:=gU P;clear P;go_loopw [3,9] (λT M wr=>∃k:Nat,k<=x.all.length/\M=.int .i64 k/\aD fp 3 wr w.heap.size T (kL (x.all.take k))/\Below w.heap.size w wr) (λT M _=>x.all.length-(intOf M).toNat)
 case atStart=>exact⟨0,fa _,rfl,aD.nil _ _ _,Q⟩
 case round=>
  clear W I K Q;obtain⟨k,hk,rfl,d,a⟩:=hrel;obtain⟨Ao,Z,rfl⟩:=d.form;have b:=ajg x.all k;have y:=pw (n:=ajf) (l:=x.all) (j:=k);by_cases E:k<x.all.length
  .obtain⟨p,o⟩:=ak E;have s:=aaX (n:=ajf) o;have G:=pw (n:=ajf) (l:=x.all) (j:=k+1);have u:ajf p=p.ns.length:=rfl;rw[u] at s;have f:=ahS o;have HST:=ab f;clear f;obtain⟨b1,V,R,S,rfl, -, -, -,X,oK,jL⟩:=ae1 (fB.loc.below h a Y) o;have g:(kL (x.all.take k)).length+p.ns.length<=100000000:=by omega
   replace o:=ab o;clear s G u b y;revert d;revert HST;revert g;generalize kL (x.all.take k)=L;intro g HST d;have D:=ab g;clear g;have B:=aC wr (.cells #[.string p.p,.slice R p.ns.length S] 68);replace d:=d.below B;have H:=ab (ae2.loc.below jL B (by have:=a.size;omega));replace a:=ae a B;have r:=ab d;clear d;clear B;go_wp2_with(at_builtin;refine mX (F:=fp) (v:=.slice Ao L.length Z) rfl (.tmp 13) (.tmp 15) 31 rfl lj rfl r.out rfl H.out (by have:=a.size;omega) (by have:=D.out;omega) a.size ?_;intro v8 w8 J C U;obtain⟨A8,c8,rfl⟩:=J.form;simp only[ap] at J);go_roundw
   case rel=>exact⟨k+1,by omega,by go_num,by rw[HST.out];exact J,a.trans (C.below a.size λi hi t=>by have:=(r.out.at_ t).1;omega)⟩
   simp[intOf];omega
  .obtain rfl:k=x.all.length:=by omega
   have e:kL (x.all.take x.all.length)=mE x:=by rw[ga];rfl
   rw[agM] at b;rw[e] at d b ⊢;replace b:=ab b;clear y e;go_wp2;refine(aja d (by have:=b.out;omega)).mono ?_;rintro e w5 ⟨rfl,z,q⟩;obtain⟨R,S,N⟩:=z.form;replace a:=a.trans (q.below a.size λi hi t=>by have:=(d.at_ t).1;omega);rw[ji] at N;cases N;clear d q;go_wp2;refine(adq z (by rw[ji];have:=b.out;omega)).mono ?_;rintro e w6 ⟨v6,rfl,O,m⟩;obtain⟨A6,c6,rfl⟩:=O.form;replace a:=a.trans (m.below a.size λi hi t=>by have:=(z.at_ t).1;omega);clear z m;go_wp2;go_ret;exact⟨_,rfl,O,a⟩
end
end Go.Proofs.YtlggbfanooejbaaGreatDoor
namespace Go.Proofs.YtlggbfanooejbaaGreatDoor.lawsf
open Go.RowKit
def acR{a:Type}{f:a->Nat}{m:Nat}:∀{l:List a},(∀y∈l,f y<=m)->mC f l<=l.length*m
 |[],_=>by simp[mC]
 |x::l,h=>by
  have e:=acR (l:=l) λy b=>h y (qL _ b);have d:f x<=m:=h x (by simp);have c:mC f (x::l)=f x+mC f l:=by unfold mC;rw[qK,tk]
  rw[c,fi,rE];omega
def agN{x:dJ}(h:SmS x)(k m:Nat):mC pkN (x.pk.take k++x.pk.drop m)<=100000000:=by
 have c:mC pkN (x.pk.take k++x.pk.drop m)<=(x.pk.take k++x.pk.drop m).length*4:=acR λp a=>by
  rcases io.1 a with a|a
  .exact(h.pn p (oS a)).1
  .exact(h.pn p (rT a)).1
 have b:=h.pl;have d:(x.pk.take k++x.pk.drop m).length<=40:=by rw[ap,ff,pi];omega
 omega
def alv{lo hi:Nat}{x:Sn}{cs:List Value}(h:fB w lo hi x.all cs):∀n∈mE x,bX n:=λn d=>by
 obtain⟨y,b,a⟩:=ph.1 d;obtain⟨g,v, -, -,c⟩:=h.alx y b;obtain⟨f, -,e⟩:=c.alx n a;exact e
def abT(l m:List Int):Bool:=l.any λn=>decide (n∈m)
def apc{a:Bool}{j:Nat}(h:l[j]?=some n):(a||abT (l.take (j+1)) m)=((a||abT (l.take j) m)||decide (n∈m)):=by
 unfold abT;rw[mp h,List.any_append,Bool.or_assoc];simp
def ads(l:List Sn)(m:List Int):Bool:=l.any λx=>abT (Lib.compact (gQ (mE x))) m
def aly{l:List Sn}{i:Nat}{x:Sn}(h:l[i]?=some x):ads (l.take (i+1)) m=(ads (l.take i) m||abT (Lib.compact (gQ (mE x))) m):=by
 unfold ads;rw[mp h,List.any_append];simp
def apd{l:List Sn} :ads l m=true↔∃x∈l,∃n∈mE x,n∈m:=by
 unfold ads abT;simp only[List.any_eq_true,qJ,adr,agO]
def ael(w:World)(b:Nat)(v:Value):bV (λi=>i=b) w (w.setCell ⟨b,0,none⟩ v):=(bV.refl (λi=>i=b) w).setCell (p:=⟨b,0,none⟩) (.inl rfl) _
def iP.anew{w' : World}{lo hi:Nat}{x:dJ}{f d c v:Value}{l:List Pk}(h:iP w lo hi x f d c)(a:Below w.heap.size w w')(b:hi<=w.heap.size)(e:dQ w' lo w'.heap.size l [v]):iP w' lo w'.heap.size ⟨l,x.sn,x.lg⟩ v d c:=
 ⟨e,tSn.wide (tSn.below h.sn a b) (am _) (db b a.size),tHd.wide (tHd.below h.lg a b) (am _) (db b a.size)⟩
def walk{v v2:Value}(hg:Glo w)(l l2:List Int)(h:cB iD 1 w 0 w.heap.size l [v])(h2:cB iD 1 w 0 w.heap.size l2 [v2])(w':World)(hw:w'=w:=by rfl) :
  Calls (ai true) 3 #[v,v2] w' λe w'=>e=.returned (.bool true)/\Below w.heap.size w w':=by
 subst hw;obtain⟨A,c,rfl⟩:=h.form;obtain⟨A2,c2,rfl⟩:=h2.form;have ba:l.length<=maxLen:=by obtain⟨_,h1,h2⟩:=h.len_;omega
 have d2:l2.length<=maxLen:=by obtain⟨_,h1,h2⟩:=h2.len_;omega
 unfold maxLen at ba d2;by_cases cC:1048576<l.length
 .go_enter qF3,ntmps3;go_wp2;go_ret;exact⟨rfl,fm _ _⟩
 by_cases d3:1048576<l2.length
 .go_enter qF3,ntmps3;go_wp2;go_ret;exact⟨rfl,fm _ _⟩
 go_enter qF3,ntmps3;go_wp2;refine(ad6 A _ c l _ h).mono ?_;rintro e w1 ⟨s,va,vb,vc,x,rfl,os,D,bZ,bb⟩;have a5:mC pkN x.pk<=100000000:=by have:=ard x.pk;have:=D.axZ;unfold ae3 at this;omega
 have U:∀y∈x.sn,y.all.length<=1099511627/\∀z∈y.all,z.ns.length<=2147483647:=λy hy=>by
  have:=D.sn y hy;exact⟨by omega,λz hz=>by have:=(this.2 z hz).2;omega⟩
 have dM:=D.pl;have ej:=D.sl;obtain⟨r,hr⟩:=ed ((1<=s/\s<=99)/\abH s x/\ld x.lg);replace D:=ab D;replace bZ:=ab bZ;replace a5:=ab a5;replace U:=ab U;have HR:=ab hr;clear ba cC d3 hr;have s1:=bb.size;obtain⟨A1,W,B1,b1,C1,c1,rfl,rfl,rfl⟩:=os.form;go_wp2;generalize hG:w1.alloc (.cells #[.slice A1 x.pk.length W,.slice B1 x.sn.length b1,.slice C1 x.lg.length c1] 27)=w2 at *;obtain⟨jk,dX,M,dv,fg⟩:=gU hG;clear hG;have ax:=os.below jk (am _);replace jk:=ae bb jk;clear os bb;refine(acP s x a5.out U.out _ _ _ _ _ w2 (hg.below jk) (by omega) ax.pk ax.l r HR.out).mono ?_;rintro e w3 ⟨rfl,b3⟩;replace M:=ar M b3;replace dv:=M.cell;replace fg:=M.frozen;have b2:=ax.below b3 (by omega);have z3:=b3.size;have bT:=ae jk b3;clear ax jk b3;go_wp2;refine(ow s x a5.out U.out _ _ _ _ _ w3 (by omega) b2.pk b2.l r HR.out).mono ?_;rintro e w4 ⟨rfl,b4⟩;replace M:=ar M b4;replace dv:=M.cell;replace fg:=M.frozen;have aa:=b2.below b4 (by omega);have z4:=b4.size;have bj:=ae bT b4;clear b2 bT b4;have bx:(r=false\/r=true/\x.pk.length=0\/r=true/\¬x.pk.length=0/\x.sn.length=0)\/r=true/\¬x.pk.length=0/\¬x.sn.length=0:=by
  by_cases h1:x.pk.length=0<;>by_cases h2:x.sn.length=0<;>cases r<;>simp[h1,h2]
 rcases bx with bx|⟨H,b6,ci⟩
 .rcases bx with H|⟨H,b6⟩|⟨H,b6,ci⟩
  case' inr.inl=>
   have t1:((x.pk.length:Int) ==0)=true:=mt.2 (by omega);clear b6
  case' inr.inr=>
   have t1:((x.pk.length:Int) ==0)=false:=du.2 (by omega);have t2:((x.sn.length:Int) ==0)=true:=mt.2 (by omega);clear b6 ci
  all_goals
   rw[H];have d9:=ab H;clear H;go_wp2;refine(ow s x a5.out U.out _ _ _ _ _ w4 (by omega) aa.pk aa.l r HR.out).mono ?_;rintro e w5 ⟨rfl,b5⟩;rw[d9.out];go_wp2;go_ret;exact⟨rfl,ae bj b5⟩
 have a3:=HR.out.1 H;rw[H];replace a3:=ab a3;clear HR H;obtain⟨k,ce,d5⟩:∃k:Nat,(l2.length:Int) % (x.pk.length:Int)=k/\k<x.pk.length:=⟨l2.length % x.pk.length,by rw[Int.natCast_emod],ua _ (by omega)⟩;obtain⟨p,eP⟩:=ak d5;have t1:((x.pk.length:Int) ==0)=false:=du.2 (by omega);have t2:((x.sn.length:Int) ==0)=false:=du.2 (by omega);obtain⟨gp,B, -, -,rfl, -⟩:=lV aa.pk eP;replace eP:=ab eP;have d6:¬((x.pk.length:Int)=0):=by omega
 go_wp2;rw[ce];clear ce t1 t2 d6;generalize hG:w4.alloc (.cells #[.slice (some ⟨gp,B,none⟩) x.pk.length W,.slice B1 x.sn.length b1,.slice C1 x.lg.length c1] 27)=w5 at *;obtain⟨a6,ei,m0,jM,cG⟩:=gU hG;clear hG;replace M:=ar M a6;replace dv:=M.cell;replace fg:=M.frozen;have a2:=aa.below a6 (by omega);have z5:=a6.size;have c4:=ae bj a6;clear aa bj a6;have e5:x.pk.length<=W:=a2.pk.len_.2.1;have g1:¬((k:Int)<0):=by omega
 have g2:(k:Int)<=(W:Int):=by omega
 have g3:(k:Int)+1<=(x.pk.length:Int):=by omega
 have g4:¬((k:Int)+1<0):=by omega
 have g6:((k:Int)+1).toNat=k+1:=by omega
 have g5:(x.pk.length:Int)<=(W:Int):=by omega
 have g7:(k:Int)+1<=(W:Int):=by omega
 have g8:(k:Int)<=(x.pk.length:Int):=by omega
 have hw:IntKind.i64.wrap ((k:Int)+1)=(k:Int)+1:=by rw[tc];omega
 have fg:=M.cell 0;obtain⟨hs,C,o,K⟩:=ae4 a2.pk;obtain⟨bp,cq,bI⟩:=o.len_;unfold maxLen at bI;have T:=cB.aji o (k:=k) (by omega);have O:cB (bR mF) 2 w5 w'.heap.size w1.heap.size (hs.drop (k+1)) [.slice (if W=k+1 then some ⟨gp,B,none⟩ else some ⟨gp,B+(k+1)*2,none⟩) (hs.length-(k+1)) (W-(k+1))]:=by
  have h:=cB.adt o (k:=k+1) (by omega);rw[show Option.map (λx:Addr=>x.add ((k+1)*2)) (some ⟨gp,B,none⟩)=some ⟨gp,B+(k+1)*2,none⟩ from by simp[Addr.add]] at h;exact h
 obtain⟨X,u⟩:∃L,L=hs.take (k):=⟨_,rfl⟩;obtain⟨L2,t⟩:∃L,L=hs.drop (k+1):=⟨_,rfl⟩;have e1:k=X.length:=by rw[u,ff];omega
 have e2:hs.length-(k+1)=L2.length:=by rw[t,pi]
 rw[<-u,e1] at T;rw[<-t,e2] at O;rw[C] at e2
 skip
 have bl:X.length<=20/\L2.length<=20:=by omega
 replace K:=ab K;have a1:=ab T;have I:=ab O;replace C:=ab C;replace u:=ab u;replace t:=ab t;have E1:=ab e1;have E2:=ab e2;clear T O o e1 e2 bp;have aG:∀y:aW w5 11 40 (λ_=>False) [5],_:=ir fg (λh=>h);refine lq 11 40 (λ_=>False) [5] 12 [1,2,3,4,6,7,8,9,10] [0,5,11] (by kernel_rfl) (by kernel_rfl) (by kernel_rfl) ?_;simp only[pick,List.map,mx,mT];repeat(go_big_quiet_step (fail))
 refine gE ?_;clear aG;rw[E2.out];revert I;generalize (if W=k+1 then(some ⟨gp,B,none⟩:Option Addr) else some ⟨gp,B+(k+1)*2,none⟩)=AD;generalize W-(k+1)=cp;intro I;rw[E1.out];apply Exists.intro;apply py (λv x=>x.done=false->dW w5.heap.size 40 v x.to)
 .rfl
 .exact λv x y h P hd=>(h (P.till hd).1).keep (P.till hd).2
 .intro x _ _ Qx d;replace d:=ab d;go_wp2;exact d.out _ _ (aC _ _) λ_=>dW.new _ _ x.ok.size
 intro er;apply py (λv x=>x.done=false->aD mF 40 x.to w5.heap.size v (X))
 .rfl
 .exact λv x y h P hd=>(h (P.till hd).1).below (P.till hd).2
 .intro x g hp Qx d;replace d:=ab d;have R:=hp (by decide);have hL:=g.1 (by kernel_rfl) R;exact mY (x.till R) rfl (.tmp 64) (.tmp 68) 23 rfl lY (am _) rfl rfl hL (jN (F:=mF) a1.out (by omega)) (by omega) λv' x' a8 ho=>uF (d.out _ _ a8 λ_=>ho)
 intro ec;apply aeV (λv x=>x.done=true/\aD mF 40 x.to w5.heap.size v (X++L2))
 .rfl
 .rfl
 .intro j hj;obtain rfl:=ge.1 hj;exact aae 9 _ _ (by kernel_rfl)
 .exact λv x y ⟨hd,ho⟩ P=>⟨(P.from_ hd).1,ho.below (P.from_ hd).2⟩
 .intro x g R Qx d;replace d:=ab d;have hO:=g.1 (by kernel_rfl) R;have jb:=x.till R;have bz:=jb.size;refine mX (F:=mF) rfl (.tmp 69) (.tmp 74) 23 rfl lY rfl hO rfl (abU (bR.loc mF) (I.out) jb ((by omega))) (by omega) ((by omega)) x.ok.size ?_;intro v8 w8 o8 bi cs;refine uF ?_;exact d.out _ _ (bi.mono λb _ hb=>.inr (alA hO hb)) ⟨rfl,o8⟩
 intro ea;refine aeX λy g=> ?_;simp only[iv] at g;obtain⟨⟨R,oz⟩, -⟩:=g;have E:=y.all λ_ h=>h;simp only[List.drop];clear R;revert E oz;generalize y.to=w6;intro oz E;clear y;rw[<-E1.out];obtain⟨A6,c6,rfl⟩:=oz.form;have bz:=E.size;have rp:dQ w6 w'.heap.size w6.heap.size (x.pk.take (k)++x.pk.drop (k+1)) [.slice A6 (X++L2).length c6]:=ahU C.out K.out E (by omega) (by rw[<-u.out,<-t.out];exact oz) (by omega);have ps:=iP.anew a2 E (by omega) rp;clear rp oz a1 I K C u t E1 E2 bl;generalize (X++L2).length=n6 at *;have a0:=(a2.below E (by omega)).typed (w':=w6.setCell ⟨w4.heap.size,0,none⟩ (.slice A6 n6 c6)) (λb h1 h2 _=>(ael w6 w4.heap.size (.slice A6 n6 c6)).block b (by omega) λe=>by have e':b=w4.heap.size:=e;omega) (am _) (am _);have m6:=ar m0 E;have k6:=ar M E;have d4:=m6.frozen;have d8:=m6.cell;have J:=ael w6 w4.heap.size (.slice A6 n6 c6);have ad:=ps.box m6 0 (.slice A6 n6 c6);have Z:=m6.bC 0 (.slice A6 n6 c6);simp only[be,dk,dl] at Z;have k7:=aY k6 J (by omega);have nG:=ae c4 E;have al:=nG.trans (J.below nG.size λi hi e=>by have e':i=w4.heap.size:=e;omega);have zz:(w6.setCell ⟨w4.heap.size,0,none⟩ (.slice A6 n6 c6)).heap.size=w6.heap.size:=by simp
 have cy:=k7.cell;have H9:=ab (And.intro ad (And.intro Z (And.intro k7 (And.intro al (And.intro a0 zz)))));clear ad Z k7 al a0 zz nG c4 J ps m0 M jM cG dv k6 fg a2;go_wp2;clear cy d4 d8 m6;revert H9;generalize w6.setCell ⟨w4.heap.size,0,none⟩ (.slice A6 n6 c6)=w7;intro H9;generalize hG:w7.alloc (.cells #[.slice (some ⟨gp,B,none⟩) x.pk.length W,.slice B1 x.sn.length b1,.slice C1 x.lg.length c1] 27)=w8 at *;obtain⟨V,d1,q0,cz,cr⟩:=gU hG;clear hG;obtain⟨ad,Z,k7,al,cl,zz⟩:=H9.out;clear H9 cz cr;rw[zz] at q0 d1;have z8:=V.size;rw[zz] at z8;have M:=ar k7 V;have cf:=ar Z V;have c3:=ad.below V (by omega);have ay:=cl.below V (by omega);have ch:=ae al V;have fg:=M.cell 0;clear k7 Z ad cl al V;obtain⟨hs,C,o,K⟩:=ae4 ay.pk;obtain⟨bp,cq,bI⟩:=o.len_;unfold maxLen at bI;have T:=cB.aji o (k:=k+1) (by omega);have O:cB (bR mF) 2 w8 w'.heap.size w1.heap.size (hs.drop (k)) [.slice (if W=k then some ⟨gp,B,none⟩ else some ⟨gp,B+(k)*2,none⟩) (hs.length-(k)) (W-(k))]:=by
  have h:=cB.adt o (k:=k) (by omega);rw[show Option.map (λx:Addr=>x.add ((k)*2)) (some ⟨gp,B,none⟩)=some ⟨gp,B+(k)*2,none⟩ from by simp[Addr.add]] at h;exact h
 obtain⟨X,u⟩:∃L,L=hs.take (k+1):=⟨_,rfl⟩;obtain⟨L2,t⟩:∃L,L=hs.drop (k):=⟨_,rfl⟩;have e1:k+1=X.length:=by rw[u,ff];omega
 have e2:hs.length-(k)=L2.length:=by rw[t,pi]
 rw[<-u,e1] at T;rw[<-t,e2] at O;rw[C] at e2;rw[bv (by omega)] at O;have bl:X.length<=20/\L2.length<=20:=by omega
 replace K:=ab K;have a1:=ab T;have I:=ab O;replace C:=ab C;replace u:=ab u;replace t:=ab t;have E1:=ab e1;have E2:=ab e2;clear T O o e1 e2 bp;have aG:∀y:aW w8 11 40 (λ_=>False) [6],_:=ir fg (λh=>h);refine lq 11 40 (λ_=>False) [6] 12 [1,2,3,4,5,7,8,9,10] [0,6,11] (by kernel_rfl) (by kernel_rfl) (by kernel_rfl) ?_;simp only[pick,List.map,mx,mT];repeat(go_big_quiet_step (fail))
 refine gE ?_;clear aG;rw[E2.out];revert I;generalize (some ⟨gp,B+k*2,none⟩:Option Addr)=AD;generalize W-(k)=cp;intro I;rw[E1.out];apply Exists.intro;apply py (λv x=>x.done=false->dW w8.heap.size 40 v x.to)
 .rfl
 .exact λv x y h P hd=>(h (P.till hd).1).keep (P.till hd).2
 .intro x _ _ Qx d;replace d:=ab d;go_wp2;exact d.out _ _ (aC _ _) λ_=>dW.new _ _ x.ok.size
 intro eb;apply py (λv x=>x.done=false->aD mF 40 x.to w8.heap.size v (X))
 .rfl
 .exact λv x y h P hd=>(h (P.till hd).1).below (P.till hd).2
 .intro x g hp Qx d;replace d:=ab d;have R:=hp (by decide);have hL:=g.1 (by kernel_rfl) R;exact mY (x.till R) rfl (.tmp 78) (.tmp 83) 23 rfl lY (am _) rfl rfl hL (jN (F:=mF) a1.out (by omega)) (by omega) λv' x' a8 ho=>uF (d.out _ _ a8 λ_=>ho)
 intro ee;apply aeV (λv x=>x.done=true/\aD mF 40 x.to w8.heap.size v (X++L2))
 .rfl
 .rfl
 .intro j hj;obtain rfl:=ge.1 hj;exact aae 9 _ _ (by kernel_rfl)
 .exact λv x y ⟨hd,ho⟩ P=>⟨(P.from_ hd).1,ho.below (P.from_ hd).2⟩
 .intro x g R Qx d;replace d:=ab d;have hO:=g.1 (by kernel_rfl) R;have jb:=x.till R;have bz:=jb.size;refine mX (F:=mF) rfl (.tmp 84) (.tmp 88) 23 rfl lY rfl hO rfl (abU (bR.loc mF) (I.out) jb ((by omega))) (by omega) ((by omega)) x.ok.size ?_;intro v8 w8 o8 bi cs;refine uF ?_;exact d.out _ _ (bi.mono λb _ hb=>.inr (alA hO hb)) ⟨rfl,o8⟩
 intro e4;refine aeX λy g=> ?_;simp only[iv] at g;obtain⟨⟨R,oz⟩, -⟩:=g;have E:=y.all λ_ h=>h;simp only[List.drop];clear R;revert E oz;generalize y.to=w9;intro oz E;clear y;rw[<-E1.out];obtain⟨A9,c9,rfl⟩:=oz.form;have bz:=E.size;have rp:dQ w9 w'.heap.size w9.heap.size (x.pk.take (k+1)++x.pk.drop (k)) [.slice A9 (X++L2).length c9]:=ahU C.out K.out E (by omega) (by rw[<-u.out,<-t.out];exact oz) (by omega);have ps:=iP.anew ay E (by omega) rp;clear rp oz a1 I K C u t E1 E2 bl;generalize (X++L2).length=n9 at *;have a0:=(ay.below E (by omega)).typed (w':=w9.setCell ⟨w6.heap.size,0,none⟩ (.slice A9 n9 c9)) (λb h1 h2 _=>(ael w9 w6.heap.size (.slice A9 n9 c9)).block b (by omega) λe=>by have e':b=w6.heap.size:=e;omega) (am _) (am _);have q9:=ar q0 E;have m9:=ar cf E;have k9:=ar M E;have ct:=q9.frozen;have dp:=q9.cell;have J:=ael w9 w6.heap.size (.slice A9 n9 c9);have an:=ps.box q9 0 (.slice A9 n9 c9);have a4:=q9.bC 0 (.slice A9 n9 c9);simp only[be,dk,dl] at a4;have aP:=aY m9 J (by omega);have S:=aY k9 J (by omega);have ao:=(c3.below E (by omega)).typed (w':=w9.setCell ⟨w6.heap.size,0,none⟩ (.slice A9 n9 c9)) (λb h1 h2 _=>J.block b (by omega) λe=>by have e':b=w6.heap.size:=e;omega) (am _) (am _);have nH:=ae ch E;have a7:=nH.trans (J.below nH.size λi hi e=>by have e':i=w6.heap.size:=e;omega);have bt:(w9.setCell ⟨w6.heap.size,0,none⟩ (.slice A9 n9 c9)).heap.size=w9.heap.size:=by simp
 have d0:=S.cell;have H9:=ab (And.intro an (And.intro a4 (And.intro aP (And.intro S (And.intro ao (And.intro a7 (And.intro a0 bt)))))));clear an a4 aP S ao a7 a0 bt nH ch J ps q0 cf M m9 k9 fg ay c3;go_wp2;clear d0 ct dp q9 g1 g2 g3 g4 g5 g6 g7 g8 hw;revert H9;generalize w9.setCell ⟨w6.heap.size,0,none⟩ (.slice A9 n9 c9)=w10;intro H9;obtain⟨an,a4,aP,S,ao,a7,c5,bt⟩:=H9.out;clear H9;have cW:=hg.below a7;go_loopw [11,12] (λnn ii wr=>∃i:Nat,i<=x.sn.length/\ii=.int .i64 i/\nn=.bool (ads (x.sn.take i) (aO p.its))/\Below w10.heap.size w10 wr) (λnn ii _=>x.sn.length-(intOf ii).toNat)
 case atStart=>exact⟨0,fa _,rfl,rfl,fm _ _⟩
 case round=>
  obtain⟨i,hi,rfl,rfl,G⟩:=hrel;obtain⟨nd,Y⟩:∃q,q=ads (x.sn.take i) (aO p.its):=⟨_,rfl⟩;rw[<-Y];replace Y:=ab Y;have ca:=ar S G;have cv:=ca.cell;have zr:=G.size;by_cases cx:i<x.sn.length
  .obtain⟨y,aQ⟩:=ak cx;have bO:=c5.below G (by omega);obtain⟨bn,e6,An,cn,e0, -, -, -,cZ,d7,af⟩:=aeU bO.l.sn aQ;subst e0;have bo:=D.out.sn y (aE aQ);have b0:mC ajf y.all<=100000000:=by have:=acR (f:=ajf) (m:=40) λz hz=>(bo.2 z hz).2;have:=bo.1;omega
   have HST:=ab (aly (m:=aO p.its) aQ);replace b0:=ab b0;replace af:=ab af;clear bo aQ;go_wp2;refine(ajh y _ wr _ _ (by omega) af.out b0.out).mono ?_;rintro e co ⟨v8,rfl,o8,b8⟩;obtain⟨A8,c8,rfl⟩:=o8.form;have cd:∀n∈Lib.compact (gQ (mE y)),bX n:=λn hn=>alv af.out n (agO.1 (adr.1 hn));have HR:=ab (o8.sl cd (am _):cB pC 1 _ _ _ _ _);clear cd o8 af b0;revert HR HST;generalize Lib.compact (gQ (mE y))=N;intro HST HR;obtain⟨-,e8,cK⟩:=HR.out.len_;unfold maxLen at cK;have b9:=ae G b8;have e7:=b8.size;clear ca cv cZ d7 bO;go_wp2;go_loopw [11,14] (λnn jj wq=>∃j:Nat,j<=N.length/\jj=.int .i64 j/\nn=.bool (nd||abT (N.take j) (aO p.its))/\Below co.heap.size co wq) (λnn jj _=>N.length-(intOf jj).toNat)
   case atStart=>exact⟨0,fa _,rfl,(by rw[show abT (N.take 0) (aO p.its)=false from rfl,ut]),fm _ _⟩
   case round=>
    obtain⟨j,hj,rfl,rfl,Q⟩:=hrel;by_cases cO:j<N.length
    .obtain⟨n,cc⟩:=ak cO;have bS:=apc (a:=nd) (m:=aO p.its) cc;have dt:=ar S (ae b9 Q);have c0:=dt.cell 0;have dn:=c5.below (ae b9 Q) (by omega);obtain⟨eo,en,dI,ek,ep, -,_,e3,bL,oK,jL⟩:=lV dn.pk eP.out;cases ep;obtain⟨br,el,rfl, -,_,_,cb⟩:=(ae2.loc.below HR.out Q (am _)).ints_at cc;have aV:=ab bS;clear bS;have zq:=Q.size;go_wp2;have bf:∀z∈aO p.its,bX z:=λz hz=>by
      obtain⟨it,cA,rfl⟩:=mc.1 hz;exact((cB.good jL.1) it cA).1
     have bk:p.its.length<=100000000:=by have:=(D.out.pn p (aE eP.out)).1;omega
     replace jL:=ab jL;replace bf:=ab bf;replace bk:=ab bk;revert aV;generalize (nd||abT (N.take j) (aO p.its))=q;intro aV;cases q
     .have aG:=ag c0;have aK:=ag bL;have bc:=ag oK;have eQ:=ag cb;refine aZ 14 [0,1,2,3,4,5,6,8,9,10,11] [7,12,13] (h:= ?_);simp only[pick,List.map,mx,mT];repeat(go_big_quiet_step (fail))
      refine gE ?_;clear aG aK bc eQ;apply Exists.intro;apply dy (λv z=>aD fp 3 z wr.heap.size v (aO p.its))
      .rfl
      .exact λv x y h a8=>h.below a8
      .intro z g Qx d;replace d:=ab d;clear g;have hz:=z.ok.size;go_wp2;refine(lZ p.no p.its _ z.to _ _ (by omega) (fC.az.below jL.out z.ok (by omega)) bk.out).mono ?_;rintro e wy ⟨v5,rfl,o5,b5⟩;go_wp2;exact d.out _ _ b5 (o5.base hz)
      intro vp;simp only[Act.put,be,dk,dl];apply eR (.bool (decide (n∈aO p.its)))
      .intro z g Qx d;replace d:=ab d;have h7:=g.1 (by kernel_rfl);obtain⟨A7,c7,rfl⟩:=h7.form;have cw:cB pC 1 _ _ _ _ _:=h7.sl bf.out (am _);clear g;go_wp2;refine(arh _ n _ _ _ z.to _ _ cw).mono ?_;rintro e wy ⟨rfl,rfl⟩;go_wp2;exact d.out _ (fm _ _)
      simp only[Act.put,be,dk,dl];apply eR (.bool (decide (n∈aO p.its)))
      .intro z g Qx d;replace d:=ab d;clear g;go_wp2;exact d.out _ (fm _ _)
      simp only[Act.put,be,dk,dl];refine cV ?_;intro cS bE xx je g;dsimp only[iv] at g;try rw[je] at g
      clear je xx;simp only[List.drop];clear g;go_wp2;go_roundw
      case rel=>exact⟨j+1,by omega,by go_num,by rw[aV.out];rfl,ae Q bE⟩
      simp[intOf];omega
     .have aG:=ag c0;have aK:=ag bL;have bc:=ag oK;have eQ:=ag cb;refine aZ 14 [0,1,2,3,4,5,6,8,9,10,11] [7,12,13] (h:= ?_);simp only[pick,List.map,mx,mT];repeat(go_big_quiet_step (fail))
      refine gE ?_;clear aG aK bc eQ;apply Exists.intro;apply eR undef
      .intro z g Qx d;replace d:=ab d;clear g;go_wp2;exact d.out _ (fm _ _)
      simp only[Act.put,be,dk,dl];apply eR undef
      .intro z g Qx d;replace d:=ab d;clear g;go_wp2;exact d.out _ (fm _ _)
      simp only[Act.put,be,dk,dl];apply eR (.bool true)
      .intro z g Qx d;replace d:=ab d;clear g;go_wp2;exact d.out _ (fm _ _)
      simp only[Act.put,be,dk,dl];refine cV ?_;intro cS bE xx je g;dsimp only[iv] at g;try rw[je] at g
      clear je xx;simp only[List.drop];clear g;go_wp2;go_roundw
      case rel=>exact⟨j+1,by omega,by go_num,by rw[aV.out];rfl,ae Q bE⟩
      simp[intOf];omega
    .obtain rfl:j=N.length:=by omega
     rw[ga,Y.out,<-HST.out];obtain⟨n2,b7⟩:∃q,q=ads (x.sn.take (i+1)) (aO p.its):=⟨_,rfl⟩;rw[<-b7];replace b7:=ab b7;have dz:=(ar S (ae b9 Q)).cell 1;go_wp2;go_roundw
     case rel=>exact⟨i+1,by omega,by go_num,by rw[b7.out],ae b9 Q⟩
     simp[intOf];omega
  .obtain rfl:i=x.sn.length:=by omega
   have bq:=Y.out;rw[ga] at bq;have ha:(!nd)=true↔(1<=s/\s<=99)/\abH s ⟨x.pk.take k++x.pk.drop (k+1),x.sn,x.lg⟩/\ld x.lg:=by
    rw[tD,<-gc,bq,apd,alu eP.out a3.out.2.1];exact⟨λh=>⟨a3.out.1,h,a3.out.2.2⟩,λh=>h.2.1⟩
   have bw:false=true↔(1<=s/\s<=99)/\abH s ⟨x.pk.take (k+1)++x.pk.drop k,x.sn,x.lg⟩/\ld x.lg:=⟨λh=>Bool.noConfusion h,λh=>absurd h.2.1 (aje eP.out)⟩;replace ha:=ab ha;replace bw:=ab bw;clear bq Y;have e9:=(ar aP G).cell;have pa:=ao.below G (by omega);have pb:=an.below G (by omega);have cm:=cW.below G;have he:((!nd) ==(!nd))=true:=by simp
   go_wp2;refine(acP s ⟨x.pk.take k++x.pk.drop (k+1),x.sn,x.lg⟩ (agN D.out _ _) U.out _ _ _ _ _ wr cm (by omega) pa.pk pa.l (!nd) ha.out).mono ?_;rintro e ds ⟨rfl,a9⟩;have dC:=(ar (ar a4 G) a9).cell;have ck:=pb.below a9 (by omega);have dB:=a9.size;go_wp2;refine(acP s ⟨x.pk.take (k+1)++x.pk.drop k,x.sn,x.lg⟩ (agN D.out _ _) U.out _ _ _ _ _ ds (cm.below a9) (by omega) ck.pk ck.l false bw.out).mono ?_;rintro e em ⟨rfl,dd⟩;go_wp2;go_ret;exact⟨rfl,ae (ae a7 G) (ae a9 dd)⟩
end Go.Proofs.YtlggbfanooejbaaGreatDoor.lawsf