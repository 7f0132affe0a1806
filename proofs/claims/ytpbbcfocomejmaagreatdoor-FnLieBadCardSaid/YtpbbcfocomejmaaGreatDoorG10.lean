/- A part of the proof. -/
import Derived.Test.YtpbbcfocomejmaaGreatDoorG9
set_option maxRecDepth 100000
set_option maxHeartbeats 8000000
set_option linter.all false
open Go Go.RowKit Go.Proofs.Tryz Go.Proofs.YtpbbcfocomejmaaGreatDoor
namespace Go.Proofs.YtpbbcfocomejmaaGreatDoor
section
open Go.RowKit
def aoy(g:List Pk)(l:List Sn)(C:Option Addr)(nc c':Nat)(v1 v2:Value)(w:World)(lo hi:Nat)(hg:Glo w)(h1:kJ w lo hi g [v1])(h2:jW w lo hi l [v2])(bu:hi<=w.heap.size)(V:∀p∈g,1<=p.its.length)(J:∀x∈l,x.all.length<=1099511627/\∀y∈x.all,y.ns.length<=2147483647)(r:Bool)(P:r=true↔aqG 7 g l) :
  Calls (ah true) 20 #[.agg #[v1,v2,.slice C nc c'],.int .i64 7] w λe w'=>e=.returned (.bool r)/\Below w.heap.size w w':=by
 replace P:=ab P;replace J:=ab J;obtain⟨A,a,rfl⟩:=cG.form h1;obtain⟨B,b,rfl⟩:=cG.form h2;have gS:∀p∈ju g,1<=p.2.length/\cA p.1:=λp z=>⟨by
  obtain⟨q,m,rfl⟩:=mw.1 z;have:=V q m;unfold pkd;simpa using this,h1.aoA p z⟩
 obtain⟨-,ha,Q⟩:=cG.len_ h1;obtain⟨-,hb,aa⟩:=cG.len_ h2;replace Q:=ab Q;replace gS:=ab gS;clear V;unfold maxLen at aa;go_enter zI,ntmps20;go_wp2;generalize W:w.alloc (.cells #[.slice A g.length a,.slice B l.length b,.slice C nc c'] 54)=w0 at *;obtain⟨E,iv,k0,dP,fu⟩:=gT W;clear W;have a6:=kJ.loc.below h1 E bu;have a8:=jW.loc.below h2 E bu;have a2:=hg.below E;have z0:=E.size;clear h1 h2 hg;go_loopw [12] (λi wr=>∃k:Nat,k<=l.length/\i=.int .i64 k/\abz (aoB 7 g) Sn.no (l.take k)/\Below w0.heap.size w0 wr) (λi _=>l.length-(intOf i).toNat)
 case atStart=>exact⟨0,fa _,rfl,ahf,gn _ _⟩
 case round=>
  obtain⟨k,hk,rfl,hn,n⟩:=hrel;replace hn:=ab hn;have a0:=ak k0 n;clear k0 dP fu;have zr:=n.size;by_cases a4:k<l.length
  .obtain⟨x,eu⟩:=ar a4;have R:=jW.loc.below a8 n (by omega);obtain⟨bb,ax,D,d,rfl,_,_,ay,ad,af,a3⟩:=aqH R eu;have U:=ab eu;have a1:=ab (J.out x (da eu));clear eu;go_wp2;generalize W:wr.alloc (.cells #[.int .i64 x.no,.slice D x.all.length d] 83)=wa at *;obtain⟨X,aT,m0,lJ,a7⟩:=gT W;clear W;have al:=jW.loc.below R X (by omega);have S:=ak a0 X;have F:=ae n X;have za:=X.size;have f0:=S.cell 0;have f1:=S.cell 1;have v:=lJ 0;have ao:=lJ 1;clear a0 ad af R;by_cases g1:1<=x.no
   case' neg=>
    have u1:=db (show x.no<1 by omega);have c:r=false:=by
     rw[<-lP,P.out];exact λz=>g1 (z.1 x (da U.out)).1.1
    have f:=ab c;clear c g1;go_wp2;have K:=aj f1;have I:=aj v;refine aG (by kernel_rfl) (by kernel_rfl) ?_;repeat(go_big_quiet_step (fail))
    refine gt ?_;intro wq o;have m:=aN o;clear o K I;go_wp2;go_ret;exact⟨aC f.out.symm,ae E (ae F m)⟩
   have u1:=bv (show ¬(x.no<1) by omega);by_cases g2:x.no<=20
   case' neg=>
    have u2:=db (show 20<x.no by omega);have c:r=false:=by
     rw[<-lP,P.out];exact λz=>g2 (z.1 x (da U.out)).1.2
    have f:=ab c;clear c g1 g2;go_wp2;have K:=aj f1;have I:=aj v;refine aG (by kernel_rfl) (by kernel_rfl) ?_;repeat(go_big_quiet_step (fail))
    refine gt ?_;intro wq o;have m:=aN o;clear o K I;go_wp2;go_ret;exact⟨aC f.out.symm,ae E (ae F m)⟩
   have u2:=bv (show ¬(20<x.no) by omega);have a5:=ab (And.intro g1 g2);clear g1 g2;have a9:(∃j y,k=j+1/\l[j]?=some y/\¬y.no<x.no)\/k=0\/∃j y,k=j+1/\l[j]?=some y/\y.no<x.no:=by
    rcases oS k with h|h
    .exact .inr (.inl h)
    .obtain⟨j,rfl⟩:∃j,k=j+1:=⟨k-1,by omega⟩;obtain⟨y,hy⟩:=ar (l:=l) (k:=j) (by omega);by_cases hc:y.no<x.no
     .exact .inr (.inr ⟨j,y,rfl,hy,hc⟩)
     .exact .inl ⟨j,y,rfl,hy,hc⟩
   rcases a9 with⟨j,y,rfl,T,s⟩|rfl|⟨j,y,rfl,T,s⟩
   case' inl|inr.inr=>
    have e1:((j+1:Nat):Int)-1=(j:Int):=by omega
    obtain⟨b2,mE,D2,d2,Y, -, -, -,G, -, -⟩:=aqH al T;simp only[jp,qk,qm] at Y;obtain⟨rfl,rfl⟩:=Y
   case' inl=>
    have u3:=db (show x.no<=y.no by omega);have c:r=false:=by
     rw[<-lP,P.out];exact λz=>am7 T U.out s z
    have f:=ab c;clear c s T;go_wp2;have K:=aj f1;have I:=aj v;have bm:=aj G;refine aG (by kernel_rfl) (by kernel_rfl) ?_;repeat(go_big_quiet_step (fail))
    refine gt ?_;intro wq o;have m:=aN o;clear o K I bm;go_wp2;go_ret;exact⟨aC f.out.symm,ae E (ae F m)⟩
   case' inr.inr=>
    have u3:=bv (show ¬(x.no<=y.no) by omega);have dz:aoB 7 g x->abz (aoB 7 g) Sn.no (l.take (j+1+1)):=λhx=>am8 hn.out T U.out hx s;clear s T
   case' inr.inl=>
    have G:=v;have dz:aoB 7 g x->abz (aoB 7 g) Sn.no (l.take (0+1)):=λhx=>aiu U.out hx
   all_goals
    have HK:=ab dz;clear dz;go_wp2;have K:=aj f1;have I:=aj v;have bm:=aj G;refine aG (by kernel_rfl) (by kernel_rfl) ?_;repeat(go_big_quiet_step (fail))
    refine gt ?_;intro wq o;have m:=aN o;clear o K I bm;replace S:=ak S m;replace Z:=S.cell;replace aL:=S.frozen;replace m0:=ak m0 m;replace lJ:=m0.cell;replace a7:=m0.frozen;have O:=ae F m;have aP:=Z 0;have aK:=Z 1;have aJ:=lJ 0;have an:=lJ 1;have zq:=m.size;have iy:=(kJ.loc.below a6 O (by omega)).pkl (by omega);have H:=oW.loc.below a3 (ae X m) (by omega);have N:(ju g).length=g.length:=pe _;have HT:=akP (ju g) A a x _ lo hi wq (a2.below O) (by omega) iy (by rw[N];exact ha) Q.out gS.out H a1.out.2 a1.out.1;rw[N] at HT;replace HT:=ab HT;clear iy H N G;go_wp2;refine HT.out.mono ?_;rintro e w5 ⟨u,rfl, -, -,b5⟩;have oG:=ae O b5;obtain⟨q,t⟩:∃q,q=(gb 7 (ju g) x.all).isSome:=⟨_,rfl⟩;rw[<-t];replace t:=ab t;clear HT;cases q
    .have c:r=false:=by
      rw[<-lP,P.out];intro z;have:=(z.1 x (da U.out)).2;rw[<-t.out] at this;cases this
     have f:=ab c;clear c;go_wp2;go_ret;exact⟨aC f.out.symm,ae E oG⟩
    .have L:=HK.out ⟨a5.out,t.out.symm⟩;replace L:=ab L;clear HK;go_wp2;go_roundw
     case rel=>exact⟨_,by omega,by go_num,L.out,oG⟩
     simp[intOf];omega
  .obtain rfl:k=l.length:=by omega
   have M:=hn.out;rw[ge] at M;have c:r=true:=P.out.2 M;have f:=ab c;clear M hn c;go_wp2;go_ret;exact⟨aC f.out.symm,ae E n⟩
def aqI{key:Int}{s:dS}(h:aqJ key s):∀p∈s.pk,lK key p:=h.1.1.1
def aoD(s:dS)(J:SmS s)(l:nY s.lg)(M U X:Value)(n hi:Nat)(w:World)(hg:Glo w)(v:hi<=w.heap.size)(G:jM w n hi s.pk [M])(h:lL w n hi s M U X)(r:Bool)(I:r=true↔aqJ 7 s) :
  Calls (ah true) 10 #[.int .i64 7,.agg #[M,U,X]] w λe w'=>e=.returned (.bool r)/\Below w.heap.size w w':=by
 obtain⟨V,R,S⟩:=h;obtain⟨A,a,rfl⟩:=cG.form V;obtain⟨B,b,rfl⟩:=cG.form R;obtain⟨C,c,rfl⟩:=cG.form S;replace I:=ab I;replace J:=ab J;replace l:=ab l;have j:afH pkN s.pk<=100000000:=by have:=aqK s.pk;have:=J.out.at6;unfold lz at this;omega
 replace j:=ab j;go_enter zP,ntmps10;go_wp2;generalize u:w.alloc (.cells #[.slice A s.pk.length a,.slice B s.sn.length b,.slice C s.lg.length c] 27)=w0 at *;obtain⟨F,iv,d,t,D⟩:=gT u;clear u;refine(aiv _ _ _ ⟨_,_,_,rfl⟩ ⟨_,_,_,rfl⟩ ⟨_,_,_,rfl⟩ w0).mono ?_;rintro e w1 ⟨rfl,N⟩;replace d:=ak d N;replace t:=d.cell;replace D:=d.frozen;replace F:=ae F N;go_wp2;refine(adT (β:=true) 7 _ true (by simp)).mono ?_;rintro e Q ⟨rfl,rfl⟩;go_wp2;generalize u:w1.alloc (.cells #[.slice A s.pk.length a,.slice B s.sn.length b,.slice C s.lg.length c] 54)=Q at *;obtain⟨L,a2,H,E,P⟩:=gT u;clear u;replace d:=ak d L;replace t:=d.cell;replace D:=d.frozen;have g:=ae F L;have z2:=g.size;clear F L N;by_cases f:aqL 7 s.pk
 case' neg=>
  have m:r=false:=by
   rw[<-lP,I.out];exact λh=>f h.1
  replace m:=ab m;refine(af9 (β:=true) 7 (by omega) s.pk B C _ b _ c _ Q n hi (jM.av.below G g v) (by omega) j.out false (by simp[f])).mono ?_;clear f;rintro e T ⟨rfl,o⟩;go_wp2;go_ret;exact⟨aC m.out.symm,ae g o⟩
 have z:=ab f;refine(af9 (β:=true) 7 (by omega) s.pk B C _ b _ c _ Q n hi (jM.av.below G g v) (by omega) j.out true (by simp[f])).mono ?_;clear f;rintro e T ⟨rfl,o⟩;replace d:=ak d o;replace t:=d.cell;replace D:=d.frozen;replace H:=ak H o;replace E:=H.cell;replace P:=H.frozen;have i:=ae g o;have z3:=i.size;have a1:=E 0;have a0:=E 1;have Z:=E 2;go_wp2;obtain⟨q,O⟩:=lM (aqG 7 s.pk s.sn);refine(aoy s.pk s.sn C _ c _ _ T n hi (hg.below i) (kJ.loc.below V i v) (jW.loc.below R i v) (by omega) (λp G=>(z.out.1.1 p G).2.2.1.1) (λx hx=>by
  have:=J.out.sn x hx;exact⟨by omega,λy hy=>by have:=(this.2 y hy).2;omega⟩) q O).mono ?_
 rintro e Y ⟨rfl,W⟩;replace d:=ak d W;replace t:=d.cell;replace D:=d.frozen;have k:=ae i W;have z4:=k.size;have K:q=r:=by
  rw[qj,O,I.out];exact⟨λh=>⟨z.out,h⟩,λh=>h.2⟩
 subst K;clear O;have f02:=t 2;cases q
 .go_wp2;go_ret;exact⟨rfl,k⟩
 .go_wp2;refine(afI s.lg l.out _ Y n hi (lN.loc.below S k v) (by omega)).mono ?_;rintro e w5 ⟨rfl,b5⟩;go_wp2;go_ret;exact⟨rfl,ae k b5⟩
end
end Go.Proofs.YtpbbcfocomejmaaGreatDoor
namespace Go.Proofs.YtpbbcfocomejmaaGreatDoor.lawlb
open Go.RowKit
def pt{w:World}{b hi:Nat}{s:dS}{a d c:Value}(h:jv w b hi s a d c):jM w b hi s.pk [a]:=⟨cG.axF OPk.t h.pk.1,h.pk.2⟩
def aga{key:Int}{l:List Pk}(h:∀p∈l,cA p.no):∀n∈ko key l,cA n:=λn a=>by
 unfold ko at a;obtain⟨p,b,rfl⟩:=mw.1 a;exact h p (qQ.1 b).1
def walk{v:Value}{w:World}(hg:Glo w)(l:List Int)(h:cG jw 1 w 0 w.heap.size l [v])(w':World)(hw:w'=w:=by rfl) :
  Calls (ah true) 3 #[v] w' λe w'=>e=.returned (.bool true)/\Below w.heap.size w w':=by
 subst hw;obtain⟨A,c,rfl⟩:=h.form;have t:l.length<=maxLen:=by obtain⟨_,h1,h2⟩:=h.len_;omega
 unfold maxLen at t;by_cases a3:1048576<l.length
 .go_enter qF3,ntmps3;go_wp2;go_ret;exact⟨rfl,gn _ _⟩
 go_enter qF3,ntmps3;go_wp2;refine(aep A _ c l _ h).mono ?_;rintro e w1 ⟨va,vb,vc,s,L,rfl,U,d,hL,bb⟩;replace d:=ab d;replace hL:=ab hL;clear t a3;have s1:=bb.size;have u:=ab (d.out.wf.sm.lie hL.out.bs);have S:=ab (d.out.wf.okl.lie L);have HAS:=ab (at7 d.out.aqM L);obtain⟨x,hx⟩:∃x,x=dA s L:=⟨_,rfl⟩;rw[<-hx] at U u S HAS;clear hx;obtain⟨A1,a1,B1,b1,C1,c1,rfl,rfl,rfl⟩:=U.form;have af:=u.out.pl;go_wp2;generalize hG:w1.alloc (.cells #[.slice A1 x.pk.length a1,.slice B1 x.sn.length b1,.slice C1 x.lg.length c1] 27)=w2 at *;obtain⟨P,ax,b,W,T⟩:=gT hG;clear hG;have E:=U.below P (am _);replace P:=ae bb P;clear U bb;refine(ahg (β:=true) 7 (by omega) x.pk B1 C1 _ b1 _ c1 _ w2 _ _ (pt E) (by omega) (by omega)).mono ?_;rintro e w3 ⟨v3,rfl,J,H⟩;obtain⟨A3,c3,rfl⟩:=J.form;replace b:=ak b H;replace W:=b.cell;replace T:=b.frozen;have C:=E.below H (by omega);have z3:=H.size;have dg:=ae P H;clear E P H;go_wp2;refine(aeq (β:=true) 7 x.pk B1 C1 _ b1 _ c1 _ w3 _ _ (pt C) (by omega) (by omega)).mono ?_;rintro e w4 ⟨v4,rfl,o4,G⟩;obtain⟨A4,c4,rfl⟩:=o4.form;replace b:=ak b G;replace W:=b.cell;replace T:=b.frozen;have z:=C.below G (by omega);replace J:=J.below G;have z4:=G.size;have Q:=ae dg G;clear C dg G;have y:∀p∈x.pk,cA p.no:=λp hp=>by
  obtain⟨i,hi⟩:=qW.1 hp;obtain⟨_,_,_,_,_,_,_,h3,_⟩:=aaw (pt z) hi;exact h3
 have j:=J.sl (aga y) (am _);have o:=o4.sl (aga y) (am _);have O:=aer 7 x.pk;replace j:=ab j;replace o:=ab o;replace O:=ab O;clear J o4 y;go_wp2;refine(aqN _ _ _ _ w4 _ _ _ _ j.out o.out true (by simp)).mono ?_;rintro e w5 ⟨rfl,F⟩;replace b:=ak b F;replace W:=b.cell;replace T:=b.frozen;have I:=z.below F (by omega);have D:=ae Q F;have z5:=F.size;have a5:=ab (aes.loc.below j.out F (am _));clear j o z Q F;go_wp2;clear W T;have K:=b;clear b;go_loopw [6,7] (λnn ii wr=>∃i m:Nat,i<=x.pk.length/\ii=.int .i64 i/\nn=.int .i64 m/\m=(ko 7 (x.pk.take i)).length/\m<=i/\Below w5.heap.size w5 wr) (λ_ ii _=>x.pk.length-(intOf ii).toNat)
 case atStart=>exact⟨0,0,fa _,rfl,rfl,rfl,am _,gn _ _⟩
 case round=>
  obtain⟨i,m,hi,rfl,rfl,V,al,a⟩:=hrel;have X:=ab V;clear V;have r:=ak K a;have n:=I.below a (by omega);have a0:=r.cell 0;have zr:=a.size;by_cases a2:i<x.pk.length
  .obtain⟨p,B⟩:=ar a2;obtain⟨bp,ad,A5,c5,e0, -,hb,aa,Z,a4,oC⟩:=aaw (pt n) B;subst e0;obtain⟨q,k⟩:=lM (lK 7 p);have R:=aqO HAS.out (key:=7) (da B);have t1:decide (p.no∈ko 7 x.pk)=!q:=by
    rw[qj,tR,R,<-k];cases q<;>simp
   replace t1:=ab t1;replace B:=ab B;replace k:=ab k;clear R;go_wp2;refine(mF (β:=true) 7 (by omega) p _ wr _ _ (by omega) oC q k.out).mono ?_;rintro e w6 ⟨rfl,N⟩;have f:=ae a N;have M:=I.below f (by omega);obtain⟨ay,a9,A6,c6,e6, -, -, -,an, -, -⟩:=aaw (pt M) B.out;cases e6;have ao:=(ak K f).cell 0;have Y:=ab (aes.loc.below a5.out f (by omega));clear n M Z a4 oC r a0 N;go_wp2;refine(aqQ _ _ _ _ _ w6 _ _ Y.out).mono ?_;rintro e w7 ⟨rfl,rfl⟩;rw[t1.out];cases q
   .have g:=ahh B.out (λh=>by have:=k.out.2 h;cases this);have HST:=ab (fk List.length g);clear g;go_wp2;go_roundw
    case rel=>exact⟨i+1,m+1,by omega,by go_num,by go_num,by rw[HST.out,ap,<-X.out];rfl,by omega,f⟩
    simp[intOf];omega
   .have g:=aet B.out (k.out.1 rfl);have HST:=ab g;clear g;go_wp2;go_roundw
    case rel=>exact⟨i+1,m,by omega,by go_num,by go_num,by rw[HST.out];exact X.out,by omega,f⟩
    simp[intOf];omega
  .obtain rfl:i=x.pk.length:=by omega
   have V:m=(ko 7 x.pk).length:=by have:=X.out;rwa [ge] at this
   subst V;obtain⟨q,k⟩:=lM (aqJ 7 x);replace k:=ab k;have a7:=r.cell 1;have a8:=r.cell 2;have a6:=hg.below (ae D a);go_wp2;refine(aoD x u.out S.out _ _ _ _ _ wr a6 (by omega) (pt n) n.l q k.out).mono ?_;rintro e w6 ⟨rfl,N⟩;cases q
   .go_wp2;go_ret;exact⟨rfl,ae D (ae a N)⟩
   .have hn:ko 7 x.pk=[]:=aoG (aqI (k.out.1 rfl));rw[hn];clear hn;go_wp2;go_ret;exact⟨rfl,ae D (ae a N)⟩
end Go.Proofs.YtpbbcfocomejmaaGreatDoor.lawlb