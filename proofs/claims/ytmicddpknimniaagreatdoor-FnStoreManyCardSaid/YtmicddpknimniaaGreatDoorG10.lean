/- A part. -/
import Derived.Test.YtmicddpknimniaaGreatDoorG9
set_option maxRecDepth 100000
set_option maxHeartbeats 8000000
set_option linter.all false
open Go Go.RowKit Go.Proofs.Tryz Go.Proofs.YtmicddpknimniaaGreatDoor
namespace Go.Proofs.YtmicddpknimniaaGreatDoor
end Go.Proofs.YtmicddpknimniaaGreatDoor
namespace Go.Proofs.YtmicddpknimniaaGreatDoor.lawsy
open Go.RowKit
def walk{v:Value}{w:World}(hg:Glo w)(l:List Int)(h:cV jk 1 w 0 w.heap.size l [v])(w':World)(hw:w'=w:=by rfl) :
  Calls (ah true) 3 #[v] w' λe w'=>e=.returned (.bool true)/\Below w.heap.size w w':=by
 subst hw;obtain⟨A,c,rfl⟩:=h.form;have o:l.length<=maxLen:=by obtain⟨_,h1,h2⟩:=h.len_;omega
 unfold maxLen at o;by_cases Y:1048576<l.length
 .go_enter qF3,ntmps3;go_wp2;go_ret;exact⟨rfl,gc _ _⟩
 go_enter qF3,ntmps3;go_wp2;refine(abm A _ c l _ h).mono ?_;rintro e w1 ⟨va,vb,vc,s,x,rfl,os,t,y,X⟩;have d:=y.sm t.wf.sm;have C:aii x.lg:=by rw[y.lg];exact t.wf.okl
 have a:nS pkN x.pk<=1000000:=by have:=aij x.pk;have:=d.atz;unfold adB at this;omega
 replace d:=ab d;replace C:=ab C;replace a:=ab a;clear o Y t y;have s1:=X.size;obtain⟨A1,a1,S,W,C1,c1,rfl,rfl,rfl⟩:=os.form;have a4:=d.out.pl;go_wp2;generalize hG:w1.alloc (.cells #[.slice A1 x.pk.length a1,.slice S x.sn.length W,.slice C1 x.lg.length c1] 27)=w2 at *;obtain⟨G,an,g,Z,M⟩:=iN hG;clear hG;have B:=os.below G (am _);replace G:=ae X G;clear os X;refine(abn (β:=true) x.pk S C1 _ W _ c1 _ w2 _ _ B.pk (by omega) (by have:=a.out;omega)).mono ?_;rintro e w3 ⟨rfl,D⟩;replace g:=av g D;replace Z:=g.cell;replace M:=g.frozen;have u:=B.below D (by omega);have z3:=D.size;have E:=ae G D;clear B G D;go_wp2;refine(abo (β:=true) x.pk S C1 _ W _ c1 _ w3 _ _ u.pk (by omega) (by have:=a.out;omega)).mono ?_;rintro e w4 ⟨rfl,F⟩;replace g:=av g F;replace Z:=g.cell;replace M:=g.frozen;have Q:=u.below F (by omega);have z4:=F.size;have I:=ae E F;clear u E F;go_wp2;clear Z M;have T:=g;clear g;go_loopw [5,6] (λnn ii wr=>∃i:Nat,i<=x.pk.length/\ii=.int .i64 i/\nn=.int .i64 (ma pkN x.pk i)/\Below w4.heap.size w4 wr) (λ_ ii _=>x.pk.length-(intOf ii).toNat)
 case atStart=>exact⟨0,fb _,rfl,rfl,gc _ _⟩
 case round=>
  obtain⟨i,hi,rfl,rfl,b⟩:=hrel;have m:=av T b;have k:=Q.below b (by omega);have a9:=m.cell 0;have zr:=b.size;by_cases V:i<x.pk.length
  .obtain⟨p,N⟩:=aq V;obtain⟨bp,a8,A5,c5,e0, -,hb,aa,a6,a5,al⟩:=acZ k.pk N;subst e0;have f:=aaB (n:=pkN) N;have O:=oB (n:=pkN) (l:=x.pk) (j:=i+1);have H:pkN p=p.its.length:=rfl;rw[H] at f;obtain⟨z,hz⟩:∃z:Nat,z=ma pkN x.pk i:=⟨_,rfl⟩;rw[<-hz] at f ⊢;have af:z+p.its.length<=1000000:=by have:=a.out;omega
   replace f:=ab f;clear N hz O H;go_wp2;go_roundw
   case rel=>exact⟨i+1,by omega,by go_num,by rw[f.out];go_num,b⟩
   simp[intOf];omega
  .obtain rfl:i=x.pk.length:=by omega
   rw[kg];obtain⟨q,K⟩:=pC (aql 7 x);replace K:=ab K;have a3:=m.cell 1;have a7:=m.cell 2;have a2:=hg.below (ae I b);go_wp2;refine(aoi 7 (by omega) x d.out C.out _ _ _ _ _ wr a2 (by omega) k.pk k.l q K.out).mono ?_;rintro e w6 ⟨rfl,J⟩;have nG:=ae I (ae b J);have U:=k.below J (by omega);have P:=av m J;have ad:=P.cell 0;have z6:=J.size;cases q
   .go_wp2;go_ret;exact⟨rfl,nG⟩
   .obtain⟨r,L⟩:=aoj x.pk;have R:r.length=nS pkN x.pk:=akz L (K.out.1 rfl).1;have a0:(bE x.pk).length<=4000000:=by
     have e1:(bE x.pk).length=(aX x.pk).length:=by rw[<-oC,pu]
     have e2:=iy x.pk x.pk.length;rw[gn,kg] at e2;have:=a.out;omega
    replace L:=ab L;replace R:=ab R;go_wp2;refine(adC (β:=true) x.pk _ w6 _ _ (by omega) U.pk a0 r L.out).mono ?_;rintro e w7 ⟨v7,rfl,o7,b7⟩;obtain⟨A7,c7,rfl⟩:=o7.form;rw[R.out];go_wp2;go_ret;exact⟨rfl,ae nG b7⟩
end Go.Proofs.YtmicddpknimniaaGreatDoor.lawsy