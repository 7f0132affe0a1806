/- A part. -/
import Derived.Test.YtokgbpkbaoeeoaaGreatDoorG5
import Derived.WalkSpells
import Derived.Laws.CopyRow
set_option maxRecDepth 100000
set_option maxHeartbeats 8000000
set_option linter.all false
open Go Go.RowKit Go.Proofs.Tryz Go.Proofs.YtokgbpkbaoeeoaaGreatDoor
variable {s:dy} {Z U R B N b c fI g hi hi' i j k n:Nat} {key:Int} {Y β:Type} {X W V v:Value} {w':World} {e:TypeId} {t:List Nd} {xs:List Hd} {p:ByteArray} {S cs:List Value} {A:Option Addr} {T:List TypeId} {o:List ByteArray} {x:Y} {E:gG Y}
namespace Go.Proofs.YtokgbpkbaoeeoaaGreatDoor
def qh:=@_root_.List.length_eq_zero_iff
def rO:=@_root_.Go.Lib.run_eql_slice_nil
def vD:=@_root_.List.filter_append
def vY:=@_root_.List.any_eq_true
def wD:=@_root_.List.getElem?_toArray
def wH:=@_root_.Classical.choose_spec
section
variable {β:Bool}
open Go.RowKit
def ad7(l:List Pk)(v:Value)(w:World)(lo hi:Nat)(aV:hi<=w.heap.size)(h:ajR w lo hi l [v])(hn:(dw l).length<=4000000)(r:List Sp)(hr:IOf l r) :
  Calls (ah β) 61 #[v] w (axl w r):=by
 obtain⟨A,c,rfl⟩:=h.form;obtain⟨_,hc,hx⟩:=h.len_;unfold maxLen at hx;have HR:=ab hr;clear hr;go_enter zP,ntmps61;go_wp2;have ba:=av w (.cells #[] 153);have l0:aJ FSp 153 (w.alloc (.cells #[] 153)) w.heap.size (.slice (some ⟨w.heap.size,0,none⟩) 0 0) []:=aJ.ajv (eG.new _ _ (am _));generalize w.alloc (.cells #[] 153)=w0 at *;go_loopw [3,4] (λoo ii wr=>∃k:Nat,k<=l.length/\ii=.int .i64 k/\aJ FSp 153 wr w.heap.size oo (eJ (dw (l.take k)) [])/\(∀s∈dw (l.take k),spP s)/\Below w.heap.size w wr) (λoo ii _=>l.length-(intOf ii).toNat)
 case atStart=>exact⟨0,eg _,rfl,l0,λs o=>(by cases o),ba⟩
 case round=>
  clear l0 ba;obtain⟨k,hk,rfl,i,o,u⟩:=hrel;have HS:=ab o;clear o;have g2:=ajR.ar.below h u aV;by_cases a4:k<l.length
  .obtain⟨p,J⟩:=aq a4;replace J:=ab J;have T:Hid (∀s∈cK l k 0,spP s):=ab (by rw[acF];exact HS.out);rw[<-acF] at i;obtain⟨Ao,co,rfl⟩:=i.form;have K:=i;clear i HS;go_wp2;go_loopw [3,5] (λoo jj wy=>∃j:Nat,j<=p.its.length/\jj=.int .i64 j/\aJ FSp 153 wy w.heap.size oo (eJ (cK l k j) [])/\(∀s∈cK l k j,spP s)/\Below w.heap.size w wy) (λoo jj _=>p.its.length-(intOf jj).toNat)
   case atStart=>exact⟨0,eg _,rfl,K,T.out,u⟩
   case round=>
    clear K T g2 u;obtain⟨j,hj,rfl,i,o,f⟩:=hrel;have HS:=ab o;clear o;obtain⟨b1,af,A1,c1,rfl,al,I,aa,Q,a0,S⟩:=aq7 h J.out;have a2:=aU f Q;have a9:=aU f a0;have U:=aaI.ar.below S f aV;obtain⟨_,an,a8⟩:=U.len_;unfold maxLen at a8;clear Q a0 S;have R:=ajU (j:=j) J.out;have M:=agL (a:=cK l k j) (l:=[]);have a5:(eJ (cK l k j) []).length<=4000000:=by simp only[mT,sM] at M;omega
    clear M R;by_cases a1:j<p.its.length
    .obtain⟨y,t⟩:=aq a1;obtain⟨b2,iZ,rfl,_,_,ad,cn,cb⟩:=aso U t;have d:=ah6 J.out t;replace t:=ab t;replace d:=ab d;obtain⟨Ao,co,rfl⟩:=i.form;have V:=ab (λb O=>(i.at_ (g:=b) O).2);go_wp2;have aH:=ae a2;have aI:=ae a9;have bc:=ae cn;refine aC 16 [0,1,2,3,4,5,6,7,8,9,10,11,12,13,14] [15] (h:= ?_);simp only[pick,List.map,gt,gE];repeat(go_big_quiet_step (fail))
     refine ip ?_;clear aH aI bc;apply Exists.intro;apply aY (λv w'=>∃g,v=.pointer (some ⟨g,0,none⟩)/\wr.heap.size<=g/\bg w' g 153 #[.int .i64 0,.int .i64 0])
     .rfl
     .exact λv x y ⟨g,e,hg,hk⟩ hle=>⟨g,e,hg,ak hk hle⟩
     .intro x Y Qx D;replace D:=ab D;clear Y;go_wp2;exact D.out _ _ (av _ _) ⟨_,rfl,x.ok.size,bg.new _ _ _⟩
     intro u6;refine aQ ?_;intro w2 I xx cU Y;dsimp only[dQ] at Y;try rw[cU] at Y
     clear cU xx;obtain⟨⟨g,rfl,hg,kb⟩, -⟩:=Y;simp only[List.drop];have gw:=f.size;replace i:=i.below I;replace f:=ag f I;have H:=kb.cell;have a6:=kb.frozen;go_wp2;have n:=(kb.bG 0 (.int .i64 y.n)).bG 1 (.int .i64 p.no);simp only[dj,ge,io] at n;have m:Below w.heap.size w ((w2.setCell ⟨g,0,none⟩ (.int .i64 y.n)).setCell ⟨g,1,none⟩ (.int .i64 p.no)):=(f.setCell (by dsimp only;omega) _).setCell (by dsimp only;omega) _;have P:aJ FSp 153 ((w2.setCell ⟨g,0,none⟩ (.int .i64 y.n)).setCell ⟨g,1,none⟩ (.int .i64 p.no)) w.heap.size (.slice Ao (eJ (cK l k j) []).length co) (eJ (cK l k j) []):=
      (i.arL _ (λb O=>by have:=V.out b O;dsimp only;omega)).arL _ (λb O=>by have:=V.out b O;dsimp only;omega)
     clear H a6;generalize (w2.setCell ⟨g,0,none⟩ (.int .i64 y.n)).setCell ⟨g,1,none⟩ (.int .i64 p.no)=w3 at *;have H:=n.cell;obtain⟨q,W⟩:=avH (spP ⟨y.n,p.no⟩);refine(amd ⟨y.n,p.no⟩ w3 q W).mono ?_;rintro e w4 ⟨rfl,b4⟩;replace n:=ak n b4;have H:=n.cell;replace P:=P.below b4;replace m:=ag m b4;cases q with
     |false=>
      have N:¬spP ⟨y.n,p.no⟩:=λh=>by have:=W.2 h;cases this
      have a3:r=[]:=by
       rcases HR.out with⟨h,_⟩|⟨_,h⟩
       .exact absurd (h _ (ajT (k:=k) (j:=j+1) _ (by rw[d.out];simp))) N
       .exact h
      subst a3;clear W N;have ba:=av w4 (.cells #[] 153);go_wp2;go_ret;exact⟨_,rfl,aJ.ajv (eG.new _ _ (m.size)),ag m ba⟩
     |true=>
      have jm:=W.1 rfl;replace jm:=ab jm;clear W;have B:=ab a5;have X:=agK (a:=cK l k j) (l:=[]) List.Pairwise.nil;have C:=ab X;clear X;have Z:∀z∈eJ (cK l k j) [],FSp.good z:=λz hz=>by
       rcases agQ hz with h|h
       .have:=HS.out z h;unfold spP at this;show cf z.n/\cf z.p;unfold cf;omega
       .cases h
      have E:=ab Z;clear Z;have fU:eJ (cK l k (j+1)) []=fW ⟨y.n,p.no⟩ (eJ (cK l k j) []):=by
       rw[d.out,acE];rfl
      have lT:=ab fU;clear fU;have F:∀s∈cK l k (j+1),spP s:=λs o=>by
       rw[d.out] at o;rcases mx.1 o with h|h
       .exact HS.out s h
       .rw[mw.1 h];exact jm.out
      replace F:=ab F;revert P B C E lT;generalize eJ (cK l k j) []=L;intro P B C E lT;go_wp2;refine(apC ⟨y.n,p.no⟩ (by have:=jm.out;unfold spP at this;unfold cf;omega) L _ w4 _ _ (am _) (P.sl E.out (am _)) C.out (by have:=B.out;omega)).mono ?_;rintro e w5 ⟨v5,rfl,o5,b5⟩;obtain⟨A5,c5,rfl⟩:=o5.form;go_wp2;go_roundw
      case rel=>exact⟨j+1,by omega,by go_num,by rw[lT.out];exact o5.base m.size,F.out,ag m b5⟩
      simp[intOf];omega
    .obtain rfl:j=p.its.length:=by omega
     have he:=ajS J.out;replace he:=ab he;have a7:Hid (∀s∈dw (l.take (k+1)),spP s):=ab (by rw[<-he.out];exact HS.out);obtain⟨Ao,co,rfl⟩:=i.form;go_wp2;go_roundw
     case rel=>exact⟨k+1,by omega,by go_num,by rw[<-he.out];exact i,a7.out,f⟩
     simp[intOf];omega
  .obtain rfl:k=l.length:=by omega
   have G:r=eJ (dw l) []:=by
    have h1:=HS.out;rw[gc] at h1;rcases HR.out with⟨_,h⟩|⟨h,_⟩
    .exact h
    .exact absurd h1 h
   replace G:=ab G;clear HS;rw[gc,<-G.out] at i;obtain⟨Ao,co,rfl⟩:=i.form;go_wp2;go_ret;exact⟨_,rfl,i,u⟩
end
section
variable {β:Bool}
open Go.RowKit
def xw{l:List Y}(h:l[k]?=some x):l.drop k=x::l.drop (k+1):=by
 have a:=aB h;rw[so a]
 congr 1
 rw[jp a] at h;exact dq h
def ams(xs:List Sp)(n:Int)(v:Value)(w:World)(t hi:Nat)(h:bD RSp 2 w t hi xs [v]) :
  Calls (ah β) 98 #[v,.int .i64 n] w λe p=>e=.returned (.int .i64 (eK n xs))/\w=p:=by
 obtain⟨A,c,rfl⟩:=h.form;obtain⟨_,z,q⟩:=h.len_;unfold maxLen at q;go_enter zB,ntmps98;go_wp2
 go_loop [5] (λi=>∃k:Nat,k<=xs.length/\i=.int .i64 k/\eK n xs=eK n (xs.drop k)) (λi=>xs.length-(intOf i).toNat)
 case atStart=>exact⟨0,eg _,rfl,by rw[rD]⟩
 case round=>
  obtain⟨k,y,rfl,a⟩:=hrel;replace a:=ab a;by_cases d:k<xs.length
  .obtain⟨x,l⟩:=aq d;obtain⟨u,o,rfl,_,_,s,f,r⟩:=axk h l;have hd:eK n (xs.drop k)=if x.n=n then x.p else eK n (xs.drop (k+1)):=by rw[xw l];rfl
   replace hd:=ab hd;by_cases b:x.n=n
   .have m:(x.n ==n)=true:=nF.2 b;have g:=ab (a.out.trans (hd.out.trans (du b)));go_wp2;go_ret;exact⟨by rw[g.out];rfl,rfl⟩
   .have m:(x.n ==n)=false:=de.2 b;have g:=ab (a.out.trans (hd.out.trans (be b)));go_wp2
    go_round
    case rel=>exact⟨k+1,by omega,by go_num,g.out⟩
    simp[intOf];omega
  .obtain rfl:k=xs.length:=by omega
   have j:eK n xs=0:=by rw[a.out,uO];rfl
   replace j:=ab j;go_wp2;go_ret;exact⟨by rw[j.out];rfl,rfl⟩
open Classical in
noncomputable def dI(key:Int)(ix:List Sp)(o:List ByteArray)(p:ByteArray):List ByteArray:=if eK (bN key (bs p)) ix=0/\p∉o then o++[p] else o
noncomputable def oN(key:Int)(ix:List Sp)(o l:List ByteArray):List ByteArray:=l.foldl (dI key ix) o
def aae(t:List Nd):List ByteArray:=t.flatMap λf=>im f.b
noncomputable def aaM(key:Int)(ix:List Sp)(t:List Nd):List ByteArray:=oN key ix [] (aae t)
def aj4{ix:List Sp}(h:eK (bN key (bs p)) ix=0)(a:p∉o):dI key ix o p=o++[p]:=du ⟨h,a⟩
def afp{ix:List Sp}(h:¬(eK (bN key (bs p)) ix=0/\p∉o)):dI key ix o p=o:=be h
def apN{ix:List Sp}{l : List ByteArray}(h:l[k]?=some p):oN key ix o (l.take (k+1))=dI key ix (oN key ix o (l.take k)) p:=by
 unfold oN;rw[kw h,ta];rfl
def apO{ix:List Sp}{f:Nd}(h:t[k]?=some f):aaM key ix (t.take (k+1))=oN key ix (aaM key ix (t.take k)) (im f.b):=by
 unfold aaM oN aae;rw[kw h,sb,ta];simp
def acL{key:Int}{ix:List Sp}:∀(l o:List ByteArray),(oN key ix o l).length<=o.length+l.length
 |[],o=>am _
 |p::l,o=>by
  have a:=acL (key:=key) (ix:=ix) l (dI key ix o p);have b:(dI key ix o p).length<=o.length+1:=by
   unfold dI;split
   .rw[aE];exact am _
   .exact Nat.le_succ _
  show(oN key ix (dI key ix o p) l).length<=_;rw[fi];omega
def afq{key:Int}{ix:List Sp}{x:ByteArray}:∀{l o:List ByteArray},x∈oN key ix o l->x∈o\/x∈l
 |[],o,h=>.inl h
 |p::l,o,h=>by
  rcases afq (l:=l) (o:=dI key ix o p) h with h|h
  .unfold dI at h;split at h
   .rcases mx.1 h with h|h
    .exact .inl h
    .rw[mw.1 h];exact .inr (by simp)
   .exact .inl h
  .exact .inr (qV _ h)
def adj:∀{t:List Nd},(∀x∈t,dN x.b=true)->(aae t).length<=40*t.length
 |[],_=>eg _
 |f::t,h=>by
  have c:=adj (t:=t) λx b=>h x (qV _ b);have d:=acI f.b;have a:=h f (by simp);unfold dN at a;simp only[ff,qT] at a;show(im f.b++aae t).length<=_;rw[aE,fi];omega
def jO{s:ByteArray}(h:dN s=true):s.size<=40/\(bs s).all pY=true:=by
 unfold dN at h;simpa using h
def aj5(h:∀x∈t,dN x.b=true):∀x∈aae t,bA (bs x):=λx a=>by
 obtain⟨f,b,a⟩:=qo.1 a;exact ma (jO (h f b)).2 x a
def mf{ix:List Sp}(h:∀x∈t,dN x.b=true):∀x∈aaM key ix t,bA (bs x):=λx b=>by
 rcases afq b with a|a
 .cases a
 .exact aj5 h x a
def mg{x:ByteArray}(h:bA (bs x)):iJ.good x:=by
 have:=h.1.2;rw[aM] at this;show x.size<=maxLen;unfold maxLen;omega
def avJ(w:World)(xs:List ByteArray)(e:Ending)(w':World):Prop:=∃v,e=.returned v/\aJ iJ 9 w' w.heap.size v xs/\Below w.heap.size w w'
def amt(key:Int)(hk:1<=key/\key<=99)(t:List Nd)(R:∀x∈t,dN x.b=true)(hl:t.length<=1000)(ix:List Sp)(vt vi:Value)(w:World)(lo hi:Nat)(aV:hi<=w.heap.size)(h1:fX w lo hi t [vt])(h2:bD RSp 2 w lo hi ix [vi]) :
  Calls (ah β) 60 #[.int .i64 key,vt,vi] w (avJ w (aaM key ix t)):=by
 replace R:=ab R;obtain⟨A,c,rfl⟩:=h1.form;obtain⟨A2,c2,rfl⟩:=h2.form;obtain⟨_,hc,n⟩:=h1.len_;unfold maxLen at n;go_enter zQ,ntmps60;go_wp2;have W:=av w (.cells #[] 9);have Q:aJ iJ 9 (w.alloc (.cells #[] 9)) w.heap.size (.slice (some ⟨w.heap.size,0,none⟩) 0 0) []:=(eG.new w 9 (am _)).own 1;generalize w.alloc (.cells #[] 9)=w0 at *;go_loopw [7,8] (λoo ii wr=>∃k:Nat,k<=t.length/\ii=.int .i64 k/\aJ iJ 9 wr w.heap.size oo (aaM key ix (t.take k))/\Below w.heap.size w wr) (λ_ ii _=>t.length-(intOf ii).toNat)
 case atStart=>exact⟨0,eg _,rfl,Q,W⟩
 case round=>
  clear Q W;obtain⟨k,aT,rfl,a,l⟩:=hrel;obtain⟨J,aa⟩:∃J,J=wr:=⟨_,rfl⟩;subst aa;by_cases a5:k<t.length
  .obtain⟨f,z⟩:=aq a5;have E:=jO (R.out f (db z));obtain⟨b1,aH,rfl,_,_,ax,mA,ad⟩:=mb (fX.ar.below h1 l aV) z;have s:=apO (key:=key) (ix:=ix) z;have a8:(aaM key ix (t.take k)).length<=40000:=by
    have a1:=acL (key:=key) (ix:=ix) (aae (t.take k)) [];have a2:=adj (t:=t.take k) λx n=>R.out x (qf n);rw[ef] at a2;show(oN key ix [] (aae (t.take k))).length<=_;simp only[mT,mc] at a1;omega
   have a3:=mf (key:=key) (ix:=ix) (t:=t.take k) λx n=>R.out x (qf n);have D:=ma E.2;have jb:=acI f.b;have aZ:=E.1;have HS:=ab s;have HP:=ab a3;have S:=ab D;have HC:=ab (agO (β:=β) f.b (by omega));clear z s a3 D E;revert HS;revert HP;generalize aaM key ix (t.take k)=base at a a8;intro HP HS;obtain⟨A0,c0,rfl⟩:=a.form;go_wp2;refine(HC.out J).mono ?_;rintro e w1 ⟨v1,rfl,op,pC⟩;clear HC;obtain⟨Ap,cp,rfl⟩:=op.form;have a0:=a.below pC;have C:=ag l pC;have X:∀g,(Value.slice A0 base.length c0).ownBlock=some g->g<J.heap.size\/w1.heap.size<=g:=λg hg=>.inl (a.at_ hg).2;have B:=(op.deep (λx n=>mg (S.out x n)) J.heap.size).sl (am _);have zo:=l.size;have z1:=pC.size;revert HS;revert S;revert jb;revert B;generalize im f.b=ps;intro B jb S HS;have HO:=ab a0;replace C:=ab C;have M:=ab B;have d:=ab X;clear a l a0 B op X pC ad mA;go_wp2;go_loopw [7,10] (λoo jj wr=>∃j:Nat,j<=ps.length/\jj=.int .i64 j/\aJ iJ 9 wr w.heap.size oo (oN key ix base (ps.take j))/\Below w.heap.size w wr/\dE wr J.heap.size w1.heap.size ps [.slice Ap ps.length cp]/\(∀g,oo.ownBlock=some g->g<J.heap.size\/w1.heap.size<=g)/\w1.heap.size<=wr.heap.size) (λ_ jj _=>ps.length-(intOf jj).toNat)
   case atStart=>exact⟨0,eg _,rfl,HO.out,C.out,M.out,d.out,am _⟩
   case round=>
    clear HO C M d;obtain⟨j,ao,rfl,a,l,hr,Z,hz⟩:=hrel;by_cases af:j<ps.length
    .obtain⟨p,y⟩:=aq af;have al:=S.out p (db y);obtain⟨b2,iZ,rfl,aL,b0,aI,a7⟩:=lZ hr y;have fU:=apN (key:=key) (ix:=ix) (o:=base) y;have L:=acL (key:=key) (ix:=ix) (ps.take j) base;rw[ef] at L;have O:∀x∈oN key ix base (ps.take j),iJ.good x:=λx n=>by
      rcases afq n with h|h
      .exact mg (HP.out x h)
      .exact mg (S.out x (qf h))
     have an:=RSp.loc;have N:bD RSp 2 wr lo hi ix [.slice A2 ix.length c2]:=(bD.loc RSp.loc).below h2 l aV;have U:=ab fU;have H:=ab O;have a9:=ab N;have d:=ab Z;have M:=ab hr;have T:=ab (abo (β:=β) key p hk al wr);clear an fU O N Z hr y;revert U;revert H;generalize oN key ix base (ps.take j)=o at a L;intro H U;obtain⟨Ao,co,rfl⟩:=a.form;have K:=(a.deep H.out w.heap.size).sl (am _);replace K:=ab K;have ay:o.length<=50000:=by omega
     clear L;go_wp2;refine T.out.mono ?_;rintro e w2 ⟨rfl,rfl⟩;clear T;have I:=ab (ams (β:=β) ix (bN key (bs p)) _ wr lo hi a9.out);obtain⟨r,u⟩:∃r,r=eK (bN key (bs p)) ix:=⟨_,rfl⟩;rw[<-u] at I;replace u:=ab u;go_wp2;refine I.out.mono ?_;rintro e w2 ⟨rfl,rfl⟩;clear I;by_cases m:r=0
     .have t1:(r ==0)=true:=nF.2 m;have a4:=ab (u.out.symm.trans m);clear m;obtain⟨q,hq⟩:=avy (p∈o);have V:=ab (apG (β:=β) o p _ wr _ _ K.out q hq);cases q with
      |true=>
       have Y:Hid (dI key ix o p=o):=ab (afp λh=>h.2 (hq.1 rfl));clear hq;go_wp2;refine V.out.mono ?_;rintro e w2 ⟨rfl,rfl⟩;go_wp2;go_roundw
       case rel=>exact⟨j+1,by omega,by go_num,by rw[U.out,Y.out];exact a,l,M.out,d.out,hz⟩
       simp[intOf];omega
      |false=>
       have Y:Hid (dI key ix o p=o++[p]):=ab (aj4 a4.out λh=>by have:=hq.2 h;cases this);clear hq;go_wp2;refine V.out.mono ?_;rintro e w2 ⟨rfl,rfl⟩;have P:∀hs:(Value.slice Ao o.length co).ownBlock=some b2,False:=λhs=>by
        have:=d.out _ hs;omega
       replace P:=ab P;go_wp2_with(at_builtin;refine cx (F:=iJ) (v:=.slice Ao o.length co) rfl (.tmp 48) (.tmp 53) 83 rfl acH p rfl a rfl rfl (by omega) l.size ?_;intro va wa oa G a6;obtain⟨Aa,ca,rfl⟩:=oa.form;simp only[aE,fi,mT,mc] at oa);go_roundw
       case rel=>
        refine⟨j+1,by omega,by go_num,by rw[U.out,Y.out];simpa using oa,l.trans (G.below l.size λi hi n=>by have:=(a.at_ n).1;omega),dE.ar.fE M.out G λb b1 b2 _ hs=>by have:=d.out _ hs;omega,λg hg=> ?_,ap hz G.size⟩;rcases a6 g (by simpa using hg) with h|h
        .exact d.out g h
        .exact .inr (by omega)
       case measure=>simp[intOf];omega
     .have t1:(r ==0)=false:=de.2 m;have Y:Hid (dI key ix o p=o):=ab (afp λh=>m (u.out.trans h.1));clear m;go_wp2;go_roundw
      case rel=>exact⟨j+1,by omega,by go_num,by rw[U.out,Y.out];exact a,l,M.out,d.out,hz⟩
      simp[intOf];omega
    .obtain rfl:j=ps.length:=by omega
     rw[gc] at a;rw[<-HS.out] at a;have HO:=ab a;clear a;go_wp2;go_roundw
     case rel=>exact⟨k+1,by omega,by go_num,HO.out,l⟩
     simp[intOf];omega
  .obtain rfl:k=t.length:=by omega
   rw[gc] at a;obtain⟨A0,c0,rfl⟩:=a.form;go_wp2;go_ret;exact⟨_,rfl,a,l⟩
end
section
variable {β:Bool}
open Go.RowKit
def marks(k:Int):Nat->List Int
 |0=>[]
 |n+1=>marks k n++[k+n]
end
section
variable {β:Bool}
open Go.RowKit
structure gb (w:World) (lo hi:Nat) (s:dy) (va vb vc:Value):Prop where
 pk:iw w lo hi s.pk [va]
 sn:iy w lo hi s.sn [vb]
 lg:fP w lo hi s.lg [vc]
def gb.below{w : World}(h:gb w Z hi s X W V)(b:Below B w w')(a:hi<=B):gb w' Z hi s X W V:=⟨iw.loc.below h.pk b a,iy.loc.below h.sn b a,fP.loc.below h.lg b a⟩
def gb.wide{w:World}(h:gb w Z hi s X W V)(b:fI<=Z)(a:hi<=hi'):gb w fI hi' s X W V:=⟨iw.loc.wide h.pk b a,iy.loc.wide h.sn b a,fP.loc.wide h.lg b a⟩
structure fg (w:World) (lo hi:Nat) (s:dy) (va vb vc:Value):Prop where
 pk:bF w lo hi s.pk [va]
 sn:bR w lo hi s.sn [vb]
 lg:dH w lo hi s.lg [vc]
def fg.go{w : World}(h:fg w Z hi s X W V)(d:∀b,Z<=b->b<hi->w'.heap[b]?=w.heap[b]?)(c:fI<=Z)(a:hi<=hi'):fg w' fI hi' s X W V:=
 ⟨bF.ar.loc.go d c a h.pk,bR.ar.loc.go d c a h.sn,dH.ar.loc.go d c a h.lg⟩
def fg.below{w : World}(h:fg w Z hi s X W V)(a:Below B w w')(d:hi<=B):fg w' Z hi s X W V:=h.go (λb _ c=>a.block b (by omega)) (am _) (am _)
def fg.l{w:World}(h:fg w Z hi s X W V):gb w Z hi s X W V:=⟨bF.l h.pk,bR.l h.sn,dH.l h.lg⟩
def kQ(s:dy):Nat:=eu bPk s.pk+eu bSn s.sn+s.lg.length
def asB(w:World)(s:dy)(e:Ending)(w':World):Prop:=∃c a b,e=.returned (.agg #[c,a,b])/\fg w' w.heap.size w'.heap.size s c a b/\Below w.heap.size w w'
end
section
variable {β:Bool}
open Go.RowKit
section
variable {P:Program} {α:Type} {E:gG α} {T:List TypeId} {sz:Nat} {e:TypeId}
def iz (C:dL E T) (B:e∉T) {w:World} {p:Array Oper} {rest:List Oper} {o:Oper} {a:Act} {Q:Exit->Act->World->Prop} (q:o.guard=none) (s x:Operand) (t:TypeId)
  (V:o.op=.call ⟨.builtin .append,#[s,x],#[t,t]⟩)
  (z:iu P t e sz Z)  {xs:List α} (y:α) (hs:a.eval s=v) (m:aO e E sz w U R xs [v]) {es:Array Value} {L:TypeId} (hx:a.eval x=.slice (some ⟨g,0,none⟩) 1 1) (M:bg w g L es) (n:es.toList.length=sz) (I:∀u∈es.toList,u.oneCell'=true) (W:R<=hi) (X:E w R hi y es.toList) (aV:hi<=w.heap.size)
  (hn:xs.length<=1099511627775) (f:U<=w.heap.size)
  (h:∀i c,aO e E sz c U c.heap.size (xs++[y]) [i]->bj (λb=>v.ownBlock=some b) w c->(∀b,i.ownBlock=some b->v.ownBlock=some b\/w.heap.size<=b)->wpList P p Q rest (a.put o.dst i) c) :
  wpList P p Q (o::rest) a w:=by
 obtain⟨v0,cells,e1,d,hg,G⟩:=m;cases e1;refine ack q s x t V z hs d hx (news:=es.toList) (by rw[n,Nat.one_mul]) (λ_=>⟨_,rfl,λj u Y=>by
  have D:(⟨g,0,none⟩:Addr).add j=⟨g,j,none⟩:=by unfold Addr.add;split<;>simp_all
  rw[D,M.cell,<-fa];exact Y⟩) I (by omega) f λi c k=>h i c ?_ k.fE k.at_
 have A:∀b,v.ownBlock=some b->∃J,bg w b e J:=λb l=>by
  rcases d.2 with⟨rfl,_⟩|⟨g',cap,S,rfl,_,K,_⟩
  .cases l
  .cases l;exact⟨_,K⟩
 have H:∀b,Typed w T b->c.heap[b]?=w.heap[b]?:=λb ⟨t',ht',J,hd⟩=>k.fE.block b hd.lt λl=>by
  obtain⟨N,F⟩:=A b l;exact B (cI F hd▸ht')
 have O:=k.fE.size;refine⟨i,cells++es.toList,rfl,by rw[aE];exact k.own,λb l=>(k.own.lt b l).2, ?_⟩;have hS:=Els.snoc (E:=E) (G.go (fI:=U) (hi':=R) C (λb _ _ r=>H b r) (am _) (am _)) (y:=y) (es:=es.toList) n I (hi:=c.heap.size) (by omega) (C.go (λb _ _ r=>H b r) (am _) (by omega) X);exact hS C.loc
end
def aic:iu (ah β) 25 65 2 16:=iu.mk' xD (z:=.agg #[.int .i64 0,.int .i64 0]) (by kernel_rfl) rfl (by decide) (by decide)
def aid:iu (ah β) 39 67 2 40:=iu.mk' zv (z:=.agg #[.string ⟨#[]⟩,.slice none 0 0]) (by kernel_rfl) rfl (by decide) (by decide)
def aek:iu (ah β) 24 41 2 32:=iu.mk' xR (z:=.agg #[.int .i64 0,.slice none 0 0]) (by kernel_rfl) rfl (by decide) (by decide)
def amu(xs:List Int)(v:Value)(w:World)(p hi:Nat)(h:bD (bV gR) 1 w p hi xs [v])(n:hi<=w.heap.size)(k:xs.length<=1099511627776) :
  Calls (ah β) 69 #[v] w (ahR gR 3 w xs):=by
 obtain⟨A,c,rfl⟩:=h.form;have f:=ab (kq (F:=gR) h n);cases A with
 |none=>
  have a:xs=[]:=by
   rcases pv xs.length with a|a
   .exact qU a
   .obtain⟨x,l⟩:=aq a;obtain⟨b,j,t,o,_⟩:=h.at_ l;cases o
  subst a;have m:=rO (P:=(ah β)) w 37 3 none 0 c 0 0 wZ;go_enter xW,ntmps69;go_wp2;go_wp2;go_ret;exact⟨_,rfl,aJ.nil _ _ _,fd _ _⟩
 |some q=>
  have m:=rO (P:=(ah β)) w 37 3 (some q) xs.length c 0 0 wZ;have d:=av w (.cells #[] 3);have g:=ab (eG.new w 3 (am _));go_enter xW,ntmps69;go_wp2_with(at_builtin;refine nO (F:=gR) (xs:=xs) d rfl (.tmp 5) (.tmp 6) 37 rfl nM (am _) rfl rfl g.out f.out k ?_;intro s r e i);go_wp2;go_ret;exact⟨_,rfl,i,d.trans (e.mono d.size)⟩
def apP(xs:List It)(v:Value)(w:World)(p hi:Nat)(h:bD (bV nA) 2 w p hi xs [v])(n:hi<=w.heap.size)(k:xs.length<=1099511627776) :
  Calls (ah β) 68 #[v] w (ahR nA 63 w xs):=by
 obtain⟨A,c,rfl⟩:=h.form;have f:=ab (kq (F:=nA) h n);cases A with
 |none=>
  have a:xs=[]:=by
   rcases pv xs.length with a|a
   .exact qU a
   .obtain⟨x,l⟩:=aq a;obtain⟨b,j,t,o,_⟩:=h.at_ l;cases o
  subst a;have m:=rO (P:=(ah β)) w 34 63 none 0 c 0 0 xC;go_enter xX,ntmps68;go_wp2;go_wp2;go_ret;exact⟨_,rfl,aJ.nil _ _ _,fd _ _⟩
 |some q=>
  have m:=rO (P:=(ah β)) w 34 63 (some q) xs.length c 0 0 xC;have d:=av w (.cells #[] 63);have g:=ab (eG.new w 63 (am _));go_enter xX,ntmps68;go_wp2_with(at_builtin;refine nO (F:=nA) (xs:=xs) d rfl (.tmp 5) (.tmp 6) 34 rfl oI (am _) rfl rfl g.out f.out k ?_;intro s r e i);go_wp2;go_ret;exact⟨_,rfl,i,d.trans (e.mono d.size)⟩
def apQ(xs:List Hd)(v:Value)(w:World)(p hi:Nat)(h:bD (bV pB) 2 w p hi xs [v])(n:hi<=w.heap.size)(k:xs.length<=1099511627776) :
  Calls (ah β) 38 #[v] w (ahR pB 65 w xs):=by
 obtain⟨A,c,rfl⟩:=h.form;have f:=ab (kq (F:=pB) h n);cases A with
 |none=>
  have a:xs=[]:=by
   rcases pv xs.length with a|a
   .exact qU a
   .obtain⟨x,l⟩:=aq a;obtain⟨b,j,t,o,_⟩:=h.at_ l;cases o
  subst a;have m:=rO (P:=(ah β)) w 25 65 none 0 c 0 0 xD;go_enter yh,ntmps38;go_wp2;go_wp2;go_ret;exact⟨_,rfl,aJ.nil _ _ _,fd _ _⟩
 |some q=>
  have m:=rO (P:=(ah β)) w 25 65 (some q) xs.length c 0 0 xD;have d:=av w (.cells #[] 65);have g:=ab (eG.new w 65 (am _));go_enter yh,ntmps38;go_wp2_with(at_builtin;refine nO (F:=pB) (xs:=xs) d rfl (.tmp 5) (.tmp 6) 25 rfl aic (am _) rfl rfl g.out f.out k ?_;intro s r e i);go_wp2;go_ret;exact⟨_,rfl,i,d.trans (e.mono d.size)⟩
def af2(x:Pk)(v:Value)(w:World)(q hi:Nat)(h:ju w q hi x.its [v])(n:hi<=w.heap.size)(i:cf x.no)(z:x.its.length<=1099511627776) :
  Calls (ah β) 36 #[.agg #[.int .i64 x.no,v]] w λe j=>∃m,e=.returned (.agg #[.int .i64 x.no,m])/\lh j w.heap.size j.heap.size x [.int .i64 x.no,m]/\Below w.heap.size w j:=by
 have C:=bD.good (F:=nA) h;obtain⟨A,c,rfl⟩:=bD.form h;go_enter Ac,ntmps36;go_wp2;generalize B:(w.alloc (.cells #[.int .i64 x.no,.slice A x.its.length c] 36)).alloc (.cells #[.int .i64 0,.slice none 0 0] 36)=w0 at *;obtain⟨k,E,f,o,s,d,p,t⟩:=pW B;refine(apP x.its _ w0 q hi (ju.loc.below h k n) (ap n k.size) z).mono ?_;rintro e D ⟨I,rfl,l,a⟩;replace f:=ak f a;replace o:=f.cell;replace s:=f.frozen;replace d:=ak d a;replace p:=d.cell;replace t:=d.frozen;obtain⟨u,y,rfl⟩:=l.form;have H:=a.size;have HO:=ab (l.aaL C a.size λg r=>(l.at_ r).2);go_wp2;exact pb (v:=.agg #[.int .i64 x.no,.slice u x.its.length y]) (by simp[results,results36,go_sem,o,p]) rfl ⟨_,rfl,⟨_,rfl,i,abA.ar.go (λb G _ _=>by rw[jn _ _ _ _ (by dsimp only;omega),jn _ _ _ _ (by dsimp only;omega),jn _ _ _ _ (by dsimp only;omega)]) (by omega) (by simp only[bv];exact am _) HO.out⟩,
  (((ag k a).setCell (by dsimp only;omega) _).setCell (by dsimp only;omega) _).setCell (by dsimp only;omega) _⟩
end
section
variable {β:Bool}
open Go.RowKit
def gX{p:Prop}(h:p/\True):p:=h.1
def aO.ob{w:World}{xs:List Y}(h:aO e E Z w U hi xs [v])(a:v.ownBlock=some b):U<=b/\b<hi/\b<w.heap.size:=by
 obtain⟨f,cells,c,h,d,_⟩:=h;cases c;exact⟨(h.lt b a).1,d b a,(h.lt b a).2⟩
def af3(x:Sn)(v:Value)(w:World)(lo hi:Nat)(h:fw w lo hi x.all [v])(aV:hi<=w.heap.size)(W:cf x.no)(hl:eu bLs x.all<=1099511627) :
  Calls (ah β) 37 #[.agg #[.int .i64 x.no,v]] w λe n=>∃v',e=.returned (.agg #[.int .i64 x.no,v'])/\mE n w.heap.size n.heap.size x [.int .i64 x.no,v']/\Below w.heap.size w n:=by
 obtain⟨A,c,rfl⟩:=bD.form h;obtain⟨_,hc,hx⟩:=h.len_;unfold maxLen at hx;have a5:=ap (dV (f:=bLs) (l:=x.all)) hl;go_enter zZ,ntmps37;go_wp2;generalize U:((w.alloc (.cells #[.int .i64 x.no,.slice A x.all.length c] 41)).alloc (.cells #[.int .i64 0,.slice none 0 0] 41)).alloc (.cells #[.int .i64 x.no,.slice none 0 0] 41)=w0 at *;obtain⟨aL,jo,k0,dn,eQ,j,L,Z,d,D,Q⟩:=aeZ U;go_loopw [12] (λii wr=>∃(k:Nat) (R:Value),k<=x.all.length/\ii=.int .i64 k/\fQ wr w0.heap.size wr.heap.size (x.all.take k) [R]/\bg wr (w.heap.size+1) 41 #[.int .i64 0,.slice none 0 0]/\bg wr (w.heap.size+1+1) 41 #[.int .i64 x.no,R]/\Below w.heap.size w wr/\w0.heap.size<=wr.heap.size) (λii _=>x.all.length-(intOf ii).toNat)
 case atStart=>exact⟨0,_,eg _,rfl,aO.nil (am _),j,d,aL,am _⟩
 case round=>
  obtain⟨k,R,hk,rfl,m,j,d,q,a7⟩:=hrel;obtain⟨V,S,rfl⟩:=m.form;have o:(x.all.take k).length=k:=by rw[ef,qR hk]
  rw[o] at m d;by_cases X:k<x.all.length
  .obtain⟨y,E⟩:=aq X;have jk:=jL (f:=bLs) (db E);have a9:y.ns.length<=1099511627:=by have h1:y.ns.length<=bLs y:=Nat.le_add_left _ _;omega
   obtain⟨b,H,es,rfl,_,a4,_,⟨v2,rfl,O,M⟩,G⟩:=(fw.loc.below h q aV).at_ E;obtain⟨A2,c2,rfl⟩:=bD.form M;have a2:wr.cell? ⟨b,H+k*2,none⟩=some (.string y.p):=by simpa using G 0 _ rfl
   have ad:wr.cell? ⟨b,H+k*2+1,none⟩=some (.slice A2 y.ns.length c2):=by simpa using G 1 _ rfl
   have iR:=kw E;replace iR:=ab iR;replace E:=ab E;replace o:=ab o;replace M:=ab M;go_wp2;generalize U:wr.alloc (.cells #[.string y.p,.slice A2 y.ns.length c2] 67)=wa at *;obtain⟨B,a3,m0,od,a8⟩:=mB U;replace j:=ak j B;replace L:=j.cell;replace Z:=j.frozen;replace d:=ak d B;replace D:=d.cell;replace Q:=d.frozen;have fD:=fQ.ar.below m B (am _);have a1:=ab (lM.loc.below M.out B (by have:=q.size;omega));have s:=ag q B;have fk:=D 1;have fm:=od 0;have T:=od 1;have aH:=ae fk;have aI:=ae fm;have bc:=ae T;refine aC 9 [0,1,2,3,4,5] [6,7,8] (h:= ?_);simp only[pick,List.map,gt,gE];repeat(go_big_quiet_step (fail))
   refine ip ?_;apply Exists.intro;apply aY (λv n=>∃A c,v=.slice A y.ns.length c/\iU n wa.heap.size n.heap.size y.ns [v])
   .rfl
   .exact λv x y ⟨A,c,e,m⟩ hle=>⟨A,c,e,iU.ar.wide (iU.ar.below m hle (am _)) (am _) hle.size⟩
   .intro z r Qx a;replace a:=ab a;have hd:=lM.loc.below a1.out z.ok (by have:=s.size;omega);go_wp2;refine(amu y.ns _ _ _ _ hd (by have:=z.ok.size;have:=s.size;omega) (by omega)).mono ?_;rintro e w5 ⟨v5,rfl,t,b5⟩;have jm:=hd.alz;obtain⟨A5,c5,rfl⟩:=t.form;go_wp2;exact a.out _ _ b5 ⟨_,_,rfl,iU.ar.wide (t.aaL jm b5.size λg Y=>(t.at_ Y).2) z.ok.size (am _)⟩
   intro v6;apply aY (λv n=>∃A c,v=.agg #[.string y.p,.slice A y.ns.length c]/\iU n wa.heap.size n.heap.size y.ns [.slice A y.ns.length c])
   .rfl
   .exact λv x y ⟨A,c,e,m⟩ hle=>⟨A,c,e,iU.ar.wide (iU.ar.below m hle (am _)) (am _) hle.size⟩
   .intro z r Qx a;replace a:=ab a;obtain⟨A5,c5,rfl,t⟩:=r.1 (by kernel_rfl);go_wp2;exact a.out _ _ (fd _ _) ⟨_,_,rfl,t⟩
   intro v7;apply aY (λv n=>∃g A c,v=.slice (some ⟨g,0,none⟩) 1 1/\wa.heap.size<=g/\bg n g 67 #[.string y.p,.slice A y.ns.length c]/\iU n wa.heap.size n.heap.size y.ns [.slice A y.ns.length c])
   .rfl
   .exact λv x y ⟨g,A,c,e,Y,hk,m⟩ hle=>⟨g,A,c,e,Y,ak hk hle,iU.ar.wide (iU.ar.below m hle (am _)) (am _) hle.size⟩
   .intro z r Qx a;replace a:=ab a;obtain⟨A5,c5,rfl,t⟩:=r.1 (by kernel_rfl);go_wp2;have ba:=av z.to (.cells #[.string y.p,.slice A5 y.ns.length c5] 67);exact a.out _ _ ba ⟨_,_,_,rfl,z.ok.size,bg.new _ _ _,iU.ar.wide (iU.ar.below t ba (am _)) (am _) ba.size⟩
   intro v8;refine aQ ?_;intro w6 J xx cU r;dsimp only[dQ] at r;try rw[cU] at r
   obtain⟨⟨g8,A8,c8,rfl,aa,u,o8⟩, -⟩:=r;simp only[List.drop];replace j:=ak j J;replace L:=j.cell;replace Z:=j.frozen;replace d:=ak d J;replace D:=d.cell;replace Q:=d.frozen;have K:=fQ.ar.below fD J (by have:=B.size;omega);have F:=ag s J;have z6:=J.size;have za:=B.size;replace K:=ab K;replace o8:=ab o8;replace u:=ab u;go_wp2_with(at_builtin;refine gX ?_);refine⟨?_,trivial⟩;refine iz OLs.ar (by decide) (v:=.slice V k S) rfl (.tmp 17) (.tmp 24) 39 rfl aid y rfl K.out rfl u.out rfl (by simp[Value.oneCell']) (show wr.heap.size<=w6.heap.size by omega) ⟨_,rfl,O,iU.ar.wide o8.out za (am _)⟩ (am _) (by have:=o.out;omega) (by omega) ?_;intro v9 w9 o9 N a6;obtain⟨A9,c9,rfl⟩:=o9.form;rw[aE,mp,o.out] at o9;rw[aE,mp,o.out];have C:∀b,(Value.slice V k S).ownBlock=some b->w0.heap.size<=b:=λb P=>(K.out.ob P).1;replace j:=aP j N (λI=>by have:=C _ I;omega);replace d:=aP d N (λI=>by have:=C _ I;omega);replace D:=d.cell;replace Q:=d.frozen;go_wp2;have a0:Below w.heap.size w w9:=F.trans (N.below F.size λi hi I=>by have:=C i I;omega);have z9:=N.size;go_roundw
   case rel=>
    refine⟨k+1,.slice A9 (k+1) c9,by omega,by go_num, ?_,cj j (p:=⟨w.heap.size+1+1,1,none⟩) _ (by dsimp only;omega), ?_,a0.setCell (by dsimp only;omega) _,by simp only[bv];omega⟩
    .rw[iR.out];exact fQ.ar.loc.go (λb P _=>jn _ _ _ _ (by dsimp only;omega)) (am _) (by simp only[bv];exact am _) o9
    .have:=d.bG 1 (.slice A9 (k+1) c9);simpa using this
   case measure=>simp[intOf];omega
  .obtain rfl:k=x.all.length:=by omega
   rw[gc] at m;have L:=j.cell;have Z:=j.frozen;have D:=d.cell;replace m:=ab m;go_wp2;exact pb (v:=.agg #[.int .i64 x.no,.slice V x.all.length S]) (by simp[results,results37,go_sem,L,D]) rfl ⟨_,rfl,⟨_,rfl,W,fQ.ar.go (λb P _ _=>by rw[jn _ _ _ _ (by dsimp only;omega),jn _ _ _ _ (by dsimp only;omega)]) (by omega) (by simp only[bv];exact am _) m.out⟩,
    (q.setCell (by dsimp only;omega) _).setCell (by dsimp only;omega) _⟩
end
section
variable {β:Bool}
open Go.RowKit
def afr(s:dy)(va vb vc:Value)(w:World)(lo hi:Nat)(h:gb w lo hi s va vb vc)(aV:hi<=w.heap.size)(hl:kQ s<=1099511627) :
  Calls (ah β) 15 #[.agg #[va,vb,vc]] w (asB w s):=by
 obtain⟨h1,h2,h3⟩:=h;obtain⟨A,a,rfl⟩:=bD.form h1;obtain⟨B,b,rfl⟩:=bD.form h2;obtain⟨C,c,rfl⟩:=bD.form h3;obtain⟨_,b2,aZ⟩:=h1.len_;obtain⟨_,b6,ao⟩:=h2.len_;obtain⟨_,b8,an⟩:=h3.len_;unfold maxLen at aZ ao an;unfold kQ at hl;have b3:=dV (f:=bPk) (l:=s.pk);have b4:=dV (f:=bSn) (l:=s.sn);go_enter AC,ntmps15;go_wp2;generalize hG:((w.alloc (.cells #[.slice A s.pk.length a,.slice B s.sn.length b,.slice C s.lg.length c] 27)).alloc (.cells #[.slice none 0 0,.slice none 0 0,.slice none 0 0] 27)).alloc (.cells #[.slice none 0 0,.slice none 0 0,.slice none 0 0] 27)=w0 at *;obtain⟨aL,jo,m,dn,eQ,j,W,eD,d,N,U⟩:=aeZ hG;go_loopw [11] (λii wr=>∃(k:Nat) (vo:Value),k<=s.pk.length/\ii=.int .i64 k/\bF wr w0.heap.size wr.heap.size (s.pk.take k) [vo]/\bg wr w.heap.size 27 #[.slice A s.pk.length a,.slice B s.sn.length b,.slice C s.lg.length c]/\bg wr (w.heap.size+1) 27 #[.slice none 0 0,.slice none 0 0,.slice none 0 0]/\bg wr (w.heap.size+1+1) 27 #[vo,.slice none 0 0,.slice none 0 0]/\Below w.heap.size w wr/\w0.heap.size<=wr.heap.size) (λii _=>s.pk.length-(intOf ii).toNat)
 case atStart=>exact⟨0,_,eg _,rfl,aO.nil (am _),m,j,d,aL,am _⟩
 case round=>
  obtain⟨k,vo,hk,rfl,r,m,j,d,o,a5⟩:=hrel;have dn:=m.cell;obtain⟨Ao,co,rfl⟩:=r.form;have R:(s.pk.take k).length=k:=by rw[ef,qR hk]
  rw[R] at r d;by_cases a1:k<s.pk.length
  .obtain⟨y,Z⟩:=aq a1;have jk:=jL (f:=bPk) (db Z);obtain⟨b',Q,es,e0,_,a8,_,⟨v2,rfl,Y,V⟩,S⟩:=(iw.loc.below h1 o aV).at_ Z;subst e0;obtain⟨A2,c2,rfl⟩:=bD.form V;have ax:wr.cell? ⟨b',Q+k*2,none⟩=some (.int .i64 y.no):=by simpa using S 0 _ rfl
   have b0:wr.cell? ⟨b',Q+k*2+1,none⟩=some (.slice A2 y.its.length c2):=by simpa using S 1 _ rfl
   have iR:=kw Z;have HN:=ab iR;have G:=ab R;replace V:=ab V;go_wp2;generalize hG:wr.alloc (.cells #[.int .i64 y.no,.slice A2 y.its.length c2] 36)=wa at *;obtain⟨u,a7,m0,od,af⟩:=mB hG;replace m:=ak m u;replace dn:=m.cell;replace eQ:=m.frozen;replace j:=ak j u;replace W:=j.cell;replace eD:=j.frozen;replace d:=ak d u;replace N:=d.cell;replace U:=d.frozen;have fD:=bF.ar.below r u (am _);have a3:=ab (ju.loc.below V.out u (by have:=o.size;omega));have D:=ag o u;have fk:=N 0;have fm:=od 0;have a0:=od 1;have aH:=ae fk;have aI:=ae fm;have bc:=ae a0;refine aC 5 [0,1,2] [3,4] (h:= ?_);simp only[pick,List.map,gt,gE];repeat(go_big_quiet_step (fail))
   refine ip ?_;apply Exists.intro;apply aY (λv K=>∃A c,v=.agg #[.int .i64 y.no,.slice A y.its.length c]/\lh K wa.heap.size K.heap.size y [.int .i64 y.no,.slice A y.its.length c])
   .rfl
   .exact λv x y ⟨A,c,e,r⟩ hle=>⟨A,c,e,lh.ar.wide (lh.ar.below r hle (am _)) (am _) hle.size⟩
   .intro z J Qx n;replace n:=ab n;have hd:=ju.loc.below a3.out z.ok (by have:=D.size;omega);go_wp2;refine(af2 y _ _ _ _ hd (by have:=z.ok.size;have:=D.size;omega) Y (by have h5:y.its.length<=bPk y:=dV;omega)).mono ?_;rintro e w5 ⟨v5,rfl,I,M⟩;obtain⟨A5,c5,rfl⟩:∃A c,v5=.slice A y.its.length c:=by
     obtain⟨v6,e6,_,h6⟩:=I;cases e6;exact aO.form h6
    go_wp2;exact n.out _ _ M ⟨_,_,rfl,lh.ar.wide I z.ok.size (am _)⟩
   intro v6;apply aY (λv K=>∃g A c,v=.slice (some ⟨g,0,none⟩) 1 1/\wa.heap.size<=g/\bg K g 36 #[.int .i64 y.no,.slice A y.its.length c]/\lh K wa.heap.size K.heap.size y [.int .i64 y.no,.slice A y.its.length c])
   .rfl
   .exact λv x y ⟨g,A,c,e,hg,hk,r⟩ hle=>⟨g,A,c,e,hg,ak hk hle,lh.ar.wide (lh.ar.below r hle (am _)) (am _) hle.size⟩
   .intro z J Qx n;replace n:=ab n;obtain⟨A5,c5,rfl,I⟩:=J.1 (by kernel_rfl);go_wp2;have ba:=av z.to (.cells #[.int .i64 y.no,.slice A5 y.its.length c5] 36);exact n.out _ _ ba ⟨_,_,_,rfl,z.ok.size,bg.new _ _ _,lh.ar.wide (lh.ar.below I ba (am _)) (am _) ba.size⟩
   intro v8;refine aQ ?_;intro w6 H xx cU J;dsimp only[dQ] at J;try rw[cU] at J
   obtain⟨⟨g8,A8,c8,rfl,b1,E,o8⟩, -⟩:=J;simp only[List.drop];replace m:=ak m H;replace dn:=m.cell;replace eQ:=m.frozen;replace j:=ak j H;replace W:=j.cell;replace eD:=j.frozen;replace d:=ak d H;replace N:=d.cell;replace U:=d.frozen;have za:=u.size;have po:=bF.ar.below fD H (by omega);have P:=ag D H;have z6:=H.size;have T:=ab po;replace o8:=ab o8;replace E:=ab E;go_wp2_with(at_builtin;refine gX ?_);refine⟨?_,trivial⟩;refine iz lh.ar (by decide) (v:=.slice Ao k co) rfl (.tmp 16) (.tmp 19) 23 rfl aei y rfl T.out rfl E.out rfl (by simp[Value.oneCell']) (show wr.heap.size<=w6.heap.size by omega) (lh.ar.wide o8.out za (am _)) (am _) (by have:=G.out;omega) (by omega) ?_;intro v9 w9 o9 O aa;obtain⟨A9,c9,rfl⟩:=o9.form;rw[aE,mp,G.out] at o9;rw[aE,mp,G.out];have q:∀b,(Value.slice Ao k co).ownBlock=some b->w0.heap.size<=b:=λb L=>(T.out.ob L).1;replace m:=aP m O (λt=>by have:=q _ t;omega);replace j:=aP j O (λt=>by have:=q _ t;omega);replace d:=aP d O (λt=>by have:=q _ t;omega);replace N:=d.cell;replace U:=d.frozen;go_wp2;have a2:Below w.heap.size w w9:=P.trans (O.below P.size λi hi t=>by have:=q i t;omega);have z9:=O.size;go_roundw
   case rel=>
    refine⟨k+1,.slice A9 (k+1) c9,by omega,by go_num, ?_,cj m (p:=⟨w.heap.size+1+1,0,none⟩) _ (by dsimp only;omega),cj j (p:=⟨w.heap.size+1+1,0,none⟩) _ (by dsimp only;omega), ?_,a2.setCell (by dsimp only;omega) _,by simp only[bv];omega⟩
    .rw[HN.out];exact bF.ar.loc.go (λb L _=>jn _ _ _ _ (by dsimp only;omega)) (am _) (by simp only[bv];exact am _) o9
    .have:=d.bG 0 (.slice A9 (k+1) c9);simpa using this
   case measure=>simp[intOf];omega
  .obtain rfl:k=s.pk.length:=by omega
   rw[gc] at r;have W:=j.cell;have N:=d.cell;have eQ:=m.frozen;have eD:=j.frozen;have U:=d.frozen;have aL:=o;obtain⟨Ap,a9⟩:∃A,A=Ao:=⟨_,rfl⟩;obtain⟨cp,mA⟩:∃c,c=co:=⟨_,rfl⟩;subst a9 mA;have al:=ab r;go_wp2;generalize b7:wr=wp at *;have b5:=a5;go_loopw [26] (λii wr=>∃(k:Nat) (vo:Value),k<=s.sn.length/\ii=.int .i64 k/\bR wr wp.heap.size wr.heap.size (s.sn.take k) [vo]/\bF wr w0.heap.size wp.heap.size s.pk [.slice Ap s.pk.length cp]/\bg wr w.heap.size 27 #[.slice A s.pk.length a,.slice B s.sn.length b,.slice C s.lg.length c]/\bg wr (w.heap.size+1) 27 #[.slice none 0 0,.slice none 0 0,.slice none 0 0]/\bg wr (w.heap.size+1+1) 27 #[.slice Ap s.pk.length cp,vo,.slice none 0 0]/\Below w.heap.size w wr/\wp.heap.size<=wr.heap.size) (λii _=>s.sn.length-(intOf ii).toNat)
   case atStart=>exact⟨0,_,eg _,rfl,aO.nil (am _),al.out,m,j,d,aL,am _⟩
   case round=>
    obtain⟨k,vo,hk,rfl,r,X,m,j,d,o,a5⟩:=hrel;have dn:=m.cell;obtain⟨Ao,co,rfl⟩:=r.form;have R:(s.sn.take k).length=k:=by rw[ef,qR hk]
    rw[R] at r d;by_cases a1:k<s.sn.length
    .obtain⟨y,Z⟩:=aq a1;have jk:=jL (f:=bSn) (db Z);obtain⟨b',Q,es,e0,_,a8,_,⟨v2,rfl,Y,V⟩,S⟩:=(iy.loc.below h2 o aV).at_ Z;subst e0;obtain⟨A2,c2,rfl⟩:=bD.form V;have ax:wr.cell? ⟨b',Q+k*2,none⟩=some (.int .i64 y.no):=by simpa using S 0 _ rfl
     have b0:wr.cell? ⟨b',Q+k*2+1,none⟩=some (.slice A2 y.all.length c2):=by simpa using S 1 _ rfl
     have iR:=kw Z;have HN:=ab iR;have G:=ab R;replace V:=ab V;go_wp2;generalize hG:wr.alloc (.cells #[.int .i64 y.no,.slice A2 y.all.length c2] 41)=wa at *;obtain⟨u,a7,m0,od,af⟩:=mB hG;replace m:=ak m u;replace dn:=m.cell;replace eQ:=m.frozen;replace j:=ak j u;replace W:=j.cell;replace eD:=j.frozen;replace d:=ak d u;replace N:=d.cell;replace U:=d.frozen;have fD:=bR.ar.below r u (am _);have a3:=ab (fw.loc.below V.out u (by have:=o.size;omega));have D:=ag o u;replace X:=bF.ar.below X u (by omega);have fk:=N 1;have fm:=od 0;have a0:=od 1;have aH:=ae fk;have aI:=ae fm;have bc:=ae a0;refine aC 5 [0,1,2] [3,4] (h:= ?_);simp only[pick,List.map,gt,gE];repeat(go_big_quiet_step (fail))
     refine ip ?_;apply Exists.intro;apply aY (λv K=>∃A c,v=.agg #[.int .i64 y.no,.slice A y.all.length c]/\mE K wa.heap.size K.heap.size y [.int .i64 y.no,.slice A y.all.length c])
     .rfl
     .exact λv x y ⟨A,c,e,r⟩ hle=>⟨A,c,e,mE.ar.wide (mE.ar.below r hle (am _)) (am _) hle.size⟩
     .intro z J Qx n;replace n:=ab n;have hd:=fw.loc.below a3.out z.ok (by have:=D.size;omega);go_wp2;refine(af3 y _ _ _ _ hd (by have:=z.ok.size;have:=D.size;omega) Y (by have h5:eu bLs y.all=bSn y:=rfl;omega)).mono ?_;rintro e w5 ⟨v5,rfl,I,M⟩;obtain⟨A5,c5,rfl⟩:∃A c,v5=.slice A y.all.length c:=by
       obtain⟨v6,e6,_,h6⟩:=I;cases e6;exact aO.form h6
      go_wp2;exact n.out _ _ M ⟨_,_,rfl,mE.ar.wide I z.ok.size (am _)⟩
     intro v6;apply aY (λv K=>∃g A c,v=.slice (some ⟨g,0,none⟩) 1 1/\wa.heap.size<=g/\bg K g 41 #[.int .i64 y.no,.slice A y.all.length c]/\mE K wa.heap.size K.heap.size y [.int .i64 y.no,.slice A y.all.length c])
     .rfl
     .exact λv x y ⟨g,A,c,e,hg,hk,r⟩ hle=>⟨g,A,c,e,hg,ak hk hle,mE.ar.wide (mE.ar.below r hle (am _)) (am _) hle.size⟩
     .intro z J Qx n;replace n:=ab n;obtain⟨A5,c5,rfl,I⟩:=J.1 (by kernel_rfl);go_wp2;have ba:=av z.to (.cells #[.int .i64 y.no,.slice A5 y.all.length c5] 41);exact n.out _ _ ba ⟨_,_,_,rfl,z.ok.size,bg.new _ _ _,mE.ar.wide (mE.ar.below I ba (am _)) (am _) ba.size⟩
     intro v8;refine aQ ?_;intro w6 H xx cU J;dsimp only[dQ] at J;try rw[cU] at J
     obtain⟨⟨g8,A8,c8,rfl,b1,E,o8⟩, -⟩:=J;simp only[List.drop];replace m:=ak m H;replace dn:=m.cell;replace eQ:=m.frozen;replace j:=ak j H;replace W:=j.cell;replace eD:=j.frozen;replace d:=ak d H;replace N:=d.cell;replace U:=d.frozen;have za:=u.size;have po:=bR.ar.below fD H (by omega);have P:=ag D H;have z6:=H.size;replace X:=bF.ar.below X H (by omega);have T:=ab po;replace o8:=ab o8;replace E:=ab E;go_wp2_with(at_builtin;refine gX ?_);refine⟨?_,trivial⟩;refine iz mE.ar (by decide) (v:=.slice Ao k co) rfl (.tmp 31) (.tmp 34) 24 rfl aek y rfl T.out rfl E.out rfl (by simp[Value.oneCell']) (show wr.heap.size<=w6.heap.size by omega) (mE.ar.wide o8.out za (am _)) (am _) (by have:=G.out;omega) (by omega) ?_;intro v9 w9 o9 O aa;obtain⟨A9,c9,rfl⟩:=o9.form;rw[aE,mp,G.out] at o9;rw[aE,mp,G.out];have q:∀b,(Value.slice Ao k co).ownBlock=some b->wp.heap.size<=b:=λb L=>(T.out.ob L).1;replace m:=aP m O (λt=>by have:=q _ t;omega);replace j:=aP j O (λt=>by have:=q _ t;omega);replace d:=aP d O (λt=>by have:=q _ t;omega);replace N:=d.cell;replace U:=d.frozen;replace X:=bF.ar.fE X O (λb _ L _ t=>by have:=q b t;omega);go_wp2;have a2:Below w.heap.size w w9:=P.trans (O.below P.size λi hi t=>by have:=q i t;omega);have z9:=O.size;go_roundw
     case rel=>
      refine⟨k+1,.slice A9 (k+1) c9,by omega,by go_num, ?_, ?_,cj m (p:=⟨w.heap.size+1+1,1,none⟩) _ (by dsimp only;omega),cj j (p:=⟨w.heap.size+1+1,1,none⟩) _ (by dsimp only;omega), ?_,a2.setCell (by dsimp only;omega) _,by simp only[bv];omega⟩
      .rw[HN.out];exact bR.ar.loc.go (λb L _=>jn _ _ _ _ (by dsimp only;omega)) (am _) (by simp only[bv];exact am _) o9
      .exact bF.ar.loc.go (λb L _=>jn _ _ _ _ (by dsimp only;omega)) (am _) (am _) X
      .have:=d.bG 1 (.slice A9 (k+1) c9);simpa using this
     case measure=>simp[intOf];omega
    .obtain rfl:k=s.sn.length:=by omega
     rw[gc] at r;have W:=j.cell;have N:=d.cell;have eQ:=m.frozen;have eD:=j.frozen;have U:=d.frozen;have ad:=ab r;have aT:=ab X;go_wp2;have jm:=bD.good (F:=pB) h3;refine(apQ s.lg _ wr lo hi (fP.loc.below h3 o aV) (ap aV o.size) (by omega)).mono ?_;rintro e w5 ⟨v5,rfl,I,M⟩;replace m:=ak m M;replace dn:=m.cell;replace eQ:=m.frozen;replace j:=ak j M;replace W:=j.cell;replace eD:=j.frozen;replace d:=ak d M;replace N:=d.cell;replace U:=d.frozen;obtain⟨A5,c5,rfl⟩:=I.form;have z5:=M.size;have HO:=ab (I.aaL jm M.size λg hg=>(I.at_ hg).2);have a6:=ab (bR.ar.below ad.out M (am _));have ay:=ab (bF.ar.below aT.out M (by omega));go_wp2;have a4:∀(u0 u1 u2 u3:Value) (b:Nat),w0.heap.size<=b->((((w5.setCell ⟨w.heap.size+1+1,2,none⟩ u0).setCell ⟨w.heap.size+1,0,none⟩ u1).setCell ⟨w.heap.size+1,1,none⟩ u2).setCell ⟨w.heap.size+1,2,none⟩ u3).heap[b]?=w5.heap[b]?:=λu0 u1 u2 u3 b L=>by
      rw[jn _ _ _ _ (by dsimp only;omega),jn _ _ _ _ (by dsimp only;omega),jn _ _ _ _ (by dsimp only;omega),jn _ _ _ _ (by dsimp only;omega)]
     exact pb (v:=.agg #[_,_,_]) (by simp[results,results15,go_sem,W,N]) rfl ⟨_,_,_,rfl,
      ⟨bF.ar.loc.go (λb L _=>a4 _ _ _ _ b L) (by omega) (by simp only[bv];omega) ay.out,bR.ar.loc.go (λb L _=>a4 _ _ _ _ b (by omega)) (by omega) (by simp only[bv];omega) a6.out,dH.ar.loc.go (λb L _=>a4 _ _ _ _ b (by omega)) (by omega) (by simp only[bv];exact am _) HO.out⟩,
      ((((ag o M).setCell (by dsimp only;omega) _).setCell (by dsimp only;omega) _).setCell (by dsimp only;omega) _).setCell (by dsimp only;omega) _⟩
end
section
variable {β:Bool}
open Go.RowKit
section
variable {α:Type} {E:gG α} {T:List TypeId} {e:TypeId}
def Els.agI {w:World} {xs:List α} {m:Nat->Nat} (g:S.length=xs.length*U) (v:∀u∈S,u.oneCell'=true) (p:∀i,m i<=m (i+1)) (l:Z<=m 0)
  (f:∀i x,xs[i]?=some x->∃a:List Value,a.length=U/\E w (m i) (m (i+1)) x a/\∀j u,a[j]?=some u->S[i*U+j]?=some u) (s:j<=xs.length):Els E U w Z (m j) (xs.take j) (S.take (j*U)):=by
 have b:(xs.take j).length=j:=by rw[ef];omega
 have o:j*U<=xs.length*U:=qP _ s;refine⟨by rw[ef,b,g];omega,λu c=>v u (qf c),m,p,l,by rw[b];exact am _,λi x d=> ?_⟩;rw[qE] at d;split at d
 .rename_i e;obtain⟨a,q,k,r⟩:=f i x d;refine⟨a,q,k,λt u c=> ?_⟩;have y:=aB c;have n:(i+1)*U<=j*U:=qP _ e;rw[rv] at n;rw[qE,du (by omega)];exact r t u c
 .cases d
def Els.wide{w:World}{xs:List α}(h:Els E U w Z hi xs S)(d:hi<=hi'):Els E U w Z hi' xs S:=by
 obtain⟨a,b,m,f,c,e,g⟩:=h;exact⟨a,b,m,f,c,ap e d,g⟩
def fR(e:TypeId)(E:gG α)(w:World)(lo hi g N:Nat)(xs:List α)(p:α->Bool)(j:Nat):Prop:=
 ∃(a:Array Value) (m:Nat->Nat) (b:Nat->List Value) (cells:List Value),bg w g e a/\a.size=N/\lo<=g/\g<hi/\xs.length*2<=N/\(∀i,m i<=m (i+1))/\lo<=m 0/\m xs.length<=hi/\
  (∀i x,xs[i]?=some x->(b i).length=2/\(∀u∈b i,u.oneCell'=true)/\E w (m i) (m (i+1)) x (b i))/\
  (∀(i:Nat) (x:α),j<=i->xs[i]?=some x->∀(t:Nat) (u:Value),(b i)[t]?=some u->a[i*2+t]?=some u)/\
  Els E 2 w lo (m j) ((xs.take j).filter λx=>!p x) cells/\∀(k:Nat) (u:Value),cells[k]?=some u->a[k]?=some u
def fR.start{w:World}{xs:List α}(h:aO e E 2 w Z hi xs [.slice (some ⟨g,0,none⟩) n c])(p:α->Bool)(V:j<=xs.length)(Q:∀y∈xs.take j,p y=false):fR e E w Z hi g (c*2) xs p j:=by
 obtain⟨W,cells,C,G,N,S,F,m,H,D,K,I⟩:=h;cases C;obtain⟨A,X,v⟩:=iv G;cases v;rcases G.2 with⟨s,_⟩|⟨Y,cap,o,s,M,O,z,J,B,P⟩
 .cases s
 cases s;have l:∀(k:Nat) (u:Value),cells[k]?=some u->o[k]?=some u:=λk u d=>by
  rw[<-P,qE] at d;split at d
  .simpa using d
  .cases d
 have f:∀i,∃q:List Value,∀x,xs[i]?=some x->q.length=2/\E w (m i) (m (i+1)) x q/\∀t u,q[t]?=some u->cells[i*2+t]?=some u:=λi=>by
  cases r:xs[i]? with
  |none=>exact⟨[],λx h=>by cases h⟩
  |some y=>
   obtain⟨q,C,v,U⟩:=I i y r;exact⟨q,λx h=>by cases h;exact⟨C,v,U⟩⟩
 refine⟨o,m,λi=>Classical.choose (f i),cells.take (j*2),O,B,M,N g rfl,qP _ z,H,D,K,λi x r=> ?_,λi x _ r t u d=> ?_, ?_,λk u d=> ?_⟩
 .obtain⟨a,b,c⟩:=wH (f i) x r;refine⟨a,λu d=> ?_,b⟩;obtain⟨t,L⟩:=qW d;exact F u (db (c t u L))
 .obtain⟨a,b,c⟩:=wH (f i) x r;exact l _ _ (c t u d)
 .have R:(xs.take j).filter (λx=>!p x)=xs.take j:=sH.2 λy T=>by rw[Q y T];rfl
  rw[R];exact Els.agI S F H D I V
 .rw[qE] at d;split at d
  .exact l k u d
  .cases d
def fR.keep(k:dL E T){w : World}{xs:List α}{p:α->Bool}(h:fR e E w Z hi g N xs p j)(a:Below w.heap.size w w')(H:hi<=w.heap.size)(C:j<=xs.length):fR e E w' Z hi g N xs p j:=by
 obtain⟨c,m,f,cells,s,D,F,t,v,d,o,q,n,A,r,B⟩:=h;refine⟨c,m,f,cells,ak s a,D,F,t,v,d,o,q,λi x l=> ?_,A,r.go k (λb _ G _=>a.block b ?_) (am _) (am _),B⟩
 .obtain⟨u,y,z⟩:=n i x l;have:=dO d (show i+1<=xs.length from aB l);exact⟨u,y,k.below z a (by omega)⟩
 .have:=dO d C;omega
def fR.drop{w:World}{xs:List α}{p:α->Bool}(h:fR e E w Z hi g N xs p j){x:α}(s:xs[j]?=some x)(d:p x=true):fR e E w Z hi g N xs p (j+1):=by
 obtain⟨a,m,b,cells,t,u,v,y,f,c,l,n,k,o,r,q⟩:=h;refine⟨a,m,b,cells,t,u,v,y,f,c,l,n,k,λi x hi=>o i x (by omega), ?_,q⟩;rw[kw s,vD];have:[x].filter (λx=>!p x)=[]:=by simp[d]
 rw[this,su];exact r.wide (c j)
def kE{xs:List α}{p:α->Bool}{x:α}(b:xs[j]?=some x)(a:p x=false):(xs.take (j+1)).filter (λx=>!p x)=(xs.take j).filter (λx=>!p x)++[x]:=by
 rw[kw b,vD]
 congr 1
 simp[a]
def iW{xs:List α}{p:α->Bool}{x:α}(b:xs[j]?=some x)(a:p x=true):(xs.take (j+1)).filter (λx=>!p x)=(xs.take j).filter (λx=>!p x):=by
 rw[kw b,vD];have:[x].filter (λx=>!p x)=[]:=by simp[a]
 rw[this,su]
def fR.at_(z:dL E T)(K:e∉T){w:World}{xs:List α}{p:α->Bool}(h:fR e E w Z hi g N xs p j){x:α}(v:xs[j]?=some x) :
  ∃m S es,m<=S/\es.length=2/\E w m S x es/\(∀t u,es[t]?=some u->w.cell? ⟨g,j*2+t,none⟩=some u)/\
   ∀(d c:Value) (i:Nat),es=[d,c]->p x=false->i=((xs.take j).filter λx=>!p x).length->i<j->fR e E ((w.setCell ⟨g,i*2,none⟩ d).setCell ⟨g,i*2+1,none⟩ c) Z hi g N xs p (j+1):=by
 obtain⟨l,m,q,cells,I,U,a2,a3,a4,C,m2,X,P,R,O,b4⟩:=h;obtain⟨c1,c2,Q⟩:=P j x v;have a0:=aB v;refine⟨m j,m (j+1),q j,C j,c1,Q,λt u a=>by rw[I.cell];exact R j x (am _) v t u a,λd c i r hp hi a5=> ?_⟩;have jb:cells.length=i*2:=by rw[O.1,<-hi]
 have F:bg ((w.setCell ⟨g,i*2,none⟩ d).setCell ⟨g,i*2+1,none⟩ c) g e ((l.setIfInBounds (i*2) d).setIfInBounds (i*2+1) c):=(I.bG (i*2) d).bG (i*2+1) c;have H:¬Typed w T g:=λ⟨t,f,ds,hd⟩=>K (cI I hd▸f)
 have B:∀b,Typed w T b->((w.setCell ⟨g,i*2,none⟩ d).setCell ⟨g,i*2+1,none⟩ c).heap[b]?=w.heap[b]?:=λb f=>by
  have o:b≠g:=by rintro rfl;exact H f
  rw[jn _ _ _ _ o,jn _ _ _ _ o]
 have s:∀k,k≠i*2->k≠i*2+1->((l.setIfInBounds (i*2) d).setIfInBounds (i*2+1) c)[k]?=l[k]?:=λk J W=>by
  rw[oR,be (sB W),oR,be (sB J)]
 have G:∀u∈([d,c]:List Value),u.oneCell'=true:=λu a=>c2 u (by rw[r];exact a);refine⟨_,m,q,cells++[d,c],F,by simpa using U,a2,a3,a4,C,m2,X,λM L n=> ?_,λM L hi' n t u a=> ?_, ?_,λk u a=> ?_⟩
 .obtain⟨d1,V,d3⟩:=P M L n;exact⟨d1,V,z.go (λb _ _ f=>B b f) (am _) (am _) d3⟩
 .rw[s _ (by omega) (by omega)];exact R M L (by omega) n t u a
 .rw[kE v hp];have Y:=Els.snoc (E:=E) (O.go (fI:=Z) (hi':=m j) z (λb _ _ f=>B b f) (am _) (am _)) (y:=x) (es:=[d,c]) rfl G (C j) (z.go (λb _ _ f=>B b f) (am _) (am _) (by rw[<-r];exact Q));exact Y z.loc
 .rcases pm k cells.length with A|A
  .rw[qv A] at a;rw[s _ (by omega) (by omega)];exact b4 k u a
  .rw[qp A,jb] at a;have D:=aB a;simp only[fi,mT] at D;have a1:i*2+1<l.size:=by rw[U];omega
   rcases pm (k-i*2) 1 with J|J
   .obtain rfl:k=i*2:=by omega
    rw[tp] at a;simp at a;subst a;rw[oR,be (by omega),oR,du rfl,du (by omega)]
   .obtain rfl:k=i*2+1:=by omega
    rw[show i*2+1-i*2=1 by omega] at a;simp at a;subst a;rw[oR,du rfl,du (by simp;omega)]
def fR.frozen{w:World}{xs:List α}{p:α->Bool}(h:fR e E w Z hi g N xs p j)(k:Nat):w.frozen? ⟨g,k,none⟩=false:=by
 obtain⟨a,m,c,cells,b,_⟩:=h;exact b.frozen k
def fR.there{w:World}{xs:List α}{p:α->Bool}(h:fR e E w Z hi g N xs p j)(d:k<N):∃u,w.cell? ⟨g,k,none⟩=some u:=by
 obtain⟨a,m,b,cells,c,f,_⟩:=h;rw[c.cell];exact⟨_,gn (by omega)⟩
def fR.end_(F:dL E T)(s:e∉T){w:World}{xs:List α}{p:α->Bool}(h:fR e E w Z hi g N xs p xs.length)(V:N=c*2)(M:c<=maxLen) :
  ∃d,bg w g e d/\d.size=N/\∀(f:World) (a:Array Value),bg f g e a->a.size=N->(∀k,k<(xs.filter λx=>!p x).length*2->a[k]?=d[k]?)->bj (λb=>b=g) w f->
   aO e E 2 f Z hi (xs.filter λx=>!p x) [.slice (some ⟨g,0,none⟩) (xs.filter λx=>!p x).length c]:=by
 obtain⟨d,m,H,cells,z,K,J,C,Q,S,P,A,O,R,n,I⟩:=h;rw[gc] at n;refine⟨d,z,K,λf a B U q v=> ?_⟩;have o:¬Typed w T g:=λ⟨t,i,D,hd⟩=>s (cI z hd▸i)
 have L:=n.1;have G:(xs.filter λx=>!p x).length<=xs.length:=sj _ _;refine⟨_,cells,rfl,⟨L,.inr ⟨g,c,a,rfl,J,B,by omega,M,by omega, ?_⟩⟩,λb l=>by cases l;exact C,(n.go (fI:=Z) (hi':=m xs.length) F (λb _ _ i=> ?_) (am _) (am _)).wide A⟩
 .apply tN;intro k;rw[qE];split
  .rename_i j;have r:k<cells.length:=by omega
   rw[jp r];have y:=I k _ (jp r);rw[<-q k j] at y;rw[<-y];simp
  .rw[rx (by omega)]
 .obtain⟨t,r,D,hd⟩:=id i;exact v.block b hd.lt λl=>by
   have u:b=g:=l;subst u;exact o i
end
def aa5{P:Program}(w:World)(t e' ty j:TypeId)(z:Value)(l g o n c:Nat)(a:Array Value)(B:P.underlying t=some (.slice e'))(E:∀w,(zeroValue e').run P w=.ok z w)(D:z.cells.size=l)(C:∀u∈z.cells.toList,u.oneCell'=true)(y:bg w g j a)(K:0<n)(G:o+n*l<=a.size)(J:0<l) :
  ∃(q:World) (d:Array Value),(Builtin.clear_ #[t] ty #[.slice (some ⟨g,o,none⟩) n c]).run P w=.ok (.tuple #[]) q/\bg q g j d/\d.size=a.size/\(∀k,k<o->d[k]?=a[k]?)/\bj (λb=>b=g) w q:=by
 have f:(Builtin.zeroCells z.cells n).toList.length=n*l:=by simp[Builtin.zeroCells,D]
 have v:∀u∈(Builtin.zeroCells z.cells n).toList,u.oneCell'=true:=by
  intro u A;simp only[Builtin.zeroCells,qG,pe] at A;obtain⟨i,_,rfl⟩:=A;have p:i % z.cells.size<z.cells.size:=tD _ (by omega);rw[getElem!_pos z.cells (i % z.cells.size) p];exact C _ (by simp)
 have s:=run_storeCells_at P g o j (Builtin.zeroCells z.cells n).toList 0 a w y (by rw[f];omega) v;refine⟨_,(a.toList.take (o+0)++(Builtin.zeroCells z.cells n).toList++a.toList.drop (o+0+(Builtin.zeroCells z.cells n).toList.length)).toArray, ?_,setRow_heap w g a _ j _ y, ?_,λk H=> ?_, ?_⟩
 rotate_left
 .have F:a.toList.length=a.size:=by simp
  simp only[tM,aE,ef,qj,f,F];omega
 .rw[wD,tc,qv (by simp only[ef,qS];omega),qE,du (by omega)];simp
 .refine⟨rfl,rfl,rfl,by simp[World.setRow],λb I r=> ?_⟩;have x:¬g=b:=λe=>r e.symm;simp[World.setRow,pr,x]
 .obtain⟨m,rfl⟩:∃m,n=m+1:=⟨n-1,by omega⟩;simp[Builtin.clear_,me B,E,s]
end
section
variable {β:Bool}
open Go.RowKit
def apR(F:Nat)(dP:Array Value)(p:Int->Bool)(Q:World->Prop):Prop:=∀(n:Int) (A:Option Addr) (m c:Nat) (a:World),Q a->Calls (ah β) F (#[.agg #[.int .i64 n,.slice A m c]]++dP) a λe b=>e=.returned (.bool (p n))/\Below a.heap.size a b
def asD{α:Type}(xs:List α)(p:α->Bool)(e:Ending):Prop:=(e=.returned (.int .i64 (-1))/\∀y∈xs,p y=false)\/∃(i:Nat) (x:α),e=.returned (.int .i64 i)/\xs[i]?=some x/\p x=true/\∀y∈xs.take i,p y=false
def aif(F:Nat)(t:Array Value)(p:Int->Bool)(xs:List Pk)(v:Value)(w:World)(J hi:Nat)(h:iw w J hi xs [v])(D:hi<=w.heap.size)(E:acr (β:=β) F)(n:apR (β:=β) F t p λi=>Below w.heap.size w i) :
  Calls (ah β) 70 #[v,.func (.func F) #[] t] w λe i=>asD xs (λx=>p x.no) e/\Below w.heap.size w i:=by
 obtain⟨A,c,rfl⟩:=bD.form h;obtain⟨_,M,I⟩:=h.len_;unfold maxLen at I;replace n:=ab n;go_enter zK,ntmps70;go_wp2;go_loopw [8] (λu wr=>∃k:Nat,k<=xs.length/\u=.int .i64 k/\(∀y∈xs.take k,p y.no=false)/\Below w.heap.size w wr) (λu _=>xs.length-(intOf u).toNat)
 case atStart=>exact⟨0,eg _,rfl,by simp,fd _ _⟩
 case round=>
  obtain⟨k,L,rfl,g,a⟩:=hrel;replace g:=ab g;by_cases r:k<xs.length
  .obtain⟨x,m⟩:=aq r;obtain⟨b,l,O,B,_,G,_,⟨N,rfl,z,H⟩,j⟩:=(iw.loc.below h a D).at_ m;subst B;obtain⟨q,o,rfl⟩:=bD.form H;have C:wr.cell? ⟨b,l+k*2,none⟩=some (.int .i64 x.no):=by simpa using j 0 _ rfl
   have K:wr.cell? ⟨b,l+k*2+1,none⟩=some (.slice q x.its.length o):=by simpa using j 1 _ rfl
   replace m:=ab m;have P:=E (#[.agg #[.int .i64 x.no,.slice q x.its.length o]]++t) wr;cases d:p x.no
   .replace d:=ab d;go_wp2;refine(n.out x.no q x.its.length o wr a).mono ?_;rintro e i ⟨rfl,s⟩;rw[d.out];go_wp2;go_roundw
    case rel=>
     refine⟨k+1,by omega,by go_num,λy f=> ?_,ag a s⟩;rw[kw m.out,mx] at f;rcases f with f|f
     .exact g.out y f
     .rw[mw.1 f];exact d.out
    case measure=>simp[intOf];omega
   .replace d:=ab d;go_wp2;refine(n.out x.no q x.its.length o wr a).mono ?_;rintro e i ⟨rfl,s⟩;rw[d.out];go_wp2;go_ret;exact⟨.inr ⟨k,x,rfl,m.out,d.out,g.out⟩,ag a s⟩
  .obtain rfl:k=xs.length:=by omega
   rw[gc] at g;go_wp2;go_ret;exact⟨.inl ⟨rfl,g.out⟩,a⟩
def aih(F:Nat)(t:Array Value)(p:Int->Bool)(xs:List Sn)(v:Value)(w:World)(J hi:Nat)(h:iy w J hi xs [v])(D:hi<=w.heap.size)(E:acr (β:=β) F)(n:apR (β:=β) F t p λi=>Below w.heap.size w i) :
  Calls (ah β) 25 #[v,.func (.func F) #[] t] w λe i=>asD xs (λx=>p x.no) e/\Below w.heap.size w i:=by
 obtain⟨A,c,rfl⟩:=bD.form h;obtain⟨_,M,I⟩:=h.len_;unfold maxLen at I;replace n:=ab n;go_enter yj,ntmps25;go_wp2;go_loopw [8] (λu wr=>∃k:Nat,k<=xs.length/\u=.int .i64 k/\(∀y∈xs.take k,p y.no=false)/\Below w.heap.size w wr) (λu _=>xs.length-(intOf u).toNat)
 case atStart=>exact⟨0,eg _,rfl,by simp,fd _ _⟩
 case round=>
  obtain⟨k,L,rfl,g,a⟩:=hrel;replace g:=ab g;by_cases r:k<xs.length
  .obtain⟨x,m⟩:=aq r;obtain⟨b,l,O,B,_,G,_,⟨N,rfl,z,H⟩,j⟩:=(iy.loc.below h a D).at_ m;subst B;obtain⟨q,o,rfl⟩:=bD.form H;have C:wr.cell? ⟨b,l+k*2,none⟩=some (.int .i64 x.no):=by simpa using j 0 _ rfl
   have K:wr.cell? ⟨b,l+k*2+1,none⟩=some (.slice q x.all.length o):=by simpa using j 1 _ rfl
   replace m:=ab m;have P:=E (#[.agg #[.int .i64 x.no,.slice q x.all.length o]]++t) wr;cases d:p x.no
   .replace d:=ab d;go_wp2;refine(n.out x.no q x.all.length o wr a).mono ?_;rintro e i ⟨rfl,s⟩;rw[d.out];go_wp2;go_roundw
    case rel=>
     refine⟨k+1,by omega,by go_num,λy f=> ?_,ag a s⟩;rw[kw m.out,mx] at f;rcases f with f|f
     .exact g.out y f
     .rw[mw.1 f];exact d.out
    case measure=>simp[intOf];omega
   .replace d:=ab d;go_wp2;refine(n.out x.no q x.all.length o wr a).mono ?_;rintro e i ⟨rfl,s⟩;rw[d.out];go_wp2;go_ret;exact⟨.inr ⟨k,x,rfl,m.out,d.out,g.out⟩,ag a s⟩
  .obtain rfl:k=xs.length:=by omega
   rw[gc] at g;go_wp2;go_ret;exact⟨.inl ⟨rfl,g.out⟩,a⟩
def avK(w:World):(zeroValue 36).run (ah β) w=.ok (.agg #[.int .i64 0,.slice none 0 0]) w:=by
 simp[go_sem]
def af4(F:Nat)(dP:Array Value)(p:Int->Bool)(xs:List Pk)(v:Value)(w:World)(H hi:Nat)(h:bF w H hi xs [v])(aV:hi<=w.heap.size)(hF:acr (β:=β) F)(hf:apR (β:=β) F dP p λI=>bj (λb=>H<=b/\b<hi/\Typed w [36] b) w I) :
  Calls (ah β) 40 #[v,.func (.func F) #[] dP] w λe I=>∃v',e=.returned v'/\bF I H hi (xs.filter λx=>!p x.no) [v']/\bj (λb=>H<=b/\b<hi/\Typed w [36] b) w I:=by
 obtain⟨A,c,rfl⟩:=aO.form h;obtain⟨_,hc,hx⟩:=(bF.l h).len_;have ay:=hx;unfold maxLen at hx;replace hf:=ab hf;go_enter zY,ntmps40;go_wp2;refine(aif F dP p xs _ w H hi (bF.l h) aV hF (λn A m c I hb=>hf.out n A m c I (bj.aN hb))).mono ?_;rintro e w1 ⟨a7,b1⟩;have X:bj (λb=>H<=b/\b<hi/\Typed w [36] b) w w1:=bj.aN b1;have h1:=bF.ar.below h b1 aV;rcases a7 with⟨rfl,a⟩|⟨i,x0,rfl,D,W,a⟩
 .have L:xs.filter (λx=>!p x.no)=xs:=sH.2 λy hy=>by have h2:p y.no=false:=a y hy;rw[h2];rfl
  replace L:=ab L;clear a;go_wp2;go_ret;exact⟨_,rfl,by rw[L.out];exact h1,X⟩
 .have a4:=aB D;obtain⟨g,c',e,K,E,b4,a9,a5⟩:=aO.some_ h1 (by omega);simp only[oE] at e;obtain⟨rfl, -,rfl⟩:=e;have O:Typed w [36] g:=lW X (T:=[36]) (λt ht=>ht) E aV (λhs=>hs.2.2) ⟨_,qC,a9,a5⟩;have d0:=(fR.start h1 (λx=>p x.no) (Nat.le_of_lt a4) a).drop D W;have a3:(xs.take (i+1)).filter (λx=>!p x.no)=xs.take i:=by
   rw[iW (p:=λx=>p x.no) D W];exact sH.2 λy hy=>by have h2:p y.no=false:=a y hy;rw[h2];rfl
  have u:((xs.take (i+1)).filter λx=>!p x.no).length=i:=by rw[a3,ef];omega
  replace d0:=ab d0;replace u:=ab u;clear a3 D W a a5 h1;have a8:((i:Int)==-1)=false:=by rw[de];omega
  go_wp2;go_loopw [5,6] (λii jj wr=>∃i j:Nat,ii=.int .i64 i/\jj=.int .i64 j/\i<j/\j<=xs.length/\i=((xs.take j).filter λx=>!p x.no).length/\fR 36 lh wr H hi g (c*2) xs (λx=>p x.no) j/\bj (λb=>H<=b/\b<hi/\Typed w [36] b) w wr) (λ_ jj _=>xs.length-(intOf jj).toNat)
  case atStart=>exact⟨i,i+1,rfl,by go_num,by omega,by omega,u.out.symm,d0.out,X⟩
  case round=>
   clear d0 u a8 a4;obtain⟨i,j,rfl,rfl,ax,hj,f,hd,fT⟩:=hrel;have B:=ab f;clear f;have b3:=fT.size;by_cases al:j<xs.length
   .obtain⟨x,Q⟩:=aq al;obtain⟨m,m',es,hm,aI,⟨v2,rfl,aT,hr⟩,l, -⟩:=fR.at_ lh.ar (by decide) hd Q;obtain⟨s,r,rfl⟩:=aO.form hr;have aH:wr.cell? ⟨g,j*2,none⟩=some (.int .i64 x.no):=l 0 _ rfl;have a6:wr.cell? ⟨g,j*2+1,none⟩=some (.slice s x.its.length r):=l 1 _ rfl;replace Q:=ab Q;clear l hr;have ba:=av wr (.cells #[.int .i64 x.no,.slice s x.its.length r] 36);have fL:=hF (#[.agg #[.int .i64 x.no,.slice s x.its.length r]]++dP) (wr.alloc (.cells #[.int .i64 x.no,.slice s x.its.length r] 36));have z:=fT.alloc (.cells #[.int .i64 x.no,.slice s x.its.length r] 36);have G:bg (wr.alloc (.cells #[.int .i64 x.no,.slice s x.its.length r] 36)) wr.heap.size 36 #[.int .i64 x.no,.slice s x.its.length r]:=bg.new _ _ _;replace G:=ab G;replace z:=ab z;replace ba:=ab ba;go_wp2;refine(hf.out x.no s x.its.length r _ z.out).mono ?_;rintro e w2 ⟨rfl,b2⟩;have C:Below wr.heap.size wr w2:=ag ba.out b2;have M:=fT.trans (bj.aN (S:=λ_=>False) C) λ_ _ h=>h.elim;have V:=aU C a6;have d:=hd.keep lh.ar C (by omega) hj;have R:=ak G.out b2;have b6:w2.cell? ⟨wr.heap.size,0,none⟩=some (.int .i64 x.no):=R.cell 0;have aZ:w2.cell? ⟨wr.heap.size,1,none⟩=some (.slice s x.its.length r):=R.cell 1;clear hd fT aH a6 fL G z ba b2 C R;cases hp:p x.no
    .obtain⟨m,m',es,hm,aI,⟨v3,e3,b7,a1⟩,l,a2⟩:=fR.at_ lh.ar (by decide) d Q.out;obtain⟨A3,c3,rfl⟩:=aO.form a1;subst e3;obtain⟨eA,eC⟩:A3=s/\c3=r:=by
      have q1:=(l 1 _ rfl).symm.trans V;simp only[lP,oE] at q1;exact⟨q1.1,q1.2.2⟩
     subst eA eC;clear V;have af:=ab (a2 _ _ i rfl hp B.out ax);have o:i+1=((xs.take (j+1)).filter λx=>!p x.no).length:=by rw[kE (p:=λx=>p x.no) Q.out hp,aE,<-B.out];rfl
     have N:=ab o;obtain⟨q0,b5⟩:=d.there (k:=i*2) (by omega);obtain⟨q1,b9⟩:=d.there (k:=i*2+1) (by omega);have b0:=d.frozen (i*2);have bb:=d.frozen (i*2+1);have J:=(M.setCell (p:=⟨g,i*2,none⟩) (.inl ⟨K,E,O⟩) (.int .i64 x.no)).setCell (p:=⟨g,i*2+1,none⟩) (.inl ⟨K,E,O⟩) (.slice A3 x.its.length c3);replace J:=ab J;clear l a2 a1 o d M;go_wp2;go_roundw
     case rel=>exact⟨i+1,j+1,by go_num,by go_num,by omega,by omega,N.out,af.out,J.out⟩
     simp[intOf];omega
    .have o:i=((xs.take (j+1)).filter λx=>!p x.no).length:=by rw[iW (p:=λx=>p x.no) Q.out hp];exact B.out
     have N:=ab o;have an:=ab (d.drop Q.out hp);clear o hp d V;go_wp2;go_roundw
     case rel=>exact⟨i,j+1,rfl,by go_num,by omega,by omega,N.out,an.out,M⟩
     simp[intOf];omega
   .obtain rfl:j=xs.length:=by omega
    have f:=B.out;rw[gc] at f;obtain⟨aa,a0,ad,q⟩:=hd.end_ lh.ar (by decide) rfl ay;replace q:=ab q;obtain⟨I,Z,aL,pF,b8,Y,U⟩:=aa5 (P:=(ah β)) wr 23 36 0 36 (.agg #[.int .i64 0,.slice none 0 0]) 2 g (i*2) (xs.length-i) (c-i) aa xS (avK) rfl (by decide) a0 (by omega) (by omega) (by decide);have ho:=q.out I Z pF (by omega) (λk hk=>Y k (by rw[f];exact hk)) U;rw[<-f] at ho;have HO:=ab ho;have ao:=fT.trans U λb _ hb=>(show b=g from hb)▸⟨K,E,O⟩;clear f ho U Y a0 ad hd pF;go_wp2;go_ret;exact⟨_,rfl,HO.out,ao⟩
def avL(w:World):(zeroValue 41).run (ah β) w=.ok (.agg #[.int .i64 0,.slice none 0 0]) w:=by
 simp[go_sem]
def af5(F:Nat)(dP:Array Value)(p:Int->Bool)(xs:List Sn)(v:Value)(w:World)(H hi:Nat)(h:bR w H hi xs [v])(aV:hi<=w.heap.size)(hF:acr (β:=β) F)(hf:apR (β:=β) F dP p λI=>bj (λb=>H<=b/\b<hi/\Typed w [41] b) w I) :
  Calls (ah β) 43 #[v,.func (.func F) #[] dP] w λe I=>∃v',e=.returned v'/\bR I H hi (xs.filter λx=>!p x.no) [v']/\bj (λb=>H<=b/\b<hi/\Typed w [41] b) w I:=by
 obtain⟨A,c,rfl⟩:=aO.form h;obtain⟨_,hc,hx⟩:=(bR.l h).len_;have ay:=hx;unfold maxLen at hx;replace hf:=ab hf;go_enter zX,ntmps43;go_wp2;refine(aih F dP p xs _ w H hi (bR.l h) aV hF (λn A m c I hb=>hf.out n A m c I (bj.aN hb))).mono ?_;rintro e w1 ⟨a7,b1⟩;have X:bj (λb=>H<=b/\b<hi/\Typed w [41] b) w w1:=bj.aN b1;have h1:=bR.ar.below h b1 aV;rcases a7 with⟨rfl,a⟩|⟨i,x0,rfl,D,W,a⟩
 .have L:xs.filter (λx=>!p x.no)=xs:=sH.2 λy hy=>by have h2:p y.no=false:=a y hy;rw[h2];rfl
  replace L:=ab L;clear a;go_wp2;go_ret;exact⟨_,rfl,by rw[L.out];exact h1,X⟩
 .have a4:=aB D;obtain⟨g,c',e,K,E,b4,a9,a5⟩:=aO.some_ h1 (by omega);simp only[oE] at e;obtain⟨rfl, -,rfl⟩:=e;have O:Typed w [41] g:=lW X (T:=[41]) (λt ht=>ht) E aV (λhs=>hs.2.2) ⟨_,qC,a9,a5⟩;have d0:=(fR.start h1 (λx=>p x.no) (Nat.le_of_lt a4) a).drop D W;have a3:(xs.take (i+1)).filter (λx=>!p x.no)=xs.take i:=by
   rw[iW (p:=λx=>p x.no) D W];exact sH.2 λy hy=>by have h2:p y.no=false:=a y hy;rw[h2];rfl
  have u:((xs.take (i+1)).filter λx=>!p x.no).length=i:=by rw[a3,ef];omega
  replace d0:=ab d0;replace u:=ab u;clear a3 D W a a5 h1;have a8:((i:Int)==-1)=false:=by rw[de];omega
  go_wp2;go_loopw [5,6] (λii jj wr=>∃i j:Nat,ii=.int .i64 i/\jj=.int .i64 j/\i<j/\j<=xs.length/\i=((xs.take j).filter λx=>!p x.no).length/\fR 41 mE wr H hi g (c*2) xs (λx=>p x.no) j/\bj (λb=>H<=b/\b<hi/\Typed w [41] b) w wr) (λ_ jj _=>xs.length-(intOf jj).toNat)
  case atStart=>exact⟨i,i+1,rfl,by go_num,by omega,by omega,u.out.symm,d0.out,X⟩
  case round=>
   clear d0 u a8 a4;obtain⟨i,j,rfl,rfl,ax,hj,f,hd,fT⟩:=hrel;have B:=ab f;clear f;have b3:=fT.size;by_cases al:j<xs.length
   .obtain⟨x,Q⟩:=aq al;obtain⟨m,m',es,hm,aI,⟨v2,rfl,aT,hr⟩,l, -⟩:=fR.at_ mE.ar (by decide) hd Q;obtain⟨s,r,rfl⟩:=aO.form hr;have aH:wr.cell? ⟨g,j*2,none⟩=some (.int .i64 x.no):=l 0 _ rfl;have a6:wr.cell? ⟨g,j*2+1,none⟩=some (.slice s x.all.length r):=l 1 _ rfl;replace Q:=ab Q;clear l hr;have ba:=av wr (.cells #[.int .i64 x.no,.slice s x.all.length r] 41);have fL:=hF (#[.agg #[.int .i64 x.no,.slice s x.all.length r]]++dP) (wr.alloc (.cells #[.int .i64 x.no,.slice s x.all.length r] 41));have z:=fT.alloc (.cells #[.int .i64 x.no,.slice s x.all.length r] 41);have G:bg (wr.alloc (.cells #[.int .i64 x.no,.slice s x.all.length r] 41)) wr.heap.size 41 #[.int .i64 x.no,.slice s x.all.length r]:=bg.new _ _ _;replace G:=ab G;replace z:=ab z;replace ba:=ab ba;go_wp2;refine(hf.out x.no s x.all.length r _ z.out).mono ?_;rintro e w2 ⟨rfl,b2⟩;have C:Below wr.heap.size wr w2:=ag ba.out b2;have M:=fT.trans (bj.aN (S:=λ_=>False) C) λ_ _ h=>h.elim;have V:=aU C a6;have d:=hd.keep mE.ar C (by omega) hj;have R:=ak G.out b2;have b6:w2.cell? ⟨wr.heap.size,0,none⟩=some (.int .i64 x.no):=R.cell 0;have aZ:w2.cell? ⟨wr.heap.size,1,none⟩=some (.slice s x.all.length r):=R.cell 1;clear hd fT aH a6 fL G z ba b2 C R;cases hp:p x.no
    .obtain⟨m,m',es,hm,aI,⟨v3,e3,b7,a1⟩,l,a2⟩:=fR.at_ mE.ar (by decide) d Q.out;obtain⟨A3,c3,rfl⟩:=aO.form a1;subst e3;obtain⟨eA,eC⟩:A3=s/\c3=r:=by
      have q1:=(l 1 _ rfl).symm.trans V;simp only[lP,oE] at q1;exact⟨q1.1,q1.2.2⟩
     subst eA eC;clear V;have af:=ab (a2 _ _ i rfl hp B.out ax);have o:i+1=((xs.take (j+1)).filter λx=>!p x.no).length:=by rw[kE (p:=λx=>p x.no) Q.out hp,aE,<-B.out];rfl
     have N:=ab o;obtain⟨q0,b5⟩:=d.there (k:=i*2) (by omega);obtain⟨q1,b9⟩:=d.there (k:=i*2+1) (by omega);have b0:=d.frozen (i*2);have bb:=d.frozen (i*2+1);have J:=(M.setCell (p:=⟨g,i*2,none⟩) (.inl ⟨K,E,O⟩) (.int .i64 x.no)).setCell (p:=⟨g,i*2+1,none⟩) (.inl ⟨K,E,O⟩) (.slice A3 x.all.length c3);replace J:=ab J;clear l a2 a1 o d M;go_wp2;go_roundw
     case rel=>exact⟨i+1,j+1,by go_num,by go_num,by omega,by omega,N.out,af.out,J.out⟩
     simp[intOf];omega
    .have o:i=((xs.take (j+1)).filter λx=>!p x.no).length:=by rw[iW (p:=λx=>p x.no) Q.out hp];exact B.out
     have N:=ab o;have an:=ab (d.drop Q.out hp);clear o hp d V;go_wp2;go_roundw
     case rel=>exact⟨i,j+1,rfl,by go_num,by omega,by omega,N.out,an.out,M⟩
     simp[intOf];omega
   .obtain rfl:j=xs.length:=by omega
    have f:=B.out;rw[gc] at f;obtain⟨aa,a0,ad,q⟩:=hd.end_ mE.ar (by decide) rfl ay;replace q:=ab q;obtain⟨I,Z,aL,pF,b8,Y,U⟩:=aa5 (P:=(ah β)) wr 24 41 0 41 (.agg #[.int .i64 0,.slice none 0 0]) 2 g (i*2) (xs.length-i) (c-i) aa xR (avL) rfl (by decide) a0 (by omega) (by omega) (by decide);have ho:=q.out I Z pF (by omega) (λk hk=>Y k (by rw[f];exact hk)) U;rw[<-f] at ho;have HO:=ab ho;have ao:=fT.trans U λb _ hb=>(show b=g from hb)▸⟨K,E,O⟩;clear f ho U Y a0 ad hd pF;go_wp2;go_ret;exact⟨_,rfl,HO.out,ao⟩
end
section
variable {β:Bool}
open Go.RowKit
structure jw where
 k:Int
 n:Int
 m:Int
 b:ByteArray
def sG{α:Type}(l:List α)(i:Nat)(f:α->α):List α:=match l[i]? with|some x=>l.set i (f x)|none=>l
def oO{l:List Y}(h:l[i]?=some x)(f:Y->Y):sG l i f=l.set i (f x):=by unfold sG;rw[h]
def nQ(l:List Y)(i:Nat)(f:Y->Y):(sG l i f).length=l.length:=by
 unfold sG;split
 .rw[rb]
 .rfl
def fS(l:jw)(p:Pk):Pk:=if p.no=l.n/\0<=l.m/\l.m<p.its.length then⟨p.no,sG p.its l.m.toNat λx=>⟨x.n,l.b⟩⟩ else p
def lj(x:Hd):Hd:=⟨wrap64 (3-x.b),x.s⟩
def dM(s:dy)(l:jw):dy:=
 if l.k=1 then⟨s.pk.filter λp=>!(p.no ==l.n),s.sn,s.lg⟩
 else if l.k=2 then(if 0<=l.n/\l.n<=s.lg.length then⟨s.pk,s.sn.filter λx=>!((s.lg.drop l.n.toNat).any λh=>h.s ==x.no),s.lg.take l.n.toNat⟩ else s)
 else if l.k=3 then⟨s.pk.map (fS l),s.sn,s.lg⟩
 else if l.k=4 then(if 0<=l.n/\l.n<s.lg.length then⟨s.pk,s.sn,sG s.lg l.n.toNat lj⟩ else s)
 else s
def aag{l:jw}(h:l.k=1):dM s l=⟨s.pk.filter λp=>!(p.no ==l.n),s.sn,s.lg⟩:=by unfold dM;rw[du h]
def oP{l:jw}(h:l.k=2)(a:0<=l.n/\l.n<=s.lg.length):dM s l=⟨s.pk,s.sn.filter λx=>!((s.lg.drop l.n.toNat).any λh=>h.s ==x.no),s.lg.take l.n.toNat⟩:=by unfold dM;rw[be (by omega),du h,du a]
def mS{l:jw}(h:l.k=2)(a:¬(0<=l.n/\l.n<=s.lg.length)):dM s l=s:=by unfold dM;rw[be (by omega),du h,be a]
def abD{l:jw}(h:l.k=3):dM s l=⟨s.pk.map (fS l),s.sn,s.lg⟩:=by unfold dM;rw[be (by omega),be (by omega),du h]
def abE{l:jw}(h:l.k=4)(a:0<=l.n/\l.n<s.lg.length):dM s l=⟨s.pk,s.sn,sG s.lg l.n.toNat lj⟩:=by unfold dM;rw[be (by omega),be (by omega),be (by omega),du h,du a]
def mU{l:jw}(h:l.k=4)(a:¬(0<=l.n/\l.n<s.lg.length)):dM s l=s:=by unfold dM;rw[be (by omega),be (by omega),be (by omega),du h,be a]
def abF{l:jw}(a:¬l.k=1)(d:¬l.k=2)(b:¬l.k=3)(c:¬l.k=4):dM s l=s:=by unfold dM;rw[be a,be d,be b,be c]
def jT:gG (List Hd):=λw e d b f=>∃(A:Option Addr) (c:Nat),f=[.slice A b.length c]/\b.length<=c/\c<=maxLen/\e<=d/\(∀x∈b,pB.good x)/\
 (0<b.length->∃(g:Nat) (a:Array Value),A=some ⟨g,0,none⟩/\e<=g/\g<d/\bg w g 65 a/\∀(k:Nat) (u:Value),(dA pB b)[k]?=some u->a[k]?=some u)
def jT.ar:dL jT [65]:=by
 refine⟨?_⟩;intro w p y s u n r v l x q h;obtain⟨A,c,rfl,a,b,t,d,e⟩:=h;refine⟨A,c,rfl,a,b,by omega,d,λj=> ?_⟩;obtain⟨g,f,rfl,k,m,i,o⟩:=e j;exact⟨g,f,rfl,by omega,by omega,(l g k m ⟨_,qC,f,i⟩).trans i,o⟩
def jT.form{w:World}(h:jT w Z hi xs [v]):∃A c,v=.slice A xs.length c:=by
 obtain⟨A,c,e,_⟩:=h;cases e;exact⟨A,c,rfl⟩
def dH.w{w:World}(h:dH w Z hi xs cs):jT w Z hi xs cs:=by
 obtain⟨v,rfl⟩:∃v,cs=[v]:=by
  obtain⟨v,_,rfl,_⟩:=h;exact⟨v,rfl⟩
 obtain⟨i,f,a,p⟩:=aO.flat (F:=pB) h;rcases i.2 with⟨rfl,j⟩|⟨g,cap,c,rfl,l,n,e,d,m,o⟩
 .exact⟨none,0,by rw[j],by omega,by unfold maxLen;omega,a,f,λq=>by omega⟩
 .refine⟨_,cap,rfl,e,d,a,f,λ_=>⟨g,c,rfl,l,p g rfl,n,λk u b=> ?_⟩⟩;rw[<-o,qE] at b;split at b
  .simpa using b
  .cases b
def jT.l{w:World}(h:jT w Z hi xs cs):fP w Z hi xs cs:=by
 obtain⟨A,c,rfl,a,b,q,d,e⟩:=h;refine⟨A,c,rfl,a,b,λk=> ?_⟩;obtain⟨g,f,rfl,l,n,o,p⟩:=e k;refine⟨g,0,rfl,l,n,λi x hi=>⟨pB.cells x,rfl,⟨rfl,d x (db hi)⟩,λj u m=> ?_⟩⟩;rw[o.cell,mc];exact p _ _ (eE pB xs i j x u hi m)
def jT.agI{w:World}(h:jT w Z hi xs [.slice A n c])(B:k<=xs.length):jT w Z hi (xs.take k) [.slice A k k]:=by
 obtain⟨A',z,e,a,b,y,d,f⟩:=h;simp only[ql,oE,qx] at e;obtain⟨rfl,rfl,rfl⟩:=e;have t:(xs.take k).length=k:=by rw[ef];omega
 refine⟨_,k,by rw[t],by omega,by omega,y,λx v=>d x (qf v),λC=> ?_⟩;obtain⟨g,i,q,s,o,m,p⟩:=f (by omega);refine⟨g,i,q,s,o,m,λj u l=>p j u ?_⟩;have r:xs=xs.take k++xs.drop k:=(sU k xs).symm;rw[r,lz,qv (aB l)];exact l
def jT.some_{w:World}(h:jT w Z hi xs [v])(j:0<xs.length):∃g c,v=.slice (some ⟨g,0,none⟩) xs.length c/\Z<=g/\g<hi/\∃n,bg w g 65 n:=by
 obtain⟨A,c,e,a,b,o,d,f⟩:=h;cases e;obtain⟨g,i,rfl,k,l,m,_⟩:=f j;exact⟨g,c,rfl,k,l,i,m⟩
def jT.at_{w:World}(h:jT w Z hi xs [.slice (some ⟨g,0,none⟩) n c]){x:Hd}(j:xs[i]?=some x) :
  pB.good x/\w.cell? ⟨g,i*2,none⟩=some (.int .i64 x.b)/\w.cell? ⟨g,i*2+1,none⟩=some (.int .i64 x.s):=by
 obtain⟨A,q,e,a,b,t,d,f⟩:=h;simp only[ql,oE,qx] at e;obtain⟨rfl,rfl,rfl⟩:=e;obtain⟨r,o,m,p,s,k,l⟩:=f (by have:=aB j;omega);simp only[lP,qB,qx] at m;subst m;refine⟨d x (db j), ?_, ?_⟩
 .rw[k.cell];exact l _ _ (eE pB xs i 0 x _ j rfl)
 .rw[k.cell];exact l _ _ (eE pB xs i 1 x _ j rfl)
def jT.frozen{w:World}(h:jT w Z hi xs [.slice (some ⟨g,0,none⟩) n c])(k:0<xs.length)(j:Nat):w.frozen? ⟨g,j,none⟩=false:=by
 obtain⟨A,p,e,a,b,t,d,f⟩:=h;simp only[ql,oE,qx] at e;obtain⟨rfl,rfl,rfl⟩:=e;obtain⟨q,l,i,o,r,m,s⟩:=f k;simp only[lP,qB,qx] at i;subst i;exact m.frozen j
def jT.put{w:World}(h:jT w Z hi xs [.slice (some ⟨g,0,none⟩) n c]){x y:Hd}{u:Value}(s:xs[i]?=some x)(K:j<2)(C:pB.good y)(I:pB.cells y=(pB.cells x).set j u) :
  jT (w.setCell ⟨g,i*2+j,none⟩ u) Z hi (xs.set i y) [.slice (some ⟨g,0,none⟩) n c]:=by
 obtain⟨A,M,e,a,b,L,d,f⟩:=h;simp only[ql,oE,qx] at e;obtain⟨rfl,rfl,rfl⟩:=e;have t:=aB s;obtain⟨N,l,r,H,D,E,q⟩:=f (by omega);simp only[lP,qB,qx] at r;subst r;refine⟨_,c,by rw[rb],by rw[rb];exact a,b,L,λz G=> ?_,λ_=>⟨g,l.setIfInBounds (i*2+j) u,rfl,H,D,E.bG _ _,λk v m=> ?_⟩⟩
 .rcases th G with F|rfl
  .exact d z F
  .exact C
 .rw[adb xs i j x y u s K I] at m;by_cases o:i*2+j=k
  .subst o;have p:i*2+j<(dA pB xs).length:=by rw[dU];show _<xs.length*2;omega
   rw[show pB.sz=2 from rfl,rB p] at m;have B:=q _ _ (jp p);have J:i*2+j<l.size:=(dl.1 B).1;rw[oR,du rfl,du J];exact m
  .rw[show pB.sz=2 from rfl,rT o] at m;rw[oR,be o];exact q k v m
structure aah (w:World) (lo hi:Nat) (s:dy) (va vb vc:Value):Prop where
 pk:bF w lo hi s.pk [va]
 sn:bR w lo hi s.sn [vb]
 lg:jT w lo hi s.lg [vc]
def fg.w{w:World}(h:fg w Z hi s X W V):aah w Z hi s X W V:=⟨h.pk,h.sn,dH.w h.lg⟩
def aah.go{w : World}(h:aah w Z hi s X W V)(d:∀b,Z<=b->b<hi->w'.heap[b]?=w.heap[b]?)(c:fI<=Z)(a:hi<=hi'):aah w' fI hi' s X W V:=
 ⟨bF.ar.loc.go d c a h.pk,bR.ar.loc.go d c a h.sn,jT.ar.loc.go d c a h.lg⟩
def aah.below{w : World}(h:aah w Z hi s X W V)(a:Below B w w')(d:hi<=B):aah w' Z hi s X W V:=h.go (λb _ c=>a.block b (by omega)) (am _) (am _)
def aah.l{w:World}(h:aah w Z hi s X W V):gb w Z hi s X W V:=⟨bF.l h.pk,bR.l h.sn,jT.l h.lg⟩
end
section
variable {β:Bool}
open Go.RowKit
abbrev nR(l:jw):Array Value:=#[.int .i64 l.k,.int .i64 l.n,.int .i64 l.m,.string l.b]
def apS(s s':dy)(w:World)(lo hi gs:Nat)(T:List TypeId)(e:Ending)(w':World):Prop:=
 e=.returned (.tuple #[])/\∃d a c,bg w' gs 27 #[d,a,c]/\aah w' lo hi s' d a c/\bj (λb=>b=gs\/(lo<=b/\b<hi/\Typed w T b)) w w'
def df{w:World}{t:TypeId}{cs:Array Value}(a:bg w g t cs)(c:t∉T):¬Typed w T g:=λ⟨d,b,e,hd⟩=>c (cI a hd▸b)
def gY{w:World}{U : List TypeId}(h:Typed w U b)(d:∀t∈T,t∉U):¬Typed w T b:=λ⟨e,f,i,hd⟩=>by
 obtain⟨t,c,g,a⟩:=h;exact d e f (cI a hd▸c)
def aBi(l:jw)(b:Nat)(Q:World->Prop)(f:∀a,Q a->bg a b 29 (nR l)):apR (β:=β) 41 #[.pointer (some ⟨b,0,none⟩)] (λn=>n ==l.n) Q:=by
 intro n A m c a e;have k:=f a e;have g:a.cell? ⟨b,1,none⟩=some (.int .i64 l.n):=k.cell 1;show Calls _ _ #[.agg #[.int .i64 n,.slice A m c],.pointer (some ⟨b,0,none⟩)] _ _;have d:=av a (.cells #[.int .i64 n,.slice A m c] 36);have i:=aU d g;go_enter yf,ntmps41;go_wp2;go_ret;exact⟨rfl,d⟩
def ayX:acr (β:=β) 41:=ae2 yf (by kernel_rfl) rfl
def asF(s:dy)(l:jw)(gs x:Nat)(F B G:Value)(w:World)(g hi:Nat)(h:aah w g hi s F B G)(L:hi<=w.heap.size)(o:bg w gs 27 #[F,B,G])(E:bg w x 29 (nR l))(J:l.k=1) :
  Calls (ah β) 39 #[.pointer (some ⟨gs,0,none⟩),.pointer (some ⟨x,0,none⟩)] w (apS s (dM s l) w g hi gs [36]):=by
 rw[aag J];obtain⟨C,H,R⟩:=h;obtain⟨A,a,rfl⟩:=aO.form C;have Y:w.cell? ⟨gs,0,none⟩=some (.slice A s.pk.length a):=o.cell 0;go_enter yg,ntmps39;go_wp2;refine(af4 41 _ (λn=>n ==l.n) s.pk _ w g hi C L ayX (aBi l x _ λw' K=>aP E K λo=>df E (by decide) o.2.2)).mono ?_;rintro e d ⟨V,rfl,D,m⟩;obtain⟨k,r,rfl⟩:=aO.form D;have f:=aP o m λq=>df o (by decide) q.2.2;have S:d.cell? ⟨gs,0,none⟩=some (.slice A s.pk.length a):=f.cell 0;have X:=f.frozen 0;have W:=m.size;have y:=f.bG 0 (.slice k (s.pk.filter λp=>!(p.no ==l.n)).length r);have P:=bR.ar.go (w':=d) (fI:=g) (hi':=hi) (λb t v c=>m.block b (by omega) λq=>gY c (by decide) q.2.2) (am _) (am _) H;have Q:=jT.ar.go (w':=d) (fI:=g) (hi':=hi) (λb t v c=>m.block b (by omega) λq=>gY c (by decide) q.2.2) (am _) (am _) R;have i:∀(u:Value) {T:List TypeId} (b:Nat),27∉T->Typed d T b->(d.setCell ⟨gs,0,none⟩ u).heap[b]?=d.heap[b]?:=λu T b M c=>jn _ _ _ _ (by rintro rfl;exact df f M c);have N:=bF.ar.go (w':=d.setCell ⟨gs,0,none⟩ (.slice k (s.pk.filter λp=>!(p.no ==l.n)).length r)) (fI:=g) (hi':=hi) (λb t v c=>i _ b (by decide) c) (am _) (am _) D;have U:=bR.ar.go (w':=d.setCell ⟨gs,0,none⟩ (.slice k (s.pk.filter λp=>!(p.no ==l.n)).length r)) (fI:=g) (hi':=hi) (λb t v c=>i _ b (by decide) c) (am _) (am _) P;have O:=jT.ar.go (w':=d.setCell ⟨gs,0,none⟩ (.slice k (s.pk.filter λp=>!(p.no ==l.n)).length r)) (fI:=g) (hi':=hi) (λb t v c=>i _ b (by decide) c) (am _) (am _) Q;have z:=(m.mono (T:=λb=>b=gs\/(g<=b/\b<hi/\Typed w [36] b)) λb _ I=>.inr I).setCell (p:=⟨gs,0,none⟩) (.inl (.inl rfl)) (.slice k (s.pk.filter λp=>!(p.no ==l.n)).length r);have j:=ab (And.intro N (And.intro U (And.intro O (And.intro z y))));go_wp2
 go_end0
 exact⟨rfl,_,_,_,by simpa using j.out.2.2.2.2,⟨j.out.1,j.out.2.1,j.out.2.2.1⟩,j.out.2.2.2.1⟩
end
section
variable {β:Bool}
open Go.RowKit
def mV{α:Type}(f:α->α)(l:List α)(j:Nat):List α:=(l.take j).map f++l.drop j
def afu(f:Y->Y)(l:List Y):mV f l 0=l:=rfl
def agR(f:Y->Y)(l:List Y):mV f l l.length=l.map f:=by
 unfold mV;rw[gc,uO,su]
def agS(f:Y->Y)(l:List Y)(j:Nat):(mV f l j).length=l.length:=by
 unfold mV;rw[aE,qg,ef,qj];omega
def adk(f:Y->Y){l:List Y}(h:l[j]?=some x):(mV f l j)[j]?=some x:=by
 unfold mV;have b:=aB h;have a:((l.take j).map f).length=j:=by rw[qg,ef];omega
 rw[qp (by omega),a,tp,tE,sM];exact h
def abG(f:Y->Y){l:List Y}(h:l[j]?=some x):(mV f l j).set j (f x)=mV f l (j+1):=by
 have a:=aB h;have b:((l.take j).map f).length=j:=by rw[qg,ef];omega
 unfold mV;rw[uT _ _ (by omega),b,tp,so a,ge,kw h,qZ,tc];rfl
def mj(f:Y->Y){l:List Y}(h:l[j]?=some x)(c:f x=x):mV f l (j+1)=mV f l j:=by
 rw[<-abG f h,c];have b:=adk f h;apply tN;intro k;by_cases a:j=k
 .subst a;rw[rB (aB b),b]
 .rw[rT a]
def aai{l:jw}{p:Pk}(h:¬(p.no=l.n/\0<=l.m/\l.m<p.its.length)):fS l p=p:=be h
def asG(s:dy)(l:jw)(gs gl:Nat)(va vb vc:Value)(w:World)(I hi:Nat)(h:aah w I hi s va vb vc)(aV:hi<=w.heap.size)(Z:bg w gs 27 #[va,vb,vc])(hl:bg w gl 29 (nR l))(hk:l.k=3)(aL:l.b.size<=maxLen) :
  Calls (ah β) 47 #[.pointer (some ⟨gs,0,none⟩),.pointer (some ⟨gl,0,none⟩)] w (apS s (dM s l) w I hi gs [63]):=by
 rw[abD hk];obtain⟨h1,h2,h3⟩:=h;obtain⟨A,a,rfl⟩:=aO.form h1;obtain⟨_,ha,v⟩:=(bF.l h1).len_;unfold maxLen at v;have c0:w.cell? ⟨gs,0,none⟩=some (.slice A s.pk.length a):=Z.cell 0;go_enter yc,ntmps47;go_wp2;go_loopw [10] (λii wr=>∃j:Nat,j<=s.pk.length/\ii=.int .i64 j/\bF wr I hi (mV (fS l) s.pk j) [.slice A s.pk.length a]/\bj (λb=>I<=b/\b<hi/\Typed w [63] b) w wr) (λii _=>s.pk.length-(intOf ii).toNat)
 case atStart=>exact⟨0,eg _,rfl,by rw[afu];exact h1,bj.refl _ _⟩
 case round=>
  obtain⟨j,hj,rfl,r,n⟩:=hrel;have zr:=n.size;by_cases a7:j<s.pk.length
  .obtain⟨x,cR⟩:=aq a7;have a0:=adk (fS l) cR;have Y:=agS (fS l) s.pk j;obtain⟨g,c',e,b1,b9,b0,a5,ax⟩:=aO.some_ r (by rw[Y];omega);simp only[oE] at e;obtain⟨rfl, -,rfl⟩:=e;have HX:=ab cR;have aH:=ab a0;have k:=abG (fS l) cR;replace k:=ab k;clear cR a0 Y ax a5;obtain⟨m,m',es,l1,l2,l3,b6,⟨v2,rfl,a3,o⟩,i,a2⟩:=aO.at_ lh.ar (by decide) r aH.out;obtain⟨A2,G,rfl⟩:=aO.form o;obtain⟨_,mK,kL⟩:=(abA.l o).len_;unfold maxLen at kL;have b5:wr.cell? ⟨g,j*2,none⟩=some (.int .i64 x.no):=i 0 _ rfl;have bb:wr.cell? ⟨g,j*2+1,none⟩=some (.slice A2 x.its.length G):=i 1 _ rfl;have O:=ab o;have V:=ab a2;have U:=aP hl n λv=>df hl (by decide) v.2.2;have f:=av wr (.cells #[.int .i64 x.no,.slice A2 x.its.length G] 36);have D:=ak U f;have ba:(wr.alloc (.cells #[.int .i64 x.no,.slice A2 x.its.length G] 36)).cell? ⟨gl,1,none⟩=some (.int .i64 l.n):=D.cell 1;have a9:(wr.alloc (.cells #[.int .i64 x.no,.slice A2 x.its.length G] 36)).cell? ⟨gl,2,none⟩=some (.int .i64 l.m):=D.cell 2;have b4:(wr.alloc (.cells #[.int .i64 x.no,.slice A2 x.its.length G] 36)).cell? ⟨gl,3,none⟩=some (.string l.b):=D.cell 3;clear i o a2 U D;by_cases H:x.no=l.n
   .have t1:(x.no ==l.n)=true:=nF.2 H;replace H:=ab H;by_cases E:0<=l.m
    .have t2:decide (0<=l.m)=true:=dk E;obtain⟨F,C⟩:=qn E;by_cases P:l.m<(x.its.length:Int)
     .have t3:decide (l.m<(x.its.length:Int))=true:=dk P;have ad:F<x.its.length:=by omega
      obtain⟨y,cN⟩:=aq ad;obtain⟨K,ci,ei,af,aa,al,aI,a4⟩:=aO.some_ O.out (by omega);simp only[oE] at ei;obtain⟨rfl, -,rfl⟩:=ei;have c:=abA.ar.below O.out f (by omega);obtain⟨n1,n2,aZ, -, -, -, -,⟨rfl,aT⟩,W, -⟩:=aO.at_ (bV.ar nA) (by decide) c cN;have b8:(wr.alloc (.cells #[.int .i64 x.no,.slice (some ⟨K,0,none⟩) x.its.length G] 36)).cell? ⟨K,F*2+1,none⟩=some (.string y.b):=W 1 _ rfl;have b7:=aO.frozen c (F*2+1);have M:=aO.put (j:=1) (u:=.string l.b) (bV.ar nA) (by decide) c cN (y:=(⟨y.n,l.b⟩:It)) (by decide) rfl (λw' I hi es hh=>⟨by rw[hh.1];rfl,hh.2.1,aL⟩);have X:fS l x=⟨x.no,x.its.set F ⟨y.n,l.b⟩⟩:=by
       unfold fS;rw[du ⟨H.out,E,P⟩,oO (x:=y) (by rw[C];exact cN),C];rfl
      have ao:Typed wr [63] K:=⟨_,qC,aI,a4⟩;have q:bj (λb=>m<=b/\b<m'/\Typed wr [63] b) wr ((wr.alloc (.cells #[.int .i64 x.no,.slice (some ⟨K,0,none⟩) x.its.length G] 36)).setCell ⟨K,F*2+1,none⟩ (.string l.b)):=
       (bj.aN (S:=λb=>m<=b/\b<m'/\Typed wr [63] b) f).setCell (p:=⟨K,F*2+1,none⟩) (.inl ⟨af,aa,ao⟩) (.string l.b)
      have po:=V.out _ ⟨x.no,x.its.set F ⟨y.n,l.b⟩⟩ q ⟨.slice (some ⟨K,0,none⟩) x.its.length G,rfl,a3,M⟩;rw[<-X,k.out] at po;have N:=n.trans q λb hb v=>⟨by omega,by omega,lW n (T:=[63]) (λt Q=>Q) (show b<hi by omega) aV (λZ=>Z.2.2) v.2.2⟩;have a6:K<wr.heap.size:=al;rw[World.setCell_alloc_past _ _ _ _ a6] at po N;have an:=ab po;have a8:=ab N;have ay:(l.m:Int)=((F:Nat):Int):=C;clear r n po N q M W X cN V O c f E P C;have b3:((F:Nat):Int)<(x.its.length:Int):=by omega
      rw[ay] at t2 t3 a9;go_wp2;go_roundw
      case rel=>exact⟨j+1,by omega,by go_num,an.out,a8.out⟩
      simp[intOf];omega
     .have t3:decide (l.m<(x.its.length:Int))=false:=da P;replace P:=ab P;clear E C;have J:=mj (fS l) HX.out (aai (λh=>P.out h.2.2));have HS:=ab J;clear J;have L:=bF.ar.below r f (by omega);have d:=n.trans (bj.aN (S:=λ_=>False) f) λ_ _ h=>h.elim;have z:=ab L;have B:=ab d;clear r n L d f;go_wp2;go_roundw
      case rel=>exact⟨j+1,by omega,by go_num,by rw[HS.out];exact z.out,B.out⟩
      simp[intOf];omega
    .have t2:decide (0<=l.m)=false:=da E;replace E:=ab E;have J:=mj (fS l) HX.out (aai (λh=>E.out h.2.1));have HS:=ab J;clear J;have L:=bF.ar.below r f (by omega);have d:=n.trans (bj.aN (S:=λ_=>False) f) λ_ _ h=>h.elim;have z:=ab L;have B:=ab d;clear r n L d f;go_wp2;go_roundw
     case rel=>exact⟨j+1,by omega,by go_num,by rw[HS.out];exact z.out,B.out⟩
     simp[intOf];omega
   .have t1:(x.no ==l.n)=false:=de.2 H;replace H:=ab H;have J:=mj (fS l) HX.out (aai (λh=>H.out h.1));have HS:=ab J;clear J;have L:=bF.ar.below r f (by omega);have d:=n.trans (bj.aN (S:=λ_=>False) f) λ_ _ h=>h.elim;have z:=ab L;have B:=ab d;clear r n L d f;go_wp2;go_roundw
    case rel=>exact⟨j+1,by omega,by go_num,by rw[HS.out];exact z.out,B.out⟩
    simp[intOf];omega
  .obtain rfl:j=s.pk.length:=by omega
   rw[agR] at r;have a1:=aP Z n λv=>df Z (by decide) v.2.2;have o2:=bR.ar.go (w':=wr) (fI:=I) (hi':=hi) (λb f b2 Q=>n.block b (by omega) λv=>gY Q (by decide) v.2.2) (am _) (am _) h2;have o3:=jT.ar.go (w':=wr) (fI:=I) (hi':=hi) (λb f b2 Q=>n.block b (by omega) λv=>gY Q (by decide) v.2.2) (am _) (am _) h3;have q:=n.mono (T:=λb=>b=gs\/(I<=b/\b<hi/\Typed w [63] b)) λb _ hb=>.inr hb;have R:=ab (And.intro r (And.intro o2 (And.intro o3 (And.intro q a1))));clear r o2 o3 q a1;go_wp2
   go_end0
   exact⟨rfl,_,_,_,R.out.2.2.2.2,⟨R.out.1,R.out.2.1,R.out.2.2.1⟩,R.out.2.2.2.1⟩
end
section
variable {β:Bool}
open Go.RowKit
def bD.an8{w:World}{xs:List Y}(h:bD E Z w U hi xs [.slice A n c])(z:k<=xs.length):bD E Z w U hi (xs.drop k) [.slice (if c=k then A else A.map λx=>x.add (k*Z)) (xs.length-k) (c-k)]:=by
 obtain⟨A',y,g,B,C,t⟩:=h;simp only[ql,oE,qx] at g;obtain⟨rfl,rfl,rfl⟩:=g;refine⟨_,c-k,by rw[qj],by rw[qj];omega,by omega,λq=> ?_⟩;rw[qj] at q;have a:¬c=k:=by omega
 have f:0<xs.length:=by omega
 obtain⟨b,e,rfl,o,l,d⟩:=t f;refine⟨b,e+k*Z,by rw[be a];simp only[qu,aff],o,l,λi x hi=> ?_⟩;rw[tE] at hi;obtain⟨r,s,m,p⟩:=d _ _ hi;refine⟨r,s,m,λj u v=> ?_⟩;have:=p j u v;rw[<-this,Nat.add_mul]
 congr 2
 omega
def asH(s s':dy)(a:s'=s)(gs:Nat)(d c b:Value)(w:World)(e hi:Nat)(h:aah w e hi s d c b)(f:bg w gs 27 #[d,c,b]) :
  Calls (ah β) 49 #[.pointer (some ⟨gs,0,none⟩)] w (apS s s' w e hi gs []):=by
 subst a;go_enter yb,ntmps49;go_wp2
 go_end0
 exact⟨rfl,_,_,_,f,h,bj.refl _ _⟩
def asI(s:dy)(l:jw)(gs R:Nat)(va vb vc:Value)(w:World)(q hi:Nat)(h:aah w q hi s va vb vc)(z:hi<=w.heap.size)(F:bg w gs 27 #[va,vb,vc])(hl:bg w R 29 (nR l))(U:l.k=4) :
  Calls (ah β) 48 #[.pointer (some ⟨gs,0,none⟩),.pointer (some ⟨R,0,none⟩)] w (apS s (dM s l) w q hi gs [65]):=by
 have hh:=h;obtain⟨h1,h2,B⟩:=h;obtain⟨C,c,rfl⟩:=jT.form B;obtain⟨_,ha,hx⟩:=(jT.l B).len_;unfold maxLen at hx;have H:w.cell? ⟨gs,2,none⟩=some (.slice C s.lg.length c):=F.cell 2;have G:w.cell? ⟨R,1,none⟩=some (.int .i64 l.n):=hl.cell 1;by_cases D:0<=l.n
 .have t1:decide (0<=l.n)=true:=dk D;by_cases A:l.n<(s.lg.length:Int)
  .have t2:decide (l.n<(s.lg.length:Int))=true:=dk A;rw[abE U ⟨D,A⟩];obtain⟨a,Y⟩:=qn D;obtain⟨y,u⟩:=aq (l:=s.lg) (k:=a) (by omega);have S:sG s.lg l.n.toNat lj=s.lg.set a (lj y):=by
    have:l.n.toNat=a:=by omega
    rw[this,oO u]
   rw[S];obtain⟨g,c',e,W,X,a0,o⟩:=jT.some_ B (by omega);simp only[oE] at e;obtain⟨rfl, -,rfl⟩:=e;obtain⟨I,O,a2⟩:=jT.at_ B u;have jm:pB.good (lj y):=by
    refine⟨?_,I.2⟩;show cf (wrap64 (3-y.b));unfold cf wrap64;omega
   have Z:∀w',Below w.heap.size w w'->jT (w'.setCell ⟨g,a*2,none⟩ (.int .i64 (wrap64 (3-y.b)))) q hi (s.lg.set a (lj y)) [.slice (some ⟨g,0,none⟩) s.lg.length c]:=λw' i=>
    jT.put (j:=0) (jT.ar.below B i z) u (by decide) jm rfl
   replace Z:=ab Z;replace u:=ab u;rw[Y] at t1 t2 G A;go_enter xk,ntmps48;go_wp2;have N:=ae H;have J:=ae G;refine aC 13 [0,1,2,3,4,5,6,7,8,9,10,11,12] [] (h:= ?_);simp only[pick,List.map,gt,gE];repeat(go_big_quiet_step (fail))
   refine ip ?_;apply Exists.intro;refine aQ ?_;intro wq d L n f;dsimp only[dQ] at f;try rw[n] at f
   simp only[List.drop];have V:=aU d H;have M:=aU d G;have x:=aU d O;have a1:¬(((a:Nat):Int)<0):=by omega
   go_wp2;have N:=ae V;have J:=ae M;have bc:=ae x;refine aC 16 [0,1,2,3,4,5,6,7,8,9,10,11,12,13,14,15] [] (h:= ?_);simp only[pick,List.map,gt,gE];repeat(go_big_quiet_step (fail))
   refine ip ?_;apply Exists.intro;refine aQ ?_;intro m hz L n f;dsimp only[dQ] at f;try rw[n] at f
   simp only[List.drop];have i:=ag d hz;have a3:=aU hz x;have E:=ak o i;have a4:=E.frozen (a*2);have po:=Z.out m i;have P:=cj (ak F i) (p:=⟨g,a*2,none⟩) (.int .i64 (wrap64 (3-y.b))) (λe=>by have e':gs=g:=e;subst e';have:=cI F o;revert this;decide);have r:∀{T:List TypeId} (b:Nat),65∉T->Typed m T b->(m.setCell ⟨g,a*2,none⟩ (.int .i64 (wrap64 (3-y.b)))).heap[b]?=m.heap[b]?:=λb hT t=>jn _ _ _ _ (by rintro rfl;exact df E hT t);have K:=bF.ar.go (w':=m.setCell ⟨g,a*2,none⟩ (.int .i64 (wrap64 (3-y.b)))) (fI:=q) (hi':=hi) (λb _ _ t=>r b (by decide) t) (am _) (am _) (bF.ar.below h1 i z);have fD:=bR.ar.go (w':=m.setCell ⟨g,a*2,none⟩ (.int .i64 (wrap64 (3-y.b)))) (fI:=q) (hi':=hi) (λb _ _ t=>r b (by decide) t) (am _) (am _) (bR.ar.below h2 i z);have Q:bj (λb=>b=gs\/(q<=b/\b<hi/\Typed w [65] b)) w (m.setCell ⟨g,a*2,none⟩ (.int .i64 (wrap64 (3-y.b)))):=(bj.aN i).setCell (p:=⟨g,a*2,none⟩) (.inl (.inr ⟨W,X,_,qC,a0,o⟩)) _;have v:=ab (And.intro K (And.intro fD (And.intro po (And.intro Q P))));go_wp2
   go_end0
   exact⟨rfl,_,_,_,v.out.2.2.2.2,⟨v.out.1,v.out.2.1,v.out.2.2.1⟩,v.out.2.2.2.1⟩
  .have t2:decide (l.n<(s.lg.length:Int))=false:=da A;rw[mU U (λh=>A h.2)];go_enter xk,ntmps48;go_wp2;have N:=ae H;have J:=ae G;refine aC 13 [0,1,2,3,4,5,6,7,8,9,10,11,12] [] (h:= ?_);simp only[pick,List.map,gt,gE];repeat(go_big_quiet_step (fail))
   refine ip ?_;apply Exists.intro;refine aQ ?_;intro wq d L n f;dsimp only[dQ] at f;try rw[n] at f
   simp only[List.drop];go_wp2
   go_end0
   exact⟨rfl,_,_,_,ak F d,hh.below d z,bj.aN d⟩
 .have t1:decide (0<=l.n)=false:=da D;rw[mU U (λh=>D h.1)];go_enter xk,ntmps48;go_wp2;have N:=ae H;have J:=ae G;refine aC 13 [0,1,2,3,4,5,6,7,8,9,10,11,12] [] (h:= ?_);simp only[pick,List.map,gt,gE];repeat(go_big_quiet_step (fail))
  refine ip ?_;apply Exists.intro;refine aQ ?_;intro wq d L n f;dsimp only[dQ] at f;try rw[n] at f
  simp only[List.drop];go_wp2
  go_end0
  exact⟨rfl,_,_,_,ak F d,hh.below d z,bj.aN d⟩
end
section
variable {β:Bool}
open Go.RowKit
def asJ(F:Nat)(dP:Array Value)(p:Int->Bool)(Q:World->Prop):Prop:=∀(b s:Int) (a:World),Q a->Calls (ah β) F (#[.agg #[.int .i64 b,.int .i64 s]]++dP) a λe c=>e=.returned (.bool (p s))/\Below a.heap.size a c
def aij(F:Nat)(t:Array Value)(p:Int->Bool)(xs:List Hd)(v:Value)(w:World)(I hi:Nat)(h:fP w I hi xs [v])(D:hi<=w.heap.size)(E:acr (β:=β) F)(q:asJ (β:=β) F t p λj=>Below w.heap.size w j) :
  Calls (ah β) 71 #[v,.func (.func F) #[] t] w λe j=>asD xs (λx=>p x.s) e/\Below w.heap.size w j:=by
 obtain⟨A,c,rfl⟩:=bD.form h;obtain⟨_,K,H⟩:=h.len_;unfold maxLen at H;replace q:=ab q;go_enter zJ,ntmps71;go_wp2;go_loopw [8] (λu wr=>∃k:Nat,k<=xs.length/\u=.int .i64 k/\(∀y∈xs.take k,p y.s=false)/\Below w.heap.size w wr) (λu _=>xs.length-(intOf u).toNat)
 case atStart=>exact⟨0,eg _,rfl,by simp,fd _ _⟩
 case round=>
  obtain⟨k,J,rfl,i,a⟩:=hrel;replace i:=ab i;by_cases r:k<xs.length
  .obtain⟨x,n⟩:=aq r;obtain⟨b,m,L,C,_,G,_,⟨rfl,B⟩,f⟩:=(fP.loc.below h a D).at_ n;subst C;have l:wr.cell? ⟨b,m+k*2,none⟩=some (.int .i64 x.b):=by simpa using f 0 _ rfl
   have o:wr.cell? ⟨b,m+k*2+1,none⟩=some (.int .i64 x.s):=by simpa using f 1 _ rfl
   replace n:=ab n;clear f;have z:=E (#[.agg #[.int .i64 x.b,.int .i64 x.s]]++t) wr;cases d:p x.s
   .replace d:=ab d;go_wp2;refine(q.out x.b x.s wr a).mono ?_;rintro e j ⟨rfl,s⟩;rw[d.out];clear z l o;go_wp2;go_roundw
    case rel=>
     refine⟨k+1,by omega,by go_num,λy g=> ?_,ag a s⟩;rw[kw n.out,mx] at g;rcases g with g|g
     .exact i.out y g
     .rw[mw.1 g];exact d.out
    case measure=>simp[intOf];omega
   .replace d:=ab d;go_wp2;refine(q.out x.b x.s wr a).mono ?_;rintro e j ⟨rfl,s⟩;rw[d.out];clear z l o;go_wp2;go_ret;exact⟨.inr ⟨k,x,rfl,n.out,d.out,i.out⟩,ag a s⟩
  .obtain rfl:k=xs.length:=by omega
   rw[gc] at i;go_wp2;go_ret;exact⟨.inl ⟨rfl,i.out⟩,a⟩
def ad8(F:Nat)(g:Array Value)(p:Int->Bool)(xs:List Hd)(v:Value)(w:World)(n hi:Nat)(h:fP w n hi xs [v])(q:hi<=w.heap.size)(r:acr (β:=β) F)(l:asJ (β:=β) F g p λd=>Below w.heap.size w d) :
  Calls (ah β) 45 #[v,.func (.func F) #[] g] w λe d=>e=.returned (.bool (xs.any λx=>p x.s))/\Below w.heap.size w d:=by
 obtain⟨A,c,rfl⟩:=bD.form h;replace l:=ab l;go_enter zW,ntmps45;go_wp2;refine(aij F g p xs _ w n hi h q r l.out).mono ?_;rintro e u ⟨b,m⟩;rcases b with⟨rfl,a⟩|⟨i,x,rfl,k,s, -⟩
 .have j:(xs.any λx=>p x.s)=false:=by rw[List.any_eq_false];intro y t;have o:p y.s=false:=a y t;rw[o];simp
  have f:=ab j;go_wp2;go_ret;exact⟨aD f.out.symm,m⟩
 .have j:(xs.any λx=>p x.s)=true:=by rw[vY];exact⟨x,db k,s⟩
  have f:=ab j;go_wp2;go_ret;exact⟨aD f.out.symm,m⟩
def ay1(d:Int)(u:Value)(c:Nat)(Q:World->Prop)(g:∀a,Q a->bg a c 41 #[.int .i64 d,u]):asJ (β:=β) 46 #[.pointer (some ⟨c,0,none⟩)] (λs=>s ==d) Q:=by
 intro b s a f;have k:=g a f;have i:a.cell? ⟨c,0,none⟩=some (.int .i64 d):=k.cell 0;show Calls _ _ #[.agg #[.int .i64 b,.int .i64 s],.pointer (some ⟨c,0,none⟩)] _ _;have e:=av a (.cells #[.int .i64 b,.int .i64 s] 65);have j:=aU e i;go_enter yd,ntmps46;go_wp2;go_ret;exact⟨rfl,e⟩
def avM:acr (β:=β) 46:=ae2 yd (by kernel_rfl) rfl
def aBl(g:List Hd)(v:Value)(b:Nat)(Q:World->Prop)(w:∀a,Q a->bg a b 25 #[v]/\∃o i,i<=a.heap.size/\fP a o i g [v]):apR (β:=β) 44 #[.pointer (some ⟨b,0,none⟩)] (λno=>g.any λh=>h.s ==no) Q:=by
 intro n A m c a l;obtain⟨k,o,i,q,p⟩:=w a l;obtain⟨B,d,rfl⟩:=bD.form p;have y:a.cell? ⟨b,0,none⟩=some (.slice B g.length d):=k.cell 0;show Calls _ _ #[.agg #[.int .i64 n,.slice A m c],.pointer (some ⟨b,0,none⟩)] _ _;have f:=av a (.cells #[.int .i64 n,.slice A m c] 41);have j:=fP.loc.below p f q;have t:=bg.new a 41 #[.int .i64 n,.slice A m c];have u:=aU f y;go_enter ye,ntmps44;go_wp2;refine(ad8 46 _ (λs=>s ==n) g _ _ o i j (ap q f.size) avM (ay1 n (.slice A m c) a.heap.size _ λx l=>ak t l)).mono ?_;rintro e z ⟨rfl,r⟩;go_wp2;go_ret;exact⟨rfl,ag f r⟩
def ay2:acr (β:=β) 44:=ae2 ye (by kernel_rfl) rfl
def asK(s:dy)(l:jw)(gs gl:Nat)(va vb vc:Value)(w:World)(o hi:Nat)(h:aah w o hi s va vb vc)(aV:hi<=w.heap.size)(hs:bg w gs 27 #[va,vb,vc])(hl:bg w gl 29 (nR l))(N:l.k=2) :
  Calls (ah β) 42 #[.pointer (some ⟨gs,0,none⟩),.pointer (some ⟨gl,0,none⟩)] w (apS s (dM s l) w o hi gs [41]):=by
 have hh:=h;obtain⟨h1,h2,h3⟩:=h;obtain⟨C,c,rfl⟩:=jT.form h3;obtain⟨B,b,rfl⟩:=aO.form h2;obtain⟨_,ha,m⟩:=(jT.l h3).len_;unfold maxLen at m;have c2:w.cell? ⟨gs,2,none⟩=some (.slice C s.lg.length c):=hs.cell 2;have cl:w.cell? ⟨gl,1,none⟩=some (.int .i64 l.n):=hl.cell 1;by_cases e1:l.n<0
 .have t1:decide (l.n<0)=true:=dk e1;rw[mS N (λh=>by omega)];clear e1;go_enter xl,ntmps42;go_wp2;have H:=ae c2;have I:=ae cl;refine aC 13 [0,1,2,3,4,5,6,7,8,9,10,11,12] [] (h:= ?_);simp only[pick,List.map,gt,gE];repeat(go_big_quiet_step (fail))
  refine ip ?_;clear H I;apply Exists.intro;refine aQ ?_;intro wq q J z f;dsimp only[dQ] at f;try rw[z] at f
  clear z J;simp only[List.drop];clear f;go_wp2
  go_end0
  exact⟨rfl,_,_,_,ak hs q,hh.below q aV,bj.aN q⟩
 .have t1:decide (l.n<0)=false:=da e1;by_cases e2:(s.lg.length:Int)<l.n
  .have t2:decide ((s.lg.length:Int)<l.n)=true:=dk e2;rw[mS N (λh=>by omega)];clear e1 e2;go_enter xl,ntmps42;go_wp2;have H:=ae c2;have I:=ae cl;refine aC 13 [0,1,2,3,4,5,6,7,8,9,10,11,12] [] (h:= ?_);simp only[pick,List.map,gt,gE];repeat(go_big_quiet_step (fail))
   refine ip ?_;clear H I;apply Exists.intro;refine aQ ?_;intro wq q J z f;dsimp only[dQ] at f;try rw[z] at f
   clear z J;simp only[List.drop];clear f;go_wp2
   go_end0
   exact⟨rfl,_,_,_,ak hs q,hh.below q aV,bj.aN q⟩
  .have t2:decide ((s.lg.length:Int)<l.n)=false:=da e2;rw[oP N ⟨by omega,by omega⟩];obtain⟨a,a0⟩:=qn (show 0<=l.n by omega);have a5:l.n.toNat=a:=by omega
   have a7:a<=s.lg.length:=by omega
   rw[a5];rw[a0] at t1 t2 cl;have ao:=a0;clear e1 e2 a0 a5;go_enter xl,ntmps42;go_wp2;have H:=ae c2;have I:=ae cl;refine aC 13 [0,1,2,3,4,5,6,7,8,9,10,11,12] [] (h:= ?_);simp only[pick,List.map,gt,gE];repeat(go_big_quiet_step (fail))
   refine ip ?_;clear H I;apply Exists.intro;refine aQ ?_;intro wq q J z f;dsimp only[dQ] at f;try rw[z] at f
   clear z J;simp only[List.drop];clear f;have a4:=aU q c2;have a6:=aU q cl;have g1:¬(((a:Nat):Int)<0):=by omega
   have g2:((a:Nat):Int)<=(s.lg.length:Int):=by omega
   have g3:((a:Nat):Int)<=(c:Int):=by omega
   go_wp2;have H:=ae a4;have I:=ae a6;refine aC 8 [0,1,2,3,4,5,6] [7] (by kernel_rfl) (by kernel_rfl) (by kernel_rfl) ?_;simp only[pick,List.map,gt,gE];repeat(go_big_quiet_step (fail))
   refine ip ?_;clear H I;have aa:∀w',jT w' o hi s.lg [.slice C s.lg.length c]->fP w' o hi (s.lg.drop a) [.slice (if c=a then C else Option.map (λx=>x.add (a*2)) C) (s.lg.length-a) (c-a)]:=λw' ho=>bD.an8 (jT.l ho) a7;generalize (if c=a then C else Option.map (λx=>x.add (a*2)) C)=AD at *;apply Exists.intro;apply aY (λv w'=>∃g,v=.pointer (some ⟨g,0,none⟩)/\wq.heap.size<=g/\bg w' g 25 #[.slice none 0 0])
   .rfl
   .exact λv x y ⟨g,e,hg,N⟩ hle=>⟨g,e,hg,ak N hle⟩
   .intro x f Qx X;replace X:=ab X;clear f;go_wp2;exact X.out _ _ (av _ _) ⟨_,rfl,x.ok.size,bg.new _ _ _⟩
   intro u3;refine aQ ?_;intro wz hz J z f;dsimp only[dQ] at f;try rw[z] at f
   clear z J;obtain⟨⟨R,rfl,b3,kv⟩, -⟩:=f;simp only[List.drop];have zq:=q.size;have zz:=hz.size;have ad:=ag q hz;have a9:=kv.bG 0 (.slice AD (s.lg.length-a) (c-a));have aZ:wz.cell? ⟨R,0,none⟩=some (.slice none 0 0):=kv.cell 0;have aL:=kv.frozen 0;have j:=ad.setCell (p:=⟨R,0,none⟩) (by dsimp only;omega) (.slice AD (s.lg.length-a) (c-a));have P:bg (wz.setCell ⟨R,0,none⟩ (.slice AD (s.lg.length-a) (c-a))) R 25 #[.slice AD (s.lg.length-a) (c-a)]:=by simpa using a9
   have F:=ak hs j;have ay:(wz.setCell ⟨R,0,none⟩ (.slice AD (s.lg.length-a) (c-a))).cell? ⟨gs,1,none⟩=some (.slice B s.sn.length b):=F.cell 1;clear kv a9 c2 cl a4 a6 g1;go_wp2;generalize wz.setCell ⟨R,0,none⟩ (.slice AD (s.lg.length-a) (c-a))=w3 at *;have z3:=j.size;have p1:=bF.ar.below h1 j aV;have p2:=bR.ar.below h2 j aV;have p3:=jT.ar.below h3 j aV;have Q:=ak hl j;have aH:(s.lg.drop a).length=s.lg.length-a:=qj;refine(af5 44 _ (λno=>(s.lg.drop a).any λh=>h.s ==no) s.sn _ w3 o hi p2 (by omega) ay2 (aBl (s.lg.drop a) (.slice AD (s.lg.length-a) (c-a)) R _ λw' q=>⟨aP P q λhs=>df P (by decide) hs.2.2,o,hi,by have:=q.size;omega,aa w' (jT.ar.go (λb b1 b2 d=>q.block b (by omega) λm=>gY d (by decide) m.2.2) (am _) (am _) p3)⟩)).mono ?_;rintro e L ⟨v4,rfl,o4,W⟩;obtain⟨B4,b4,rfl⟩:=aO.form o4;have z4:=W.size;have k:=aP F W λm=>df F (by decide) m.2.2;have U:=aP Q W λm=>df Q (by decide) m.2.2;have q1:=bF.ar.go (w':=L) (fI:=o) (hi':=hi) (λb b1 b2 d=>W.block b (by omega) λm=>gY d (by decide) m.2.2) (am _) (am _) p1;have q3:=jT.ar.go (w':=L) (fI:=o) (hi':=hi) (λb b1 b2 d=>W.block b (by omega) λm=>gY d (by decide) m.2.2) (am _) (am _) p3;have b0:L.cell? ⟨gs,1,none⟩=some (.slice B s.sn.length b):=k.cell 1;have b5:=k.frozen 1;obtain⟨vv,K⟩:∃vv,vv=Value.slice B4 (s.sn.filter λx=>!((s.lg.drop a).any λh=>h.s ==x.no)).length b4:=⟨_,rfl⟩;rw[<-K] at o4;rw[<-K];have af:∃A n c,vv=.slice A n c:=⟨_,_,_,K⟩;clear K;obtain⟨O,M,Z,rfl⟩:=af;have E:=k.bG 1 (.slice O M Z);simp only[dj,ge,io] at E;have al:gl≠gs:=by rintro rfl;exact absurd (cI U k) (by decide)
   have Y:=cj U (p:=⟨gs,1,none⟩) (.slice O M Z) al;have r:∀(w':World) (i:Nat) (u:Value) {cs:Array Value} {T:List TypeId},bg w' gs 27 cs->∀(b:Nat),27∉T->Typed w' T b->(w'.setCell ⟨gs,i,none⟩ u).heap[b]?=w'.heap[b]?:=λw' i u cs T N b hT d=>jn _ _ _ _ (by rintro rfl;exact df N hT d);have r1:=bF.ar.go (w':=L.setCell ⟨gs,1,none⟩ (.slice O M Z)) (fI:=o) (hi':=hi) (λb _ _ d=>r _ 1 _ k b (by decide) d) (am _) (am _) q1;have r2:=bR.ar.go (w':=L.setCell ⟨gs,1,none⟩ (.slice O M Z)) (fI:=o) (hi':=hi) (λb _ _ d=>r _ 1 _ k b (by decide) d) (am _) (am _) o4;have r3:=jT.ar.go (w':=L.setCell ⟨gs,1,none⟩ (.slice O M Z)) (fI:=o) (hi':=hi) (λb _ _ d=>r _ 1 _ k b (by decide) d) (am _) (am _) q3;have G:bj (λb=>b=gs\/(o<=b/\b<hi/\Typed w [41] b)) w (L.setCell ⟨gs,1,none⟩ (.slice O M Z)):=
    ((bj.aN (S:=λb=>b=gs\/(o<=b/\b<hi/\Typed w [41] b)) j).trans W λb hb m=>.inr ⟨m.1,m.2.1,lW (bj.aN (S:=λ_=>False) j) (T:=[41]) (λt d=>d) m.2.1 aV (λh=>h.elim) m.2.2⟩).setCell (p:=⟨gs,1,none⟩) (.inl (.inl rfl)) _
   replace G:=ab G;replace r1:=ab r1;replace r2:=ab r2;replace r3:=ab r3;replace E:=ab E;replace Y:=ab Y;clear q1 q3 o4 p1 p2 p3 k U F Q ay W j aa P;go_wp2;generalize L.setCell ⟨gs,1,none⟩ (.slice O M Z)=w5 at *;have an:w5.cell? ⟨gs,2,none⟩=some (.slice C s.lg.length c):=E.out.cell 2;have ax:w5.cell? ⟨gl,1,none⟩=some (.int .i64 ((a:Nat):Int)):=by rw[<-ao];exact Y.out.cell 1
   have g1:¬(((a:Nat):Int)<0):=by omega
   have H:=ae an;have I:=ae ax;refine aC 10 [0,1,2,3,4,5,6,7,8,9] [] (h:= ?_);simp only[pick,List.map,gt,gE];repeat(go_big_quiet_step (fail))
   refine ip ?_;clear H I;apply Exists.intro;refine aQ ?_;intro wy hy J z f;dsimp only[dQ] at f;try rw[z] at f
   clear z J;simp only[List.drop];clear f;have zy:=hy.size;have z5:=G.out.size;have D:=ak E.out hy;have aI:wy.cell? ⟨gs,2,none⟩=some (.slice C s.lg.length c):=D.cell 2;have aT:=D.frozen 2;have V:=D.bG 2 (.slice C a a);simp only[dj,ge,io] at V;have a3:=bF.ar.go (w':=wy.setCell ⟨gs,2,none⟩ (.slice C a a)) (fI:=o) (hi':=hi) (λb _ _ d=>r _ 2 _ D b (by decide) d) (am _) (am _) (bF.ar.below r1.out hy (by omega));have a2:=bR.ar.go (w':=wy.setCell ⟨gs,2,none⟩ (.slice C a a)) (fI:=o) (hi':=hi) (λb _ _ d=>r _ 2 _ D b (by decide) d) (am _) (am _) (bR.ar.below r2.out hy (by omega));have a1:=jT.ar.go (w':=wy.setCell ⟨gs,2,none⟩ (.slice C a a)) (fI:=o) (hi':=hi) (λb _ _ d=>r _ 2 _ D b (by decide) d) (am _) (am _) (jT.agI (jT.ar.below r3.out hy (by omega)) a7);have a8:=(G.out.trans (bj.aN (S:=λ_=>False) hy) λ_ _ h=>h.elim).setCell (p:=⟨gs,2,none⟩) (.inl (.inl rfl)) (.slice C a a);have HQ:=ab (And.intro a3 (And.intro a2 (And.intro a1 (And.intro a8 V))));clear a3 a2 a1 a8 V r;go_wp2
   go_end0
   exact⟨rfl,_,_,_,HQ.out.2.2.2.2,⟨HQ.out.1,HQ.out.2.1,HQ.out.2.2.1⟩,HQ.out.2.2.2.1⟩
end
section
variable {β:Bool}
open Go.RowKit
def avN(l:jw)(w:World)(e:Ending)(w':World):Prop:=
 ∃F i,e=.returned (.func (.func F) #[] i)/\acr (β:=β) F/\Below w.heap.size w w'/\∀(s:dy) (a:Nat) (g f d:Value) (j b:Nat),aah w' j b s g f d->b<=w'.heap.size->bg w' a 27 #[g,f,d]->
  Calls (ah β) F (#[.pointer (some ⟨a,0,none⟩)]++i) w' λe x=>∃T,apS s (dM s l) w' j b a T e x
def amy(l:jw)(w:World)(f:l.b.size<=maxLen):Calls (ah β) 16 #[.agg (nR l)] w (avN (β:=β) l w):=by
 have i:=ab (av w (.cells (nR l) 29));have HK:=ab (bg.new w 29 (nR l));rcases(by omega:l.k=1\/l.k=2\/l.k=3\/l.k=4\/¬(l.k=1\/l.k=2\/l.k=3\/l.k=4)) with a|a|a|a|a
 case' inr.inr.inr.inr=>
  have p:(l.k ==1)=false:=de.2 (by omega);have j:(l.k ==2)=false:=de.2 (by omega);have o:(l.k ==3)=false:=de.2 (by omega);have r:(l.k ==4)=false:=de.2 (by omega);have g:=ab λs=>abF (s:=s) (l:=l) (by omega) (by omega) (by omega) (by omega)
 all_goals
  try
   obtain⟨k,n,m,b⟩:=l;dsimp only at a;subst a
  go_enter AB,ntmps16;go_wp2;go_ret;refine⟨_,_,rfl, ?_,i.out,λs x q v u y t d e c=> ?_⟩
  .first|exact ae2 yg (by kernel_rfl) rfl|exact ae2 xl (by kernel_rfl) rfl|exact ae2 yc (by kernel_rfl) rfl|exact ae2 xk (by kernel_rfl) rfl|exact ae2 yb (by kernel_rfl) rfl
  .first|exact(asF _ _ _ _ _ _ _ _ _ _ d e c HK.out rfl).mono λ_ _ h=>⟨_,h⟩|exact(asK _ _ _ _ _ _ _ _ _ _ d e c HK.out rfl).mono λ_ _ h=>⟨_,h⟩|exact(asG _ _ _ _ _ _ _ _ _ _ d e c HK.out rfl f).mono λ_ _ h=>⟨_,h⟩|exact(asI _ _ _ _ _ _ _ _ _ _ d e c HK.out rfl).mono λ_ _ h=>⟨_,h⟩|exact(asH _ _ (g.out s) _ _ _ _ _ _ _ d c).mono λ_ _ h=>⟨_,h⟩
def ay4(w:World)(s:dy)(e:Ending)(w':World):Prop:=∃c a b,e=.returned (.agg #[c,a,b])/\aah w' w.heap.size w'.heap.size s c a b/\Below w.heap.size w w'
def oY(s:dy)(l:jw)(U Y vc:Value)(w:World)(W hi:Nat)(h:gb w W hi s U Y vc)(O:hi<=w.heap.size)(hl:kQ s<=1099511627)(K:l.b.size<=maxLen) :
  Calls (ah β) 5 #[.agg #[U,Y,vc],.agg (nR l)] w (ay4 w (dM s l)):=by
 obtain⟨A,a,rfl⟩:=bD.form h.pk;obtain⟨B,b,rfl⟩:=bD.form h.sn;obtain⟨C,c,rfl⟩:=bD.form h.lg;go_enter qF5,ntmps5;go_wp2;generalize x:((w.alloc (.cells #[.slice A s.pk.length a,.slice B s.sn.length b,.slice C s.lg.length c] 27)).alloc (.cells #[.int .i64 l.k,.int .i64 l.n,.int .i64 l.m,.string l.b] 29)).alloc (.cells #[.slice none 0 0,.slice none 0 0,.slice none 0 0] 27)=w0 at *;obtain⟨n,jo,k0,dn,eQ,f,R,X,d,L,S⟩:=aeZ x;refine(afr s _ _ _ w0 W hi (h.below n O) (ap O n.size) hl).mono ?_;rintro e o ⟨v1,v2,v3,rfl,r,q⟩;obtain⟨N,a1,rfl⟩:=aO.form r.pk;obtain⟨V,pC,rfl⟩:=aO.form r.sn;obtain⟨C1,c1,rfl⟩:=aO.form r.lg;replace f:=ak f q;replace R:=f.cell;replace X:=f.frozen;replace d:=ak d q;replace L:=d.cell;replace S:=d.frozen;replace n:=ag n q;have z1:=q.size;have o2:=r.w;have py:=av o (.cells #[.slice N s.pk.length a1,.slice V s.sn.length pC,.slice C1 s.lg.length c1] 27);have a3:=(ak f py).cell;go_wp2;generalize x:o.alloc (.cells #[.slice N s.pk.length a1,.slice V s.sn.length pC,.slice C1 s.lg.length c1] 27)=w3 at *;obtain⟨y,a2,m0,od,a7⟩:=mB x;replace d:=ak d y;replace L:=d.cell;replace S:=d.frozen;have I:=ag n y;have o3:=o2.below y (am _);have t:=m0;have f:=d;have R:=f.cell;have X:=f.frozen;have a0:=t.cell;have a6:=t.frozen;refine(amy l w3 K).mono ?_;rintro e w4 ⟨F,cs,rfl,hF,k,jb⟩;have p:=ag I k;have z:=ak t k;have D:=ak f k;have o4:=o3.below k (by omega);have fL:=hF (#[.pointer (some ⟨o.heap.size,0,none⟩)]++cs) w4;have HC:=ab (jb s o.heap.size _ _ _ w0.heap.size o.heap.size o4 (by have:=k.size;omega) z);have z4:=k.size;go_wp2;refine HC.out.mono ?_;rintro e J ⟨T,rfl,ua,ub,uc,k5,j,G⟩;have z5:=G.size;have H:Below w.heap.size w J:=p.trans (G.below p.size λi hi g=>by rcases g with g|g<;>omega);have m:=aP D G λg=>by
  rcases g with g|g
  .omega
  .omega
 have a8:=k5.cell;have u:=m.cell;have a4:=m.frozen;obtain⟨A5,a5,rfl⟩:=aO.form j.pk;obtain⟨B5,b5,rfl⟩:=aO.form j.sn;obtain⟨C5,d5,rfl⟩:=jT.form j.lg;replace j:=ab j;go_wp2;have E:∀(Q Z P:Value) (b:Nat),w0.heap.size<=b->(((J.setCell ⟨w.heap.size+1+1,0,none⟩ Q).setCell ⟨w.heap.size+1+1,1,none⟩ Z).setCell ⟨w.heap.size+1+1,2,none⟩ P).heap[b]?=J.heap[b]?:=λQ Z P b M=>by
  rw[jn _ _ _ _ (by dsimp only;omega),jn _ _ _ _ (by dsimp only;omega),jn _ _ _ _ (by dsimp only;omega)]
 refine pb (v:=.agg #[.slice A5 (dM s l).pk.length a5,.slice B5 (dM s l).sn.length b5,.slice C5 (dM s l).lg.length d5]) (by simp[results,results5,go_sem,u]) rfl ⟨_,_,_,rfl, ?_, ?_⟩
 .refine j.out.go (λb M _=>E _ _ _ b M) (by omega) ?_;simp only[bv];omega
 .exact((H.setCell (by dsimp only;omega) _).setCell (by dsimp only;omega) _).setCell (by dsimp only;omega) _
end
section
variable {β:Bool}
open Go.RowKit
def aO.obT{w:World}{xs:List Y}(h:aO e E Z w U hi xs [v])(a:v.ownBlock=some b):∃g,bg w b e g:=by
 obtain⟨i,cells,f,h,_⟩:=h;cases f;rcases h.2 with⟨rfl,_⟩|⟨j,cap,c,rfl,_,d,_⟩
 .cases a
 .cases a;exact⟨_,d⟩
def eG.aaL{w:World}(h:eG U e v w)(f:w.heap.size<=hi):aO e E Z w U hi [] [v]:=by
 obtain⟨g,rfl,d,c⟩:=h;have:=c.lt;exact⟨_,[],rfl,eG.own ⟨g,rfl,d,c⟩ Z,λb a=>by cases a;dsimp only;omega,Els.nil (by omega)⟩
def dJ{w : World}{xs:List Y}(h:aO e E Z w U hi xs [v])(f:bj (λb=>v.ownBlock=some b) w w'){t:TypeId}{cs:Array Value}(a:bg w g t cs)(c:t≠e):bg w' g t cs:=
 aP a f λd=>by
  obtain⟨i,hd⟩:=h.obT d;exact c (cI a hd)
def jP{β : Type}{D:gG β}{w : World}{xs:List Y}{y:β}(h:aO e E Z w U hi xs [v])(l:bj (λb=>v.ownBlock=some b) w w')(j:dL D T)(c:D w R B y cs)(d:e∉T):D w' R B y cs:=
 j.fE c l λb _ _ f g=>by
  obtain⟨m,hd⟩:=h.obT g;obtain⟨t,k,i,a⟩:=f;exact d (cI a hd▸k)
def cL{β:Type}{D:gG β}{w:World}{t:TypeId}{a:Array Value}{y:β}(f:dL D T)(c:D w Z hi y cs)(j:bg w g t a)(d:t∉T)(i:Nat)(u:Value):D (w.setCell ⟨g,i,none⟩ u) Z hi y cs:=
 f.go (λb _ _ e=>jn _ _ _ _ (by rintro rfl;exact df j d e)) (am _) (am _) c
def aik{β:Type}{D:gG β}{w:World}{u:Value}{y:β}(c:dL D T)(a:D w Z hi y cs)(e:hi<=g):D (w.setCell ⟨g,i,none⟩ u) Z hi y cs:=
 c.go (λb _ d _=>jn _ _ _ _ (by dsimp only;omega)) (am _) (am _) a
structure af7 (w wr:World) (L:Nat) (A B C:Option Addr) (a b c:Nat) (s:dy) (gm:Nat) (vp vs vl:Value) (pk:List Pk) (sn:List Sn) (H:Nat):Prop where
 k0:bg wr w.heap.size 27 #[.slice A s.pk.length a,.slice B s.sn.length b,.slice C s.lg.length c]
 k1:bg wr (w.heap.size+1) 27 #[.slice none 0 0,.slice none 0 0,.slice none 0 0]
 m:bg wr gm 27 #[vp,vs,vl]
 op:bF wr L H pk [vp]
 os:bR wr L H sn [vs]
 ol:dH wr L H s.lg [vl]
 bl:Below w.heap.size w wr
 gm1:w.heap.size+1<gm
 gm2:gm<wr.heap.size
 hL:w.heap.size<=L
 hH:H<=wr.heap.size
 gmr:gm<H
def af7.below{w wr : World}{B C : Option Addr}{a : Nat}{f:List Pk}{e:List Sn}(h:af7 w wr Z A B C a b c s U X W V f e R)(d:Below wr.heap.size wr w'):af7 w w' Z A B C a b c s U X W V f e R:=
 ⟨ak h.k0 d,ak h.k1 d,ak h.m d,bF.ar.below h.op d h.hH,bR.ar.below h.os d h.hH,dH.ar.below h.ol d h.hH,ag h.bl d,h.gm1,bd h.gm2 d.size,h.hL,ap h.hH d.size,h.gmr⟩
def fC(s:dy)(va vb vc:Value)(w:World)(lo hi:Nat)(h:gb w lo hi s va vb vc)(aV:hi<=w.heap.size)(hl:kQ s<=1099511627) :
  Calls (ah β) 20 #[.agg #[va,vb,vc]] w (asB w s):=by
 obtain⟨h1,h2,h3⟩:=h;obtain⟨A,a,rfl⟩:=bD.form h1;obtain⟨B,b,rfl⟩:=bD.form h2;obtain⟨C,c,rfl⟩:=bD.form h3;obtain⟨_,d5,d3⟩:=h1.len_;obtain⟨_,e8,cd⟩:=h2.len_;obtain⟨_,b8,cO⟩:=h3.len_;unfold maxLen at d3 cd cO;unfold kQ at hl;have d8:=dV (f:=bPk) (l:=s.pk);have e4:=dV (f:=bSn) (l:=s.sn);have c9:=bD.good (F:=pB) h3;go_enter Aw,ntmps20;go_wp2_with(at_builtin;refine gX ?_);refine⟨?_,trivial⟩;have aL:Below w.heap.size w (((((w.alloc (.cells #[.slice A s.pk.length a,.slice B s.sn.length b,.slice C s.lg.length c] 27)).alloc (.cells #[.slice none 0 0,.slice none 0 0,.slice none 0 0] 27)).alloc (.cells #[] 36)).alloc (.cells #[] 41)).alloc (.cells #[] 65)):=cX (cX (cX (cX (av _ _) _) _) _) _;have k0:bg (((((w.alloc (.cells #[.slice A s.pk.length a,.slice B s.sn.length b,.slice C s.lg.length c] 27)).alloc (.cells #[.slice none 0 0,.slice none 0 0,.slice none 0 0] 27)).alloc (.cells #[] 36)).alloc (.cells #[] 41)).alloc (.cells #[] 65)) (w.heap.size) 27 #[.slice A s.pk.length a,.slice B s.sn.length b,.slice C s.lg.length c]:=by
  have J:=bC (bC (bC (bC (bg.new w 27 #[.slice A s.pk.length a,.slice B s.sn.length b,.slice C s.lg.length c]) (.cells #[.slice none 0 0,.slice none 0 0,.slice none 0 0] 27)) (.cells #[] 36)) (.cells #[] 41)) (.cells #[] 65);exact J
 have k1:bg (((((w.alloc (.cells #[.slice A s.pk.length a,.slice B s.sn.length b,.slice C s.lg.length c] 27)).alloc (.cells #[.slice none 0 0,.slice none 0 0,.slice none 0 0] 27)).alloc (.cells #[] 36)).alloc (.cells #[] 41)).alloc (.cells #[] 65)) (w.heap.size+1) 27 #[.slice none 0 0,.slice none 0 0,.slice none 0 0]:=by
  have J:=bC (bC (bC (bg.new (w.alloc (.cells #[.slice A s.pk.length a,.slice B s.sn.length b,.slice C s.lg.length c] 27)) 27 #[.slice none 0 0,.slice none 0 0,.slice none 0 0]) (.cells #[] 36)) (.cells #[] 41)) (.cells #[] 65);simp only[oS] at J;exact J
 have k2:bg (((((w.alloc (.cells #[.slice A s.pk.length a,.slice B s.sn.length b,.slice C s.lg.length c] 27)).alloc (.cells #[.slice none 0 0,.slice none 0 0,.slice none 0 0] 27)).alloc (.cells #[] 36)).alloc (.cells #[] 41)).alloc (.cells #[] 65)) (w.heap.size+1+1) 36 #[]:=by
  have J:=bC (bC (bg.new ((w.alloc (.cells #[.slice A s.pk.length a,.slice B s.sn.length b,.slice C s.lg.length c] 27)).alloc (.cells #[.slice none 0 0,.slice none 0 0,.slice none 0 0] 27)) 36 #[]) (.cells #[] 41)) (.cells #[] 65);simp only[oS] at J;exact J
 have k3:bg (((((w.alloc (.cells #[.slice A s.pk.length a,.slice B s.sn.length b,.slice C s.lg.length c] 27)).alloc (.cells #[.slice none 0 0,.slice none 0 0,.slice none 0 0] 27)).alloc (.cells #[] 36)).alloc (.cells #[] 41)).alloc (.cells #[] 65)) (w.heap.size+1+1+1) 41 #[]:=by
  have J:=bC (bg.new (((w.alloc (.cells #[.slice A s.pk.length a,.slice B s.sn.length b,.slice C s.lg.length c] 27)).alloc (.cells #[.slice none 0 0,.slice none 0 0,.slice none 0 0] 27)).alloc (.cells #[] 36)) 41 #[]) (.cells #[] 65);simp only[oS] at J;exact J
 have k4:bg (((((w.alloc (.cells #[.slice A s.pk.length a,.slice B s.sn.length b,.slice C s.lg.length c] 27)).alloc (.cells #[.slice none 0 0,.slice none 0 0,.slice none 0 0] 27)).alloc (.cells #[] 36)).alloc (.cells #[] 41)).alloc (.cells #[] 65)) (w.heap.size+1+1+1+1) 65 #[]:=by
  have J:=bg.new ((((w.alloc (.cells #[.slice A s.pk.length a,.slice B s.sn.length b,.slice C s.lg.length c] 27)).alloc (.cells #[.slice none 0 0,.slice none 0 0,.slice none 0 0] 27)).alloc (.cells #[] 36)).alloc (.cells #[] 41)) 65 #[];simp only[oS] at J;exact J
 have jo:w.heap.size+5<=(((((w.alloc (.cells #[.slice A s.pk.length a,.slice B s.sn.length b,.slice C s.lg.length c] 27)).alloc (.cells #[.slice none 0 0,.slice none 0 0,.slice none 0 0] 27)).alloc (.cells #[] 36)).alloc (.cells #[] 41)).alloc (.cells #[] 65)).heap.size:=by simp only[oS];omega
 generalize (((((w.alloc (.cells #[.slice A s.pk.length a,.slice B s.sn.length b,.slice C s.lg.length c] 27)).alloc (.cells #[.slice none 0 0,.slice none 0 0,.slice none 0 0] 27)).alloc (.cells #[] 36)).alloc (.cells #[] 41)).alloc (.cells #[] 65))=w0 at *;have dn:=k0.cell;have eQ:=k0.frozen;have dG:=k1.cell;have eD:=k1.frozen;have gW:=k2.cell;have jV:=k2.frozen;have ao:=k3.cell;have b4:=k3.frozen;have cc:=k4.cell;have d4:=k4.frozen;have M:=kq (F:=pB) h3 aV;have bO:eG w.heap.size 65 (.slice (some ⟨w.heap.size+1+1+1+1,0,none⟩) 0 0) w0:=⟨_,rfl,by omega,k4⟩;refine nO (F:=pB) (xs:=s.lg) aL rfl (.tmp 11) (.tmp 13) 25 rfl aic (am _) rfl rfl bO M (by omega) ?_;intro vl x1 Q t;replace k0:=ak k0 Q;replace dn:=k0.cell;replace eQ:=k0.frozen;replace k1:=ak k1 Q;replace dG:=k1.cell;replace eD:=k1.frozen;replace k2:=ak k2 Q;replace gW:=k2.cell;replace jV:=k2.frozen;replace k3:=ak k3 Q;replace ao:=k3.cell;replace b4:=k3.frozen;replace aL:=ag aL Q;obtain⟨Cl,cl,rfl⟩:=t.form;have z1:=Q.size;clear k4 cc d4 bO M;go_wp2;generalize hG:x1.alloc (.cells #[.slice (some ⟨w.heap.size+1+1,0,none⟩) 0 0,.slice (some ⟨w.heap.size+1+1+1,0,none⟩) 0 0,.slice Cl s.lg.length cl] 27)=w1 at *;obtain⟨W,dp,m0,od,ca⟩:=mB hG;clear hG;replace k0:=ak k0 W;replace dn:=k0.cell;replace eQ:=k0.frozen;replace k1:=ak k1 W;replace dG:=k1.cell;replace eD:=k1.frozen;replace k2:=ak k2 W;replace gW:=k2.cell;replace jV:=k2.frozen;replace k3:=ak k3 W;replace ao:=k3.cell;replace b4:=k3.frozen;have b7:=t.below W;have o:af7 w w1 w.heap.size A B C a b c s x1.heap.size (.slice (some ⟨w.heap.size+1+1,0,none⟩) 0 0) (.slice (some ⟨w.heap.size+1+1+1,0,none⟩) 0 0) (.slice Cl s.lg.length cl) [] [] w1.heap.size:=
  ⟨k0,k1,m0,eG.aaL ⟨_,rfl,by omega,k2⟩ (am _),eG.aaL ⟨_,rfl,by omega,k3⟩ (am _),b7.aaL c9 (by omega) (λg hg=>(b7.at_ hg).2),ag aL W,by omega,by omega,am _,am _,by omega⟩
 have n:=ab o;obtain⟨K,bp⟩:∃K,K=x1.heap.size:=⟨_,rfl⟩;rw[<-bp] at n ⊢;obtain⟨vs,bz⟩:∃vs,vs=Value.slice (some ⟨w.heap.size+1+1+1,0,none⟩) 0 0:=⟨_,rfl⟩;rw[<-bz] at n;clear bp bz o k0 k1 k2 k3 m0 dn dG gW ao od eQ eD jV b4 ca t b7 aL W Q;go_loopw [4] (λii wr=>∃(k:Nat) (vo:Value),k<=s.pk.length/\ii=.int .i64 k/\af7 w wr w.heap.size A B C a b c s K vo vs (.slice Cl s.lg.length cl) (s.pk.take k) [] wr.heap.size) (λii _=>s.pk.length-(intOf ii).toNat)
 case atStart=>exact⟨0,_,eg _,rfl,n.out⟩
 case round=>
  clear n;obtain⟨k,vo,J,rfl,o⟩:=hrel;obtain⟨Ao,co,rfl⟩:=o.op.form;have H:(s.pk.take k).length=k:=by rw[ef,qR J]
  rw[H] at o;have dn:wr.cell? ⟨w.heap.size,0,none⟩=some (.slice A s.pk.length a):=o.k0.cell 0;by_cases aT:k<s.pk.length
  .obtain⟨y,cN⟩:=aq aT;have jk:=jL (f:=bPk) (db cN);have ds:y.its.length<=bPk y:=dV;obtain⟨b',N,es,e0,_,cz,_,⟨v2,rfl,an,Y⟩,E⟩:=(iw.loc.below h1 o.bl aV).at_ cN;subst e0;obtain⟨A2,c2,rfl⟩:=bD.form Y;have aa:wr.cell? ⟨b',N+k*2,none⟩=some (.int .i64 y.no):=by simpa using E 0 _ rfl
   have al:wr.cell? ⟨b',N+k*2+1,none⟩=some (.slice A2 y.its.length c2):=by simpa using E 1 _ rfl
   have cm:wr.cell? ⟨K,0,none⟩=some (.slice Ao k co):=o.m.cell 0;have iR:=kw cN;have HN:=ab iR;have V:=ab H;have M:=ab (kq (F:=nA) Y (by have:=o.bl.size;omega));have jm:=ab (bD.good (F:=nA) Y);have n:=ab o;have zr:=o.bl.size;clear E cN iR H Y o;go_wp2;have aH:=ae dn;have aI:=ae aa;have bc:=ae al;have dB:=ae cm;refine aC 18 [0,1,2,3,4,5,6,7,9,10,11,12,13,14] [8,15,16,17] (h:= ?_);simp only[pick,List.map,gt,gE];repeat(go_big_quiet_step (fail))
   refine ip ?_;clear aH aI bc dB;apply Exists.intro;apply aY (eG wr.heap.size 63)
   .rfl
   .exact λv x y h m=>h.keep m
   .intro x _ Qx r;have R:=ab r;clear r;go_wp2;exact R.out _ _ (av _ _) (eG.new _ _ x.ok.size)
   intro u8;apply aY (λv w'=>aJ nA 63 w' wr.heap.size v y.its)
   .rfl
   .exact λv x y h m=>h.below m
   .intro x L Qx R;have hL:=L.1 (by kernel_rfl);exact ajx rfl (.tmp 31) (.tmp 37) 34 rfl oI (am _) rfl rfl hL M.out (by omega) λv' x' m ho=>R v' x'.to m ho
   intro dd;apply aY (λv w'=>∃A c,v=.agg #[.int .i64 y.no,.slice A y.its.length c]/\aJ nA 63 w' wr.heap.size (.slice A y.its.length c) y.its)
   .rfl
   .exact λv x y ⟨A,c,e,h⟩ m=>⟨A,c,e,h.below m⟩
   .intro x L Qx r;have R:=ab r;clear r;have ho:=L.1 (by kernel_rfl);obtain⟨A5,c5,rfl⟩:=ho.form;go_wp2;exact R.out _ _ (fd _ _) ⟨_,_,rfl,ho⟩
   intro d6;apply aY (λv w'=>∃g A c,v=.slice (some ⟨g,0,none⟩) 1 1/\bg w' g 36 #[.int .i64 y.no,.slice A y.its.length c]/\aJ nA 63 w' wr.heap.size (.slice A y.its.length c) y.its)
   .rfl
   .exact λv x y ⟨g,A,c,e,J,h⟩ m=>⟨g,A,c,e,ak J m,h.below m⟩
   .intro x L Qx r;have R:=ab r;clear r;obtain⟨A5,c5,rfl,ho⟩:=L.1 (by kernel_rfl);go_wp2;have ba:=av x.to (.cells #[.int .i64 y.no,.slice A5 y.its.length c5] 36);exact R.out _ _ ba ⟨_,_,_,rfl,bg.new _ _ _,ho.below ba⟩
   intro dm;refine aQ ?_;intro w6 gZ xx cU L;dsimp only[dQ] at L;try rw[cU] at L
   clear cU xx;obtain⟨⟨g8,A8,c8,rfl,U,o8⟩, -⟩:=L;simp only[List.drop];have a6:=n.out.below gZ;have z6:=gZ.size;have ay:Hid (lh w6 wr.heap.size w6.heap.size y [.int .i64 y.no,.slice A8 y.its.length c8]):=ab ⟨_,rfl,an,o8.aaL jm.out (by omega) λg hg=>(o8.at_ hg).2⟩;replace U:=ab U;have q:=ab a6;clear n gZ o8 a6 aa al cm dn M;go_wp2_with(at_builtin;refine gX ?_);refine⟨?_,trivial⟩;refine iz lh.ar (by decide) (v:=.slice Ao k co) rfl (.tmp 24) (.tmp 40) 23 rfl aei y rfl q.out.op rfl U.out rfl (by simp[Value.oneCell']) z6 ay.out (am _) (by have:=V.out;omega) (by omega) ?_;intro v9 X o9 G bn;obtain⟨S,P,rfl⟩:=o9.form;rw[aE,mp,V.out] at o9;rw[aE,mp,V.out];have d:=q.out.op;have u:=dJ d G q.out.m (by decide);have a2:=dJ d G q.out.k0 (by decide);have a7:=dJ d G q.out.k1 (by decide);have br:=jP d G bR.ar q.out.os (by decide);have a5:=jP d G dH.ar q.out.ol (by decide);have b0:Below w.heap.size w X:=q.out.bl.trans (G.below q.out.bl.size λi hi hs=>by have:=d.ob hs;omega);have cw:X.cell? ⟨K,0,none⟩=some (.slice Ao k co):=u.cell 0;have cn:=u.frozen 0;have z9:=G.size;have a0:=q.out.gm1;have d1:=q.out.gm2;have mD:=u.bG 0 (.slice S (k+1) P);simp only[dj,ge,io] at mD;have O:af7 w (X.setCell ⟨K,0,none⟩ (.slice S (k+1) P)) w.heap.size _ B C a b c s K (.slice S (k+1) P) vs (.slice Cl s.lg.length cl) (s.pk.take (k+1)) [] (X.setCell ⟨K,0,none⟩ (.slice S (k+1) P)).heap.size:=
    ⟨cj a2 (p:=⟨K,0,none⟩) _ (by dsimp only;omega),cj a7 (p:=⟨K,0,none⟩) _ (by dsimp only;omega),mD,
     by rw[HN.out];simp only[bv];exact cL bF.ar o9 u (by decide) 0 _,
     by simp only[bv];exact bR.ar.wide (cL bR.ar br u (by decide) 0 _) (am _) (ap z6 z9),
     by simp only[bv];exact dH.ar.wide (cL dH.ar a5 u (by decide) 0 _) (am _) (ap z6 z9),
     b0.setCell (by dsimp only;omega) _,a0,by simp only[bv];omega,am _,am _,by simp only[bv];omega⟩
   have b9:=ab O;clear O mD br a5 d a2 a7 u;go_wp2;go_roundw
   case rel=>exact⟨k+1,_,by omega,by go_num,b9.out⟩
   simp[intOf];omega
  .obtain rfl:k=s.pk.length:=by omega
   rw[gc] at o;obtain⟨Ap,cC⟩:∃A,A=Ao:=⟨_,rfl⟩;obtain⟨cp,cr⟩:∃c,c=co:=⟨_,rfl⟩;subst cC cr;have n:=ab o;clear o;go_wp2;clear dn;go_loopw [5] (λii wr=>∃(k:Nat) (vo:Value),k<=s.sn.length/\ii=.int .i64 k/\af7 w wr w.heap.size A B C a b c s K (.slice Ap s.pk.length cp) vo (.slice Cl s.lg.length cl) s.pk (s.sn.take k) wr.heap.size) (λii _=>s.sn.length-(intOf ii).toNat)
   case atStart=>exact⟨0,_,eg _,rfl,n.out⟩
   case round=>
    clear n;obtain⟨k,vo,J,rfl,o⟩:=hrel;obtain⟨Ao,co,rfl⟩:=o.os.form;have H:(s.sn.take k).length=k:=by rw[ef,qR J]
    rw[H] at o;have dn:wr.cell? ⟨w.heap.size,1,none⟩=some (.slice B s.sn.length b):=o.k0.cell 1;by_cases aT:k<s.sn.length
    .obtain⟨y,cN⟩:=aq aT;have jk:=jL (f:=bSn) (db cN);have d9:eu bLs y.all=bSn y:=rfl;have dx:y.all.length<=eu bLs y.all:=dV;obtain⟨b',N,es,e0,dK,cz,_,⟨v2,rfl,an,Y⟩,E⟩:=(iy.loc.below h2 o.bl aV).at_ cN;subst e0;obtain⟨A2,c2,rfl⟩:=bD.form Y;obtain⟨_,d7,cq⟩:=Y.len_;unfold maxLen at cq;have aa:wr.cell? ⟨b',N+k*2,none⟩=some (.int .i64 y.no):=by simpa using E 0 _ rfl
     have al:wr.cell? ⟨b',N+k*2+1,none⟩=some (.slice A2 y.all.length c2):=by simpa using E 1 _ rfl
     have iR:=kw cN;have HN:=ab iR;have V:=ab H;have HY:=ab cN;have n:=ab o;have zr:=o.bl.size;clear E cN iR H Y o;go_wp2;obtain⟨I,cY⟩:∃I,I=wr:=⟨_,rfl⟩;subst cY;generalize hG:(I.alloc (.cells #[] 67)).alloc (.cells #[.int .i64 y.no,.slice (some ⟨I.heap.size,0,none⟩) 0 0] 41)=w2 at *;obtain⟨ce,e1,n0,ch,cW,n1,af,cg⟩:=pW hG;clear hG;have bJ:=n.out.below ce;have bi:=ab bJ;have Z:fQ w2 I.heap.size w2.heap.size [] [.slice (some ⟨I.heap.size,0,none⟩) 0 0]:=eG.aaL ⟨_,rfl,am _,n0⟩ (am _);have HST:=ab (And.intro Z n1);clear n bJ aa al dn n0 n1 ch af cW cg Z;go_loopw [7] (λii wr=>∃(j:Nat) (va:Value),j<=y.all.length/\ii=.int .i64 j/\fQ wr I.heap.size wr.heap.size (y.all.take j) [va]/\bg wr (I.heap.size+1) 41 #[.int .i64 y.no,va]/\af7 w wr w.heap.size A (some ⟨b',N,none⟩) C a b c s K (.slice Ap s.pk.length cp) (.slice Ao k co) (.slice Cl s.lg.length cl) s.pk (s.sn.take k) I.heap.size) (λii _=>y.all.length-(intOf ii).toNat)
     case atStart=>exact⟨0,_,eg _,rfl,HST.out.1,HST.out.2,bi.out⟩
     case round=>
      clear HST bi;obtain⟨j,va,hj,rfl,t,a1,o⟩:=hrel;obtain⟨Av,cv,rfl⟩:=t.form;have H:(y.all.take j).length=j:=by rw[ef,qR hj]
      rw[H] at t a1;have dn:wr.cell? ⟨w.heap.size,1,none⟩=some (.slice (some ⟨b',N,none⟩) s.sn.length b):=o.k0.cell 1;have zx:=o.hH;have zw:=o.bl.size;obtain⟨b2,iZ,es,e0,_,_,_,⟨v2,rfl,e5,Y⟩,E⟩:=(iy.loc.below h2 o.bl aV).at_ HY.out;simp only[lP,qB,qx] at e0;obtain⟨rfl,rfl⟩:=e0;obtain⟨A3,c3,rfl⟩:=bD.form Y;obtain⟨_,dc,ci⟩:=Y.len_;unfold maxLen at ci;have b8:wr.cell? ⟨b',N+k*2+1,none⟩=some (.slice A3 y.all.length c3):=by simpa using E 1 _ rfl
      clear E;by_cases c7:j<y.all.length
      .obtain⟨z,ad⟩:=aq c7;have dD:=jL (f:=bLs) (db ad);have e2:z.ns.length<=bLs z:=Nat.le_add_left _ _;obtain⟨b3,bo,es,e0,_,_,_,⟨v4,rfl,d2,a4⟩,E⟩:=Y.at_ ad;subst e0;obtain⟨A4,c4,rfl⟩:=bD.form a4;have cD:wr.cell? ⟨b3,bo+j*2,none⟩=some (.string z.p):=by simpa using E 0 _ rfl
       have d0:wr.cell? ⟨b3,bo+j*2+1,none⟩=some (.slice A4 z.ns.length c4):=by simpa using E 1 _ rfl
       have iR:=kw ad;have cR:=ab iR;have bb:=ab H;have a3:=ab o;replace t:=ab t;replace a4:=ab a4;clear E ad iR H Y o;go_wp2;generalize hG:wr.alloc (.cells #[.string z.p,.slice A4 z.ns.length c4] 67)=wa at *;obtain⟨fM,e9,q0,aZ,c6⟩:=mB hG;clear hG;have bw:=a3.out.below fM;have c1:=fQ.ar.below t.out fM (am _);have b1:=ak a1 fM;have bf:=lM.loc.below a4.out fM (by omega);have M:=ab (kq (F:=gR) bf (by have:=fM.size;omega));have kW:=ab bf.alz;have bL:=ab bw;have c0:=ab c1;have af:wa.cell? ⟨I.heap.size+1,1,none⟩=some (.slice Av j cv):=b1.cell 1;have bk:=aZ 0;have bl:=aZ 1;have bT:=fM.size;clear a3 t a4 bw c1 bf cD d0 b8 dn a1 fM;have aH:=ae af;have aI:=ae bk;have bc:=ae bl;refine aC 10 [0,1,2,3,5,6] [4,7,8,9] (h:= ?_);simp only[pick,List.map,gt,gE];repeat(go_big_quiet_step (fail))
       refine ip ?_;clear aH aI bc;apply Exists.intro;apply aY (eG wa.heap.size 3)
       .rfl
       .exact λv x y h m=>h.keep m
       .intro x _ Qx r;have R:=ab r;clear r;go_wp2;exact R.out _ _ (av _ _) (eG.new _ _ x.ok.size)
       intro u4;apply aY (λv w'=>aJ gR 3 w' wa.heap.size v z.ns)
       .rfl
       .exact λv x y h m=>h.below m
       .intro x L Qx R;have hL:=L.1 (by kernel_rfl);exact ajx rfl (.tmp 82) (.tmp 84) 37 rfl nM (am _) rfl rfl hL M.out (by omega) λv' x' m ho=>R v' x'.to m ho
       intro u7;apply aY (λv w'=>∃A c,v=.agg #[.string z.p,.slice A z.ns.length c]/\aJ gR 3 w' wa.heap.size (.slice A z.ns.length c) z.ns)
       .rfl
       .exact λv x y ⟨A,c,e,h⟩ m=>⟨A,c,e,h.below m⟩
       .intro x L Qx r;have R:=ab r;clear r;have ho:=L.1 (by kernel_rfl);obtain⟨A5,c5,rfl⟩:=ho.form;go_wp2;exact R.out _ _ (fd _ _) ⟨_,_,rfl,ho⟩
       intro u8;apply aY (λv w'=>∃g A c,v=.slice (some ⟨g,0,none⟩) 1 1/\bg w' g 67 #[.string z.p,.slice A z.ns.length c]/\aJ gR 3 w' wa.heap.size (.slice A z.ns.length c) z.ns)
       .rfl
       .exact λv x y ⟨g,A,c,e,J,h⟩ m=>⟨g,A,c,e,ak J m,h.below m⟩
       .intro x L Qx r;have R:=ab r;clear r;obtain⟨A5,c5,rfl,ho⟩:=L.1 (by kernel_rfl);go_wp2;have ba:=av x.to (.cells #[.string z.p,.slice A5 z.ns.length c5] 67);exact R.out _ _ ba ⟨_,_,_,rfl,bg.new _ _ _,ho.below ba⟩
       intro u9;refine aQ ?_;intro w6 gZ xx cU L;dsimp only[dQ] at L;try rw[cU] at L
       clear cU xx;obtain⟨⟨g8,A8,c8,rfl,U,o8⟩, -⟩:=L;simp only[List.drop];have a6:=bL.out.below gZ;have a9:=fQ.ar.below c0.out gZ bT;have bq:=ak b1 gZ;have z6:=gZ.size;have ay:Hid (OLs w6 wa.heap.size w6.heap.size z [.string z.p,.slice A8 z.ns.length c8]):=ab ⟨_,rfl,d2,o8.aaL (λx hx=>kW.out x hx) (by omega) λg hg=>(o8.at_ hg).2⟩;replace U:=ab U;have q:=ab a6;replace a9:=ab a9;clear bL c0 gZ o8 a6 M b1 af bk bl q0 aZ c6;go_wp2_with(at_builtin;refine gX ?_);refine⟨?_,trivial⟩;refine iz OLs.ar (by decide) (v:=.slice Av j cv) rfl (.tmp 79) (.tmp 87) 39 rfl aid z rfl a9.out rfl U.out rfl (by simp[Value.oneCell']) (show wr.heap.size<=w6.heap.size by omega) (OLs.ar.wide ay.out bT (am _)) (am _) (by have:=bb.out;omega) (by omega) ?_;intro v9 X o9 G bn;obtain⟨S,P,rfl⟩:=o9.form;rw[aE,mp,bb.out] at o9;rw[aE,mp,bb.out];have d:=a9.out;have z9:=G.size;have a8:=dJ d G bq (by decide);have e3:X.cell? ⟨I.heap.size+1,1,none⟩=some (.slice Av j cv):=a8.cell 1;have e7:=a8.frozen 1;have mD:=a8.bG 1 (.slice S (j+1) P);simp only[dj,ge,io] at mD;have a0:=q.out.gm1;have bZ:=q.out.gmr;have O:af7 w (X.setCell ⟨I.heap.size+1,1,none⟩ (.slice S (j+1) P)) w.heap.size _ _ C a b c s K (.slice Ap s.pk.length cp) (.slice Ao k co) (.slice Cl s.lg.length cl) s.pk (s.sn.take k) I.heap.size:=
        ⟨cj (dJ d G q.out.k0 (by decide)) (p:=⟨I.heap.size+1,1,none⟩) _ (by dsimp only;omega),cj (dJ d G q.out.k1 (by decide)) (p:=⟨I.heap.size+1,1,none⟩) _ (by dsimp only;omega),cj (dJ d G q.out.m (by decide)) (p:=⟨I.heap.size+1,1,none⟩) _ (by dsimp only;omega),
         aik bF.ar (jP d G bF.ar q.out.op (by decide)) (by omega),aik bR.ar (bR.ar.fE q.out.os G λb _ hb _ hs=>by have:=d.ob hs;omega) (by omega),aik dH.ar (jP d G dH.ar q.out.ol (by decide)) (by omega),
         (q.out.bl.trans (G.below q.out.bl.size λi hi hs=>by have:=d.ob hs;omega)).setCell (by dsimp only;omega) _,a0,by simp only[bv];have:=q.out.gm2;omega,am _,by simp only[bv];have:=q.out.hH;omega,bZ⟩
       have b6:fQ (X.setCell ⟨I.heap.size+1,1,none⟩ (.slice S (j+1) P)) I.heap.size (X.setCell ⟨I.heap.size+1,1,none⟩ (.slice S (j+1) P)).heap.size (y.all.take (j+1)) [.slice S (j+1) P]:=by
        rw[cR.out];simp only[bv];exact cL fQ.ar o9 a8 (by decide) 1 _
       have cS:=ab O;replace b6:=ab b6;have cZ:=ab mD;clear O mD d a8 bq;go_wp2;go_roundw
       case rel=>exact⟨j+1,_,by omega,by go_num,b6.out,cZ.out,cS.out⟩
       simp[intOf];omega
      .obtain rfl:j=y.all.length:=by omega
       rw[gc] at t;have ct:wr.cell? ⟨I.heap.size+1,0,none⟩=some (.int .i64 y.no):=a1.cell 0;have ck:wr.cell? ⟨I.heap.size+1,1,none⟩=some (.slice Av y.all.length cv):=a1.cell 1;have cb:wr.cell? ⟨K,1,none⟩=some (.slice Ao k co):=o.m.cell 1;have a3:=ab o;replace t:=ab t;clear o;go_wp2_with(at_builtin;refine gX ?_);refine⟨?_,trivial⟩;have bx:=av wr (.cells #[.int .i64 y.no,.slice Av y.all.length cv] 41);have bS:=a3.out.below bx;have cy:=bg.new wr 41 #[.int .i64 y.no,.slice Av y.all.length cv];have bX:=fQ.ar.below t.out bx (am _);generalize wr.alloc (.cells #[.int .i64 y.no,.slice Av y.all.length cv] 41)=w6 at *;have z6:=bx.size;have q:=ab bS;have cG:Hid (mE w6 I.heap.size w6.heap.size y [.int .i64 y.no,.slice Av y.all.length cv]):=ab ⟨_,rfl,an,fQ.ar.wide bX (am _) z6⟩;clear bS bX a3 t ct ck cb a1 b8 Y;refine iz mE.ar (by decide) (v:=.slice Ao k co) rfl (.tmp 91) (.tmp 93) 24 rfl aek y rfl q.out.os rfl cy rfl (by simp[Value.oneCell']) (show I.heap.size<=w6.heap.size by omega) cG.out (am _) (by have:=V.out;omega) (by omega) ?_;intro v9 X o9 G bn;obtain⟨S,P,rfl⟩:=o9.form;rw[aE,mp,V.out] at o9;rw[aE,mp,V.out];have d:=q.out.os;have u:=dJ d G q.out.m (by decide);have a2:=dJ d G q.out.k0 (by decide);have a7:=dJ d G q.out.k1 (by decide);have bt:=jP d G bF.ar q.out.op (by decide);have a5:=jP d G dH.ar q.out.ol (by decide);have b0:Below w.heap.size w X:=q.out.bl.trans (G.below q.out.bl.size λi hi hs=>by have:=d.ob hs;omega);have cw:X.cell? ⟨K,1,none⟩=some (.slice Ao k co):=u.cell 1;have cn:=u.frozen 1;have z9:=G.size;have a0:=q.out.gm1;have d1:=q.out.gm2;have dC:=q.out.hH;have bZ:=q.out.gmr;have mD:=u.bG 1 (.slice S (k+1) P);simp only[dj,ge,io] at mD;have O:af7 w (X.setCell ⟨K,1,none⟩ (.slice S (k+1) P)) w.heap.size _ _ C a b c s K (.slice Ap s.pk.length cp) (.slice S (k+1) P) (.slice Cl s.lg.length cl) s.pk (s.sn.take (k+1)) (X.setCell ⟨K,1,none⟩ (.slice S (k+1) P)).heap.size:=
        ⟨cj a2 (p:=⟨K,1,none⟩) _ (by dsimp only;omega),cj a7 (p:=⟨K,1,none⟩) _ (by dsimp only;omega),mD,
         by simp only[bv];exact bF.ar.wide (cL bF.ar bt u (by decide) 1 _) (am _) (by omega),
         by rw[HN.out];simp only[bv];exact cL bR.ar o9 u (by decide) 1 _,
         by simp only[bv];exact dH.ar.wide (cL dH.ar a5 u (by decide) 1 _) (am _) (by omega),
         b0.setCell (by dsimp only;omega) _,a0,by simp only[bv];omega,am _,am _,by simp only[bv];omega⟩
       have b9:=ab O;clear O mD bt a5 d a2 a7 u;go_wp2;go_roundw
       case rel=>exact⟨k+1,_,by omega,by go_num,b9.out⟩
       simp[intOf];omega
    .obtain rfl:k=s.sn.length:=by omega
     rw[gc] at o;have dG:=o.k1.cell;have eD:=o.k1.frozen;have e6:=o.m.cell;have n:=ab o;have zr:=o.bl.size;clear o;go_wp2;have a0:=n.out.gm1;have b5:∀(u1 u2 u3:Value) {β:Type} {D:gG β} {T:List TypeId} {y:β} {cs:List Value},dL D T->27∉T->D wr w.heap.size wr.heap.size y cs->D (((wr.setCell ⟨w.heap.size+1,0,none⟩ u1).setCell ⟨w.heap.size+1,1,none⟩ u2).setCell ⟨w.heap.size+1,2,none⟩ u3) w.heap.size (((wr.setCell ⟨w.heap.size+1,0,none⟩ u1).setCell ⟨w.heap.size+1,1,none⟩ u2).setCell ⟨w.heap.size+1,2,none⟩ u3).heap.size y cs:=λu1 u2 u3 {_ _ _ _ _} hD hT hy=>by
      simp only[bv];exact hD.go (λb _ _ hb=>by
       have ax:b≠w.heap.size+1:=by rintro rfl;exact df n.out.k1 hT hb
       rw[jn _ _ _ _ ax,jn _ _ _ _ ax,jn _ _ _ _ ax]) (am _) (am _) hy
     refine pb (v:=.agg #[.slice Ap s.pk.length cp,.slice Ao s.sn.length co,.slice Cl s.lg.length cl]) (by simp[results,results20,go_sem,dG]) rfl ⟨_,_,_,rfl,⟨b5 _ _ _ bF.ar (by decide) n.out.op,b5 _ _ _ bR.ar (by decide) n.out.os,b5 _ _ _ dH.ar (by decide) n.out.ol⟩, ?_⟩;exact((n.out.bl.setCell (by dsimp only;omega) _).setCell (by dsimp only;omega) _).setCell (by dsimp only;omega) _
end
section
variable {β:Bool}
open Go.RowKit
def gh(key:Int)(f:Nd):Ls:=⟨f.p,(im f.b).map λp=>bN key (bs p)⟩
def kF(no key:Int)(t:List Nd):Sn:=⟨no,t.map (gh key)⟩
def aBt(w:World)(s:Sn)(e:Ending)(w':World):Prop:=∃v,e=.returned (.agg #[.int .i64 s.no,v])/\fQ w' w.heap.size w'.heap.size s.all [v]/\Below w.heap.size w w'
def apU(D key:Int)(hk:1<=key/\key<=99)(bT:cf D)(t:List Nd)(ht:∀x∈t,dN x.b=true)(hl:t.length<=1000)(vt:Value)(w:World)(lo hi:Nat)(aV:hi<=w.heap.size)(h1:fX w lo hi t [vt]) :
  Calls (ah β) 63 #[.int .i64 D,.int .i64 key,vt] w (aBt w (kF D key t)):=by
 replace ht:=ab ht;have HK:=ab hk;obtain⟨A,c,rfl⟩:=h1.form;obtain⟨_,hc,C⟩:=h1.len_;unfold maxLen at C;go_enter zN,ntmps63;go_wp2;generalize hG:((w.alloc (.cells #[.int .i64 0,.slice none 0 0] 41)).alloc (.cells #[] 67)).alloc (.cells #[.int .i64 D,.slice (some ⟨w.heap.size+1,0,none⟩) 0 0] 41)=w0 at *;obtain⟨aL,jo,E,dn,eQ,k1,dG,eD,V,gW,jV⟩:=aeZ hG;obtain⟨all,m⟩:∃all,all=(kF D key t).all:=⟨_,rfl⟩;have py:all.length=t.length:=by rw[m];exact qg _
 replace m:=ab m;have a5:fQ w0 w.heap.size w0.heap.size [] [.slice (some ⟨w.heap.size+1,0,none⟩) 0 0]:=eG.aaL ⟨_,rfl,by omega,k1⟩ (am _);have H0:=ab (And.intro a5 (And.intro E (And.intro V aL)));go_loopw [8] (λii wr=>∃(k:Nat) (va:Value),k<=t.length/\ii=.int .i64 k/\fQ wr w.heap.size wr.heap.size (all.take k) [va]/\bg wr w.heap.size 41 #[.int .i64 0,.slice none 0 0]/\bg wr (w.heap.size+1+1) 41 #[.int .i64 D,va]/\Below w.heap.size w wr) (λii _=>t.length-(intOf ii).toNat)
 case atStart=>exact⟨0,_,eg _,rfl,H0.out.1,H0.out.2.1,H0.out.2.2.1,H0.out.2.2.2⟩
 case round=>
  obtain⟨k,va,c1,rfl,a,E,V,Q⟩:=hrel;obtain⟨u,bi⟩:∃u,u=wr:=⟨_,rfl⟩;subst bi;obtain⟨Y,cv,rfl⟩:=a.form;have a2:(all.take k).length=k:=by rw[ef,qR (by omega)]
  rw[a2] at a V;by_cases ad:k<t.length
  .obtain⟨f,o⟩:=aq ad;have U:=jO (ht.out f (db o));have M:=fX.ar.below h1 Q aV;obtain⟨b1,bO,rfl,_,bx,a9,mA,c0⟩:=mb M o;have bk:all[k]?=some (gh key f):=by rw[m.out];show(t.map (gh key))[k]?=_;rw[qO,o];rfl
   have fU:=kw bk;have lT:=ab fU;have L:=ab a2;have af:=ma U.2;have jb:=acI f.b;have c2:=U.1;have HA:=ab af;have HC:=ab (agO (β:=β) f.b (by omega));replace a:=ab a;have bp:=ab a9;replace o:=ab o;go_wp2;refine(HC.out u).mono ?_;rintro e s ⟨v1,rfl,op,pC⟩;obtain⟨Ap,cp,rfl⟩:=op.form;have P:=(op.deep (λx C=>mg (HA.out x C)) u.heap.size).sl (am _);have zo:=Q.size;have z1:=pC.size;obtain⟨q,z⟩:∃q,q=(im f.b).map λp=>bN key (bs p):=⟨_,rfl⟩;have b7:gh key f=⟨f.p,q⟩:=by rw[z];rfl
   rw[b7] at lT;revert z;revert HA;revert jb;revert P;generalize im f.b=ps;intro P jb HA z;have N:=ab z;go_wp2;have b2:=av s (.cells #[] 3);have a4:aJ gR 3 (s.alloc (.cells #[] 3)) s.heap.size (.slice (some ⟨s.heap.size,0,none⟩) 0 0) []:=(eG.new s 3 (am _)).own 1;have ba:=dE.ar.below P b2 (am _);have b3:=ag pC b2;have b9:=b2.size;have HO:=ab a4;have HR:=ab ba;have HB:=ab b3;generalize s.alloc (.cells #[] 3)=w2 at *;go_loopw [10,11] (λnn jj wr=>∃j:Nat,j<=ps.length/\jj=.int .i64 j/\aJ gR 3 wr s.heap.size nn (q.take j)/\Below u.heap.size u wr/\dE wr u.heap.size s.heap.size ps [.slice Ap ps.length cp]/\s.heap.size<=wr.heap.size) (λ_ jj _=>ps.length-(intOf jj).toNat)
   case atStart=>exact⟨0,eg _,rfl,HO.out,HB.out,HR.out,b9⟩
   case round=>
    obtain⟨j,bw,rfl,H,d,hr,hz⟩:=hrel;have bq:q.length=ps.length:=by rw[N.out,qg]
    have a1:(q.take j).length=j:=by rw[ef,qR (by omega)]
    obtain⟨Ao,co,rfl⟩:=H.form;rw[a1] at H ⊢;by_cases bl:j<ps.length
    .obtain⟨p,K⟩:=aq bl;have bo:=HA.out p (db K);obtain⟨b2,iZ,rfl,bZ,c4,bS,ao⟩:=lZ hr K;have bt:q[j]?=some (bN key (bs p)):=by rw[N.out,qO,K];rfl
     have fU:=kw bt;have G:=ab fU;have a3:=ab a1;have J:=ab (abo (β:=β) key p HK.out bo wr);have HR:=ab hr;have r:=mP (key:=key) (l:=bs p);revert J G r;generalize bN key (bs p)=nv;intro G J r;go_wp2;refine J.out.mono ?_;rintro e w3 ⟨rfl,rfl⟩;go_wp2_with(at_builtin;refine cx (F:=gR) (v:=.slice Ao j co) rfl (.tmp 34) (.tmp 41) 37 rfl nM nv rfl H rfl rfl (by have:=a3.out;omega) hz ?_;intro va wa oa I bz;obtain⟨Aa,ca,rfl⟩:=oa.form;simp only[aE,fi,mT,mc,a3.out] at oa);go_roundw
     case rel=>
      refine⟨j+1,by omega,by go_num,by rw[G.out];simpa using oa,d.trans (I.below d.size λi hi C=>by have:=(H.at_ C).1;omega),dE.ar.fE HR.out I λb _ Q _ hs=>by have:=(H.at_ hs).1;omega,ap hz I.size⟩
     case measure=>simp[intOf];omega
    .obtain rfl:j=ps.length:=by omega
     have b6:q.take ps.length=q:=by rw[<-bq,gc]
     rw[b6] at H;have M:=fX.ar.below h1 (ag Q d) aV;have r:∀x∈q,gR.good x:=λx C=>by
      rw[N.out] at C;obtain⟨p,_,rfl⟩:=pe.1 C;have:=mP (key:=key) (l:=bs p);show cf _;unfold cf;omega
     have al:=ak E d;have X:=ak V d;have a:=fQ.ar.below a.out d (am _);obtain⟨b3,bL,e0,_,_,_,b0,_⟩:=mb M o.out;simp only[lP,qB,qx] at e0;obtain⟨rfl,rfl⟩:=e0;have aT:wr.cell? ⟨w.heap.size+1+1,1,none⟩=some (.slice Y k cv):=X.cell 1;have zr:=d.size;have a6:=ab a;have HO:=ab H;have ay:=ab r;have bb:=ab al;have b8:=ab X;have HB:=ab (ag Q d);go_wp2;have aH:=ae aT;have aI:=ae b0;refine aC 10 [0,1,2,3,4,5,6,7] [8,9] (h:= ?_);simp only[pick,List.map,gt,gE];repeat(go_big_quiet_step (fail))
     refine ip ?_;apply Exists.intro;apply cT (.agg #[.string f.p,.slice Ao ps.length co])
     .intro y Z Qx n;replace n:=ab n;go_wp2;exact n.out _ (fd _ _)
     apply aY (λv w'=>∃g,v=.slice (some ⟨g,0,none⟩) 1 1/\bg w' g 67 #[.string f.p,.slice Ao ps.length co])
     .rfl
     .exact λv x y ⟨g,e,hk⟩ hle=>⟨g,e,ak hk hle⟩
     .intro x Z Qx n;replace n:=ab n;go_wp2;exact n.out _ _ (av _ _) ⟨_,rfl,bg.new _ _ _⟩
     intro u9;refine aQ ?_;intro w6 T xx cU Z;dsimp only[dQ] at Z;try rw[cU] at Z
     obtain⟨⟨g8,rfl,bf⟩, -⟩:=Z;simp only[List.drop];have z6:=T.size;have a8:=fQ.ar.below a6.out T zr;have o8:=(HO.out.below T).base z1;have a7:Hid (OLs w6 u.heap.size w6.heap.size ⟨f.p,q⟩ [.string f.p,.slice Ao ps.length co]):=ab ⟨_,rfl,bp.out.1,o8.aaL ay.out (by omega) λg hg=>(o8.at_ hg).2⟩;have b5:=ab bf;have a0:=ab a8;have bc:=ab (ak bb.out T);have aa:=ab (ak b8.out T);have W:=ab (ag HB.out T);go_wp2_with(at_builtin;refine gX ?_);refine⟨?_,trivial⟩;refine iz OLs.ar (by decide) (v:=.slice Y k cv) rfl (.tmp 44) (.tmp 52) 39 rfl aid ⟨f.p,q⟩ rfl a0.out rfl b5.out rfl (by simp[Value.oneCell']) (show u.heap.size<=w6.heap.size by omega) a7.out (am _) (by have:=L.out;omega) (by omega) ?_;intro v9 w9 o9 gM bJ;obtain⟨S,R,rfl⟩:=o9.form;rw[aE,mp,L.out] at o9;rw[aE,mp,L.out];have O:=a0.out;have z9:=gM.size;have B:=dJ O gM aa.out (by decide);have b4:=dJ O gM bc.out (by decide);have bX:w9.cell? ⟨w.heap.size+1+1,1,none⟩=some (.slice Y k cv):=B.cell 1;have c3:=B.frozen 1;have mD:=B.bG 1 (.slice S (k+1) R);simp only[dj,ge,io] at mD;have aZ:fQ (w9.setCell ⟨w.heap.size+1+1,1,none⟩ (.slice S (k+1) R)) w.heap.size (w9.setCell ⟨w.heap.size+1+1,1,none⟩ (.slice S (k+1) R)).heap.size (all.take (k+1)) [.slice S (k+1) R]:=by
      rw[lT.out];simp only[bv];exact cL fQ.ar o9 B (by decide) 1 _
     have an:Below w.heap.size w (w9.setCell ⟨w.heap.size+1+1,1,none⟩ (.slice S (k+1) R)):=(W.out.trans (gM.below W.out.size λi hi hs=>by have:=O.ob hs;omega)).setCell (by dsimp only;omega) _;have br:=cj b4 (p:=⟨w.heap.size+1+1,1,none⟩) (.slice S (k+1) R) (by dsimp only;omega);have HF:=ab (And.intro aZ (And.intro br (And.intro mD an)));go_wp2;go_roundw
     case rel=>exact⟨k+1,_,by omega,by go_num,HF.out.1,HF.out.2.1,HF.out.2.2.1,HF.out.2.2.2⟩
     simp[intOf];omega
  .obtain rfl:k=t.length:=by omega
   have bn:all.take t.length=all:=by rw[<-py,gc]
   rw[bn] at a;have gW:=V.cell;have eQ:=E.frozen;have dn:=E.cell;replace a:=ab a;go_wp2;have k4:=(E.bG 0 (.int .i64 D)).bG 1 (.slice Y t.length cv);simp only[dj,ge,io] at k4;have ax:=k4.cell;refine pb (v:=.agg #[.int .i64 D,.slice Y t.length cv]) (by simp[results,results63,go_sem,ax]) rfl ⟨_,rfl, ?_,(Q.setCell (by simp) _).setCell (by simp) _⟩;rw[<-m.out];simp only[bv];exact cL fQ.ar (cL fQ.ar a.out E (by decide) 0 _) (E.bG 0 _) (by decide) 1 _
end
section
variable {β:Bool}
open Go.RowKit
def fh(l:List Pk):Int:=((l.getLast?).map (·.no)).getD 0+1
def gj(l:List Hd):Int:=l.foldl (λa h=>max a (h.s+1)) 1
def eB(s:dy):Int:=match s.sn.getLast? with|some x=>max (gj s.lg) (x.no+1)|none=>gj s.lg
def amA{l:List Hd}{h:Hd}(a:l[k]?=some h):gj (l.take (k+1))=max (gj (l.take k)) (h.s+1):=by
 unfold gj;rw[kw a,ta];rfl
def aka{l:List Hd}{b:Int}(d:1<=b)(h:∀x∈l,x.s+1<=b):1<=gj l/\gj l<=b:=by
 induction l using ow with
 |h0=>exact⟨vC _,d⟩
 |h1 l x a=>
  have e:gj (l++[x])=max (gj l) (x.s+1):=by unfold gj;rw[ta];rfl
  have:=a λy c=>h y (by simp[c]);have:=h x (by simp);rw[e];omega
def ay8(m x:Int):(if m<x then x else m)=max m x:=by rw[Int.max_def];split<;>split<;>omega
def wA{l:List Y}(h:0<l.length):∃x,l[l.length-1]?=some x/\l.getLast?=some x:=by
 obtain⟨x,a⟩:=aq (show l.length-1<l.length by omega);exact⟨x,a,by rw[List.getLast?_eq_getElem?,a]⟩
def amB(b:Int)(s:dy):Prop:=(∀p∈s.pk,p.no<=b)/\(∀x∈s.sn,x.no<=b)/\∀h∈s.lg,h.s<=b
def akb(s:dy)(u:amB 1000000 s)(va vb vc:Value)(w:World)(lo hi:Nat)(h:gb w lo hi s va vb vc)(S:hi<=w.heap.size) :
  Calls (ah β) 59 #[.agg #[va,vb,vc]] w λe w'=>e=.returned (.tuple #[.int .i64 (fh s.pk),.int .i64 (eB s)])/\Below w.heap.size w w':=by
 obtain⟨O,K,V⟩:=h;obtain⟨A,a,rfl⟩:=bD.form O;obtain⟨B,b,rfl⟩:=bD.form K;obtain⟨C,c,rfl⟩:=bD.form V;obtain⟨_,a8,a5⟩:=O.len_;obtain⟨_,ax,a6⟩:=K.len_;obtain⟨_,al,a4⟩:=V.len_;unfold maxLen at a5 a6 a4;have r:∀p∈s.pk,cf p.no:=λp i=>by
  obtain⟨P,v,_,Z,_⟩:=O.alo p i;exact Z
 have q:∀p∈s.sn,cf p.no:=λp i=>by
  obtain⟨P,v,_,Z,_⟩:=K.alo p i;exact Z
 replace u:=ab u;replace r:=ab r;replace q:=ab q;go_enter zR,ntmps59;rcases pv s.pk.length with t|t
 case' inl=>
  have t1:=da (show ¬(0<s.pk.length) by omega);have i:fh s.pk=1:=by rw[qh.1 t];rfl
  have HP:=ab i;have HZ:=ab t;clear t i;go_wp2
 case' inr=>
  have t1:=dk (show 0<s.pk.length by omega);obtain⟨z,f,E⟩:=wA t;have aa:=u.out.1 z (db f);have Y:=r.out z (db f);unfold cf at Y;have i:fh s.pk=z.no+1:=by unfold fh;rw[E];rfl
  have HP:=ab i;replace f:=ab f;clear i E;obtain⟨b4,a7,P,D,_,_,_,⟨v4,rfl,a0⟩,n⟩:=(iw.loc.below O (av w (.cells #[.slice A s.pk.length a,.slice B s.sn.length b,.slice C s.lg.length c] 27)) S).at_ f.out;subst D;obtain⟨m4,F⟩:∃m,m=s.pk.length-1:=⟨_,rfl⟩;rw[<-F] at n;have e4:(s.pk.length:Int)-1=((m4:Nat):Int):=by omega
  have an:m4<s.pk.length:=by omega
  have I:=n 0 _ rfl;rw[sM] at I;clear n a0 F t f;go_wp2;clear e4 I;generalize some (⟨b4,a7,none⟩:Addr)=A at *
 all_goals
  generalize hG:w.alloc (.cells #[.slice A s.pk.length a,.slice B s.sn.length b,.slice C s.lg.length c] 27)=w0 at *;obtain⟨M,jo,k0,dn,eQ⟩:=mB hG;clear hG;have a3:=fP.loc.below V M S
  go_loop [5,6] (λss ii=>∃k:Nat,k<=s.lg.length/\ii=.int .i64 k/\ss=.int .i64 (gj (s.lg.take k))) (λ_ ii=>s.lg.length-(intOf ii).toNat)
  case atStart=>exact⟨0,eg _,rfl,rfl⟩
  case round=>
   obtain⟨k,ad,rfl,rfl⟩:=hrel;by_cases W:k<s.lg.length
   .obtain⟨x,N⟩:=aq W;have af:=u.out.2.2 x (db N);obtain⟨X,o,P,D,_,_,_,⟨rfl,g⟩,d⟩:=a3.at_ N;subst D;have a1:cf x.s:=g.2;unfold cf at a1;have Q:w0.cell? ⟨X,o+k*2+1,none⟩=some (.int .i64 x.s):=by simpa using d 1 _ rfl
    have J:=aka (l:=s.lg.take k) (b:=1000001) (by omega) λy j=>by have:=u.out.2.2 y (qf j);omega
    have fU:=amA N;have U:=ab fU;clear fU N d g;revert U J;generalize gj (s.lg.take k)=m;intro J U;go_wp2
    go_round
    case rel=>exact⟨k+1,by omega,by go_num,by rw[U.out,ay8]⟩
    simp[intOf];omega
   .obtain rfl:k=s.lg.length:=by omega
    rw[gc];have T:=iy.loc.below K M S;rcases pv s.sn.length with j|j
    .have t2:=da (show ¬(0<s.sn.length) by omega);have H:eB s=gj s.lg:=by unfold eB;rw[qh.1 j];rfl
     have R:=ab H;have HY:=ab j;clear H j;go_wp2;go_ret2;exact⟨by rw[HP.out,R.out];rfl,M⟩
    .have t2:=dk (show 0<s.sn.length by omega);obtain⟨y,L,G⟩:=wA j;have a9:=u.out.2.1 y (db L);have a2:=q.out y (db L);unfold cf at a2;have H:eB s=max (gj s.lg) (y.no+1):=by unfold eB;rw[G]
     obtain⟨X,o,P,D,_,_,_,⟨v5,rfl,g⟩,d⟩:=T.at_ L;subst D;obtain⟨m,J⟩:∃m,m=s.sn.length-1:=⟨_,rfl⟩;rw[<-J] at d;have e1:(s.sn.length:Int)-1=((m:Nat):Int):=by omega
     have ao:m<s.sn.length:=by omega
     have Q:w0.cell? ⟨X,o+m*2,none⟩=some (.int .i64 y.no):=by simpa using d 0 _ rfl
     have R:=ab H;clear H G L d g J j;go_wp2;all_goals
      go_ret2;exact⟨by rw[HP.out,R.out];first|(rw[Int.max_eq_right (by omega)];rfl)|(rw[Int.max_eq_left (by omega)];rfl),M⟩
end
end Go.Proofs.YtokgbpkbaoeeoaaGreatDoor