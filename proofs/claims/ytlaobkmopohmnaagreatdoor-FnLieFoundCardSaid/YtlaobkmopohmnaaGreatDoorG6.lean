/- A part of the proof. -/
import Derived.Test.YtlaobkmopohmnaaGreatDoorG5
import Derived.WalkSpells
import Derived.Laws.CopyRow
set_option maxRecDepth 100000
set_option maxHeartbeats 8000000
set_option linter.all false
open Go Go.RowKit Go.Proofs.Tryz Go.Proofs.YtlaobkmopohmnaaGreatDoor
variable {s:dH} {Z U R B N b c eY g hi hi' i j k n:Nat} {key:Int} {Y β:Type} {X W V v:Value} {w':World} {e:TypeId} {t:List Nd} {xs:List Hd} {p:ByteArray} {S cs:List Value} {A:Option Addr} {T:List TypeId} {o:List ByteArray} {x:Y} {E:fW Y}
namespace Go.Proofs.YtlaobkmopohmnaaGreatDoor
def qZ:=@_root_.List.length_eq_zero_iff
def rG:=@_root_.Go.Lib.run_eql_slice_nil
def vg:=@_root_.List.filter_append
def vZ:=@_root_.List.getElem?_toArray
def wh:=@_root_.Classical.choose_spec
section
variable {β:Bool}
open Go.RowKit
def adH(l:List Pk)(v:Value)(w:World)(lo hi:Nat)(aR:hi<=w.heap.size)(h:aov w lo hi l [v])(hn:(ed l).length<=4000000)(r:List Sp)(hr:IOf l r) :
  Calls (ai β) 60 #[v] w (awl w r):=by
 obtain⟨A,c,rfl⟩:=h.form;obtain⟨_,hc,hx⟩:=h.len_;unfold maxLen at hx;have HR:=ab hr;clear hr;go_enter zE,ntmps60;go_wp2;have ba:=au w (.cells #[] 132);have l0:aL FSp 132 (w.alloc (.cells #[] 132)) w.heap.size (.slice (some ⟨w.heap.size,0,none⟩) 0 0) []:=aL.aiJ (eD.new _ _ (am _));generalize w.alloc (.cells #[] 132)=w0 at *;go_loopw [3,4] (λZ ii wr=>∃k:Nat,k<=l.length/\ii=.int .i64 k/\aL FSp 132 wr w.heap.size Z (fD (ed (l.take k)) [])/\(∀s∈ed (l.take k),spP s)/\Below w.heap.size w wr) (λZ ii _=>l.length-(intOf ii).toNat)
 case atStart=>exact⟨0,fa _,rfl,l0,λs o=>(by cases o),ba⟩
 case round=>
  clear l0 ba;obtain⟨k,hk,rfl,i,o,u⟩:=hrel;have HS:=ab o;clear o;have g2:=aov.ar.below h u aR;by_cases a5:k<l.length
  .obtain⟨p,J⟩:=aq a5;replace J:=ab J;have Q:Hid (∀s∈cP l k 0,spP s):=ab (by rw[ab2];exact HS.out);rw[<-ab2] at i;obtain⟨Ao,co,rfl⟩:=i.form;have M:=i;clear i HS;go_wp2;go_loopw [3,5] (λZ jj wy=>∃j:Nat,j<=p.its.length/\jj=.int .i64 j/\aL FSp 132 wy w.heap.size Z (fD (cP l k j) [])/\(∀s∈cP l k j,spP s)/\Below w.heap.size w wy) (λZ jj _=>p.its.length-(intOf jj).toNat)
   case atStart=>exact⟨0,fa _,rfl,M,Q.out,u⟩
   case round=>
    clear M Q g2 u;obtain⟨j,hj,rfl,i,o,f⟩:=hrel;have HS:=ab o;clear o;obtain⟨b1,al,A1,c1,rfl,an,I,af,S,R,a0⟩:=azM h J.out;have a3:=aU f S;have a9:=aU f R;have a1:=acK.ar.below a0 f aR;obtain⟨_,ao,aa⟩:=a1.len_;unfold maxLen at aa;clear S R a0;have P:=aiQ (j:=j) J.out;have N:=af6 (a:=cP l k j) (l:=[]);have a6:(fD (cP l k j) []).length<=4000000:=by simp only[mc,tu] at N;omega
    clear N P;by_cases a2:j<p.its.length
    .obtain⟨y,t⟩:=aq a2;obtain⟨b2,jb,rfl,_,_,ad,cn,cb⟩:=awn a1 t;have d:=ahb J.out t;replace t:=ab t;replace d:=ab d;obtain⟨Ao,co,rfl⟩:=i.form;have V:=ab (λb O=>(i.at_ (g:=b) O).2);go_wp2;have aI:=ae a3;have aJ:=ae a9;have bB:=ae cn;refine aD 16 [0,1,2,3,4,5,6,7,8,9,10,11,12,13,14] [15] (h:= ?_);simp only[pick,List.map,gn,gt];repeat(go_big_quiet_step (fail))
     refine ip ?_;clear aI aJ bB;apply Exists.intro;apply bu (λv w'=>∃g,v=.pointer (some ⟨g,0,none⟩)/\wr.heap.size<=g/\aX w' g 132 #[.int .i64 0,.int .i64 0])
     .rfl
     .exact λv x y ⟨g,e,hg,hk⟩ hle=>⟨g,e,hg,ah hk hle⟩
     .intro x X Qx D;replace D:=ab D;clear X;go_wp2;exact D.out _ _ (au _ _) ⟨_,rfl,x.ok.size,aX.new _ _ _⟩
     intro u6;refine aS ?_;intro w2 I xx dh X;dsimp only[dV] at X;try rw[dh] at X
     clear dh xx;obtain⟨⟨g,rfl,hg,kb⟩, -⟩:=X;simp only[List.drop];have gw:=f.size;replace i:=i.below I;replace f:=ag f I;have H:=kb.cell;have a7:=kb.frozen;go_wp2;have n:=(kb.bc 0 (.int .i64 y.n)).bc 1 (.int .i64 p.no);simp only[de,ff,gc] at n;have m:Below w.heap.size w ((w2.setCell ⟨g,0,none⟩ (.int .i64 y.n)).setCell ⟨g,1,none⟩ (.int .i64 p.no)):=(f.setCell (by dsimp only;omega) _).setCell (by dsimp only;omega) _;have U:aL FSp 132 ((w2.setCell ⟨g,0,none⟩ (.int .i64 y.n)).setCell ⟨g,1,none⟩ (.int .i64 p.no)) w.heap.size (.slice Ao (fD (cP l k j) []).length co) (fD (cP l k j) []):=
      (i.aqF _ (λb O=>by have:=V.out b O;dsimp only;omega)).aqF _ (λb O=>by have:=V.out b O;dsimp only;omega)
     clear H a7;generalize (w2.setCell ⟨g,0,none⟩ (.int .i64 y.n)).setCell ⟨g,1,none⟩ (.int .i64 p.no)=w3 at *;have H:=n.cell;obtain⟨q,W⟩:=auT (spP ⟨y.n,p.no⟩);refine(akO ⟨y.n,p.no⟩ w3 q W).mono ?_;rintro e w4 ⟨rfl,b4⟩;replace n:=ah n b4;have H:=n.cell;replace U:=U.below b4;replace m:=ag m b4;cases q with
     |false=>
      have T:¬spP ⟨y.n,p.no⟩:=λh=>by have:=W.2 h;cases this
      have a4:r=[]:=by
       rcases HR.out with⟨h,_⟩|⟨_,h⟩
       .exact absurd (h _ (aiP (k:=k) (j:=j+1) _ (by rw[d.out];simp))) T
       .exact h
      subst a4;clear W T;have ba:=au w4 (.cells #[] 132);go_wp2;go_ret;exact⟨_,rfl,aL.aiJ (eD.new _ _ (m.size)),ag m ba⟩
     |true=>
      have ja:=W.1 rfl;replace ja:=ab ja;clear W;have B:=ab a6;have K:=af5 (a:=cP l k j) (l:=[]) List.Pairwise.nil;have C:=ab K;clear K;have Y:∀z∈fD (cP l k j) [],FSp.good z:=λz hz=>by
       rcases agi hz with h|h
       .have:=HS.out z h;unfold spP at this;show cA z.n/\cA z.p;unfold cA;omega
       .cases h
      have E:=ab Y;clear Y;have fe:fD (cP l k (j+1)) []=gU ⟨y.n,p.no⟩ (fD (cP l k j) []):=by
       rw[d.out,ab1];rfl
      have lv:=ab fe;clear fe;have F:∀s∈cP l k (j+1),spP s:=λs o=>by
       rw[d.out] at o;rcases oE.1 o with h|h
       .exact HS.out s h
       .rw[ph.1 h];exact ja.out
      replace F:=ab F;revert U B C E lv;generalize fD (cP l k j) []=L;intro U B C E lv;go_wp2;refine(aou ⟨y.n,p.no⟩ (by have:=ja.out;unfold spP at this;unfold cA;omega) L _ w4 _ _ (am _) (U.sl E.out (am _)) C.out (by have:=B.out;omega)).mono ?_;rintro e w5 ⟨v5,rfl,o5,b5⟩;obtain⟨A5,c5,rfl⟩:=o5.form;go_wp2;go_roundw
      case rel=>exact⟨j+1,by omega,by go_num,by rw[lv.out];exact o5.base m.size,F.out,ag m b5⟩
      simp[intOf];omega
    .obtain rfl:j=p.its.length:=by omega
     have he:=aiO J.out;replace he:=ab he;have a8:Hid (∀s∈ed (l.take (k+1)),spP s):=ab (by rw[<-he.out];exact HS.out);obtain⟨Ao,co,rfl⟩:=i.form;go_wp2;go_roundw
     case rel=>exact⟨k+1,by omega,by go_num,by rw[<-he.out];exact i,a8.out,f⟩
     simp[intOf];omega
  .obtain rfl:k=l.length:=by omega
   have G:r=fD (ed l) []:=by
    have h1:=HS.out;rw[gE] at h1;rcases HR.out with⟨_,h⟩|⟨h,_⟩
    .exact h
    .exact absurd h1 h
   replace G:=ab G;clear HS;rw[gE,<-G.out] at i;obtain⟨Ao,co,rfl⟩:=i.form;go_wp2;go_ret;exact⟨_,rfl,i,u⟩
end
section
variable {β:Bool}
open Go.RowKit
def xk{l:List Y}(h:l[k]?=some x):l.drop k=x::l.drop (k+1):=by
 have a:=aB h;rw[rZ a]
 congr 1
 rw[jn a] at h;exact dq h
def aly(xs:List Sp)(n:Int)(v:Value)(w:World)(t hi:Nat)(h:bC RSp 2 w t hi xs [v]) :
  Calls (ai β) 77 #[v,.int .i64 n] w λe p=>e=.returned (.int .i64 (pD n xs))/\w=p:=by
 obtain⟨A,c,rfl⟩:=h.form;obtain⟨_,z,r⟩:=h.len_;unfold maxLen at r;go_enter zn,ntmps77;go_wp2
 go_loop [5] (λi=>∃k:Nat,k<=xs.length/\i=.int .i64 k/\pD n xs=pD n (xs.drop k)) (λi=>xs.length-(intOf i).toNat)
 case atStart=>exact⟨0,fa _,rfl,by rw[rN]⟩
 case round=>
  obtain⟨k,y,rfl,a⟩:=hrel;replace a:=ab a;by_cases d:k<xs.length
  .obtain⟨x,l⟩:=aq d;obtain⟨u,o,rfl,_,_,s,f,q⟩:=awk h l;have hd:pD n (xs.drop k)=if x.n=n then x.p else pD n (xs.drop (k+1)):=by rw[xk l];rfl
   replace hd:=ab hd;by_cases b:x.n=n
   .have m:(x.n ==n)=true:=nf.2 b;have g:=ab (a.out.trans (hd.out.trans (du b)));go_wp2;go_ret;exact⟨by rw[g.out];rfl,rfl⟩
   .have m:(x.n ==n)=false:=dk.2 b;have g:=ab (a.out.trans (hd.out.trans (da b)));go_wp2
    go_round
    case rel=>exact⟨k+1,by omega,by go_num,g.out⟩
    simp[intOf];omega
  .obtain rfl:k=xs.length:=by omega
   have j:pD n xs=0:=by rw[a.out,uG];rfl
   replace j:=ab j;go_wp2;go_ret;exact⟨by rw[j.out];rfl,rfl⟩
open Classical in
noncomputable def gG(key:Int)(ix:List Sp)(o:List ByteArray)(p:ByteArray):List ByteArray:=if pD (cY key (bs p)) ix=0/\p∉o then o++[p] else o
noncomputable def ace(key:Int)(ix:List Sp)(o l:List ByteArray):List ByteArray:=l.foldl (gG key ix) o
def acf(t:List Nd):List ByteArray:=t.flatMap λf=>ki f.b
noncomputable def abf(key:Int)(ix:List Sp)(t:List Nd):List ByteArray:=ace key ix [] (acf t)
def aji{ix:List Sp}(h:pD (cY key (bs p)) ix=0)(a:p∉o):gG key ix o p=o++[p]:=du ⟨h,a⟩
def ae1{ix:List Sp}(h:¬(pD (cY key (bs p)) ix=0/\p∉o)):gG key ix o p=o:=da h
def aoS{ix:List Sp}{l : List ByteArray}(h:l[k]?=some p):ace key ix o (l.take (k+1))=gG key ix (ace key ix o (l.take k)) p:=by
 unfold ace;rw[lE h,tc];rfl
def aoT{ix:List Sp}{f:Nd}(h:t[k]?=some f):abf key ix (t.take (k+1))=ace key ix (abf key ix (t.take k)) (ki f.b):=by
 unfold abf ace acf;rw[lE h,tw,tc];simp
def acg{key:Int}{ix:List Sp}:∀(l o:List ByteArray),(ace key ix o l).length<=o.length+l.length
 |[],o=>am _
 |p::l,o=>by
  have a:=acg (key:=key) (ix:=ix) l (gG key ix o p);have b:(gG key ix o p).length<=o.length+1:=by
   unfold gG;split
   .rw[aE];exact am _
   .exact Nat.le_succ _
  show(ace key ix (gG key ix o p) l).length<=_;rw[fi];omega
def ae2{key:Int}{ix:List Sp}{x:ByteArray}:∀{l o:List ByteArray},x∈ace key ix o l->x∈o\/x∈l
 |[],o,h=>.inl h
 |p::l,o,h=>by
  rcases ae2 (l:=l) (o:=gG key ix o p) h with h|h
  .unfold gG at h;split at h
   .rcases oE.1 h with h|h
    .exact .inl h
    .rw[ph.1 h];exact .inr (by simp)
   .exact .inl h
  .exact .inr (rb _ h)
def acQ:∀{t:List Nd},(∀x∈t,dN x.b=true)->(acf t).length<=40*t.length
 |[],_=>fa _
 |f::t,h=>by
  have c:=acQ (t:=t) λx b=>h x (rb _ b);have d:=ab4 f.b;have a:=h f (by simp);unfold dN at a;simp only[ga,qY] at a;show(ki f.b++acf t).length<=_;rw[aE,fi];omega
def kW{s:ByteArray}(h:dN s=true):s.size<=40/\(bs s).all py=true:=by
 unfold dN at h;simpa using h
def ajj(h:∀x∈t,dN x.b=true):∀x∈acf t,bD (bs x):=λx a=>by
 obtain⟨f,b,a⟩:=sJ.1 a;exact nR (kW (h f b)).2 x a
def nX{ix:List Sp}(h:∀x∈t,dN x.b=true):∀x∈abf key ix t,bD (bs x):=λx b=>by
 rcases ae2 b with a|a
 .cases a
 .exact ajj h x a
def lK{x:ByteArray}(h:bD (bs x)):iy.good x:=by
 have:=h.1.2;rw[aN] at this;show x.size<=maxLen;unfold maxLen;omega
def auV(w:World)(xs:List ByteArray)(e:Ending)(w':World):Prop:=∃v,e=.returned v/\aL iy 9 w' w.heap.size v xs/\Below w.heap.size w w'
def alz(key:Int)(hk:1<=key/\key<=99)(t:List Nd)(R:∀x∈t,dN x.b=true)(hl:t.length<=1000)(ix:List Sp)(vt vi:Value)(w:World)(lo hi:Nat)(aR:hi<=w.heap.size)(h1:fM w lo hi t [vt])(h2:bC RSp 2 w lo hi ix [vi]) :
  Calls (ai β) 59 #[.int .i64 key,vt,vi] w (auV w (abf key ix t)):=by
 replace R:=ab R;obtain⟨A,c,rfl⟩:=h1.form;obtain⟨A2,c2,rfl⟩:=h2.form;obtain⟨_,hc,n⟩:=h1.len_;unfold maxLen at n;go_enter zF,ntmps59;go_wp2;have W:=au w (.cells #[] 9);have Q:aL iy 9 (w.alloc (.cells #[] 9)) w.heap.size (.slice (some ⟨w.heap.size,0,none⟩) 0 0) []:=(eD.new w 9 (am _)).own 1;generalize w.alloc (.cells #[] 9)=w0 at *;go_loopw [7,8] (λoo ii wr=>∃k:Nat,k<=t.length/\ii=.int .i64 k/\aL iy 9 wr w.heap.size oo (abf key ix (t.take k))/\Below w.heap.size w wr) (λ_ ii _=>t.length-(intOf ii).toNat)
 case atStart=>exact⟨0,fa _,rfl,Q,W⟩
 case round=>
  clear Q W;obtain⟨k,aY,rfl,a,l⟩:=hrel;obtain⟨J,ad⟩:∃J,J=wr:=⟨_,rfl⟩;subst ad;by_cases a5:k<t.length
  .obtain⟨f,z⟩:=aq a5;have E:=kW (R.out f (db z));obtain⟨b1,aI,rfl,_,_,ay,lV,af⟩:=lI (fM.ar.below h1 l aR) z;have s:=aoT (key:=key) (ix:=ix) z;have a9:(abf key ix (t.take k)).length<=40000:=by
    have a1:=acg (key:=key) (ix:=ix) (acf (t.take k)) [];have a2:=acQ (t:=t.take k) λx n=>R.out x (pr n);rw[eg] at a2;show(ace key ix [] (acf (t.take k))).length<=_;simp only[mc,lP] at a1;omega
   have a3:=nX (key:=key) (ix:=ix) (t:=t.take k) λx n=>R.out x (pr n);have D:=nR E.2;have iY:=ab4 f.b;have b0:=E.1;have HS:=ab s;have HP:=ab a3;have S:=ab D;have HC:=ab (aga (β:=β) f.b (by omega));clear z s a3 D E;revert HS;revert HP;generalize abf key ix (t.take k)=base at a a9;intro HP HS;obtain⟨A0,c0,rfl⟩:=a.form;go_wp2;refine(HC.out J).mono ?_;rintro e w1 ⟨v1,rfl,op,oM⟩;clear HC;obtain⟨Ap,cp,rfl⟩:=op.form;have a0:=a.below oM;have C:=ag l oM;have V:∀g,(Value.slice A0 base.length c0).ownBlock=some g->g<J.heap.size\/w1.heap.size<=g:=λg hg=>.inl (a.at_ hg).2;have B:=(op.deep (λx n=>lK (S.out x n)) J.heap.size).sl (am _);have zo:=l.size;have z1:=oM.size;revert HS;revert S;revert iY;revert B;generalize ki f.b=ps;intro B iY S HS;have HO:=ab a0;replace C:=ab C;have M:=ab B;have d:=ab V;clear a l a0 B op V oM af lV;go_wp2;go_loopw [7,10] (λoo jj wr=>∃j:Nat,j<=ps.length/\jj=.int .i64 j/\aL iy 9 wr w.heap.size oo (ace key ix base (ps.take j))/\Below w.heap.size w wr/\dA wr J.heap.size w1.heap.size ps [.slice Ap ps.length cp]/\(∀g,oo.ownBlock=some g->g<J.heap.size\/w1.heap.size<=g)/\w1.heap.size<=wr.heap.size) (λ_ jj _=>ps.length-(intOf jj).toNat)
   case atStart=>exact⟨0,fa _,rfl,HO.out,C.out,M.out,d.out,am _⟩
   case round=>
    clear HO C M d;obtain⟨j,ax,rfl,a,l,hr,Z,hz⟩:=hrel;by_cases a6:j<ps.length
    .obtain⟨p,y⟩:=aq a6;have al:=S.out p (db y);obtain⟨b2,jb,rfl,aT,ao,aJ,a8⟩:=lD hr y;have fe:=aoS (key:=key) (ix:=ix) (o:=base) y;have L:=acg (key:=key) (ix:=ix) (ps.take j) base;rw[eg] at L;have O:∀x∈ace key ix base (ps.take j),iy.good x:=λx n=>by
      rcases ae2 n with h|h
      .exact lK (HP.out x h)
      .exact lK (S.out x (pr h))
     have an:=RSp.loc;have N:bC RSp 2 wr lo hi ix [.slice A2 ix.length c2]:=(bC.loc RSp.loc).below h2 l aR;have X:=ab fe;have H:=ab O;have aa:=ab N;have d:=ab Z;have M:=ab hr;have T:=ab (aaY (β:=β) key p hk al wr);clear an fe O N Z hr y;revert X;revert H;generalize ace key ix base (ps.take j)=o at a L;intro H X;obtain⟨Ao,co,rfl⟩:=a.form;have K:=(a.deep H.out w.heap.size).sl (am _);replace K:=ab K;have aG:o.length<=50000:=by omega
     clear L;go_wp2;refine T.out.mono ?_;rintro e w2 ⟨rfl,rfl⟩;clear T;have I:=ab (aly (β:=β) ix (cY key (bs p)) _ wr lo hi aa.out);obtain⟨r,u⟩:∃r,r=pD (cY key (bs p)) ix:=⟨_,rfl⟩;rw[<-u] at I;replace u:=ab u;go_wp2;refine I.out.mono ?_;rintro e w2 ⟨rfl,rfl⟩;clear I;by_cases m:r=0
     .have t1:(r ==0)=true:=nf.2 m;have a4:=ab (u.out.symm.trans m);clear m;obtain⟨q,hq⟩:=aub (p∈o);have U:=ab (aox (β:=β) o p _ wr _ _ K.out q hq);cases q with
      |true=>
       have Y:Hid (gG key ix o p=o):=ab (ae1 λh=>h.2 (hq.1 rfl));clear hq;go_wp2;refine U.out.mono ?_;rintro e w2 ⟨rfl,rfl⟩;go_wp2;go_roundw
       case rel=>exact⟨j+1,by omega,by go_num,by rw[X.out,Y.out];exact a,l,M.out,d.out,hz⟩
       simp[intOf];omega
      |false=>
       have Y:Hid (gG key ix o p=o++[p]):=ab (aji a4.out λh=>by have:=hq.2 h;cases this);clear hq;go_wp2;refine U.out.mono ?_;rintro e w2 ⟨rfl,rfl⟩;have P:∀hs:(Value.slice Ao o.length co).ownBlock=some b2,False:=λhs=>by
        have:=d.out _ hs;omega
       replace P:=ab P;go_wp2_with(at_builtin;refine cF (F:=iy) (v:=.slice Ao o.length co) rfl (.tmp 48) (.tmp 53) 83 rfl ab3 p rfl a rfl rfl (by omega) l.size ?_;intro va wa oa G a7;obtain⟨Aa,ca,rfl⟩:=oa.form;simp only[aE,fi,mc,lP] at oa);go_roundw
       case rel=>
        refine⟨j+1,by omega,by go_num,by rw[X.out,Y.out];simpa using oa,l.trans (G.below l.size λi hi n=>by have:=(a.at_ n).1;omega),dA.ar.eZ M.out G λb b1 b2 _ hs=>by have:=d.out _ hs;omega,λg hg=> ?_,ap hz G.size⟩;rcases a7 g (by simpa using hg) with h|h
        .exact d.out g h
        .exact .inr (by omega)
       case measure=>simp[intOf];omega
     .have t1:(r ==0)=false:=dk.2 m;have Y:Hid (gG key ix o p=o):=ab (ae1 λh=>m (u.out.trans h.1));clear m;go_wp2;go_roundw
      case rel=>exact⟨j+1,by omega,by go_num,by rw[X.out,Y.out];exact a,l,M.out,d.out,hz⟩
      simp[intOf];omega
    .obtain rfl:j=ps.length:=by omega
     rw[gE] at a;rw[<-HS.out] at a;have HO:=ab a;clear a;go_wp2;go_roundw
     case rel=>exact⟨k+1,by omega,by go_num,HO.out,l⟩
     simp[intOf];omega
  .obtain rfl:k=t.length:=by omega
   rw[gE] at a;obtain⟨A0,c0,rfl⟩:=a.form;go_wp2;go_ret;exact⟨_,rfl,a,l⟩
end
section
variable {β:Bool}
open Go.RowKit
def marks(k:Int):Nat->List Int
 |0=>[]
 |n+1=>marks k n++[k+n]
end
section
variable {β:Bool}
open Go.RowKit
structure fI (w:World) (lo hi:Nat) (s:dH) (va vb vc:Value):Prop where
 pk:iI w lo hi s.pk [va]
 sn:gV w lo hi s.sn [vb]
 lg:cx w lo hi s.lg [vc]
def fI.below{w : World}(h:fI w Z hi s X W V)(b:Below B w w')(a:hi<=B):fI w' Z hi s X W V:=⟨iI.loc.below h.pk b a,gV.loc.below h.sn b a,cx.loc.below h.lg b a⟩
def fI.wide{w:World}(h:fI w Z hi s X W V)(b:eY<=Z)(a:hi<=hi'):fI w eY hi' s X W V:=⟨iI.loc.wide h.pk b a,gV.loc.wide h.sn b a,cx.loc.wide h.lg b a⟩
structure eT (w:World) (lo hi:Nat) (s:dH) (va vb vc:Value):Prop where
 pk:bF w lo hi s.pk [va]
 sn:bV w lo hi s.sn [vb]
 lg:dD w lo hi s.lg [vc]
def eT.go{w : World}(h:eT w Z hi s X W V)(d:∀b,Z<=b->b<hi->w'.heap[b]?=w.heap[b]?)(c:eY<=Z)(a:hi<=hi'):eT w' eY hi' s X W V:=
 ⟨bF.ar.loc.go d c a h.pk,bV.ar.loc.go d c a h.sn,dD.ar.loc.go d c a h.lg⟩
def eT.below{w : World}(h:eT w Z hi s X W V)(a:Below B w w')(d:hi<=B):eT w' Z hi s X W V:=h.go (λb _ c=>a.block b (by omega)) (am _) (am _)
def eT.l{w:World}(h:eT w Z hi s X W V):fI w Z hi s X W V:=⟨bF.l h.pk,bV.l h.sn,dD.l h.lg⟩
def kq(s:dH):Nat:=eh bPk s.pk+eh bSn s.sn+s.lg.length
def arC(w:World)(s:dH)(e:Ending)(w':World):Prop:=∃c a b,e=.returned (.agg #[c,a,b])/\eT w' w.heap.size w'.heap.size s c a b/\Below w.heap.size w w'
end
section
variable {β:Bool}
open Go.RowKit
section
variable {P:Program} {α:Type} {E:fW α} {T:List TypeId} {sz:Nat} {e:TypeId}
def gX (F:dI E T) (D:e∉T) {w:World} {p:Array Oper} {rest:List Oper} {o:Oper} {a:Act} {Q:Exit->Act->World->Prop} (q:o.guard=none) (s x:Operand) (t:TypeId)
  (V:o.op=.call ⟨.builtin .append,#[s,x],#[t,t]⟩)
  (B:ir P t e sz Z)  {xs:List α} (y:α) (Y:a.eval s=v) (m:aP e E sz w U R xs [v]) {es:Array Value} {K:TypeId} (hx:a.eval x=.slice (some ⟨g,0,none⟩) 1 1) (L:aX w g K es) (n:es.toList.length=sz) (H:∀u∈es.toList,u.oneCell'=true) (a0:R<=hi) (W:E w R hi y es.toList) (aR:hi<=w.heap.size)
  (hn:xs.length<=1099511627775) (f:U<=w.heap.size)
  (h:∀i c,aP e E sz c U c.heap.size (xs++[y]) [i]->aZ (λb=>v.ownBlock=some b) w c->(∀b,i.ownBlock=some b->v.ownBlock=some b\/w.heap.size<=b)->wpList P p Q rest (a.put o.dst i) c) :
  wpList P p Q (o::rest) a w:=by
 obtain⟨v0,cells,e1,d,hg,A⟩:=m;cases e1;refine aez q s x t V B Y d hx (news:=es.toList) (by rw[n,Nat.one_mul]) (λ_=>⟨_,rfl,λj u X=>by
  have r:(⟨g,0,none⟩:Addr).add j=⟨g,j,none⟩:=by unfold Addr.add;split<;>simp_all
  rw[r,L.cell,<-ef];exact X⟩) H (by omega) f λi c k=>h i c ?_ k.eZ k.at_
 have C:∀b,v.ownBlock=some b->∃J,aX w b e J:=λb l=>by
  rcases d.2 with⟨rfl,_⟩|⟨g',cap,S,rfl,_,M,_⟩
  .cases l
  .cases l;exact⟨_,M⟩
 have I:∀b,Typed w T b->c.heap[b]?=w.heap[b]?:=λb ⟨t',ht',J,hd⟩=>k.eZ.block b hd.lt λl=>by
  obtain⟨N,G⟩:=C b l;exact D (cL G hd▸ht')
 have O:=k.eZ.size;refine⟨i,cells++es.toList,rfl,by rw[aE];exact k.own,λb l=>(k.own.lt b l).2, ?_⟩;have hS:=Els.snoc (E:=E) (A.go (eY:=U) (hi':=R) F (λb _ _ z=>I b z) (am _) (am _)) (y:=y) (es:=es.toList) n H (hi:=c.heap.size) (by omega) (F.go (λb _ _ z=>I b z) (am _) (by omega) W);exact hS F.loc
end
def ahu:ir (ai β) 25 65 2 16:=ir.mk' xu (z:=.agg #[.int .i64 0,.int .i64 0]) (by kernel_rfl) rfl (by decide) (by decide)
def ahv:ir (ai β) 56 95 2 40:=ir.mk' yU (z:=.agg #[.string ⟨#[]⟩,.slice none 0 0]) (by kernel_rfl) rfl (by decide) (by decide)
def adY:ir (ai β) 24 58 2 32:=ir.mk' xK (z:=.agg #[.int .i64 0,.slice none 0 0]) (by kernel_rfl) rfl (by decide) (by decide)
def alA(xs:List Int)(v:Value)(w:World)(p hi:Nat)(h:bC (bU ni) 1 w p hi xs [v])(n:hi<=w.heap.size)(k:xs.length<=1099511627776) :
  Calls (ai β) 68 #[v] w (ahg ni 3 w xs):=by
 obtain⟨A,c,rfl⟩:=h.form;have f:=ab (lB (F:=ni) h n);cases A with
 |none=>
  have a:xs=[]:=by
   rcases qe xs.length with a|a
   .exact qR a
   .obtain⟨x,l⟩:=aq a;obtain⟨b,j,t,o,_⟩:=h.at_ l;cases o
  subst a;have m:=rG (P:=(ai β)) w 93 3 none 0 c 0 0 xq;go_enter xR,ntmps68;go_wp2;go_wp2;go_ret;exact⟨_,rfl,aL.nil _ _ _,fd _ _⟩
 |some q=>
  have m:=rG (P:=(ai β)) w 93 3 (some q) xs.length c 0 0 xq;have d:=au w (.cells #[] 3);have g:=ab (eD.new w 3 (am _));go_enter xR,ntmps68;go_wp2_with(at_builtin;refine nj (F:=ni) (xs:=xs) d rfl (.tmp 5) (.tmp 6) 93 rfl abU (am _) rfl rfl g.out f.out k ?_;intro s r e i);go_wp2;go_ret;exact⟨_,rfl,i,d.trans (e.mono d.size)⟩
def aoU(xs:List It)(v:Value)(w:World)(p hi:Nat)(h:bC (bU mL) 2 w p hi xs [v])(n:hi<=w.heap.size)(k:xs.length<=1099511627776) :
  Calls (ai β) 67 #[v] w (ahg mL 63 w xs):=by
 obtain⟨A,c,rfl⟩:=h.form;have f:=ab (lB (F:=mL) h n);cases A with
 |none=>
  have a:xs=[]:=by
   rcases qe xs.length with a|a
   .exact qR a
   .obtain⟨x,l⟩:=aq a;obtain⟨b,j,t,o,_⟩:=h.at_ l;cases o
  subst a;have m:=rG (P:=(ai β)) w 52 63 none 0 c 0 0 xr;go_enter xS,ntmps67;go_wp2;go_wp2;go_ret;exact⟨_,rfl,aL.nil _ _ _,fd _ _⟩
 |some q=>
  have m:=rG (P:=(ai β)) w 52 63 (some q) xs.length c 0 0 xr;have d:=au w (.cells #[] 63);have g:=ab (eD.new w 63 (am _));go_enter xS,ntmps67;go_wp2_with(at_builtin;refine nj (F:=mL) (xs:=xs) d rfl (.tmp 5) (.tmp 6) 52 rfl nO (am _) rfl rfl g.out f.out k ?_;intro s r e i);go_wp2;go_ret;exact⟨_,rfl,i,d.trans (e.mono d.size)⟩
def aoV(xs:List Hd)(v:Value)(w:World)(p hi:Nat)(h:bC (bU oL) 2 w p hi xs [v])(n:hi<=w.heap.size)(k:xs.length<=1099511627776) :
  Calls (ai β) 37 #[v] w (ahg oL 65 w xs):=by
 obtain⟨A,c,rfl⟩:=h.form;have f:=ab (lB (F:=oL) h n);cases A with
 |none=>
  have a:xs=[]:=by
   rcases qe xs.length with a|a
   .exact qR a
   .obtain⟨x,l⟩:=aq a;obtain⟨b,j,t,o,_⟩:=h.at_ l;cases o
  subst a;have m:=rG (P:=(ai β)) w 25 65 none 0 c 0 0 xu;go_enter yg,ntmps37;go_wp2;go_wp2;go_ret;exact⟨_,rfl,aL.nil _ _ _,fd _ _⟩
 |some q=>
  have m:=rG (P:=(ai β)) w 25 65 (some q) xs.length c 0 0 xu;have d:=au w (.cells #[] 65);have g:=ab (eD.new w 65 (am _));go_enter yg,ntmps37;go_wp2_with(at_builtin;refine nj (F:=oL) (xs:=xs) d rfl (.tmp 5) (.tmp 6) 25 rfl ahu (am _) rfl rfl g.out f.out k ?_;intro s r e i);go_wp2;go_ret;exact⟨_,rfl,i,d.trans (e.mono d.size)⟩
def afx(x:Pk)(v:Value)(w:World)(q hi:Nat)(h:jg w q hi x.its [v])(p:hi<=w.heap.size)(i:cA x.no)(y:x.its.length<=1099511627776) :
  Calls (ai β) 35 #[.agg #[.int .i64 x.no,v]] w λe j=>∃m,e=.returned (.agg #[.int .i64 x.no,m])/\kI j w.heap.size j.heap.size x [.int .i64 x.no,m]/\Below w.heap.size w j:=by
 have r:=bC.good (F:=mL) h;obtain⟨A,c,rfl⟩:=bC.form h;go_enter zO,ntmps35;go_wp2;generalize B:(w.alloc (.cells #[.int .i64 x.no,.slice A x.its.length c] 54)).alloc (.cells #[.int .i64 0,.slice none 0 0] 54)=w0 at *;obtain⟨l,E,f,n,z,d,o,C⟩:=oK B;refine(aoU x.its _ w0 q hi (jg.loc.below h l p) (ap p l.size) y).mono ?_;rintro e D ⟨I,rfl,k,a⟩;replace f:=ah f a;replace n:=f.cell;replace z:=f.frozen;replace d:=ah d a;replace o:=d.cell;replace C:=d.frozen;obtain⟨t,u,rfl⟩:=k.form;have H:=a.size;have HO:=ab (k.aap r a.size λg s=>(k.at_ s).2);go_wp2;exact mx (v:=.agg #[.int .i64 x.no,.slice t x.its.length u]) (by simp[results,results35,go_sem,n,o]) rfl ⟨_,rfl,⟨_,rfl,i,abc.ar.go (λb G _ _=>by rw[io _ _ _ _ (by dsimp only;omega),io _ _ _ _ (by dsimp only;omega),io _ _ _ _ (by dsimp only;omega)]) (by omega) (by simp only[be];exact am _) HO.out⟩,
  (((ag l a).setCell (by dsimp only;omega) _).setCell (by dsimp only;omega) _).setCell (by dsimp only;omega) _⟩
end
section
variable {β:Bool}
open Go.RowKit
def gI{p:Prop}(h:p/\True):p:=h.1
def aP.ob{w:World}{xs:List Y}(h:aP e E Z w U hi xs [v])(a:v.ownBlock=some b):U<=b/\b<hi/\b<w.heap.size:=by
 obtain⟨f,cells,c,h,d,_⟩:=h;cases c;exact⟨(h.lt b a).1,d b a,(h.lt b a).2⟩
def afy(x:Sn)(v:Value)(w:World)(lo hi:Nat)(h:fY w lo hi x.all [v])(aR:hi<=w.heap.size)(W:cA x.no)(hl:eh bLs x.all<=1099511627) :
  Calls (ai β) 36 #[.agg #[.int .i64 x.no,v]] w λe n=>∃v',e=.returned (.agg #[.int .i64 x.no,v'])/\lY n w.heap.size n.heap.size x [.int .i64 x.no,v']/\Below w.heap.size w n:=by
 obtain⟨A,c,rfl⟩:=bC.form h;obtain⟨_,hc,hx⟩:=h.len_;unfold maxLen at hx;have a5:=ap (dQ (f:=bLs) (l:=x.all)) hl;go_enter zN,ntmps36;go_wp2;generalize U:((w.alloc (.cells #[.int .i64 x.no,.slice A x.all.length c] 58)).alloc (.cells #[.int .i64 0,.slice none 0 0] 58)).alloc (.cells #[.int .i64 x.no,.slice none 0 0] 58)=w0 at *;obtain⟨aG,iw,k0,cN,dS,j,K,dx,d,D,P⟩:=adA U;go_loopw [12] (λii wr=>∃(k:Nat) (R:Value),k<=x.all.length/\ii=.int .i64 k/\fH wr w0.heap.size wr.heap.size (x.all.take k) [R]/\aX wr (w.heap.size+1) 58 #[.int .i64 0,.slice none 0 0]/\aX wr (w.heap.size+1+1) 58 #[.int .i64 x.no,R]/\Below w.heap.size w wr/\w0.heap.size<=wr.heap.size) (λii _=>x.all.length-(intOf ii).toNat)
 case atStart=>exact⟨0,_,fa _,rfl,aP.nil (am _),j,d,aG,am _⟩
 case round=>
  obtain⟨k,R,Z,rfl,m,j,d,q,a7⟩:=hrel;obtain⟨V,S,rfl⟩:=m.form;have o:(x.all.take k).length=k:=by rw[eg,rq Z]
  rw[o] at m d;by_cases X:k<x.all.length
  .obtain⟨y,F⟩:=aq X;have jd:=jA (f:=bLs) (db F);have a9:y.ns.length<=1099511627:=by have h1:y.ns.length<=bLs y:=Nat.le_add_left _ _;omega
   obtain⟨b,G,es,rfl,_,a4,_,⟨v2,rfl,O,N⟩,E⟩:=(fY.loc.below h q aR).at_ F;obtain⟨A2,c2,rfl⟩:=bC.form N;have a2:wr.cell? ⟨b,G+k*2,none⟩=some (.string y.p):=by simpa using E 0 _ rfl
   have ad:wr.cell? ⟨b,G+k*2+1,none⟩=some (.slice A2 y.ns.length c2):=by simpa using E 1 _ rfl
   have iG:=lE F;replace iG:=ab iG;replace F:=ab F;replace o:=ab o;replace N:=ab N;go_wp2;generalize U:wr.alloc (.cells #[.string y.p,.slice A2 y.ns.length c2] 95)=wa at *;obtain⟨s,a3,m0,ma,a8⟩:=nh U;replace j:=ah j s;replace K:=j.cell;replace dx:=j.frozen;replace d:=ah d s;replace D:=d.cell;replace P:=d.frozen;have fj:=fH.ar.below m s (am _);have a1:=ab (nV.loc.below N.out s (by have:=q.size;omega));have C:=ag q s;have fk:=D 1;have fm:=ma 0;have T:=ma 1;have aI:=ae fk;have aJ:=ae fm;have bB:=ae T;refine aD 9 [0,1,2,3,4,5] [6,7,8] (h:= ?_);simp only[pick,List.map,gn,gt];repeat(go_big_quiet_step (fail))
   refine ip ?_;apply Exists.intro;apply bu (λv n=>∃A c,v=.slice A y.ns.length c/\iJ n wa.heap.size n.heap.size y.ns [v])
   .rfl
   .exact λv x y ⟨A,c,e,m⟩ hle=>⟨A,c,e,iJ.ar.wide (iJ.ar.below m hle (am _)) (am _) hle.size⟩
   .intro z r Qx a;replace a:=ab a;have hd:=nV.loc.below a1.out z.ok (by have:=C.size;omega);go_wp2;refine(alA y.ns _ _ _ _ hd (by have:=z.ok.size;have:=C.size;omega) (by omega)).mono ?_;rintro e w5 ⟨v5,rfl,t,b5⟩;have ja:=hd.akE;obtain⟨A5,c5,rfl⟩:=t.form;go_wp2;exact a.out _ _ b5 ⟨_,_,rfl,iJ.ar.wide (t.aap ja b5.size λg Y=>(t.at_ Y).2) z.ok.size (am _)⟩
   intro v6;apply bu (λv n=>∃A c,v=.agg #[.string y.p,.slice A y.ns.length c]/\iJ n wa.heap.size n.heap.size y.ns [.slice A y.ns.length c])
   .rfl
   .exact λv x y ⟨A,c,e,m⟩ hle=>⟨A,c,e,iJ.ar.wide (iJ.ar.below m hle (am _)) (am _) hle.size⟩
   .intro z r Qx a;replace a:=ab a;obtain⟨A5,c5,rfl,t⟩:=r.1 (by kernel_rfl);go_wp2;exact a.out _ _ (fd _ _) ⟨_,_,rfl,t⟩
   intro v7;apply bu (λv n=>∃g A c,v=.slice (some ⟨g,0,none⟩) 1 1/\wa.heap.size<=g/\aX n g 95 #[.string y.p,.slice A y.ns.length c]/\iJ n wa.heap.size n.heap.size y.ns [.slice A y.ns.length c])
   .rfl
   .exact λv x y ⟨g,A,c,e,Y,Z,m⟩ hle=>⟨g,A,c,e,Y,ah Z hle,iJ.ar.wide (iJ.ar.below m hle (am _)) (am _) hle.size⟩
   .intro z r Qx a;replace a:=ab a;obtain⟨A5,c5,rfl,t⟩:=r.1 (by kernel_rfl);go_wp2;have ba:=au z.to (.cells #[.string y.p,.slice A5 y.ns.length c5] 95);exact a.out _ _ ba ⟨_,_,_,rfl,z.ok.size,aX.new _ _ _,iJ.ar.wide (iJ.ar.below t ba (am _)) (am _) ba.size⟩
   intro v8;refine aS ?_;intro w6 I xx dh r;dsimp only[dV] at r;try rw[dh] at r
   obtain⟨⟨g8,A8,c8,rfl,aa,B,o8⟩, -⟩:=r;simp only[List.drop];replace j:=ah j I;replace K:=j.cell;replace dx:=j.frozen;replace d:=ah d I;replace D:=d.cell;replace P:=d.frozen;have L:=fH.ar.below fj I (by have:=s.size;omega);have H:=ag C I;have z6:=I.size;have za:=s.size;replace L:=ab L;replace o8:=ab o8;replace B:=ab B;go_wp2_with(at_builtin;refine gI ?_);refine⟨?_,trivial⟩;refine gX OLs.ar (by decide) (v:=.slice V k S) rfl (.tmp 17) (.tmp 24) 56 rfl ahv y rfl L.out rfl B.out rfl (by simp[Value.oneCell']) (show wr.heap.size<=w6.heap.size by omega) ⟨_,rfl,O,iJ.ar.wide o8.out za (am _)⟩ (am _) (by have:=o.out;omega) (by omega) ?_;intro v9 w9 o9 M a6;obtain⟨A9,c9,rfl⟩:=o9.form;rw[aE,mu,o.out] at o9;rw[aE,mu,o.out];have u:∀b,(Value.slice V k S).ownBlock=some b->w0.heap.size<=b:=λb Q=>(L.out.ob Q).1;replace j:=aO j M (λJ=>by have:=u _ J;omega);replace d:=aO d M (λJ=>by have:=u _ J;omega);replace D:=d.cell;replace P:=d.frozen;go_wp2;have a0:Below w.heap.size w w9:=H.trans (M.below H.size λi hi J=>by have:=u i J;omega);have z9:=M.size;go_roundw
   case rel=>
    refine⟨k+1,.slice A9 (k+1) c9,by omega,by go_num, ?_,bW j (p:=⟨w.heap.size+1+1,1,none⟩) _ (by dsimp only;omega), ?_,a0.setCell (by dsimp only;omega) _,by simp only[be];omega⟩
    .rw[iG.out];exact fH.ar.loc.go (λb Q _=>io _ _ _ _ (by dsimp only;omega)) (am _) (by simp only[be];exact am _) o9
    .have:=d.bc 1 (.slice A9 (k+1) c9);simpa using this
   case measure=>simp[intOf];omega
  .obtain rfl:k=x.all.length:=by omega
   rw[gE] at m;have K:=j.cell;have dx:=j.frozen;have D:=d.cell;replace m:=ab m;go_wp2;exact mx (v:=.agg #[.int .i64 x.no,.slice V x.all.length S]) (by simp[results,results36,go_sem,K,D]) rfl ⟨_,rfl,⟨_,rfl,W,fH.ar.go (λb Q _ _=>by rw[io _ _ _ _ (by dsimp only;omega),io _ _ _ _ (by dsimp only;omega)]) (by omega) (by simp only[be];exact am _) m.out⟩,
    (q.setCell (by dsimp only;omega) _).setCell (by dsimp only;omega) _⟩
end
section
variable {β:Bool}
open Go.RowKit
def ae3(s:dH)(va vb vc:Value)(w:World)(lo hi:Nat)(h:fI w lo hi s va vb vc)(aR:hi<=w.heap.size)(hl:kq s<=1099511627) :
  Calls (ai β) 13 #[.agg #[va,vb,vc]] w (arC w s):=by
 obtain⟨h1,h2,h3⟩:=h;obtain⟨A,a,rfl⟩:=bC.form h1;obtain⟨B,b,rfl⟩:=bC.form h2;obtain⟨C,c,rfl⟩:=bC.form h3;obtain⟨_,b1,aY⟩:=h1.len_;obtain⟨_,b5,ax⟩:=h2.len_;obtain⟨_,b7,ao⟩:=h3.len_;unfold maxLen at aY ax ao;unfold kq at hl;have b2:=dQ (f:=bPk) (l:=s.pk);have b3:=dQ (f:=bSn) (l:=s.sn);go_enter Aj,ntmps13;go_wp2;generalize hG:((w.alloc (.cells #[.slice A s.pk.length a,.slice B s.sn.length b,.slice C s.lg.length c] 27)).alloc (.cells #[.slice none 0 0,.slice none 0 0,.slice none 0 0] 27)).alloc (.cells #[.slice none 0 0,.slice none 0 0,.slice none 0 0] 27)=w0 at *;obtain⟨aG,iw,m,Z,dS,j,X,dx,d,N,U⟩:=adA hG;go_loopw [11] (λii wr=>∃(k:Nat) (vo:Value),k<=s.pk.length/\ii=.int .i64 k/\bF wr w0.heap.size wr.heap.size (s.pk.take k) [vo]/\aX wr w.heap.size 27 #[.slice A s.pk.length a,.slice B s.sn.length b,.slice C s.lg.length c]/\aX wr (w.heap.size+1) 27 #[.slice none 0 0,.slice none 0 0,.slice none 0 0]/\aX wr (w.heap.size+1+1) 27 #[vo,.slice none 0 0,.slice none 0 0]/\Below w.heap.size w wr/\w0.heap.size<=wr.heap.size) (λii _=>s.pk.length-(intOf ii).toNat)
 case atStart=>exact⟨0,_,fa _,rfl,aP.nil (am _),m,j,d,aG,am _⟩
 case round=>
  obtain⟨k,vo,hk,rfl,r,m,j,d,o,a5⟩:=hrel;have Z:=m.cell;obtain⟨Ao,co,rfl⟩:=r.form;have R:(s.pk.take k).length=k:=by rw[eg,rq hk]
  rw[R] at r d;by_cases a1:k<s.pk.length
  .obtain⟨y,cV⟩:=aq a1;have jd:=jA (f:=bPk) (db cV);obtain⟨b',P,es,e0,_,a6,_,⟨v2,rfl,Y,V⟩,S⟩:=(iI.loc.below h1 o aR).at_ cV;subst e0;obtain⟨A2,c2,rfl⟩:=bC.form V;have ay:wr.cell? ⟨b',P+k*2,none⟩=some (.int .i64 y.no):=by simpa using S 0 _ rfl
   have pJ:wr.cell? ⟨b',P+k*2+1,none⟩=some (.slice A2 y.its.length c2):=by simpa using S 1 _ rfl
   have iG:=lE cV;have HN:=ab iG;have G:=ab R;replace V:=ab V;go_wp2;generalize hG:wr.alloc (.cells #[.int .i64 y.no,.slice A2 y.its.length c2] 54)=wa at *;obtain⟨u,aT,m0,ma,al⟩:=nh hG;replace m:=ah m u;replace Z:=m.cell;replace dS:=m.frozen;replace j:=ah j u;replace X:=j.cell;replace dx:=j.frozen;replace d:=ah d u;replace N:=d.cell;replace U:=d.frozen;have fj:=bF.ar.below r u (am _);have a3:=ab (jg.loc.below V.out u (by have:=o.size;omega));have D:=ag o u;have fk:=N 0;have fm:=ma 0;have a0:=ma 1;have aI:=ae fk;have aJ:=ae fm;have bB:=ae a0;refine aD 5 [0,1,2] [3,4] (h:= ?_);simp only[pick,List.map,gn,gt];repeat(go_big_quiet_step (fail))
   refine ip ?_;apply Exists.intro;apply bu (λv K=>∃A c,v=.agg #[.int .i64 y.no,.slice A y.its.length c]/\kI K wa.heap.size K.heap.size y [.int .i64 y.no,.slice A y.its.length c])
   .rfl
   .exact λv x y ⟨A,c,e,r⟩ hle=>⟨A,c,e,kI.ar.wide (kI.ar.below r hle (am _)) (am _) hle.size⟩
   .intro z J Qx n;replace n:=ab n;have hd:=jg.loc.below a3.out z.ok (by have:=D.size;omega);go_wp2;refine(afx y _ _ _ _ hd (by have:=z.ok.size;have:=D.size;omega) Y (by have h5:y.its.length<=bPk y:=dQ;omega)).mono ?_;rintro e w5 ⟨v5,rfl,I,M⟩;obtain⟨A5,c5,rfl⟩:∃A c,v5=.slice A y.its.length c:=by
     obtain⟨v6,e6,_,h6⟩:=I;cases e6;exact aP.form h6
    go_wp2;exact n.out _ _ M ⟨_,_,rfl,kI.ar.wide I z.ok.size (am _)⟩
   intro v6;apply bu (λv K=>∃g A c,v=.slice (some ⟨g,0,none⟩) 1 1/\wa.heap.size<=g/\aX K g 54 #[.int .i64 y.no,.slice A y.its.length c]/\kI K wa.heap.size K.heap.size y [.int .i64 y.no,.slice A y.its.length c])
   .rfl
   .exact λv x y ⟨g,A,c,e,hg,hk,r⟩ hle=>⟨g,A,c,e,hg,ah hk hle,kI.ar.wide (kI.ar.below r hle (am _)) (am _) hle.size⟩
   .intro z J Qx n;replace n:=ab n;obtain⟨A5,c5,rfl,I⟩:=J.1 (by kernel_rfl);go_wp2;have ba:=au z.to (.cells #[.int .i64 y.no,.slice A5 y.its.length c5] 54);exact n.out _ _ ba ⟨_,_,_,rfl,z.ok.size,aX.new _ _ _,kI.ar.wide (kI.ar.below I ba (am _)) (am _) ba.size⟩
   intro v8;refine aS ?_;intro w6 H xx dh J;dsimp only[dV] at J;try rw[dh] at J
   obtain⟨⟨g8,A8,c8,rfl,b0,E,o8⟩, -⟩:=J;simp only[List.drop];replace m:=ah m H;replace Z:=m.cell;replace dS:=m.frozen;replace j:=ah j H;replace X:=j.cell;replace dx:=j.frozen;replace d:=ah d H;replace N:=d.cell;replace U:=d.frozen;have za:=u.size;have oC:=bF.ar.below fj H (by omega);have Q:=ag D H;have z6:=H.size;have T:=ab oC;replace o8:=ab o8;replace E:=ab E;go_wp2_with(at_builtin;refine gI ?_);refine⟨?_,trivial⟩;refine gX kI.ar (by decide) (v:=.slice Ao k co) rfl (.tmp 16) (.tmp 19) 23 rfl adV y rfl T.out rfl E.out rfl (by simp[Value.oneCell']) (show wr.heap.size<=w6.heap.size by omega) (kI.ar.wide o8.out za (am _)) (am _) (by have:=G.out;omega) (by omega) ?_;intro v9 w9 o9 O aa;obtain⟨A9,c9,rfl⟩:=o9.form;rw[aE,mu,G.out] at o9;rw[aE,mu,G.out];have q:∀b,(Value.slice Ao k co).ownBlock=some b->w0.heap.size<=b:=λb L=>(T.out.ob L).1;replace m:=aO m O (λt=>by have:=q _ t;omega);replace j:=aO j O (λt=>by have:=q _ t;omega);replace d:=aO d O (λt=>by have:=q _ t;omega);replace N:=d.cell;replace U:=d.frozen;go_wp2;have a2:Below w.heap.size w w9:=Q.trans (O.below Q.size λi hi t=>by have:=q i t;omega);have z9:=O.size;go_roundw
   case rel=>
    refine⟨k+1,.slice A9 (k+1) c9,by omega,by go_num, ?_,bW m (p:=⟨w.heap.size+1+1,0,none⟩) _ (by dsimp only;omega),bW j (p:=⟨w.heap.size+1+1,0,none⟩) _ (by dsimp only;omega), ?_,a2.setCell (by dsimp only;omega) _,by simp only[be];omega⟩
    .rw[HN.out];exact bF.ar.loc.go (λb L _=>io _ _ _ _ (by dsimp only;omega)) (am _) (by simp only[be];exact am _) o9
    .have:=d.bc 0 (.slice A9 (k+1) c9);simpa using this
   case measure=>simp[intOf];omega
  .obtain rfl:k=s.pk.length:=by omega
   rw[gE] at r;have X:=j.cell;have N:=d.cell;have dS:=m.frozen;have dx:=j.frozen;have U:=d.frozen;have aG:=o;obtain⟨Ap,a7⟩:∃A,A=Ao:=⟨_,rfl⟩;obtain⟨cp,lV⟩:∃c,c=co:=⟨_,rfl⟩;subst a7 lV;have an:=ab r;go_wp2;generalize b6:wr=wp at *;have b4:=a5;go_loopw [26] (λii wr=>∃(k:Nat) (vo:Value),k<=s.sn.length/\ii=.int .i64 k/\bV wr wp.heap.size wr.heap.size (s.sn.take k) [vo]/\bF wr w0.heap.size wp.heap.size s.pk [.slice Ap s.pk.length cp]/\aX wr w.heap.size 27 #[.slice A s.pk.length a,.slice B s.sn.length b,.slice C s.lg.length c]/\aX wr (w.heap.size+1) 27 #[.slice none 0 0,.slice none 0 0,.slice none 0 0]/\aX wr (w.heap.size+1+1) 27 #[.slice Ap s.pk.length cp,vo,.slice none 0 0]/\Below w.heap.size w wr/\wp.heap.size<=wr.heap.size) (λii _=>s.sn.length-(intOf ii).toNat)
   case atStart=>exact⟨0,_,fa _,rfl,aP.nil (am _),an.out,m,j,d,aG,am _⟩
   case round=>
    obtain⟨k,vo,hk,rfl,r,W,m,j,d,o,a5⟩:=hrel;have Z:=m.cell;obtain⟨Ao,co,rfl⟩:=r.form;have R:(s.sn.take k).length=k:=by rw[eg,rq hk]
    rw[R] at r d;by_cases a1:k<s.sn.length
    .obtain⟨y,cV⟩:=aq a1;have jd:=jA (f:=bSn) (db cV);obtain⟨b',P,es,e0,_,a6,_,⟨v2,rfl,Y,V⟩,S⟩:=(gV.loc.below h2 o aR).at_ cV;subst e0;obtain⟨A2,c2,rfl⟩:=bC.form V;have ay:wr.cell? ⟨b',P+k*2,none⟩=some (.int .i64 y.no):=by simpa using S 0 _ rfl
     have pJ:wr.cell? ⟨b',P+k*2+1,none⟩=some (.slice A2 y.all.length c2):=by simpa using S 1 _ rfl
     have iG:=lE cV;have HN:=ab iG;have G:=ab R;replace V:=ab V;go_wp2;generalize hG:wr.alloc (.cells #[.int .i64 y.no,.slice A2 y.all.length c2] 58)=wa at *;obtain⟨u,aT,m0,ma,al⟩:=nh hG;replace m:=ah m u;replace Z:=m.cell;replace dS:=m.frozen;replace j:=ah j u;replace X:=j.cell;replace dx:=j.frozen;replace d:=ah d u;replace N:=d.cell;replace U:=d.frozen;have fj:=bV.ar.below r u (am _);have a3:=ab (fY.loc.below V.out u (by have:=o.size;omega));have D:=ag o u;replace W:=bF.ar.below W u (by omega);have fk:=N 1;have fm:=ma 0;have a0:=ma 1;have aI:=ae fk;have aJ:=ae fm;have bB:=ae a0;refine aD 5 [0,1,2] [3,4] (h:= ?_);simp only[pick,List.map,gn,gt];repeat(go_big_quiet_step (fail))
     refine ip ?_;apply Exists.intro;apply bu (λv K=>∃A c,v=.agg #[.int .i64 y.no,.slice A y.all.length c]/\lY K wa.heap.size K.heap.size y [.int .i64 y.no,.slice A y.all.length c])
     .rfl
     .exact λv x y ⟨A,c,e,r⟩ hle=>⟨A,c,e,lY.ar.wide (lY.ar.below r hle (am _)) (am _) hle.size⟩
     .intro z J Qx n;replace n:=ab n;have hd:=fY.loc.below a3.out z.ok (by have:=D.size;omega);go_wp2;refine(afy y _ _ _ _ hd (by have:=z.ok.size;have:=D.size;omega) Y (by have h5:eh bLs y.all=bSn y:=rfl;omega)).mono ?_;rintro e w5 ⟨v5,rfl,I,M⟩;obtain⟨A5,c5,rfl⟩:∃A c,v5=.slice A y.all.length c:=by
       obtain⟨v6,e6,_,h6⟩:=I;cases e6;exact aP.form h6
      go_wp2;exact n.out _ _ M ⟨_,_,rfl,lY.ar.wide I z.ok.size (am _)⟩
     intro v6;apply bu (λv K=>∃g A c,v=.slice (some ⟨g,0,none⟩) 1 1/\wa.heap.size<=g/\aX K g 58 #[.int .i64 y.no,.slice A y.all.length c]/\lY K wa.heap.size K.heap.size y [.int .i64 y.no,.slice A y.all.length c])
     .rfl
     .exact λv x y ⟨g,A,c,e,hg,hk,r⟩ hle=>⟨g,A,c,e,hg,ah hk hle,lY.ar.wide (lY.ar.below r hle (am _)) (am _) hle.size⟩
     .intro z J Qx n;replace n:=ab n;obtain⟨A5,c5,rfl,I⟩:=J.1 (by kernel_rfl);go_wp2;have ba:=au z.to (.cells #[.int .i64 y.no,.slice A5 y.all.length c5] 58);exact n.out _ _ ba ⟨_,_,_,rfl,z.ok.size,aX.new _ _ _,lY.ar.wide (lY.ar.below I ba (am _)) (am _) ba.size⟩
     intro v8;refine aS ?_;intro w6 H xx dh J;dsimp only[dV] at J;try rw[dh] at J
     obtain⟨⟨g8,A8,c8,rfl,b0,E,o8⟩, -⟩:=J;simp only[List.drop];replace m:=ah m H;replace Z:=m.cell;replace dS:=m.frozen;replace j:=ah j H;replace X:=j.cell;replace dx:=j.frozen;replace d:=ah d H;replace N:=d.cell;replace U:=d.frozen;have za:=u.size;have oC:=bV.ar.below fj H (by omega);have Q:=ag D H;have z6:=H.size;replace W:=bF.ar.below W H (by omega);have T:=ab oC;replace o8:=ab o8;replace E:=ab E;go_wp2_with(at_builtin;refine gI ?_);refine⟨?_,trivial⟩;refine gX lY.ar (by decide) (v:=.slice Ao k co) rfl (.tmp 31) (.tmp 34) 24 rfl adY y rfl T.out rfl E.out rfl (by simp[Value.oneCell']) (show wr.heap.size<=w6.heap.size by omega) (lY.ar.wide o8.out za (am _)) (am _) (by have:=G.out;omega) (by omega) ?_;intro v9 w9 o9 O aa;obtain⟨A9,c9,rfl⟩:=o9.form;rw[aE,mu,G.out] at o9;rw[aE,mu,G.out];have q:∀b,(Value.slice Ao k co).ownBlock=some b->wp.heap.size<=b:=λb L=>(T.out.ob L).1;replace m:=aO m O (λt=>by have:=q _ t;omega);replace j:=aO j O (λt=>by have:=q _ t;omega);replace d:=aO d O (λt=>by have:=q _ t;omega);replace N:=d.cell;replace U:=d.frozen;replace W:=bF.ar.eZ W O (λb _ L _ t=>by have:=q b t;omega);go_wp2;have a2:Below w.heap.size w w9:=Q.trans (O.below Q.size λi hi t=>by have:=q i t;omega);have z9:=O.size;go_roundw
     case rel=>
      refine⟨k+1,.slice A9 (k+1) c9,by omega,by go_num, ?_, ?_,bW m (p:=⟨w.heap.size+1+1,1,none⟩) _ (by dsimp only;omega),bW j (p:=⟨w.heap.size+1+1,1,none⟩) _ (by dsimp only;omega), ?_,a2.setCell (by dsimp only;omega) _,by simp only[be];omega⟩
      .rw[HN.out];exact bV.ar.loc.go (λb L _=>io _ _ _ _ (by dsimp only;omega)) (am _) (by simp only[be];exact am _) o9
      .exact bF.ar.loc.go (λb L _=>io _ _ _ _ (by dsimp only;omega)) (am _) (am _) W
      .have:=d.bc 1 (.slice A9 (k+1) c9);simpa using this
     case measure=>simp[intOf];omega
    .obtain rfl:k=s.sn.length:=by omega
     rw[gE] at r;have X:=j.cell;have N:=d.cell;have dS:=m.frozen;have dx:=j.frozen;have U:=d.frozen;have ad:=ab r;have a8:=ab W;go_wp2;have ja:=bC.good (F:=oL) h3;refine(aoV s.lg _ wr lo hi (cx.loc.below h3 o aR) (ap aR o.size) (by omega)).mono ?_;rintro e w5 ⟨v5,rfl,I,M⟩;replace m:=ah m M;replace Z:=m.cell;replace dS:=m.frozen;replace j:=ah j M;replace X:=j.cell;replace dx:=j.frozen;replace d:=ah d M;replace N:=d.cell;replace U:=d.frozen;obtain⟨A5,c5,rfl⟩:=I.form;have z5:=M.size;have HO:=ab (I.aap ja M.size λg hg=>(I.at_ hg).2);have a9:=ab (bV.ar.below ad.out M (am _));have af:=ab (bF.ar.below a8.out M (by omega));go_wp2;have a4:∀(u0 u1 u2 u3:Value) (b:Nat),w0.heap.size<=b->((((w5.setCell ⟨w.heap.size+1+1,2,none⟩ u0).setCell ⟨w.heap.size+1,0,none⟩ u1).setCell ⟨w.heap.size+1,1,none⟩ u2).setCell ⟨w.heap.size+1,2,none⟩ u3).heap[b]?=w5.heap[b]?:=λu0 u1 u2 u3 b L=>by
      rw[io _ _ _ _ (by dsimp only;omega),io _ _ _ _ (by dsimp only;omega),io _ _ _ _ (by dsimp only;omega),io _ _ _ _ (by dsimp only;omega)]
     exact mx (v:=.agg #[_,_,_]) (by simp[results,results13,go_sem,X,N]) rfl ⟨_,_,_,rfl,
      ⟨bF.ar.loc.go (λb L _=>a4 _ _ _ _ b L) (by omega) (by simp only[be];omega) af.out,bV.ar.loc.go (λb L _=>a4 _ _ _ _ b (by omega)) (by omega) (by simp only[be];omega) a9.out,dD.ar.loc.go (λb L _=>a4 _ _ _ _ b (by omega)) (by omega) (by simp only[be];exact am _) HO.out⟩,
      ((((ag o M).setCell (by dsimp only;omega) _).setCell (by dsimp only;omega) _).setCell (by dsimp only;omega) _).setCell (by dsimp only;omega) _⟩
end
section
variable {β:Bool}
open Go.RowKit
section
variable {α:Type} {E:fW α} {T:List TypeId} {e:TypeId}
def Els.af3 {w:World} {xs:List α} {m:Nat->Nat} (g:S.length=xs.length*U) (v:∀u∈S,u.oneCell'=true) (p:∀i,m i<=m (i+1)) (l:Z<=m 0)
  (f:∀i x,xs[i]?=some x->∃a:List Value,a.length=U/\E w (m i) (m (i+1)) x a/\∀j u,a[j]?=some u->S[i*U+j]?=some u) (s:j<=xs.length):Els E U w Z (m j) (xs.take j) (S.take (j*U)):=by
 have b:(xs.take j).length=j:=by rw[eg];omega
 have o:j*U<=xs.length*U:=qO _ s;refine⟨by rw[eg,b,g];omega,λu c=>v u (pr c),m,p,l,by rw[b];exact am _,λi x d=> ?_⟩;rw[qD] at d;split at d
 .rename_i e;obtain⟨a,q,k,r⟩:=f i x d;refine⟨a,q,k,λt u c=> ?_⟩;have y:=aB c;have n:(i+1)*U<=j*U:=qO _ e;rw[ry] at n;rw[qD,du (by omega)];exact r t u c
 .cases d
def Els.wide{w:World}{xs:List α}(h:Els E U w Z hi xs S)(d:hi<=hi'):Els E U w Z hi' xs S:=by
 obtain⟨a,b,m,f,c,e,g⟩:=h;exact⟨a,b,m,f,c,ap e d,g⟩
def fJ(e:TypeId)(E:fW α)(w:World)(lo hi g N:Nat)(xs:List α)(p:α->Bool)(j:Nat):Prop:=
 ∃(a:Array Value) (m:Nat->Nat) (b:Nat->List Value) (cells:List Value),aX w g e a/\a.size=N/\lo<=g/\g<hi/\xs.length*2<=N/\(∀i,m i<=m (i+1))/\lo<=m 0/\m xs.length<=hi/\
  (∀i x,xs[i]?=some x->(b i).length=2/\(∀u∈b i,u.oneCell'=true)/\E w (m i) (m (i+1)) x (b i))/\
  (∀(i:Nat) (x:α),j<=i->xs[i]?=some x->∀(t:Nat) (u:Value),(b i)[t]?=some u->a[i*2+t]?=some u)/\
  Els E 2 w lo (m j) ((xs.take j).filter λx=>!p x) cells/\∀(k:Nat) (u:Value),cells[k]?=some u->a[k]?=some u
def fJ.start{w:World}{xs:List α}(h:aP e E 2 w Z hi xs [.slice (some ⟨g,0,none⟩) n c])(p:α->Bool)(U:j<=xs.length)(P:∀y∈xs.take j,p y=false):fJ e E w Z hi g (c*2) xs p j:=by
 obtain⟨W,cells,C,G,N,S,F,m,H,D,K,I⟩:=h;cases C;obtain⟨A,X,v⟩:=gT G;cases v;rcases G.2 with⟨s,_⟩|⟨Y,cap,l,s,M,O,z,J,B,R⟩
 .cases s
 cases s;have o:∀(k:Nat) (u:Value),cells[k]?=some u->l[k]?=some u:=λk u d=>by
  rw[<-R,qD] at d;split at d
  .simpa using d
  .cases d
 have f:∀i,∃q:List Value,∀x,xs[i]?=some x->q.length=2/\E w (m i) (m (i+1)) x q/\∀t u,q[t]?=some u->cells[i*2+t]?=some u:=λi=>by
  cases r:xs[i]? with
  |none=>exact⟨[],λx h=>by cases h⟩
  |some y=>
   obtain⟨q,C,v,V⟩:=I i y r;exact⟨q,λx h=>by cases h;exact⟨C,v,V⟩⟩
 refine⟨l,m,λi=>Classical.choose (f i),cells.take (j*2),O,B,M,N g rfl,qO _ z,H,D,K,λi x r=> ?_,λi x _ r t u d=> ?_, ?_,λk u d=> ?_⟩
 .obtain⟨a,b,c⟩:=wh (f i) x r;refine⟨a,λu d=> ?_,b⟩;obtain⟨t,L⟩:=sd d;exact F u (db (c t u L))
 .obtain⟨a,b,c⟩:=wh (f i) x r;exact o _ _ (c t u d)
 .have Q:(xs.take j).filter (λx=>!p x)=xs.take j:=sF.2 λy T=>by rw[P y T];rfl
  rw[Q];exact Els.af3 S F H D I U
 .rw[qD] at d;split at d
  .exact o k u d
  .cases d
def fJ.keep(k:dI E T){w : World}{xs:List α}{p:α->Bool}(h:fJ e E w Z hi g N xs p j)(a:Below w.heap.size w w')(H:hi<=w.heap.size)(C:j<=xs.length):fJ e E w' Z hi g N xs p j:=by
 obtain⟨c,m,f,cells,s,D,F,t,v,d,o,q,n,A,r,B⟩:=h;refine⟨c,m,f,cells,ah s a,D,F,t,v,d,o,q,λi x l=> ?_,A,r.go k (λb _ G _=>a.block b ?_) (am _) (am _),B⟩
 .obtain⟨u,y,z⟩:=n i x l;have:=dK d (show i+1<=xs.length from aB l);exact⟨u,y,k.below z a (by omega)⟩
 .have:=dK d C;omega
def fJ.drop{w:World}{xs:List α}{p:α->Bool}(h:fJ e E w Z hi g N xs p j){x:α}(s:xs[j]?=some x)(d:p x=true):fJ e E w Z hi g N xs p (j+1):=by
 obtain⟨a,m,b,cells,t,u,v,y,f,c,l,n,k,o,r,q⟩:=h;refine⟨a,m,b,cells,t,u,v,y,f,c,l,n,k,λi x hi=>o i x (by omega), ?_,q⟩;rw[lE s,vg];have:[x].filter (λx=>!p x)=[]:=by simp[d]
 rw[this,sg];exact r.wide (c j)
def jR{xs:List α}{p:α->Bool}{x:α}(b:xs[j]?=some x)(a:p x=false):(xs.take (j+1)).filter (λx=>!p x)=(xs.take j).filter (λx=>!p x)++[x]:=by
 rw[lE b,vg]
 congr 1
 simp[a]
def iL{xs:List α}{p:α->Bool}{x:α}(b:xs[j]?=some x)(a:p x=true):(xs.take (j+1)).filter (λx=>!p x)=(xs.take j).filter (λx=>!p x):=by
 rw[lE b,vg];have:[x].filter (λx=>!p x)=[]:=by simp[a]
 rw[this,sg]
def fJ.at_(z:dI E T)(I:e∉T){w:World}{xs:List α}{p:α->Bool}(h:fJ e E w Z hi g N xs p j){x:α}(v:xs[j]?=some x) :
  ∃m S es,m<=S/\es.length=2/\E w m S x es/\(∀t u,es[t]?=some u->w.cell? ⟨g,j*2+t,none⟩=some u)/\
   ∀(d c:Value) (i:Nat),es=[d,c]->p x=false->i=((xs.take j).filter λx=>!p x).length->i<j->fJ e E ((w.setCell ⟨g,i*2,none⟩ d).setCell ⟨g,i*2+1,none⟩ c) Z hi g N xs p (j+1):=by
 obtain⟨l,m,r,cells,G,U,a2,a3,a4,B,m2,X,P,R,O,b4⟩:=h;obtain⟨c1,c2,Q⟩:=P j x v;have a0:=aB v;refine⟨m j,m (j+1),r j,B j,c1,Q,λt u a=>by rw[G.cell];exact R j x (am _) v t u a,λd c i s hp hi a5=> ?_⟩;have Y:cells.length=i*2:=by rw[O.1,<-hi]
 have D:aX ((w.setCell ⟨g,i*2,none⟩ d).setCell ⟨g,i*2+1,none⟩ c) g e ((l.setIfInBounds (i*2) d).setIfInBounds (i*2+1) c):=(G.bc (i*2) d).bc (i*2+1) c;have F:¬Typed w T g:=λ⟨t,f,ds,hd⟩=>I (cL G hd▸f)
 have H:∀b,Typed w T b->((w.setCell ⟨g,i*2,none⟩ d).setCell ⟨g,i*2+1,none⟩ c).heap[b]?=w.heap[b]?:=λb f=>by
  have o:b≠g:=by rintro rfl;exact F f
  rw[io _ _ _ _ o,io _ _ _ _ o]
 have q:∀k,k≠i*2->k≠i*2+1->((l.setIfInBounds (i*2) d).setIfInBounds (i*2+1) c)[k]?=l[k]?:=λk J W=>by
  rw[oR,da (sH W),oR,da (sH J)]
 have L:∀u∈([d,c]:List Value),u.oneCell'=true:=λu a=>c2 u (by rw[s];exact a);refine⟨_,m,r,cells++[d,c],D,by simpa using U,a2,a3,a4,B,m2,X,λM K n=> ?_,λM K hi' n t u a=> ?_, ?_,λk u a=> ?_⟩
 .obtain⟨d1,V,d3⟩:=P M K n;exact⟨d1,V,z.go (λb _ _ f=>H b f) (am _) (am _) d3⟩
 .rw[q _ (by omega) (by omega)];exact R M K (by omega) n t u a
 .rw[jR v hp];have h':=Els.snoc (E:=E) (O.go (eY:=Z) (hi':=m j) z (λb _ _ f=>H b f) (am _) (am _)) (y:=x) (es:=[d,c]) rfl L (B j) (z.go (λb _ _ f=>H b f) (am _) (am _) (by rw[<-s];exact Q));exact h' z.loc
 .rcases pm k cells.length with A|A
  .rw[qv A] at a;rw[q _ (by omega) (by omega)];exact b4 k u a
  .rw[ql A,Y] at a;have C:=aB a;simp only[fi,mc] at C;have a1:i*2+1<l.size:=by rw[U];omega
   rcases pm (k-i*2) 1 with J|J
   .obtain rfl:k=i*2:=by omega
    rw[tq] at a;simp at a;subst a;rw[oR,da (by omega),oR,du rfl,du (by omega)]
   .obtain rfl:k=i*2+1:=by omega
    rw[show i*2+1-i*2=1 by omega] at a;simp at a;subst a;rw[oR,du rfl,du (by simp;omega)]
def fJ.frozen{w:World}{xs:List α}{p:α->Bool}(h:fJ e E w Z hi g N xs p j)(k:Nat):w.frozen? ⟨g,k,none⟩=false:=by
 obtain⟨a,m,c,cells,b,_⟩:=h;exact b.frozen k
def fJ.there{w:World}{xs:List α}{p:α->Bool}(h:fJ e E w Z hi g N xs p j)(d:k<N):∃u,w.cell? ⟨g,k,none⟩=some u:=by
 obtain⟨a,m,b,cells,c,f,_⟩:=h;rw[c.cell];exact⟨_,ge (by omega)⟩
def fJ.end_(G:dI E T)(s:e∉T){w:World}{xs:List α}{p:α->Bool}(h:fJ e E w Z hi g N xs p xs.length)(V:N=c*2)(M:c<=maxLen) :
  ∃d,aX w g e d/\d.size=N/\∀(f:World) (a:Array Value),aX f g e a->a.size=N->(∀k,k<(xs.filter λx=>!p x).length*2->a[k]?=d[k]?)->aZ (λb=>b=g) w f->
   aP e E 2 f Z hi (xs.filter λx=>!p x) [.slice (some ⟨g,0,none⟩) (xs.filter λx=>!p x).length c]:=by
 obtain⟨d,m,I,cells,z,L,K,D,Q,S,P,A,O,R,n,J⟩:=h;rw[gE] at n;refine⟨d,z,L,λf a C U q v=> ?_⟩;have o:¬Typed w T g:=λ⟨t,i,F,hd⟩=>s (cL z hd▸i)
 have B:=n.1;have H:(xs.filter λx=>!p x).length<=xs.length:=rY _ _;refine⟨_,cells,rfl,⟨B,.inr ⟨g,c,a,rfl,K,C,by omega,M,by omega, ?_⟩⟩,λb l=>by cases l;exact D,(n.go (eY:=Z) (hi':=m xs.length) G (λb _ _ i=> ?_) (am _) (am _)).wide A⟩
 .apply tL;intro k;rw[qD];split
  .rename_i j;have r:k<cells.length:=by omega
   rw[jn r];have y:=J k _ (jn r);rw[<-q k j] at y;rw[<-y];simp
  .rw[rm (by omega)]
 .obtain⟨t,r,F,hd⟩:=id i;exact v.block b hd.lt λl=>by
   have u:b=g:=l;subst u;exact o i
end
def aaF{P:Program}(w:World)(t e' ty j:TypeId)(z:Value)(l g o n c:Nat)(a:Array Value)(B:P.underlying t=some (.slice e'))(G:∀w,(zeroValue e').run P w=.ok z w)(F:z.cells.size=l)(E:∀u∈z.cells.toList,u.oneCell'=true)(y:aX w g j a)(K:0<n)(D:o+n*l<=a.size)(J:0<l) :
  ∃(q:World) (d:Array Value),(Builtin.clear_ #[t] ty #[.slice (some ⟨g,o,none⟩) n c]).run P w=.ok (.tuple #[]) q/\aX q g j d/\d.size=a.size/\(∀k,k<o->d[k]?=a[k]?)/\aZ (λb=>b=g) w q:=by
 have f:(Builtin.zeroCells z.cells n).toList.length=n*l:=by simp[Builtin.zeroCells,F]
 have x:∀u∈(Builtin.zeroCells z.cells n).toList,u.oneCell'=true:=by
  intro u A;simp only[Builtin.zeroCells,qF,qs] at A;obtain⟨i,_,rfl⟩:=A;have p:i % z.cells.size<z.cells.size:=tT _ (by omega);rw[getElem!_pos z.cells (i % z.cells.size) p];exact E _ (by simp)
 have v:=run_storeCells_at P g o j (Builtin.zeroCells z.cells n).toList 0 a w y (by rw[f];omega) x;refine⟨_,(a.toList.take (o+0)++(Builtin.zeroCells z.cells n).toList++a.toList.drop (o+0+(Builtin.zeroCells z.cells n).toList.length)).toArray, ?_,setRow_heap w g a _ j _ y, ?_,λk I=> ?_, ?_⟩
 rotate_left
 .have C:a.toList.length=a.size:=by simp
  simp only[rR,aE,eg,qp,f,C];omega
 .rw[vZ,tf,qv (by simp only[eg,qQ];omega),qD,du (by omega)];simp
 .refine⟨rfl,rfl,rfl,by simp[World.setRow],λb H r=> ?_⟩;have s:¬g=b:=λe=>r e.symm;simp[World.setRow,pi,s]
 .obtain⟨m,rfl⟩:∃m,n=m+1:=⟨n-1,by omega⟩;simp[Builtin.clear_,mt B,G,v]
end
section
variable {β:Bool}
open Go.RowKit
def aoW(F:Nat)(dL:Array Value)(p:Int->Bool)(Q:World->Prop):Prop:=∀(n:Int) (A:Option Addr) (m c:Nat) (a:World),Q a->Calls (ai β) F (#[.agg #[.int .i64 n,.slice A m c]]++dL) a λe b=>e=.returned (.bool (p n))/\Below a.heap.size a b
def arE{α:Type}(xs:List α)(p:α->Bool)(e:Ending):Prop:=(e=.returned (.int .i64 (-1))/\∀y∈xs,p y=false)\/∃(i:Nat) (x:α),e=.returned (.int .i64 i)/\xs[i]?=some x/\p x=true/\∀y∈xs.take i,p y=false
def ahx(F:Nat)(t:Array Value)(p:Int->Bool)(xs:List Pk)(v:Value)(w:World)(J hi:Nat)(h:iI w J hi xs [v])(I:hi<=w.heap.size)(D:aa3 (β:=β) F)(n:aoW (β:=β) F t p λi=>Below w.heap.size w i) :
  Calls (ai β) 69 #[v,.func (.func F) #[] t] w λe i=>arE xs (λx=>p x.no) e/\Below w.heap.size w i:=by
 obtain⟨A,c,rfl⟩:=bC.form h;obtain⟨_,N,H⟩:=h.len_;unfold maxLen at H;replace n:=ab n;go_enter zv,ntmps69;go_wp2;go_loopw [8] (λu wr=>∃k:Nat,k<=xs.length/\u=.int .i64 k/\(∀y∈xs.take k,p y.no=false)/\Below w.heap.size w wr) (λu _=>xs.length-(intOf u).toNat)
 case atStart=>exact⟨0,fa _,rfl,by simp,fd _ _⟩
 case round=>
  obtain⟨k,L,rfl,g,a⟩:=hrel;replace g:=ab g;by_cases r:k<xs.length
  .obtain⟨x,m⟩:=aq r;obtain⟨b,l,P,B,_,E,_,⟨O,rfl,z,G⟩,j⟩:=(iI.loc.below h a I).at_ m;subst B;obtain⟨q,o,rfl⟩:=bC.form G;have C:wr.cell? ⟨b,l+k*2,none⟩=some (.int .i64 x.no):=by simpa using j 0 _ rfl
   have K:wr.cell? ⟨b,l+k*2+1,none⟩=some (.slice q x.its.length o):=by simpa using j 1 _ rfl
   replace m:=ab m;have M:=D (#[.agg #[.int .i64 x.no,.slice q x.its.length o]]++t) wr;cases d:p x.no
   .replace d:=ab d;go_wp2;refine(n.out x.no q x.its.length o wr a).mono ?_;rintro e i ⟨rfl,s⟩;rw[d.out];go_wp2;go_roundw
    case rel=>
     refine⟨k+1,by omega,by go_num,λy f=> ?_,ag a s⟩;rw[lE m.out,oE] at f;rcases f with f|f
     .exact g.out y f
     .rw[ph.1 f];exact d.out
    case measure=>simp[intOf];omega
   .replace d:=ab d;go_wp2;refine(n.out x.no q x.its.length o wr a).mono ?_;rintro e i ⟨rfl,s⟩;rw[d.out];go_wp2;go_ret;exact⟨.inr ⟨k,x,rfl,m.out,d.out,g.out⟩,ag a s⟩
  .obtain rfl:k=xs.length:=by omega
   rw[gE] at g;go_wp2;go_ret;exact⟨.inl ⟨rfl,g.out⟩,a⟩
def ahy(F:Nat)(t:Array Value)(p:Int->Bool)(xs:List Sn)(v:Value)(w:World)(J hi:Nat)(h:gV w J hi xs [v])(I:hi<=w.heap.size)(D:aa3 (β:=β) F)(n:aoW (β:=β) F t p λi=>Below w.heap.size w i) :
  Calls (ai β) 53 #[v,.func (.func F) #[] t] w λe i=>arE xs (λx=>p x.no) e/\Below w.heap.size w i:=by
 obtain⟨A,c,rfl⟩:=bC.form h;obtain⟨_,N,H⟩:=h.len_;unfold maxLen at H;replace n:=ab n;go_enter xV,ntmps53;go_wp2;go_loopw [8] (λu wr=>∃k:Nat,k<=xs.length/\u=.int .i64 k/\(∀y∈xs.take k,p y.no=false)/\Below w.heap.size w wr) (λu _=>xs.length-(intOf u).toNat)
 case atStart=>exact⟨0,fa _,rfl,by simp,fd _ _⟩
 case round=>
  obtain⟨k,L,rfl,g,a⟩:=hrel;replace g:=ab g;by_cases r:k<xs.length
  .obtain⟨x,m⟩:=aq r;obtain⟨b,l,P,B,_,E,_,⟨O,rfl,z,G⟩,j⟩:=(gV.loc.below h a I).at_ m;subst B;obtain⟨q,o,rfl⟩:=bC.form G;have C:wr.cell? ⟨b,l+k*2,none⟩=some (.int .i64 x.no):=by simpa using j 0 _ rfl
   have K:wr.cell? ⟨b,l+k*2+1,none⟩=some (.slice q x.all.length o):=by simpa using j 1 _ rfl
   replace m:=ab m;have M:=D (#[.agg #[.int .i64 x.no,.slice q x.all.length o]]++t) wr;cases d:p x.no
   .replace d:=ab d;go_wp2;refine(n.out x.no q x.all.length o wr a).mono ?_;rintro e i ⟨rfl,s⟩;rw[d.out];go_wp2;go_roundw
    case rel=>
     refine⟨k+1,by omega,by go_num,λy f=> ?_,ag a s⟩;rw[lE m.out,oE] at f;rcases f with f|f
     .exact g.out y f
     .rw[ph.1 f];exact d.out
    case measure=>simp[intOf];omega
   .replace d:=ab d;go_wp2;refine(n.out x.no q x.all.length o wr a).mono ?_;rintro e i ⟨rfl,s⟩;rw[d.out];go_wp2;go_ret;exact⟨.inr ⟨k,x,rfl,m.out,d.out,g.out⟩,ag a s⟩
  .obtain rfl:k=xs.length:=by omega
   rw[gE] at g;go_wp2;go_ret;exact⟨.inl ⟨rfl,g.out⟩,a⟩
def auW(w:World):(zeroValue 54).run (ai β) w=.ok (.agg #[.int .i64 0,.slice none 0 0]) w:=by
 simp[go_sem]
def afz(F:Nat)(dL:Array Value)(p:Int->Bool)(xs:List Pk)(v:Value)(w:World)(H hi:Nat)(h:bF w H hi xs [v])(aR:hi<=w.heap.size)(hF:aa3 (β:=β) F)(hf:aoW (β:=β) F dL p λI=>aZ (λb=>H<=b/\b<hi/\Typed w [54] b) w I) :
  Calls (ai β) 39 #[v,.func (.func F) #[] dL] w λe I=>∃v',e=.returned v'/\bF I H hi (xs.filter λx=>!p x.no) [v']/\aZ (λb=>H<=b/\b<hi/\Typed w [54] b) w I:=by
 obtain⟨A,c,rfl⟩:=aP.form h;obtain⟨_,hc,hx⟩:=(bF.l h).len_;have ax:=hx;unfold maxLen at hx;replace hf:=ab hf;go_enter zM,ntmps39;go_wp2;refine(ahx F dL p xs _ w H hi (bF.l h) aR hF (λn A m c I hb=>hf.out n A m c I (aZ.aM hb))).mono ?_;rintro e w1 ⟨a6,b1⟩;have X:aZ (λb=>H<=b/\b<hi/\Typed w [54] b) w w1:=aZ.aM b1;have h1:=bF.ar.below h b1 aR;rcases a6 with⟨rfl,a⟩|⟨i,x0,rfl,D,V,a⟩
 .have M:xs.filter (λx=>!p x.no)=xs:=sF.2 λy hy=>by have h2:p y.no=false:=a y hy;rw[h2];rfl
  replace M:=ab M;clear a;go_wp2;go_ret;exact⟨_,rfl,by rw[M.out];exact h1,X⟩
 .have a4:=aB D;obtain⟨g,c',e,L,E,b5,a8,a5⟩:=aP.some_ h1 (by omega);simp only[nF] at e;obtain⟨rfl, -,rfl⟩:=e;have R:Typed w [54] g:=lG X (T:=[54]) (λt ht=>ht) E aR (λhs=>hs.2.2) ⟨_,qB,a8,a5⟩;have d0:=(fJ.start h1 (λx=>p x.no) (Nat.le_of_lt a4) a).drop D V;have a3:(xs.take (i+1)).filter (λx=>!p x.no)=xs.take i:=by
   rw[iL (p:=λx=>p x.no) D V];exact sF.2 λy hy=>by have h2:p y.no=false:=a y hy;rw[h2];rfl
  have u:((xs.take (i+1)).filter λx=>!p x.no).length=i:=by rw[a3,eg];omega
  replace d0:=ab d0;replace u:=ab u;clear a3 D V a a5 h1;have a7:((i:Int)==-1)=false:=by rw[dk];omega
  go_wp2;go_loopw [5,6] (λii jj wr=>∃i j:Nat,ii=.int .i64 i/\jj=.int .i64 j/\i<j/\j<=xs.length/\i=((xs.take j).filter λx=>!p x.no).length/\fJ 54 kI wr H hi g (c*2) xs (λx=>p x.no) j/\aZ (λb=>H<=b/\b<hi/\Typed w [54] b) w wr) (λ_ jj _=>xs.length-(intOf jj).toNat)
  case atStart=>exact⟨i,i+1,rfl,by go_num,by omega,by omega,u.out.symm,d0.out,X⟩
  case round=>
   clear d0 u a7 a4;obtain⟨i,j,rfl,rfl,ao,hj,f,hd,fT⟩:=hrel;have B:=ab f;clear f;have b4:=fT.size;by_cases af:j<xs.length
   .obtain⟨x,K⟩:=aq af;obtain⟨m,m',es,hm,aG,⟨v2,rfl,aJ,hr⟩,l, -⟩:=fJ.at_ kI.ar (by decide) hd K;obtain⟨s,r,rfl⟩:=aP.form hr;have ay:wr.cell? ⟨g,j*2,none⟩=some (.int .i64 x.no):=l 0 _ rfl;have pJ:wr.cell? ⟨g,j*2+1,none⟩=some (.slice s x.its.length r):=l 1 _ rfl;replace K:=ab K;clear l hr;have ba:=au wr (.cells #[.int .i64 x.no,.slice s x.its.length r] 54);have eP:=hF (#[.agg #[.int .i64 x.no,.slice s x.its.length r]]++dL) (wr.alloc (.cells #[.int .i64 x.no,.slice s x.its.length r] 54));have z:=fT.alloc (.cells #[.int .i64 x.no,.slice s x.its.length r] 54);have G:aX (wr.alloc (.cells #[.int .i64 x.no,.slice s x.its.length r] 54)) wr.heap.size 54 #[.int .i64 x.no,.slice s x.its.length r]:=aX.new _ _ _;replace G:=ab G;replace z:=ab z;replace ba:=ab ba;go_wp2;refine(hf.out x.no s x.its.length r _ z.out).mono ?_;rintro e w2 ⟨rfl,b2⟩;have C:Below wr.heap.size wr w2:=ag ba.out b2;have N:=fT.trans (aZ.aM (S:=λ_=>False) C) λ_ _ h=>h.elim;have O:=aU C pJ;have d:=hd.keep kI.ar C (by omega) hj;have U:=ah G.out b2;have b3:w2.cell? ⟨wr.heap.size,0,none⟩=some (.int .i64 x.no):=U.cell 0;have aY:w2.cell? ⟨wr.heap.size,1,none⟩=some (.slice s x.its.length r):=U.cell 1;clear hd fT ay pJ eP G z ba b2 C U;cases hp:p x.no
    .obtain⟨m,m',es,hm,aG,⟨v3,e3,aT,a0⟩,l,a2⟩:=fJ.at_ kI.ar (by decide) d K.out;obtain⟨A3,c3,rfl⟩:=aP.form a0;subst e3;obtain⟨eA,eC⟩:A3=s/\c3=r:=by
      have q1:=(l 1 _ rfl).symm.trans O;simp only[me,nF] at q1;exact⟨q1.1,q1.2.2⟩
     subst eA eC;clear O;have ad:=ab (a2 _ _ i rfl hp B.out ao);have o:i+1=((xs.take (j+1)).filter λx=>!p x.no).length:=by rw[jR (p:=λx=>p x.no) K.out hp,aE,<-B.out];rfl
     have W:=ab o;obtain⟨q0,b6⟩:=d.there (k:=i*2) (by omega);obtain⟨q1,b8⟩:=d.there (k:=i*2+1) (by omega);have b0:=d.frozen (i*2);have b9:=d.frozen (i*2+1);have Q:=(N.setCell (p:=⟨g,i*2,none⟩) (.inl ⟨L,E,R⟩) (.int .i64 x.no)).setCell (p:=⟨g,i*2+1,none⟩) (.inl ⟨L,E,R⟩) (.slice A3 x.its.length c3);replace Q:=ab Q;clear l a2 a0 o d N;go_wp2;go_roundw
     case rel=>exact⟨i+1,j+1,by go_num,by go_num,by omega,by omega,W.out,ad.out,Q.out⟩
     simp[intOf];omega
    .have o:i=((xs.take (j+1)).filter λx=>!p x.no).length:=by rw[iL (p:=λx=>p x.no) K.out hp];exact B.out
     have W:=ab o;have al:=ab (d.drop K.out hp);clear o hp d O;go_wp2;go_roundw
     case rel=>exact⟨i,j+1,rfl,by go_num,by omega,by omega,W.out,al.out,N⟩
     simp[intOf];omega
   .obtain rfl:j=xs.length:=by omega
    have f:=B.out;rw[gE] at f;obtain⟨a9,Z,aa,q⟩:=hd.end_ kI.ar (by decide) rfl ax;replace q:=ab q;obtain⟨I,Y,aI,oP,b7,a1,J⟩:=aaF (P:=(ai β)) wr 23 54 0 54 (.agg #[.int .i64 0,.slice none 0 0]) 2 g (i*2) (xs.length-i) (c-i) a9 xL (auW) rfl (by decide) Z (by omega) (by omega) (by decide);have ho:=q.out I Y oP (by omega) (λk hk=>a1 k (by rw[f];exact hk)) J;rw[<-f] at ho;have HO:=ab ho;have an:=fT.trans J λb _ hb=>(show b=g from hb)▸⟨L,E,R⟩;clear f ho J a1 Z aa hd oP;go_wp2;go_ret;exact⟨_,rfl,HO.out,an⟩
def auX(w:World):(zeroValue 58).run (ai β) w=.ok (.agg #[.int .i64 0,.slice none 0 0]) w:=by
 simp[go_sem]
def afA(F:Nat)(dL:Array Value)(p:Int->Bool)(xs:List Sn)(v:Value)(w:World)(H hi:Nat)(h:bV w H hi xs [v])(aR:hi<=w.heap.size)(hF:aa3 (β:=β) F)(hf:aoW (β:=β) F dL p λI=>aZ (λb=>H<=b/\b<hi/\Typed w [58] b) w I) :
  Calls (ai β) 42 #[v,.func (.func F) #[] dL] w λe I=>∃v',e=.returned v'/\bV I H hi (xs.filter λx=>!p x.no) [v']/\aZ (λb=>H<=b/\b<hi/\Typed w [58] b) w I:=by
 obtain⟨A,c,rfl⟩:=aP.form h;obtain⟨_,hc,hx⟩:=(bV.l h).len_;have ax:=hx;unfold maxLen at hx;replace hf:=ab hf;go_enter zL,ntmps42;go_wp2;refine(ahy F dL p xs _ w H hi (bV.l h) aR hF (λn A m c I hb=>hf.out n A m c I (aZ.aM hb))).mono ?_;rintro e w1 ⟨a6,b1⟩;have X:aZ (λb=>H<=b/\b<hi/\Typed w [58] b) w w1:=aZ.aM b1;have h1:=bV.ar.below h b1 aR;rcases a6 with⟨rfl,a⟩|⟨i,x0,rfl,D,V,a⟩
 .have M:xs.filter (λx=>!p x.no)=xs:=sF.2 λy hy=>by have h2:p y.no=false:=a y hy;rw[h2];rfl
  replace M:=ab M;clear a;go_wp2;go_ret;exact⟨_,rfl,by rw[M.out];exact h1,X⟩
 .have a4:=aB D;obtain⟨g,c',e,L,E,b5,a8,a5⟩:=aP.some_ h1 (by omega);simp only[nF] at e;obtain⟨rfl, -,rfl⟩:=e;have R:Typed w [58] g:=lG X (T:=[58]) (λt ht=>ht) E aR (λhs=>hs.2.2) ⟨_,qB,a8,a5⟩;have d0:=(fJ.start h1 (λx=>p x.no) (Nat.le_of_lt a4) a).drop D V;have a3:(xs.take (i+1)).filter (λx=>!p x.no)=xs.take i:=by
   rw[iL (p:=λx=>p x.no) D V];exact sF.2 λy hy=>by have h2:p y.no=false:=a y hy;rw[h2];rfl
  have u:((xs.take (i+1)).filter λx=>!p x.no).length=i:=by rw[a3,eg];omega
  replace d0:=ab d0;replace u:=ab u;clear a3 D V a a5 h1;have a7:((i:Int)==-1)=false:=by rw[dk];omega
  go_wp2;go_loopw [5,6] (λii jj wr=>∃i j:Nat,ii=.int .i64 i/\jj=.int .i64 j/\i<j/\j<=xs.length/\i=((xs.take j).filter λx=>!p x.no).length/\fJ 58 lY wr H hi g (c*2) xs (λx=>p x.no) j/\aZ (λb=>H<=b/\b<hi/\Typed w [58] b) w wr) (λ_ jj _=>xs.length-(intOf jj).toNat)
  case atStart=>exact⟨i,i+1,rfl,by go_num,by omega,by omega,u.out.symm,d0.out,X⟩
  case round=>
   clear d0 u a7 a4;obtain⟨i,j,rfl,rfl,ao,hj,f,hd,fT⟩:=hrel;have B:=ab f;clear f;have b4:=fT.size;by_cases af:j<xs.length
   .obtain⟨x,K⟩:=aq af;obtain⟨m,m',es,hm,aG,⟨v2,rfl,aJ,hr⟩,l, -⟩:=fJ.at_ lY.ar (by decide) hd K;obtain⟨s,r,rfl⟩:=aP.form hr;have ay:wr.cell? ⟨g,j*2,none⟩=some (.int .i64 x.no):=l 0 _ rfl;have pJ:wr.cell? ⟨g,j*2+1,none⟩=some (.slice s x.all.length r):=l 1 _ rfl;replace K:=ab K;clear l hr;have ba:=au wr (.cells #[.int .i64 x.no,.slice s x.all.length r] 58);have eP:=hF (#[.agg #[.int .i64 x.no,.slice s x.all.length r]]++dL) (wr.alloc (.cells #[.int .i64 x.no,.slice s x.all.length r] 58));have z:=fT.alloc (.cells #[.int .i64 x.no,.slice s x.all.length r] 58);have G:aX (wr.alloc (.cells #[.int .i64 x.no,.slice s x.all.length r] 58)) wr.heap.size 58 #[.int .i64 x.no,.slice s x.all.length r]:=aX.new _ _ _;replace G:=ab G;replace z:=ab z;replace ba:=ab ba;go_wp2;refine(hf.out x.no s x.all.length r _ z.out).mono ?_;rintro e w2 ⟨rfl,b2⟩;have C:Below wr.heap.size wr w2:=ag ba.out b2;have N:=fT.trans (aZ.aM (S:=λ_=>False) C) λ_ _ h=>h.elim;have O:=aU C pJ;have d:=hd.keep lY.ar C (by omega) hj;have U:=ah G.out b2;have b3:w2.cell? ⟨wr.heap.size,0,none⟩=some (.int .i64 x.no):=U.cell 0;have aY:w2.cell? ⟨wr.heap.size,1,none⟩=some (.slice s x.all.length r):=U.cell 1;clear hd fT ay pJ eP G z ba b2 C U;cases hp:p x.no
    .obtain⟨m,m',es,hm,aG,⟨v3,e3,aT,a0⟩,l,a2⟩:=fJ.at_ lY.ar (by decide) d K.out;obtain⟨A3,c3,rfl⟩:=aP.form a0;subst e3;obtain⟨eA,eC⟩:A3=s/\c3=r:=by
      have q1:=(l 1 _ rfl).symm.trans O;simp only[me,nF] at q1;exact⟨q1.1,q1.2.2⟩
     subst eA eC;clear O;have ad:=ab (a2 _ _ i rfl hp B.out ao);have o:i+1=((xs.take (j+1)).filter λx=>!p x.no).length:=by rw[jR (p:=λx=>p x.no) K.out hp,aE,<-B.out];rfl
     have W:=ab o;obtain⟨q0,b6⟩:=d.there (k:=i*2) (by omega);obtain⟨q1,b8⟩:=d.there (k:=i*2+1) (by omega);have b0:=d.frozen (i*2);have b9:=d.frozen (i*2+1);have Q:=(N.setCell (p:=⟨g,i*2,none⟩) (.inl ⟨L,E,R⟩) (.int .i64 x.no)).setCell (p:=⟨g,i*2+1,none⟩) (.inl ⟨L,E,R⟩) (.slice A3 x.all.length c3);replace Q:=ab Q;clear l a2 a0 o d N;go_wp2;go_roundw
     case rel=>exact⟨i+1,j+1,by go_num,by go_num,by omega,by omega,W.out,ad.out,Q.out⟩
     simp[intOf];omega
    .have o:i=((xs.take (j+1)).filter λx=>!p x.no).length:=by rw[iL (p:=λx=>p x.no) K.out hp];exact B.out
     have W:=ab o;have al:=ab (d.drop K.out hp);clear o hp d O;go_wp2;go_roundw
     case rel=>exact⟨i,j+1,rfl,by go_num,by omega,by omega,W.out,al.out,N⟩
     simp[intOf];omega
   .obtain rfl:j=xs.length:=by omega
    have f:=B.out;rw[gE] at f;obtain⟨a9,Z,aa,q⟩:=hd.end_ lY.ar (by decide) rfl ax;replace q:=ab q;obtain⟨I,Y,aI,oP,b7,a1,J⟩:=aaF (P:=(ai β)) wr 24 58 0 58 (.agg #[.int .i64 0,.slice none 0 0]) 2 g (i*2) (xs.length-i) (c-i) a9 xK (auX) rfl (by decide) Z (by omega) (by omega) (by decide);have ho:=q.out I Y oP (by omega) (λk hk=>a1 k (by rw[f];exact hk)) J;rw[<-f] at ho;have HO:=ab ho;have an:=fT.trans J λb _ hb=>(show b=g from hb)▸⟨L,E,R⟩;clear f ho J a1 Z aa hd oP;go_wp2;go_ret;exact⟨_,rfl,HO.out,an⟩
end
section
variable {β:Bool}
open Go.RowKit
structure iQ where
 k:Int
 n:Int
 m:Int
 b:ByteArray
def sb{α:Type}(l:List α)(i:Nat)(f:α->α):List α:=match l[i]? with|some x=>l.set i (f x)|none=>l
def nY{l:List Y}(h:l[i]?=some x)(f:Y->Y):sb l i f=l.set i (f x):=by unfold sb;rw[h]
def kX(l:List Y)(i:Nat)(f:Y->Y):(sb l i f).length=l.length:=by
 unfold sb;split
 .rw[qW]
 .rfl
def fK(l:iQ)(p:Pk):Pk:=if p.no=l.n/\0<=l.m/\l.m<p.its.length then⟨p.no,sb p.its l.m.toNat λx=>⟨x.n,l.b⟩⟩ else p
def jS(x:Hd):Hd:=⟨wrap64 (3-x.b),x.s⟩
def dJ(s:dH)(l:iQ):dH:=
 if l.k=1 then⟨s.pk.filter λp=>!(p.no ==l.n),s.sn,s.lg⟩
 else if l.k=2 then(if 0<=l.n/\l.n<=s.lg.length then⟨s.pk,s.sn.filter λx=>!((s.lg.drop l.n.toNat).any λh=>h.s ==x.no),s.lg.take l.n.toNat⟩ else s)
 else if l.k=3 then⟨s.pk.map (fK l),s.sn,s.lg⟩
 else if l.k=4 then(if 0<=l.n/\l.n<s.lg.length then⟨s.pk,s.sn,sb s.lg l.n.toNat jS⟩ else s)
 else s
def pK{l:iQ}(h:l.k=1):dJ s l=⟨s.pk.filter λp=>!(p.no ==l.n),s.sn,s.lg⟩:=by unfold dJ;rw[du h]
def mN{l:iQ}(h:l.k=2)(a:0<=l.n/\l.n<=s.lg.length):dJ s l=⟨s.pk,s.sn.filter λx=>!((s.lg.drop l.n.toNat).any λh=>h.s ==x.no),s.lg.take l.n.toNat⟩:=by unfold dJ;rw[da (by omega),du h,du a]
def kR{l:iQ}(h:l.k=2)(a:¬(0<=l.n/\l.n<=s.lg.length)):dJ s l=s:=by unfold dJ;rw[da (by omega),du h,da a]
def pL{l:iQ}(h:l.k=3):dJ s l=⟨s.pk.map (fK l),s.sn,s.lg⟩:=by unfold dJ;rw[da (by omega),da (by omega),du h]
def pM{l:iQ}(h:l.k=4)(a:0<=l.n/\l.n<s.lg.length):dJ s l=⟨s.pk,s.sn,sb s.lg l.n.toNat jS⟩:=by unfold dJ;rw[da (by omega),da (by omega),da (by omega),du h,du a]
def kS{l:iQ}(h:l.k=4)(a:¬(0<=l.n/\l.n<s.lg.length)):dJ s l=s:=by unfold dJ;rw[da (by omega),da (by omega),da (by omega),du h,da a]
def pN{l:iQ}(a:¬l.k=1)(d:¬l.k=2)(b:¬l.k=3)(c:¬l.k=4):dJ s l=s:=by unfold dJ;rw[da a,da d,da b,da c]
def jT:fW (List Hd):=λw e d b f=>∃(A:Option Addr) (c:Nat),f=[.slice A b.length c]/\b.length<=c/\c<=maxLen/\e<=d/\(∀x∈b,oL.good x)/\
 (0<b.length->∃(g:Nat) (a:Array Value),A=some ⟨g,0,none⟩/\e<=g/\g<d/\aX w g 65 a/\∀(k:Nat) (u:Value),(eb oL b)[k]?=some u->a[k]?=some u)
def jT.ar:dI jT [65]:=by
 refine⟨?_⟩;intro w q y t p n s v l x r h;obtain⟨A,c,rfl,a,b,u,d,e⟩:=h;refine⟨A,c,rfl,a,b,by omega,d,λj=> ?_⟩;obtain⟨g,f,rfl,k,m,i,o⟩:=e j;exact⟨g,f,rfl,by omega,by omega,(l g k m ⟨_,qB,f,i⟩).trans i,o⟩
def jT.form{w:World}(h:jT w Z hi xs [v]):∃A c,v=.slice A xs.length c:=by
 obtain⟨A,c,e,_⟩:=h;cases e;exact⟨A,c,rfl⟩
def dD.w{w:World}(h:dD w Z hi xs cs):jT w Z hi xs cs:=by
 obtain⟨v,rfl⟩:∃v,cs=[v]:=by
  obtain⟨v,_,rfl,_⟩:=h;exact⟨v,rfl⟩
 obtain⟨i,f,a,p⟩:=aP.flat (F:=oL) h;rcases i.2 with⟨rfl,l⟩|⟨g,cap,c,rfl,m,o,e,d,n,j⟩
 .exact⟨none,0,by rw[l],by omega,by unfold maxLen;omega,a,f,λq=>by omega⟩
 .refine⟨_,cap,rfl,e,d,a,f,λ_=>⟨g,c,rfl,m,p g rfl,o,λk u b=> ?_⟩⟩;rw[<-j,qD] at b;split at b
  .simpa using b
  .cases b
def jT.l{w:World}(h:jT w Z hi xs cs):cx w Z hi xs cs:=by
 obtain⟨A,c,rfl,a,b,q,d,e⟩:=h;refine⟨A,c,rfl,a,b,λk=> ?_⟩;obtain⟨g,f,rfl,l,n,o,p⟩:=e k;refine⟨g,0,rfl,l,n,λi x hi=>⟨oL.cells x,rfl,⟨rfl,d x (db hi)⟩,λj u m=> ?_⟩⟩;rw[o.cell,lP];exact p _ _ (eu oL xs i j x u hi m)
def jT.af3{w:World}(h:jT w Z hi xs [.slice A n c])(B:k<=xs.length):jT w Z hi (xs.take k) [.slice A k k]:=by
 obtain⟨A',z,e,a,b,y,d,f⟩:=h;simp only[qi,nF,qw] at e;obtain⟨rfl,rfl,rfl⟩:=e;have t:(xs.take k).length=k:=by rw[eg];omega
 refine⟨_,k,by rw[t],by omega,by omega,y,λx v=>d x (pr v),λC=> ?_⟩;obtain⟨g,i,q,s,m,o,p⟩:=f (by omega);refine⟨g,i,q,s,m,o,λj u l=>p j u ?_⟩;have r:xs=xs.take k++xs.drop k:=(vX k xs).symm;rw[r,nN,qv (aB l)];exact l
def jT.some_{w:World}(h:jT w Z hi xs [v])(j:0<xs.length):∃g c,v=.slice (some ⟨g,0,none⟩) xs.length c/\Z<=g/\g<hi/\∃n,aX w g 65 n:=by
 obtain⟨A,c,e,a,b,o,d,f⟩:=h;cases e;obtain⟨g,i,rfl,k,l,m,_⟩:=f j;exact⟨g,c,rfl,k,l,i,m⟩
def jT.at_{w:World}(h:jT w Z hi xs [.slice (some ⟨g,0,none⟩) n c]){x:Hd}(j:xs[i]?=some x) :
  oL.good x/\w.cell? ⟨g,i*2,none⟩=some (.int .i64 x.b)/\w.cell? ⟨g,i*2+1,none⟩=some (.int .i64 x.s):=by
 obtain⟨A,q,e,a,b,t,d,f⟩:=h;simp only[qi,nF,qw] at e;obtain⟨rfl,rfl,rfl⟩:=e;obtain⟨r,o,m,p,s,k,l⟩:=f (by have:=aB j;omega);simp only[me,qA,qw] at m;subst m;refine⟨d x (db j), ?_, ?_⟩
 .rw[k.cell];exact l _ _ (eu oL xs i 0 x _ j rfl)
 .rw[k.cell];exact l _ _ (eu oL xs i 1 x _ j rfl)
def jT.frozen{w:World}(h:jT w Z hi xs [.slice (some ⟨g,0,none⟩) n c])(k:0<xs.length)(j:Nat):w.frozen? ⟨g,j,none⟩=false:=by
 obtain⟨A,p,e,a,b,t,d,f⟩:=h;simp only[qi,nF,qw] at e;obtain⟨rfl,rfl,rfl⟩:=e;obtain⟨q,l,i,o,r,m,s⟩:=f k;simp only[me,qA,qw] at i;subst i;exact m.frozen j
def jT.put{w:World}(h:jT w Z hi xs [.slice (some ⟨g,0,none⟩) n c]){x y:Hd}{u:Value}(s:xs[i]?=some x)(K:j<2)(C:oL.good y)(I:oL.cells y=(oL.cells x).set j u) :
  jT (w.setCell ⟨g,i*2+j,none⟩ u) Z hi (xs.set i y) [.slice (some ⟨g,0,none⟩) n c]:=by
 obtain⟨A,M,e,a,b,L,d,f⟩:=h;simp only[qi,nF,qw] at e;obtain⟨rfl,rfl,rfl⟩:=e;have t:=aB s;obtain⟨N,l,r,H,D,E,q⟩:=f (by omega);simp only[me,qA,qw] at r;subst r;refine⟨_,c,by rw[qW],by rw[qW];exact a,b,L,λz G=> ?_,λ_=>⟨g,l.setIfInBounds (i*2+j) u,rfl,H,D,E.bc _ _,λk v m=> ?_⟩⟩
 .rcases th G with F|rfl
  .exact d z F
  .exact C
 .rw[acJ xs i j x y u s K I] at m;by_cases o:i*2+j=k
  .subst o;have p:i*2+j<(eb oL xs).length:=by rw[et];show _<xs.length*2;omega
   rw[show oL.sz=2 from rfl,rz p] at m;have B:=q _ _ (jn p);have J:i*2+j<l.size:=(dl.1 B).1;rw[oR,du rfl,du J];exact m
  .rw[show oL.sz=2 from rfl,rM o] at m;rw[oR,da o];exact q k v m
structure pO (w:World) (lo hi:Nat) (s:dH) (va vb vc:Value):Prop where
 pk:bF w lo hi s.pk [va]
 sn:bV w lo hi s.sn [vb]
 lg:jT w lo hi s.lg [vc]
def eT.w{w:World}(h:eT w Z hi s X W V):pO w Z hi s X W V:=⟨h.pk,h.sn,dD.w h.lg⟩
def pO.go{w : World}(h:pO w Z hi s X W V)(d:∀b,Z<=b->b<hi->w'.heap[b]?=w.heap[b]?)(c:eY<=Z)(a:hi<=hi'):pO w' eY hi' s X W V:=
 ⟨bF.ar.loc.go d c a h.pk,bV.ar.loc.go d c a h.sn,jT.ar.loc.go d c a h.lg⟩
def pO.below{w : World}(h:pO w Z hi s X W V)(a:Below B w w')(d:hi<=B):pO w' Z hi s X W V:=h.go (λb _ c=>a.block b (by omega)) (am _) (am _)
def pO.l{w:World}(h:pO w Z hi s X W V):fI w Z hi s X W V:=⟨bF.l h.pk,bV.l h.sn,jT.l h.lg⟩
end
section
variable {β:Bool}
open Go.RowKit
abbrev nt(l:iQ):Array Value:=#[.int .i64 l.k,.int .i64 l.n,.int .i64 l.m,.string l.b]
def aoX(s s':dH)(w:World)(lo hi gs:Nat)(T:List TypeId)(e:Ending)(w':World):Prop:=
 e=.returned (.tuple #[])/\∃d a c,aX w' gs 27 #[d,a,c]/\pO w' lo hi s' d a c/\aZ (λb=>b=gs\/(lo<=b/\b<hi/\Typed w T b)) w w'
def dC{w:World}{t:TypeId}{cs:Array Value}(a:aX w g t cs)(c:t∉T):¬Typed w T g:=λ⟨d,b,e,hd⟩=>c (cL a hd▸b)
def gJ{w:World}{U : List TypeId}(h:Typed w U b)(d:∀t∈T,t∉U):¬Typed w T b:=λ⟨e,f,i,hd⟩=>by
 obtain⟨t,c,g,a⟩:=h;exact d e f (cL a hd▸c)
def aAp(l:iQ)(b:Nat)(Q:World->Prop)(f:∀a,Q a->aX a b 29 (nt l)):aoW (β:=β) 40 #[.pointer (some ⟨b,0,none⟩)] (λn=>n ==l.n) Q:=by
 intro n A m c a e;have k:=f a e;have g:a.cell? ⟨b,1,none⟩=some (.int .i64 l.n):=k.cell 1;show Calls _ _ #[.agg #[.int .i64 n,.slice A m c],.pointer (some ⟨b,0,none⟩)] _ _;have d:=au a (.cells #[.int .i64 n,.slice A m c] 54);have i:=aU d g;go_enter ye,ntmps40;go_wp2;go_ret;exact⟨rfl,d⟩
def ax3:aa3 (β:=β) 40:=adC ye (by kernel_rfl) rfl
def arG(s:dH)(l:iQ)(gs x:Nat)(F B G:Value)(w:World)(g hi:Nat)(h:pO w g hi s F B G)(S:hi<=w.heap.size)(o:aX w gs 27 #[F,B,G])(E:aX w x 29 (nt l))(J:l.k=1) :
  Calls (ai β) 38 #[.pointer (some ⟨gs,0,none⟩),.pointer (some ⟨x,0,none⟩)] w (aoX s (dJ s l) w g hi gs [54]):=by
 rw[pK J];obtain⟨C,H,Q⟩:=h;obtain⟨A,a,rfl⟩:=aP.form C;have Y:w.cell? ⟨gs,0,none⟩=some (.slice A s.pk.length a):=o.cell 0;go_enter yf,ntmps38;go_wp2;refine(afz 40 _ (λn=>n ==l.n) s.pk _ w g hi C S ax3 (aAp l x _ λw' K=>aO E K λo=>dC E (by decide) o.2.2)).mono ?_;rintro e d ⟨V,rfl,D,m⟩;obtain⟨k,r,rfl⟩:=aP.form D;have f:=aO o m λq=>dC o (by decide) q.2.2;have R:d.cell? ⟨gs,0,none⟩=some (.slice A s.pk.length a):=f.cell 0;have X:=f.frozen 0;have W:=m.size;have y:=f.bc 0 (.slice k (s.pk.filter λp=>!(p.no ==l.n)).length r);have O:=bV.ar.go (w':=d) (eY:=g) (hi':=hi) (λb t v c=>m.block b (by omega) λq=>gJ c (by decide) q.2.2) (am _) (am _) H;have P:=jT.ar.go (w':=d) (eY:=g) (hi':=hi) (λb t v c=>m.block b (by omega) λq=>gJ c (by decide) q.2.2) (am _) (am _) Q;have i:∀(u:Value) {T:List TypeId} (b:Nat),27∉T->Typed d T b->(d.setCell ⟨gs,0,none⟩ u).heap[b]?=d.heap[b]?:=λu T b L c=>io _ _ _ _ (by rintro rfl;exact dC f L c);have M:=bF.ar.go (w':=d.setCell ⟨gs,0,none⟩ (.slice k (s.pk.filter λp=>!(p.no ==l.n)).length r)) (eY:=g) (hi':=hi) (λb t v c=>i _ b (by decide) c) (am _) (am _) D;have U:=bV.ar.go (w':=d.setCell ⟨gs,0,none⟩ (.slice k (s.pk.filter λp=>!(p.no ==l.n)).length r)) (eY:=g) (hi':=hi) (λb t v c=>i _ b (by decide) c) (am _) (am _) O;have N:=jT.ar.go (w':=d.setCell ⟨gs,0,none⟩ (.slice k (s.pk.filter λp=>!(p.no ==l.n)).length r)) (eY:=g) (hi':=hi) (λb t v c=>i _ b (by decide) c) (am _) (am _) P;have z:=(m.mono (T:=λb=>b=gs\/(g<=b/\b<hi/\Typed w [54] b)) λb _ I=>.inr I).setCell (p:=⟨gs,0,none⟩) (.inl (.inl rfl)) (.slice k (s.pk.filter λp=>!(p.no ==l.n)).length r);have j:=ab (And.intro M (And.intro U (And.intro N (And.intro z y))));go_wp2
 go_end0
 exact⟨rfl,_,_,_,by simpa using j.out.2.2.2.2,⟨j.out.1,j.out.2.1,j.out.2.2.1⟩,j.out.2.2.2.1⟩
end
section
variable {β:Bool}
open Go.RowKit
def mz{α:Type}(f:α->α)(l:List α)(j:Nat):List α:=(l.take j).map f++l.drop j
def ae6(f:Y->Y)(l:List Y):mz f l 0=l:=rfl
def agj(f:Y->Y)(l:List Y):mz f l l.length=l.map f:=by
 unfold mz;rw[gE,uG,sg]
def agk(f:Y->Y)(l:List Y)(j:Nat):(mz f l j).length=l.length:=by
 unfold mz;rw[aE,qh,eg,qp];omega
def acR(f:Y->Y){l:List Y}(h:l[j]?=some x):(mz f l j)[j]?=some x:=by
 unfold mz;have b:=aB h;have a:((l.take j).map f).length=j:=by rw[qh,eg];omega
 rw[ql (by omega),a,tq,sN,tu];exact h
def abg(f:Y->Y){l:List Y}(h:l[j]?=some x):(mz f l j).set j (f x)=mz f l (j+1):=by
 have a:=aB h;have b:((l.take j).map f).length=j:=by rw[qh,eg];omega
 unfold mz;rw[uL _ _ (by omega),b,tq,rZ a,ff,lE h,tF,tf];rfl
def lL(f:Y->Y){l:List Y}(h:l[j]?=some x)(c:f x=x):mz f l (j+1)=mz f l j:=by
 rw[<-abg f h,c];have b:=acR f h;apply tL;intro k;by_cases a:j=k
 .subst a;rw[rz (aB b),b]
 .rw[rM a]
def pP{l:iQ}{p:Pk}(h:¬(p.no=l.n/\0<=l.m/\l.m<p.its.length)):fK l p=p:=da h
def arH(s:dH)(l:iQ)(gs gl:Nat)(va vb vc:Value)(w:World)(J hi:Nat)(h:pO w J hi s va vb vc)(aR:hi<=w.heap.size)(Y:aX w gs 27 #[va,vb,vc])(hl:aX w gl 29 (nt l))(hk:l.k=3)(aJ:l.b.size<=maxLen) :
  Calls (ai β) 46 #[.pointer (some ⟨gs,0,none⟩),.pointer (some ⟨gl,0,none⟩)] w (aoX s (dJ s l) w J hi gs [63]):=by
 rw[pL hk];obtain⟨h1,h2,h3⟩:=h;obtain⟨A,a,rfl⟩:=aP.form h1;obtain⟨_,ha,v⟩:=(bF.l h1).len_;unfold maxLen at v;have c0:w.cell? ⟨gs,0,none⟩=some (.slice A s.pk.length a):=Y.cell 0;go_enter ya,ntmps46;go_wp2;go_loopw [10] (λii wr=>∃j:Nat,j<=s.pk.length/\ii=.int .i64 j/\bF wr J hi (mz (fK l) s.pk j) [.slice A s.pk.length a]/\aZ (λb=>J<=b/\b<hi/\Typed w [63] b) w wr) (λii _=>s.pk.length-(intOf ii).toNat)
 case atStart=>exact⟨0,fa _,rfl,by rw[ae6];exact h1,aZ.refl _ _⟩
 case round=>
  obtain⟨j,hj,rfl,r,n⟩:=hrel;have zr:=n.size;by_cases a7:j<s.pk.length
  .obtain⟨x,cH⟩:=aq a7;have Z:=acR (fK l) cH;have X:=agk (fK l) s.pk j;obtain⟨g,c',e,b3,b9,b1,a4,ax⟩:=aP.some_ r (by rw[X];omega);simp only[nF] at e;obtain⟨rfl, -,rfl⟩:=e;have HX:=ab cH;have aG:=ab Z;have k:=abg (fK l) cH;replace k:=ab k;clear cH Z X ax a4;obtain⟨m,m',es,l1,l2,l3,b7,⟨v2,rfl,a3,o⟩,i,a2⟩:=aP.at_ kI.ar (by decide) r aG.out;obtain⟨A2,G,rfl⟩:=aP.form o;obtain⟨_,ml,jX⟩:=(abc.l o).len_;unfold maxLen at jX;have b6:wr.cell? ⟨g,j*2,none⟩=some (.int .i64 x.no):=i 0 _ rfl;have bb:wr.cell? ⟨g,j*2+1,none⟩=some (.slice A2 x.its.length G):=i 1 _ rfl;have O:=ab o;have V:=ab a2;have U:=aO hl n λv=>dC hl (by decide) v.2.2;have f:=au wr (.cells #[.int .i64 x.no,.slice A2 x.its.length G] 54);have D:=ah U f;have ba:(wr.alloc (.cells #[.int .i64 x.no,.slice A2 x.its.length G] 54)).cell? ⟨gl,1,none⟩=some (.int .i64 l.n):=D.cell 1;have aa:(wr.alloc (.cells #[.int .i64 x.no,.slice A2 x.its.length G] 54)).cell? ⟨gl,2,none⟩=some (.int .i64 l.m):=D.cell 2;have b5:(wr.alloc (.cells #[.int .i64 x.no,.slice A2 x.its.length G] 54)).cell? ⟨gl,3,none⟩=some (.string l.b):=D.cell 3;clear i o a2 U D;by_cases H:x.no=l.n
   .have t1:(x.no ==l.n)=true:=nf.2 H;replace H:=ab H;by_cases E:0<=l.m
    .have t2:decide (0<=l.m)=true:=dj E;obtain⟨F,C⟩:=qk E;by_cases P:l.m<(x.its.length:Int)
     .have t3:decide (l.m<(x.its.length:Int))=true:=dj P;have af:F<x.its.length:=by omega
      obtain⟨y,cV⟩:=aq af;obtain⟨L,ci,ei,al,ad,a5,aI,a8⟩:=aP.some_ O.out (by omega);simp only[nF] at ei;obtain⟨rfl, -,rfl⟩:=ei;have c:=abc.ar.below O.out f (by omega);obtain⟨n1,n2,b0, -, -, -, -,⟨rfl,aT⟩,W, -⟩:=aP.at_ (bU.ar mL) (by decide) c cV;have b4:(wr.alloc (.cells #[.int .i64 x.no,.slice (some ⟨L,0,none⟩) x.its.length G] 54)).cell? ⟨L,F*2+1,none⟩=some (.string y.b):=W 1 _ rfl;have b8:=aP.frozen c (F*2+1);have M:=aP.put (j:=1) (u:=.string l.b) (bU.ar mL) (by decide) c cV (y:=(⟨y.n,l.b⟩:It)) (by decide) rfl (λw' J hi es hh=>⟨by rw[hh.1];rfl,hh.2.1,aJ⟩);have a0:fK l x=⟨x.no,x.its.set F ⟨y.n,l.b⟩⟩:=by
       unfold fK;rw[du ⟨H.out,E,P⟩,nY (x:=y) (by rw[C];exact cV),C];rfl
      have ao:Typed wr [63] L:=⟨_,qB,aI,a8⟩;have q:aZ (λb=>m<=b/\b<m'/\Typed wr [63] b) wr ((wr.alloc (.cells #[.int .i64 x.no,.slice (some ⟨L,0,none⟩) x.its.length G] 54)).setCell ⟨L,F*2+1,none⟩ (.string l.b)):=
       (aZ.aM (S:=λb=>m<=b/\b<m'/\Typed wr [63] b) f).setCell (p:=⟨L,F*2+1,none⟩) (.inl ⟨al,ad,ao⟩) (.string l.b)
      have oC:=V.out _ ⟨x.no,x.its.set F ⟨y.n,l.b⟩⟩ q ⟨.slice (some ⟨L,0,none⟩) x.its.length G,rfl,a3,M⟩;rw[<-a0,k.out] at oC;have N:=n.trans q λb hb v=>⟨by omega,by omega,lG n (T:=[63]) (λt Q=>Q) (show b<hi by omega) aR (λY=>Y.2.2) v.2.2⟩;have a6:L<wr.heap.size:=a5;rw[World.setCell_alloc_past _ _ _ _ a6] at oC N;have an:=ab oC;have a9:=ab N;have ay:(l.m:Int)=((F:Nat):Int):=C;clear r n oC N q M W a0 cV V O c f E P C;have aY:((F:Nat):Int)<(x.its.length:Int):=by omega
      rw[ay] at t2 t3 aa;go_wp2;go_roundw
      case rel=>exact⟨j+1,by omega,by go_num,an.out,a9.out⟩
      simp[intOf];omega
     .have t3:decide (l.m<(x.its.length:Int))=false:=bv P;replace P:=ab P;clear E C;have K:=lL (fK l) HX.out (pP (λh=>P.out h.2.2));have HS:=ab K;clear K;have I:=bF.ar.below r f (by omega);have d:=n.trans (aZ.aM (S:=λ_=>False) f) λ_ _ h=>h.elim;have z:=ab I;have B:=ab d;clear r n I d f;go_wp2;go_roundw
      case rel=>exact⟨j+1,by omega,by go_num,by rw[HS.out];exact z.out,B.out⟩
      simp[intOf];omega
    .have t2:decide (0<=l.m)=false:=bv E;replace E:=ab E;have K:=lL (fK l) HX.out (pP (λh=>E.out h.2.1));have HS:=ab K;clear K;have I:=bF.ar.below r f (by omega);have d:=n.trans (aZ.aM (S:=λ_=>False) f) λ_ _ h=>h.elim;have z:=ab I;have B:=ab d;clear r n I d f;go_wp2;go_roundw
     case rel=>exact⟨j+1,by omega,by go_num,by rw[HS.out];exact z.out,B.out⟩
     simp[intOf];omega
   .have t1:(x.no ==l.n)=false:=dk.2 H;replace H:=ab H;have K:=lL (fK l) HX.out (pP (λh=>H.out h.1));have HS:=ab K;clear K;have I:=bF.ar.below r f (by omega);have d:=n.trans (aZ.aM (S:=λ_=>False) f) λ_ _ h=>h.elim;have z:=ab I;have B:=ab d;clear r n I d f;go_wp2;go_roundw
    case rel=>exact⟨j+1,by omega,by go_num,by rw[HS.out];exact z.out,B.out⟩
    simp[intOf];omega
  .obtain rfl:j=s.pk.length:=by omega
   rw[agj] at r;have a1:=aO Y n λv=>dC Y (by decide) v.2.2;have o2:=bV.ar.go (w':=wr) (eY:=J) (hi':=hi) (λb f b2 Q=>n.block b (by omega) λv=>gJ Q (by decide) v.2.2) (am _) (am _) h2;have o3:=jT.ar.go (w':=wr) (eY:=J) (hi':=hi) (λb f b2 Q=>n.block b (by omega) λv=>gJ Q (by decide) v.2.2) (am _) (am _) h3;have q:=n.mono (T:=λb=>b=gs\/(J<=b/\b<hi/\Typed w [63] b)) λb _ hb=>.inr hb;have R:=ab (And.intro r (And.intro o2 (And.intro o3 (And.intro q a1))));clear r o2 o3 q a1;go_wp2
   go_end0
   exact⟨rfl,_,_,_,R.out.2.2.2.2,⟨R.out.1,R.out.2.1,R.out.2.2.1⟩,R.out.2.2.2.1⟩
end
section
variable {β:Bool}
open Go.RowKit
def bC.am1{w:World}{xs:List Y}(h:bC E Z w U hi xs [.slice A n c])(z:k<=xs.length):bC E Z w U hi (xs.drop k) [.slice (if c=k then A else A.map λx=>x.add (k*Z)) (xs.length-k) (c-k)]:=by
 obtain⟨A',y,g,B,C,t⟩:=h;simp only[qi,nF,qw] at g;obtain⟨rfl,rfl,rfl⟩:=g;refine⟨_,c-k,by rw[qp],by rw[qp];omega,by omega,λq=> ?_⟩;rw[qp] at q;have a:¬c=k:=by omega
 have f:0<xs.length:=by omega
 obtain⟨b,e,rfl,o,l,d⟩:=t f;refine⟨b,e+k*Z,by rw[da a];simp only[qr,aeH],o,l,λi x hi=> ?_⟩;rw[sN] at hi;obtain⟨r,s,m,p⟩:=d _ _ hi;refine⟨r,s,m,λj u v=> ?_⟩;have:=p j u v;rw[<-this,Nat.add_mul]
 congr 2
 omega
def arI(s s':dH)(a:s'=s)(gs:Nat)(d c b:Value)(w:World)(e hi:Nat)(h:pO w e hi s d c b)(f:aX w gs 27 #[d,c,b]) :
  Calls (ai β) 48 #[.pointer (some ⟨gs,0,none⟩)] w (aoX s s' w e hi gs []):=by
 subst a;go_enter xZ,ntmps48;go_wp2
 go_end0
 exact⟨rfl,_,_,_,f,h,aZ.refl _ _⟩
def arJ(s:dH)(l:iQ)(gs S:Nat)(va vb vc:Value)(w:World)(q hi:Nat)(h:pO w q hi s va vb vc)(G:hi<=w.heap.size)(E:aX w gs 27 #[va,vb,vc])(hl:aX w S 29 (nt l))(U:l.k=4) :
  Calls (ai β) 47 #[.pointer (some ⟨gs,0,none⟩),.pointer (some ⟨S,0,none⟩)] w (aoX s (dJ s l) w q hi gs [65]):=by
 have hh:=h;obtain⟨h1,h2,x⟩:=h;obtain⟨C,c,rfl⟩:=jT.form x;obtain⟨_,ha,hx⟩:=(jT.l x).len_;unfold maxLen at hx;have H:w.cell? ⟨gs,2,none⟩=some (.slice C s.lg.length c):=E.cell 2;have F:w.cell? ⟨S,1,none⟩=some (.int .i64 l.n):=hl.cell 1;by_cases A:0<=l.n
 .have t1:decide (0<=l.n)=true:=dj A;by_cases v:l.n<(s.lg.length:Int)
  .have t2:decide (l.n<(s.lg.length:Int))=true:=dj v;rw[pM U ⟨A,v⟩];obtain⟨a,Y⟩:=qk A;obtain⟨y,B⟩:=aq (l:=s.lg) (k:=a) (by omega);have I:sb s.lg l.n.toNat jS=s.lg.set a (jS y):=by
    have:l.n.toNat=a:=by omega
    rw[this,nY B]
   rw[I];obtain⟨g,c',e,W,X,a0,o⟩:=jT.some_ x (by omega);simp only[nF] at e;obtain⟨rfl, -,rfl⟩:=e;obtain⟨J,P,a2⟩:=jT.at_ x B;have ja:oL.good (jS y):=by
    refine⟨?_,J.2⟩;show cA (wrap64 (3-y.b));unfold cA wrap64;omega
   have Z:∀w',Below w.heap.size w w'->jT (w'.setCell ⟨g,a*2,none⟩ (.int .i64 (wrap64 (3-y.b)))) q hi (s.lg.set a (jS y)) [.slice (some ⟨g,0,none⟩) s.lg.length c]:=λw' i=>
    jT.put (j:=0) (jT.ar.below x i G) B (by decide) ja rfl
   replace Z:=ab Z;replace B:=ab B;rw[Y] at t1 t2 F v;go_enter wZ,ntmps47;go_wp2;have K:=ae H;have O:=ae F;refine aD 13 [0,1,2,3,4,5,6,7,8,9,10,11,12] [] (h:= ?_);simp only[pick,List.map,gn,gt];repeat(go_big_quiet_step (fail))
   refine ip ?_;apply Exists.intro;refine aS ?_;intro wq d M m f;dsimp only[dV] at f;try rw[m] at f
   simp only[List.drop];have V:=aU d H;have N:=aU d F;have z:=aU d P;have a1:¬(((a:Nat):Int)<0):=by omega
   go_wp2;have K:=ae V;have O:=ae N;have bB:=ae z;refine aD 16 [0,1,2,3,4,5,6,7,8,9,10,11,12,13,14,15] [] (h:= ?_);simp only[pick,List.map,gn,gt];repeat(go_big_quiet_step (fail))
   refine ip ?_;apply Exists.intro;refine aS ?_;intro n hz M m f;dsimp only[dV] at f;try rw[m] at f
   simp only[List.drop];have i:=ag d hz;have a3:=aU hz z;have D:=ah o i;have a4:=D.frozen (a*2);have oC:=Z.out n i;have Q:=bW (ah E i) (p:=⟨g,a*2,none⟩) (.int .i64 (wrap64 (3-y.b))) (λe=>by have e':gs=g:=e;subst e';have:=cL E o;revert this;decide);have r:∀{T:List TypeId} (b:Nat),65∉T->Typed n T b->(n.setCell ⟨g,a*2,none⟩ (.int .i64 (wrap64 (3-y.b)))).heap[b]?=n.heap[b]?:=λb hT t=>io _ _ _ _ (by rintro rfl;exact dC D hT t);have L:=bF.ar.go (w':=n.setCell ⟨g,a*2,none⟩ (.int .i64 (wrap64 (3-y.b)))) (eY:=q) (hi':=hi) (λb _ _ t=>r b (by decide) t) (am _) (am _) (bF.ar.below h1 i G);have fj:=bV.ar.go (w':=n.setCell ⟨g,a*2,none⟩ (.int .i64 (wrap64 (3-y.b)))) (eY:=q) (hi':=hi) (λb _ _ t=>r b (by decide) t) (am _) (am _) (bV.ar.below h2 i G);have R:aZ (λb=>b=gs\/(q<=b/\b<hi/\Typed w [65] b)) w (n.setCell ⟨g,a*2,none⟩ (.int .i64 (wrap64 (3-y.b)))):=(aZ.aM i).setCell (p:=⟨g,a*2,none⟩) (.inl (.inr ⟨W,X,_,qB,a0,o⟩)) _;have u:=ab (And.intro L (And.intro fj (And.intro oC (And.intro R Q))));go_wp2
   go_end0
   exact⟨rfl,_,_,_,u.out.2.2.2.2,⟨u.out.1,u.out.2.1,u.out.2.2.1⟩,u.out.2.2.2.1⟩
  .have t2:decide (l.n<(s.lg.length:Int))=false:=bv v;rw[kS U (λh=>v h.2)];go_enter wZ,ntmps47;go_wp2;have K:=ae H;have O:=ae F;refine aD 13 [0,1,2,3,4,5,6,7,8,9,10,11,12] [] (h:= ?_);simp only[pick,List.map,gn,gt];repeat(go_big_quiet_step (fail))
   refine ip ?_;apply Exists.intro;refine aS ?_;intro wq d M m f;dsimp only[dV] at f;try rw[m] at f
   simp only[List.drop];go_wp2
   go_end0
   exact⟨rfl,_,_,_,ah E d,hh.below d G,aZ.aM d⟩
 .have t1:decide (0<=l.n)=false:=bv A;rw[kS U (λh=>A h.1)];go_enter wZ,ntmps47;go_wp2;have K:=ae H;have O:=ae F;refine aD 13 [0,1,2,3,4,5,6,7,8,9,10,11,12] [] (h:= ?_);simp only[pick,List.map,gn,gt];repeat(go_big_quiet_step (fail))
  refine ip ?_;apply Exists.intro;refine aS ?_;intro wq d M m f;dsimp only[dV] at f;try rw[m] at f
  simp only[List.drop];go_wp2
  go_end0
  exact⟨rfl,_,_,_,ah E d,hh.below d G,aZ.aM d⟩
end
section
variable {β:Bool}
open Go.RowKit
def arK(F:Nat)(dL:Array Value)(p:Int->Bool)(Q:World->Prop):Prop:=∀(b s:Int) (a:World),Q a->Calls (ai β) F (#[.agg #[.int .i64 b,.int .i64 s]]++dL) a λe c=>e=.returned (.bool (p s))/\Below a.heap.size a c
def ahA(F:Nat)(t:Array Value)(p:Int->Bool)(xs:List Hd)(v:Value)(w:World)(I hi:Nat)(h:cx w I hi xs [v])(H:hi<=w.heap.size)(D:aa3 (β:=β) F)(q:arK (β:=β) F t p λj=>Below w.heap.size w j) :
  Calls (ai β) 70 #[v,.func (.func F) #[] t] w λe j=>arE xs (λx=>p x.s) e/\Below w.heap.size w j:=by
 obtain⟨A,c,rfl⟩:=bC.form h;obtain⟨_,K,G⟩:=h.len_;unfold maxLen at G;replace q:=ab q;go_enter xQ,ntmps70;go_wp2;go_loopw [8] (λu wr=>∃k:Nat,k<=xs.length/\u=.int .i64 k/\(∀y∈xs.take k,p y.s=false)/\Below w.heap.size w wr) (λu _=>xs.length-(intOf u).toNat)
 case atStart=>exact⟨0,fa _,rfl,by simp,fd _ _⟩
 case round=>
  obtain⟨k,J,rfl,i,a⟩:=hrel;replace i:=ab i;by_cases r:k<xs.length
  .obtain⟨x,n⟩:=aq r;obtain⟨b,m,L,C,_,E,_,⟨rfl,B⟩,f⟩:=(cx.loc.below h a H).at_ n;subst C;have l:wr.cell? ⟨b,m+k*2,none⟩=some (.int .i64 x.b):=by simpa using f 0 _ rfl
   have o:wr.cell? ⟨b,m+k*2+1,none⟩=some (.int .i64 x.s):=by simpa using f 1 _ rfl
   replace n:=ab n;clear f;have z:=D (#[.agg #[.int .i64 x.b,.int .i64 x.s]]++t) wr;cases d:p x.s
   .replace d:=ab d;go_wp2;refine(q.out x.b x.s wr a).mono ?_;rintro e j ⟨rfl,s⟩;rw[d.out];clear z l o;go_wp2;go_roundw
    case rel=>
     refine⟨k+1,by omega,by go_num,λy g=> ?_,ag a s⟩;rw[lE n.out,oE] at g;rcases g with g|g
     .exact i.out y g
     .rw[ph.1 g];exact d.out
    case measure=>simp[intOf];omega
   .replace d:=ab d;go_wp2;refine(q.out x.b x.s wr a).mono ?_;rintro e j ⟨rfl,s⟩;rw[d.out];clear z l o;go_wp2;go_ret;exact⟨.inr ⟨k,x,rfl,n.out,d.out,i.out⟩,ag a s⟩
  .obtain rfl:k=xs.length:=by omega
   rw[gE] at i;go_wp2;go_ret;exact⟨.inl ⟨rfl,i.out⟩,a⟩
def adI(F:Nat)(k:Array Value)(p:Int->Bool)(xs:List Hd)(v:Value)(w:World)(n hi:Nat)(h:cx w n hi xs [v])(t:hi<=w.heap.size)(q:aa3 (β:=β) F)(l:arK (β:=β) F k p λd=>Below w.heap.size w d) :
  Calls (ai β) 44 #[v,.func (.func F) #[] k] w λe d=>e=.returned (.bool (xs.any λx=>p x.s))/\Below w.heap.size w d:=by
 obtain⟨A,c,rfl⟩:=bC.form h;replace l:=ab l;go_enter yc,ntmps44;go_wp2;refine(ahA F k p xs _ w n hi h t q l.out).mono ?_;rintro e u ⟨b,m⟩;rcases b with⟨rfl,a⟩|⟨i,x,rfl,j,r, -⟩
 .have g:(xs.any λx=>p x.s)=false:=by rw[List.any_eq_false];intro y s;have o:p y.s=false:=a y s;rw[o];simp
  have f:=ab g;go_wp2;go_ret;exact⟨aF f.out.symm,m⟩
 .have g:(xs.any λx=>p x.s)=true:=by rw[List.any_eq_true];exact⟨x,db j,r⟩
  have f:=ab g;go_wp2;go_ret;exact⟨aF f.out.symm,m⟩
def ax7(d:Int)(u:Value)(c:Nat)(Q:World->Prop)(g:∀a,Q a->aX a c 58 #[.int .i64 d,u]):arK (β:=β) 45 #[.pointer (some ⟨c,0,none⟩)] (λs=>s ==d) Q:=by
 intro b s a f;have k:=g a f;have i:a.cell? ⟨c,0,none⟩=some (.int .i64 d):=k.cell 0;show Calls _ _ #[.agg #[.int .i64 b,.int .i64 s],.pointer (some ⟨c,0,none⟩)] _ _;have e:=au a (.cells #[.int .i64 b,.int .i64 s] 65);have j:=aU e i;go_enter yb,ntmps45;go_wp2;go_ret;exact⟨rfl,e⟩
def auY:aa3 (β:=β) 45:=adC yb (by kernel_rfl) rfl
def aAs(g:List Hd)(v:Value)(b:Nat)(Q:World->Prop)(w:∀a,Q a->aX a b 25 #[v]/\∃o i,i<=a.heap.size/\cx a o i g [v]):aoW (β:=β) 43 #[.pointer (some ⟨b,0,none⟩)] (λno=>g.any λh=>h.s ==no) Q:=by
 intro n A m c a l;obtain⟨k,o,i,q,p⟩:=w a l;obtain⟨B,d,rfl⟩:=bC.form p;have y:a.cell? ⟨b,0,none⟩=some (.slice B g.length d):=k.cell 0;show Calls _ _ #[.agg #[.int .i64 n,.slice A m c],.pointer (some ⟨b,0,none⟩)] _ _;have f:=au a (.cells #[.int .i64 n,.slice A m c] 58);have j:=cx.loc.below p f q;have t:=aX.new a 58 #[.int .i64 n,.slice A m c];have u:=aU f y;go_enter yd,ntmps43;go_wp2;refine(adI 45 _ (λs=>s ==n) g _ _ o i j (ap q f.size) auY (ax7 n (.slice A m c) a.heap.size _ λx l=>ah t l)).mono ?_;rintro e z ⟨rfl,r⟩;go_wp2;go_ret;exact⟨rfl,ag f r⟩
def ax8:aa3 (β:=β) 43:=adC yd (by kernel_rfl) rfl
def arL(s:dH)(l:iQ)(gs gl:Nat)(va vb vc:Value)(w:World)(o hi:Nat)(h:pO w o hi s va vb vc)(aR:hi<=w.heap.size)(hs:aX w gs 27 #[va,vb,vc])(hl:aX w gl 29 (nt l))(O:l.k=2) :
  Calls (ai β) 41 #[.pointer (some ⟨gs,0,none⟩),.pointer (some ⟨gl,0,none⟩)] w (aoX s (dJ s l) w o hi gs [58]):=by
 have hh:=h;obtain⟨h1,h2,h3⟩:=h;obtain⟨C,c,rfl⟩:=jT.form h3;obtain⟨B,b,rfl⟩:=aP.form h2;obtain⟨_,ha,m⟩:=(jT.l h3).len_;unfold maxLen at m;have c2:w.cell? ⟨gs,2,none⟩=some (.slice C s.lg.length c):=hs.cell 2;have cl:w.cell? ⟨gl,1,none⟩=some (.int .i64 l.n):=hl.cell 1;by_cases e1:l.n<0
 .have t1:decide (l.n<0)=true:=dj e1;rw[kR O (λh=>by omega)];clear e1;go_enter xc,ntmps41;go_wp2;have H:=ae c2;have G:=ae cl;refine aD 13 [0,1,2,3,4,5,6,7,8,9,10,11,12] [] (h:= ?_);simp only[pick,List.map,gn,gt];repeat(go_big_quiet_step (fail))
  refine ip ?_;clear H G;apply Exists.intro;refine aS ?_;intro wq q I z f;dsimp only[dV] at f;try rw[z] at f
  clear z I;simp only[List.drop];clear f;go_wp2
  go_end0
  exact⟨rfl,_,_,_,ah hs q,hh.below q aR,aZ.aM q⟩
 .have t1:decide (l.n<0)=false:=bv e1;by_cases e2:(s.lg.length:Int)<l.n
  .have t2:decide ((s.lg.length:Int)<l.n)=true:=dj e2;rw[kR O (λh=>by omega)];clear e1 e2;go_enter xc,ntmps41;go_wp2;have H:=ae c2;have G:=ae cl;refine aD 13 [0,1,2,3,4,5,6,7,8,9,10,11,12] [] (h:= ?_);simp only[pick,List.map,gn,gt];repeat(go_big_quiet_step (fail))
   refine ip ?_;clear H G;apply Exists.intro;refine aS ?_;intro wq q I z f;dsimp only[dV] at f;try rw[z] at f
   clear z I;simp only[List.drop];clear f;go_wp2
   go_end0
   exact⟨rfl,_,_,_,ah hs q,hh.below q aR,aZ.aM q⟩
  .have t2:decide ((s.lg.length:Int)<l.n)=false:=bv e2;rw[mN O ⟨by omega,by omega⟩];obtain⟨a,a0⟩:=qk (show 0<=l.n by omega);have a5:l.n.toNat=a:=by omega
   have a7:a<=s.lg.length:=by omega
   rw[a5];rw[a0] at t1 t2 cl;have ao:=a0;clear e1 e2 a0 a5;go_enter xc,ntmps41;go_wp2;have H:=ae c2;have G:=ae cl;refine aD 13 [0,1,2,3,4,5,6,7,8,9,10,11,12] [] (h:= ?_);simp only[pick,List.map,gn,gt];repeat(go_big_quiet_step (fail))
   refine ip ?_;clear H G;apply Exists.intro;refine aS ?_;intro wq q I z f;dsimp only[dV] at f;try rw[z] at f
   clear z I;simp only[List.drop];clear f;have a4:=aU q c2;have a6:=aU q cl;have g1:¬(((a:Nat):Int)<0):=by omega
   have g2:((a:Nat):Int)<=(s.lg.length:Int):=by omega
   have g3:((a:Nat):Int)<=(c:Int):=by omega
   go_wp2;have H:=ae a4;have G:=ae a6;refine aD 8 [0,1,2,3,4,5,6] [7] (by kernel_rfl) (by kernel_rfl) (by kernel_rfl) ?_;simp only[pick,List.map,gn,gt];repeat(go_big_quiet_step (fail))
   refine ip ?_;clear H G;have a9:∀w',jT w' o hi s.lg [.slice C s.lg.length c]->cx w' o hi (s.lg.drop a) [.slice (if c=a then C else Option.map (λx=>x.add (a*2)) C) (s.lg.length-a) (c-a)]:=λw' ho=>bC.am1 (jT.l ho) a7;generalize (if c=a then C else Option.map (λx=>x.add (a*2)) C)=AD at *;apply Exists.intro;apply bu (λv w'=>∃g,v=.pointer (some ⟨g,0,none⟩)/\wq.heap.size<=g/\aX w' g 25 #[.slice none 0 0])
   .rfl
   .exact λv x y ⟨g,e,hg,O⟩ hle=>⟨g,e,hg,ah O hle⟩
   .intro x f Qx X;replace X:=ab X;clear f;go_wp2;exact X.out _ _ (au _ _) ⟨_,rfl,x.ok.size,aX.new _ _ _⟩
   intro u3;refine aS ?_;intro wz hz I z f;dsimp only[dV] at f;try rw[z] at f
   clear z I;obtain⟨⟨R,rfl,b3,kv⟩, -⟩:=f;simp only[List.drop];have zq:=q.size;have zz:=hz.size;have ad:=ag q hz;have a8:=kv.bc 0 (.slice AD (s.lg.length-a) (c-a));have aY:wz.cell? ⟨R,0,none⟩=some (.slice none 0 0):=kv.cell 0;have aJ:=kv.frozen 0;have j:=ad.setCell (p:=⟨R,0,none⟩) (by dsimp only;omega) (.slice AD (s.lg.length-a) (c-a));have M:aX (wz.setCell ⟨R,0,none⟩ (.slice AD (s.lg.length-a) (c-a))) R 25 #[.slice AD (s.lg.length-a) (c-a)]:=by simpa using a8
   have F:=ah hs j;have ay:(wz.setCell ⟨R,0,none⟩ (.slice AD (s.lg.length-a) (c-a))).cell? ⟨gs,1,none⟩=some (.slice B s.sn.length b):=F.cell 1;clear kv a8 c2 cl a4 a6 g1;go_wp2;generalize wz.setCell ⟨R,0,none⟩ (.slice AD (s.lg.length-a) (c-a))=w3 at *;have z3:=j.size;have p1:=bF.ar.below h1 j aR;have p2:=bV.ar.below h2 j aR;have p3:=jT.ar.below h3 j aR;have Q:=ah hl j;have aG:(s.lg.drop a).length=s.lg.length-a:=qp;refine(afA 43 _ (λno=>(s.lg.drop a).any λh=>h.s ==no) s.sn _ w3 o hi p2 (by omega) ax8 (aAs (s.lg.drop a) (.slice AD (s.lg.length-a) (c-a)) R _ λw' q=>⟨aO M q λhs=>dC M (by decide) hs.2.2,o,hi,by have:=q.size;omega,a9 w' (jT.ar.go (λb b1 b2 d=>q.block b (by omega) λm=>gJ d (by decide) m.2.2) (am _) (am _) p3)⟩)).mono ?_;rintro e L ⟨v4,rfl,o4,W⟩;obtain⟨B4,b4,rfl⟩:=aP.form o4;have z4:=W.size;have k:=aO F W λm=>dC F (by decide) m.2.2;have U:=aO Q W λm=>dC Q (by decide) m.2.2;have q1:=bF.ar.go (w':=L) (eY:=o) (hi':=hi) (λb b1 b2 d=>W.block b (by omega) λm=>gJ d (by decide) m.2.2) (am _) (am _) p1;have q3:=jT.ar.go (w':=L) (eY:=o) (hi':=hi) (λb b1 b2 d=>W.block b (by omega) λm=>gJ d (by decide) m.2.2) (am _) (am _) p3;have b0:L.cell? ⟨gs,1,none⟩=some (.slice B s.sn.length b):=k.cell 1;have b5:=k.frozen 1;obtain⟨vv,J⟩:∃vv,vv=Value.slice B4 (s.sn.filter λx=>!((s.lg.drop a).any λh=>h.s ==x.no)).length b4:=⟨_,rfl⟩;rw[<-J] at o4;rw[<-J];have af:∃A n c,vv=.slice A n c:=⟨_,_,_,J⟩;clear J;obtain⟨P,N,Z,rfl⟩:=af;have E:=k.bc 1 (.slice P N Z);simp only[de,ff,gc] at E;have al:gl≠gs:=by rintro rfl;exact absurd (cL U k) (by decide)
   have Y:=bW U (p:=⟨gs,1,none⟩) (.slice P N Z) al;have r:∀(w':World) (i:Nat) (u:Value) {cs:Array Value} {T:List TypeId},aX w' gs 27 cs->∀(b:Nat),27∉T->Typed w' T b->(w'.setCell ⟨gs,i,none⟩ u).heap[b]?=w'.heap[b]?:=λw' i u cs T O b hT d=>io _ _ _ _ (by rintro rfl;exact dC O hT d);have r1:=bF.ar.go (w':=L.setCell ⟨gs,1,none⟩ (.slice P N Z)) (eY:=o) (hi':=hi) (λb _ _ d=>r _ 1 _ k b (by decide) d) (am _) (am _) q1;have r2:=bV.ar.go (w':=L.setCell ⟨gs,1,none⟩ (.slice P N Z)) (eY:=o) (hi':=hi) (λb _ _ d=>r _ 1 _ k b (by decide) d) (am _) (am _) o4;have r3:=jT.ar.go (w':=L.setCell ⟨gs,1,none⟩ (.slice P N Z)) (eY:=o) (hi':=hi) (λb _ _ d=>r _ 1 _ k b (by decide) d) (am _) (am _) q3;have K:aZ (λb=>b=gs\/(o<=b/\b<hi/\Typed w [58] b)) w (L.setCell ⟨gs,1,none⟩ (.slice P N Z)):=
    ((aZ.aM (S:=λb=>b=gs\/(o<=b/\b<hi/\Typed w [58] b)) j).trans W λb hb m=>.inr ⟨m.1,m.2.1,lG (aZ.aM (S:=λ_=>False) j) (T:=[58]) (λt d=>d) m.2.1 aR (λh=>h.elim) m.2.2⟩).setCell (p:=⟨gs,1,none⟩) (.inl (.inl rfl)) _
   replace K:=ab K;replace r1:=ab r1;replace r2:=ab r2;replace r3:=ab r3;replace E:=ab E;replace Y:=ab Y;clear q1 q3 o4 p1 p2 p3 k U F Q ay W j a9 M;go_wp2;generalize L.setCell ⟨gs,1,none⟩ (.slice P N Z)=w5 at *;have ax:w5.cell? ⟨gs,2,none⟩=some (.slice C s.lg.length c):=E.out.cell 2;have an:w5.cell? ⟨gl,1,none⟩=some (.int .i64 ((a:Nat):Int)):=by rw[<-ao];exact Y.out.cell 1
   have g1:¬(((a:Nat):Int)<0):=by omega
   have H:=ae ax;have G:=ae an;refine aD 10 [0,1,2,3,4,5,6,7,8,9] [] (h:= ?_);simp only[pick,List.map,gn,gt];repeat(go_big_quiet_step (fail))
   refine ip ?_;clear H G;apply Exists.intro;refine aS ?_;intro wy hy I z f;dsimp only[dV] at f;try rw[z] at f
   clear z I;simp only[List.drop];clear f;have zy:=hy.size;have z5:=K.out.size;have D:=ah E.out hy;have aI:wy.cell? ⟨gs,2,none⟩=some (.slice C s.lg.length c):=D.cell 2;have aT:=D.frozen 2;have V:=D.bc 2 (.slice C a a);simp only[de,ff,gc] at V;have a3:=bF.ar.go (w':=wy.setCell ⟨gs,2,none⟩ (.slice C a a)) (eY:=o) (hi':=hi) (λb _ _ d=>r _ 2 _ D b (by decide) d) (am _) (am _) (bF.ar.below r1.out hy (by omega));have a2:=bV.ar.go (w':=wy.setCell ⟨gs,2,none⟩ (.slice C a a)) (eY:=o) (hi':=hi) (λb _ _ d=>r _ 2 _ D b (by decide) d) (am _) (am _) (bV.ar.below r2.out hy (by omega));have a1:=jT.ar.go (w':=wy.setCell ⟨gs,2,none⟩ (.slice C a a)) (eY:=o) (hi':=hi) (λb _ _ d=>r _ 2 _ D b (by decide) d) (am _) (am _) (jT.af3 (jT.ar.below r3.out hy (by omega)) a7);have aa:=(K.out.trans (aZ.aM (S:=λ_=>False) hy) λ_ _ h=>h.elim).setCell (p:=⟨gs,2,none⟩) (.inl (.inl rfl)) (.slice C a a);have HQ:=ab (And.intro a3 (And.intro a2 (And.intro a1 (And.intro aa V))));clear a3 a2 a1 aa V r;go_wp2
   go_end0
   exact⟨rfl,_,_,_,HQ.out.2.2.2.2,⟨HQ.out.1,HQ.out.2.1,HQ.out.2.2.1⟩,HQ.out.2.2.2.1⟩
end
section
variable {β:Bool}
open Go.RowKit
def auZ(l:iQ)(w:World)(e:Ending)(w':World):Prop:=
 ∃F i,e=.returned (.func (.func F) #[] i)/\aa3 (β:=β) F/\Below w.heap.size w w'/\∀(s:dH) (a:Nat) (g f d:Value) (j b:Nat),pO w' j b s g f d->b<=w'.heap.size->aX w' a 27 #[g,f,d]->
  Calls (ai β) F (#[.pointer (some ⟨a,0,none⟩)]++i) w' λe x=>∃T,aoX s (dJ s l) w' j b a T e x
def alE(l:iQ)(w:World)(f:l.b.size<=maxLen):Calls (ai β) 14 #[.agg (nt l)] w (auZ (β:=β) l w):=by
 have i:=ab (au w (.cells (nt l) 29));have HK:=ab (aX.new w 29 (nt l));rcases(by omega:l.k=1\/l.k=2\/l.k=3\/l.k=4\/¬(l.k=1\/l.k=2\/l.k=3\/l.k=4)) with a|a|a|a|a
 case' inr.inr.inr.inr=>
  have p:(l.k ==1)=false:=dk.2 (by omega);have j:(l.k ==2)=false:=dk.2 (by omega);have o:(l.k ==3)=false:=dk.2 (by omega);have r:(l.k ==4)=false:=dk.2 (by omega);have g:=ab λs=>pN (s:=s) (l:=l) (by omega) (by omega) (by omega) (by omega)
 all_goals
  try
   obtain⟨k,n,m,b⟩:=l;dsimp only at a;subst a
  go_enter Ah,ntmps14;go_wp2;go_ret;refine⟨_,_,rfl, ?_,i.out,λs x q v u y t d e c=> ?_⟩
  .first|exact adC yf (by kernel_rfl) rfl|exact adC xc (by kernel_rfl) rfl|exact adC ya (by kernel_rfl) rfl|exact adC wZ (by kernel_rfl) rfl|exact adC xZ (by kernel_rfl) rfl
  .first|exact(arG _ _ _ _ _ _ _ _ _ _ d e c HK.out rfl).mono λ_ _ h=>⟨_,h⟩|exact(arL _ _ _ _ _ _ _ _ _ _ d e c HK.out rfl).mono λ_ _ h=>⟨_,h⟩|exact(arH _ _ _ _ _ _ _ _ _ _ d e c HK.out rfl f).mono λ_ _ h=>⟨_,h⟩|exact(arJ _ _ _ _ _ _ _ _ _ _ d e c HK.out rfl).mono λ_ _ h=>⟨_,h⟩|exact(arI _ _ (g.out s) _ _ _ _ _ _ _ d c).mono λ_ _ h=>⟨_,h⟩
def aya(w:World)(s:dH)(e:Ending)(w':World):Prop:=∃c a b,e=.returned (.agg #[c,a,b])/\pO w' w.heap.size w'.heap.size s c a b/\Below w.heap.size w w'
def adJ(s:dH)(l:iQ)(R V vc:Value)(w:World)(U hi:Nat)(h:fI w U hi s R V vc)(aR:hi<=w.heap.size)(hl:kq s<=1099511627)(K:l.b.size<=maxLen) :
  Calls (ai β) 5 #[.agg #[R,V,vc],.agg (nt l)] w (aya w (dJ s l)):=by
 obtain⟨A,a,rfl⟩:=bC.form h.pk;obtain⟨B,b,rfl⟩:=bC.form h.sn;obtain⟨C,c,rfl⟩:=bC.form h.lg;go_enter qF5,ntmps5;go_wp2;generalize u:((w.alloc (.cells #[.slice A s.pk.length a,.slice B s.sn.length b,.slice C s.lg.length c] 27)).alloc (.cells #[.int .i64 l.k,.int .i64 l.n,.int .i64 l.m,.string l.b] 29)).alloc (.cells #[.slice none 0 0,.slice none 0 0,.slice none 0 0] 27)=w0 at *;obtain⟨n,iw,k0,cN,dS,f,O,dx,d,fq,L⟩:=adA u;refine(ae3 s _ _ _ w0 U hi (h.below n aR) (ap aR n.size) hl).mono ?_;rintro e o ⟨v1,v2,v3,rfl,r,q⟩;obtain⟨N,a1,rfl⟩:=aP.form r.pk;obtain⟨S,X,rfl⟩:=aP.form r.sn;obtain⟨Z,Y,rfl⟩:=aP.form r.lg;replace f:=ah f q;replace O:=f.cell;replace dx:=f.frozen;replace d:=ah d q;replace fq:=d.cell;replace L:=d.frozen;replace n:=ag n q;have z1:=q.size;have o2:=r.w;have oH:=au o (.cells #[.slice N s.pk.length a1,.slice S s.sn.length X,.slice Z s.lg.length Y] 27);have a3:=(ah f oH).cell;go_wp2;generalize u:o.alloc (.cells #[.slice N s.pk.length a1,.slice S s.sn.length X,.slice Z s.lg.length Y] 27)=w3 at *;obtain⟨E,a2,m0,ma,a7⟩:=nh u;replace d:=ah d E;replace fq:=d.cell;replace L:=d.frozen;have I:=ag n E;have o3:=o2.below E (am _);have t:=m0;have f:=d;have O:=f.cell;have dx:=f.frozen;have a0:=t.cell;have a6:=t.frozen;refine(alE l w3 K).mono ?_;rintro e w4 ⟨F,cs,rfl,hF,k,iY⟩;have p:=ag I k;have x:=ah t k;have z:=ah f k;have o4:=o3.below k (by omega);have eP:=hF (#[.pointer (some ⟨o.heap.size,0,none⟩)]++cs) w4;have HC:=ab (iY s o.heap.size _ _ _ w0.heap.size o.heap.size o4 (by have:=k.size;omega) x);have z4:=k.size;go_wp2;refine HC.out.mono ?_;rintro e J ⟨T,rfl,ua,ub,uc,k5,j,G⟩;have z5:=G.size;have H:Below w.heap.size w J:=p.trans (G.below p.size λi hi g=>by rcases g with g|g<;>omega);have m:=aO z G λg=>by
  rcases g with g|g
  .omega
  .omega
 have a8:=k5.cell;have y:=m.cell;have a4:=m.frozen;obtain⟨A5,a5,rfl⟩:=aP.form j.pk;obtain⟨B5,b5,rfl⟩:=aP.form j.sn;obtain⟨C5,d5,rfl⟩:=jT.form j.lg;replace j:=ab j;go_wp2;have D:∀(Q W P:Value) (b:Nat),w0.heap.size<=b->(((J.setCell ⟨w.heap.size+1+1,0,none⟩ Q).setCell ⟨w.heap.size+1+1,1,none⟩ W).setCell ⟨w.heap.size+1+1,2,none⟩ P).heap[b]?=J.heap[b]?:=λQ W P b M=>by
  rw[io _ _ _ _ (by dsimp only;omega),io _ _ _ _ (by dsimp only;omega),io _ _ _ _ (by dsimp only;omega)]
 refine mx (v:=.agg #[.slice A5 (dJ s l).pk.length a5,.slice B5 (dJ s l).sn.length b5,.slice C5 (dJ s l).lg.length d5]) (by simp[results,results5,go_sem,y]) rfl ⟨_,_,_,rfl, ?_, ?_⟩
 .refine j.out.go (λb M _=>D _ _ _ b M) (by omega) ?_;simp only[be];omega
 .exact((H.setCell (by dsimp only;omega) _).setCell (by dsimp only;omega) _).setCell (by dsimp only;omega) _
end
section
variable {β:Bool}
open Go.RowKit
def aP.obT{w:World}{xs:List Y}(h:aP e E Z w U hi xs [v])(a:v.ownBlock=some b):∃g,aX w b e g:=by
 obtain⟨i,cells,f,h,_⟩:=h;cases f;rcases h.2 with⟨rfl,_⟩|⟨j,cap,c,rfl,_,d,_⟩
 .cases a
 .cases a;exact⟨_,d⟩
def eD.aap{w:World}(h:eD U e v w)(f:w.heap.size<=hi):aP e E Z w U hi [] [v]:=by
 obtain⟨g,rfl,d,c⟩:=h;have:=c.lt;exact⟨_,[],rfl,eD.own ⟨g,rfl,d,c⟩ Z,λb a=>by cases a;dsimp only;omega,Els.nil (by omega)⟩
def dE{w : World}{xs:List Y}(h:aP e E Z w U hi xs [v])(f:aZ (λb=>v.ownBlock=some b) w w'){t:TypeId}{cs:Array Value}(a:aX w g t cs)(c:t≠e):aX w' g t cs:=
 aO a f λd=>by
  obtain⟨i,hd⟩:=h.obT d;exact c (cL a hd)
def jB{β : Type}{D:fW β}{w : World}{xs:List Y}{y:β}(h:aP e E Z w U hi xs [v])(l:aZ (λb=>v.ownBlock=some b) w w')(j:dI D T)(c:D w R B y cs)(d:e∉T):D w' R B y cs:=
 j.eZ c l λb _ _ f g=>by
  obtain⟨m,hd⟩:=h.obT g;obtain⟨t,k,i,a⟩:=f;exact d (cL a hd▸k)
def cQ{β:Type}{D:fW β}{w:World}{t:TypeId}{a:Array Value}{y:β}(f:dI D T)(c:D w Z hi y cs)(j:aX w g t a)(d:t∉T)(i:Nat)(u:Value):D (w.setCell ⟨g,i,none⟩ u) Z hi y cs:=
 f.go (λb _ _ e=>io _ _ _ _ (by rintro rfl;exact dC j d e)) (am _) (am _) c
def ahB{β:Type}{D:fW β}{w:World}{u:Value}{y:β}(c:dI D T)(a:D w Z hi y cs)(e:hi<=g):D (w.setCell ⟨g,i,none⟩ u) Z hi y cs:=
 c.go (λb _ d _=>io _ _ _ _ (by dsimp only;omega)) (am _) (am _) a
structure afB (w wr:World) (L:Nat) (A B C:Option Addr) (a b c:Nat) (s:dH) (gm:Nat) (vp vs vl:Value) (pk:List Pk) (sn:List Sn) (H:Nat):Prop where
 k0:aX wr w.heap.size 27 #[.slice A s.pk.length a,.slice B s.sn.length b,.slice C s.lg.length c]
 k1:aX wr (w.heap.size+1) 27 #[.slice none 0 0,.slice none 0 0,.slice none 0 0]
 m:aX wr gm 27 #[vp,vs,vl]
 op:bF wr L H pk [vp]
 os:bV wr L H sn [vs]
 ol:dD wr L H s.lg [vl]
 bl:Below w.heap.size w wr
 gm1:w.heap.size+1<gm
 gm2:gm<wr.heap.size
 hL:w.heap.size<=L
 hH:H<=wr.heap.size
 gmr:gm<H
def afB.below{w wr : World}{B C : Option Addr}{a : Nat}{f:List Pk}{e:List Sn}(h:afB w wr Z A B C a b c s U X W V f e R)(d:Below wr.heap.size wr w'):afB w w' Z A B C a b c s U X W V f e R:=
 ⟨ah h.k0 d,ah h.k1 d,ah h.m d,bF.ar.below h.op d h.hH,bV.ar.below h.os d h.hH,dD.ar.below h.ol d h.hH,ag h.bl d,h.gm1,bd h.gm2 d.size,h.hL,ap h.hH d.size,h.gmr⟩
def fh(s:dH)(va vb vc:Value)(w:World)(lo hi:Nat)(h:fI w lo hi s va vb vc)(aR:hi<=w.heap.size)(hl:kq s<=1099511627) :
  Calls (ai β) 18 #[.agg #[va,vb,vc]] w (arC w s):=by
 obtain⟨h1,h2,h3⟩:=h;obtain⟨A,a,rfl⟩:=bC.form h1;obtain⟨B,b,rfl⟩:=bC.form h2;obtain⟨C,c,rfl⟩:=bC.form h3;obtain⟨_,cZ,cW⟩:=h1.len_;obtain⟨_,e4,c9⟩:=h2.len_;obtain⟨_,b5,cu⟩:=h3.len_;unfold maxLen at cW c9 cu;unfold kq at hl;have d2:=dQ (f:=bPk) (l:=s.pk);have dF:=dQ (f:=bSn) (l:=s.sn);have c0:=bC.good (F:=oL) h3;go_enter Ac,ntmps18;go_wp2_with(at_builtin;refine gI ?_);refine⟨?_,trivial⟩;have aG:Below w.heap.size w (((((w.alloc (.cells #[.slice A s.pk.length a,.slice B s.sn.length b,.slice C s.lg.length c] 27)).alloc (.cells #[.slice none 0 0,.slice none 0 0,.slice none 0 0] 27)).alloc (.cells #[] 54)).alloc (.cells #[] 58)).alloc (.cells #[] 65)):=cU (cU (cU (cU (au _ _) _) _) _) _;have k0:aX (((((w.alloc (.cells #[.slice A s.pk.length a,.slice B s.sn.length b,.slice C s.lg.length c] 27)).alloc (.cells #[.slice none 0 0,.slice none 0 0,.slice none 0 0] 27)).alloc (.cells #[] 54)).alloc (.cells #[] 58)).alloc (.cells #[] 65)) (w.heap.size) 27 #[.slice A s.pk.length a,.slice B s.sn.length b,.slice C s.lg.length c]:=by
  have J:=bq (bq (bq (bq (aX.new w 27 #[.slice A s.pk.length a,.slice B s.sn.length b,.slice C s.lg.length c]) (.cells #[.slice none 0 0,.slice none 0 0,.slice none 0 0] 27)) (.cells #[] 54)) (.cells #[] 58)) (.cells #[] 65);exact J
 have k1:aX (((((w.alloc (.cells #[.slice A s.pk.length a,.slice B s.sn.length b,.slice C s.lg.length c] 27)).alloc (.cells #[.slice none 0 0,.slice none 0 0,.slice none 0 0] 27)).alloc (.cells #[] 54)).alloc (.cells #[] 58)).alloc (.cells #[] 65)) (w.heap.size+1) 27 #[.slice none 0 0,.slice none 0 0,.slice none 0 0]:=by
  have J:=bq (bq (bq (aX.new (w.alloc (.cells #[.slice A s.pk.length a,.slice B s.sn.length b,.slice C s.lg.length c] 27)) 27 #[.slice none 0 0,.slice none 0 0,.slice none 0 0]) (.cells #[] 54)) (.cells #[] 58)) (.cells #[] 65);simp only[mp] at J;exact J
 have k2:aX (((((w.alloc (.cells #[.slice A s.pk.length a,.slice B s.sn.length b,.slice C s.lg.length c] 27)).alloc (.cells #[.slice none 0 0,.slice none 0 0,.slice none 0 0] 27)).alloc (.cells #[] 54)).alloc (.cells #[] 58)).alloc (.cells #[] 65)) (w.heap.size+1+1) 54 #[]:=by
  have J:=bq (bq (aX.new ((w.alloc (.cells #[.slice A s.pk.length a,.slice B s.sn.length b,.slice C s.lg.length c] 27)).alloc (.cells #[.slice none 0 0,.slice none 0 0,.slice none 0 0] 27)) 54 #[]) (.cells #[] 58)) (.cells #[] 65);simp only[mp] at J;exact J
 have k3:aX (((((w.alloc (.cells #[.slice A s.pk.length a,.slice B s.sn.length b,.slice C s.lg.length c] 27)).alloc (.cells #[.slice none 0 0,.slice none 0 0,.slice none 0 0] 27)).alloc (.cells #[] 54)).alloc (.cells #[] 58)).alloc (.cells #[] 65)) (w.heap.size+1+1+1) 58 #[]:=by
  have J:=bq (aX.new (((w.alloc (.cells #[.slice A s.pk.length a,.slice B s.sn.length b,.slice C s.lg.length c] 27)).alloc (.cells #[.slice none 0 0,.slice none 0 0,.slice none 0 0] 27)).alloc (.cells #[] 54)) 58 #[]) (.cells #[] 65);simp only[mp] at J;exact J
 have k4:aX (((((w.alloc (.cells #[.slice A s.pk.length a,.slice B s.sn.length b,.slice C s.lg.length c] 27)).alloc (.cells #[.slice none 0 0,.slice none 0 0,.slice none 0 0] 27)).alloc (.cells #[] 54)).alloc (.cells #[] 58)).alloc (.cells #[] 65)) (w.heap.size+1+1+1+1) 65 #[]:=by
  have J:=aX.new ((((w.alloc (.cells #[.slice A s.pk.length a,.slice B s.sn.length b,.slice C s.lg.length c] 27)).alloc (.cells #[.slice none 0 0,.slice none 0 0,.slice none 0 0] 27)).alloc (.cells #[] 54)).alloc (.cells #[] 58)) 65 #[];simp only[mp] at J;exact J
 have iw:w.heap.size+5<=(((((w.alloc (.cells #[.slice A s.pk.length a,.slice B s.sn.length b,.slice C s.lg.length c] 27)).alloc (.cells #[.slice none 0 0,.slice none 0 0,.slice none 0 0] 27)).alloc (.cells #[] 54)).alloc (.cells #[] 58)).alloc (.cells #[] 65)).heap.size:=by simp only[mp];omega
 generalize (((((w.alloc (.cells #[.slice A s.pk.length a,.slice B s.sn.length b,.slice C s.lg.length c] 27)).alloc (.cells #[.slice none 0 0,.slice none 0 0,.slice none 0 0] 27)).alloc (.cells #[] 54)).alloc (.cells #[] 58)).alloc (.cells #[] 65))=w0 at *;have cN:=k0.cell;have dS:=k0.frozen;have bZ:=k1.cell;have dx:=k1.frozen;have fq:=k2.cell;have iK:=k2.frozen;have an:=k3.cell;have b0:=k3.frozen;have c7:=k4.cell;have cX:=k4.frozen;have M:=lB (F:=oL) h3 aR;have bL:eD w.heap.size 65 (.slice (some ⟨w.heap.size+1+1+1+1,0,none⟩) 0 0) w0:=⟨_,rfl,by omega,k4⟩;refine nj (F:=oL) (xs:=s.lg) aG rfl (.tmp 11) (.tmp 13) 25 rfl ahu (am _) rfl rfl bL M (by omega) ?_;intro vl x1 S t;replace k0:=ah k0 S;replace cN:=k0.cell;replace dS:=k0.frozen;replace k1:=ah k1 S;replace bZ:=k1.cell;replace dx:=k1.frozen;replace k2:=ah k2 S;replace fq:=k2.cell;replace iK:=k2.frozen;replace k3:=ah k3 S;replace an:=k3.cell;replace b0:=k3.frozen;replace aG:=ag aG S;obtain⟨Cl,cl,rfl⟩:=t.form;have z1:=S.size;clear k4 c7 cX bL M;go_wp2;generalize hG:x1.alloc (.cells #[.slice (some ⟨w.heap.size+1+1,0,none⟩) 0 0,.slice (some ⟨w.heap.size+1+1+1,0,none⟩) 0 0,.slice Cl s.lg.length cl] 27)=w1 at *;obtain⟨R,d9,m0,ma,c1⟩:=nh hG;clear hG;replace k0:=ah k0 R;replace cN:=k0.cell;replace dS:=k0.frozen;replace k1:=ah k1 R;replace bZ:=k1.cell;replace dx:=k1.frozen;replace k2:=ah k2 R;replace fq:=k2.cell;replace iK:=k2.frozen;replace k3:=ah k3 R;replace an:=k3.cell;replace b0:=k3.frozen;have b9:=t.below R;have o:afB w w1 w.heap.size A B C a b c s x1.heap.size (.slice (some ⟨w.heap.size+1+1,0,none⟩) 0 0) (.slice (some ⟨w.heap.size+1+1+1,0,none⟩) 0 0) (.slice Cl s.lg.length cl) [] [] w1.heap.size:=
  ⟨k0,k1,m0,eD.aap ⟨_,rfl,by omega,k2⟩ (am _),eD.aap ⟨_,rfl,by omega,k3⟩ (am _),b9.aap c0 (by omega) (λg hg=>(b9.at_ hg).2),ag aG R,by omega,by omega,am _,am _,by omega⟩
 have n:=ab o;obtain⟨K,bl⟩:∃K,K=x1.heap.size:=⟨_,rfl⟩;rw[<-bl] at n ⊢;obtain⟨vs,bz⟩:∃vs,vs=Value.slice (some ⟨w.heap.size+1+1+1,0,none⟩) 0 0:=⟨_,rfl⟩;rw[<-bz] at n;clear bl bz o k0 k1 k2 k3 m0 cN bZ fq an ma dS dx iK b0 c1 t b9 aG R S;go_loopw [4] (λii wr=>∃(k:Nat) (vo:Value),k<=s.pk.length/\ii=.int .i64 k/\afB w wr w.heap.size A B C a b c s K vo vs (.slice Cl s.lg.length cl) (s.pk.take k) [] wr.heap.size) (λii _=>s.pk.length-(intOf ii).toNat)
 case atStart=>exact⟨0,_,fa _,rfl,n.out⟩
 case round=>
  clear n;obtain⟨k,vo,J,rfl,o⟩:=hrel;obtain⟨Ao,co,rfl⟩:=o.op.form;have H:(s.pk.take k).length=k:=by rw[eg,rq J]
  rw[H] at o;have cN:wr.cell? ⟨w.heap.size,0,none⟩=some (.slice A s.pk.length a):=o.k0.cell 0;by_cases ay:k<s.pk.length
  .obtain⟨y,cV⟩:=aq ay;have jd:=jA (f:=bPk) (db cV);have d5:y.its.length<=bPk y:=dQ;obtain⟨b',N,es,e0,_,ci,_,⟨v2,rfl,al,Y⟩,E⟩:=(iI.loc.below h1 o.bl aR).at_ cV;subst e0;obtain⟨A2,c2,rfl⟩:=bC.form Y;have a9:wr.cell? ⟨b',N+k*2,none⟩=some (.int .i64 y.no):=by simpa using E 0 _ rfl
   have pJ:wr.cell? ⟨b',N+k*2+1,none⟩=some (.slice A2 y.its.length c2):=by simpa using E 1 _ rfl
   have cm:wr.cell? ⟨K,0,none⟩=some (.slice Ao k co):=o.m.cell 0;have iG:=lE cV;have HN:=ab iG;have W:=ab H;have M:=ab (lB (F:=mL) Y (by have:=o.bl.size;omega));have ja:=ab (bC.good (F:=mL) Y);have n:=ab o;have zr:=o.bl.size;clear E cV iG H Y o;go_wp2;have aI:=ae cN;have aJ:=ae a9;have bB:=ae pJ;have eU:=ae cm;refine aD 18 [0,1,2,3,4,5,6,7,9,10,11,12,13,14] [8,15,16,17] (h:= ?_);simp only[pick,List.map,gn,gt];repeat(go_big_quiet_step (fail))
   refine ip ?_;clear aI aJ bB eU;apply Exists.intro;apply bu (eD wr.heap.size 63)
   .rfl
   .exact λv x y h m=>h.keep m
   .intro x _ Qx r;have Q:=ab r;clear r;go_wp2;exact Q.out _ _ (au _ _) (eD.new _ _ x.ok.size)
   intro u8;apply bu (λv w'=>aL mL 63 w' wr.heap.size v y.its)
   .rfl
   .exact λv x y h m=>h.below m
   .intro x L Qx Q;have hL:=L.1 (by kernel_rfl);exact aiL rfl (.tmp 31) (.tmp 37) 52 rfl nO (am _) rfl rfl hL M.out (by omega) λv' x' m ho=>Q v' x'.to m ho
   intro d6;apply bu (λv w'=>∃A c,v=.agg #[.int .i64 y.no,.slice A y.its.length c]/\aL mL 63 w' wr.heap.size (.slice A y.its.length c) y.its)
   .rfl
   .exact λv x y ⟨A,c,e,h⟩ m=>⟨A,c,e,h.below m⟩
   .intro x L Qx r;have Q:=ab r;clear r;have ho:=L.1 (by kernel_rfl);obtain⟨A5,c5,rfl⟩:=ho.form;go_wp2;exact Q.out _ _ (fd _ _) ⟨_,_,rfl,ho⟩
   intro d0;apply bu (λv w'=>∃g A c,v=.slice (some ⟨g,0,none⟩) 1 1/\aX w' g 54 #[.int .i64 y.no,.slice A y.its.length c]/\aL mL 63 w' wr.heap.size (.slice A y.its.length c) y.its)
   .rfl
   .exact λv x y ⟨g,A,c,e,J,h⟩ m=>⟨g,A,c,e,ah J m,h.below m⟩
   .intro x L Qx r;have Q:=ab r;clear r;obtain⟨A5,c5,rfl,ho⟩:=L.1 (by kernel_rfl);go_wp2;have ba:=au x.to (.cells #[.int .i64 y.no,.slice A5 y.its.length c5] 54);exact Q.out _ _ ba ⟨_,_,_,rfl,aX.new _ _ _,ho.below ba⟩
   intro d8;refine aS ?_;intro w6 iA xx dh L;dsimp only[dV] at L;try rw[dh] at L
   clear dh xx;obtain⟨⟨g8,A8,c8,rfl,V,o8⟩, -⟩:=L;simp only[List.drop];have a5:=n.out.below iA;have z6:=iA.size;have ax:Hid (kI w6 wr.heap.size w6.heap.size y [.int .i64 y.no,.slice A8 y.its.length c8]):=ab ⟨_,rfl,al,o8.aap ja.out (by omega) λg hg=>(o8.at_ hg).2⟩;replace V:=ab V;have q:=ab a5;clear n iA o8 a5 a9 pJ cm cN M;go_wp2_with(at_builtin;refine gI ?_);refine⟨?_,trivial⟩;refine gX kI.ar (by decide) (v:=.slice Ao k co) rfl (.tmp 24) (.tmp 40) 23 rfl adV y rfl q.out.op rfl V.out rfl (by simp[Value.oneCell']) z6 ax.out (am _) (by have:=W.out;omega) (by omega) ?_;intro v9 X o9 G bi;obtain⟨U,P,rfl⟩:=o9.form;rw[aE,mu,W.out] at o9;rw[aE,mu,W.out];have d:=q.out.op;have u:=dE d G q.out.m (by decide);have a2:=dE d G q.out.k0 (by decide);have a7:=dE d G q.out.k1 (by decide);have bo:=jB d G bV.ar q.out.os (by decide);have a6:=jB d G dD.ar q.out.ol (by decide);have aY:Below w.heap.size w X:=q.out.bl.trans (G.below q.out.bl.size λi hi hs=>by have:=d.ob hs;omega);have cg:X.cell? ⟨K,0,none⟩=some (.slice Ao k co):=u.cell 0;have cd:=u.frozen 0;have z9:=G.size;have a0:=q.out.gm1;have cO:=q.out.gm2;have lX:=u.bc 0 (.slice U (k+1) P);simp only[de,ff,gc] at lX;have O:afB w (X.setCell ⟨K,0,none⟩ (.slice U (k+1) P)) w.heap.size _ B C a b c s K (.slice U (k+1) P) vs (.slice Cl s.lg.length cl) (s.pk.take (k+1)) [] (X.setCell ⟨K,0,none⟩ (.slice U (k+1) P)).heap.size:=
    ⟨bW a2 (p:=⟨K,0,none⟩) _ (by dsimp only;omega),bW a7 (p:=⟨K,0,none⟩) _ (by dsimp only;omega),lX,
     by rw[HN.out];simp only[be];exact cQ bF.ar o9 u (by decide) 0 _,
     by simp only[be];exact bV.ar.wide (cQ bV.ar bo u (by decide) 0 _) (am _) (ap z6 z9),
     by simp only[be];exact dD.ar.wide (cQ dD.ar a6 u (by decide) 0 _) (am _) (ap z6 z9),
     aY.setCell (by dsimp only;omega) _,a0,by simp only[be];omega,am _,am _,by simp only[be];omega⟩
   have b6:=ab O;clear O lX bo a6 d a2 a7 u;go_wp2;go_roundw
   case rel=>exact⟨k+1,_,by omega,by go_num,b6.out⟩
   simp[intOf];omega
  .obtain rfl:k=s.pk.length:=by omega
   rw[gE] at o;obtain⟨Ap,cn⟩:∃A,A=Ao:=⟨_,rfl⟩;obtain⟨cp,ct⟩:∃c,c=co:=⟨_,rfl⟩;subst cn ct;have n:=ab o;clear o;go_wp2;clear cN;go_loopw [5] (λii wr=>∃(k:Nat) (vo:Value),k<=s.sn.length/\ii=.int .i64 k/\afB w wr w.heap.size A B C a b c s K (.slice Ap s.pk.length cp) vo (.slice Cl s.lg.length cl) s.pk (s.sn.take k) wr.heap.size) (λii _=>s.sn.length-(intOf ii).toNat)
   case atStart=>exact⟨0,_,fa _,rfl,n.out⟩
   case round=>
    clear n;obtain⟨k,vo,J,rfl,o⟩:=hrel;obtain⟨Ao,co,rfl⟩:=o.os.form;have H:(s.sn.take k).length=k:=by rw[eg,rq J]
    rw[H] at o;have cN:wr.cell? ⟨w.heap.size,1,none⟩=some (.slice B s.sn.length b):=o.k0.cell 1;by_cases ay:k<s.sn.length
    .obtain⟨y,cV⟩:=aq ay;have jd:=jA (f:=bSn) (db cV);have d3:eh bLs y.all=bSn y:=rfl;have dc:y.all.length<=eh bLs y.all:=dQ;obtain⟨b',N,es,e0,dn,ci,_,⟨v2,rfl,al,Y⟩,E⟩:=(gV.loc.below h2 o.bl aR).at_ cV;subst e0;obtain⟨A2,c2,rfl⟩:=bC.form Y;obtain⟨_,d1,ce⟩:=Y.len_;unfold maxLen at ce;have a9:wr.cell? ⟨b',N+k*2,none⟩=some (.int .i64 y.no):=by simpa using E 0 _ rfl
     have pJ:wr.cell? ⟨b',N+k*2+1,none⟩=some (.slice A2 y.all.length c2):=by simpa using E 1 _ rfl
     have iG:=lE cV;have HN:=ab iG;have W:=ab H;have HY:=ab cV;have n:=ab o;have zr:=o.bl.size;clear E cV iG H Y o;go_wp2;obtain⟨I,cB⟩:∃I,I=wr:=⟨_,rfl⟩;subst cB;generalize hG:(I.alloc (.cells #[] 95)).alloc (.cells #[.int .i64 y.no,.slice (some ⟨I.heap.size,0,none⟩) 0 0] 58)=w2 at *;obtain⟨ku,e2,n0,cb,cz,n1,af,ca⟩:=oK hG;clear hG;have bw:=n.out.below ku;have bN:=ab bw;have Z:fH w2 I.heap.size w2.heap.size [] [.slice (some ⟨I.heap.size,0,none⟩) 0 0]:=eD.aap ⟨_,rfl,am _,n0⟩ (am _);have HST:=ab (And.intro Z n1);clear n bw a9 pJ cN n0 n1 cb af cz ca Z;go_loopw [7] (λii wr=>∃(j:Nat) (va:Value),j<=y.all.length/\ii=.int .i64 j/\fH wr I.heap.size wr.heap.size (y.all.take j) [va]/\aX wr (I.heap.size+1) 58 #[.int .i64 y.no,va]/\afB w wr w.heap.size A (some ⟨b',N,none⟩) C a b c s K (.slice Ap s.pk.length cp) (.slice Ao k co) (.slice Cl s.lg.length cl) s.pk (s.sn.take k) I.heap.size) (λii _=>y.all.length-(intOf ii).toNat)
     case atStart=>exact⟨0,_,fa _,rfl,HST.out.1,HST.out.2,bN.out⟩
     case round=>
      clear HST bN;obtain⟨j,va,hj,rfl,t,a1,o⟩:=hrel;obtain⟨Av,cv,rfl⟩:=t.form;have H:(y.all.take j).length=j:=by rw[eg,rq hj]
      rw[H] at t a1;have cN:wr.cell? ⟨w.heap.size,1,none⟩=some (.slice (some ⟨b',N,none⟩) s.sn.length b):=o.k0.cell 1;have zx:=o.hH;have zw:=o.bl.size;obtain⟨b2,jb,es,e0,_,_,_,⟨v2,rfl,ds,Y⟩,E⟩:=(gV.loc.below h2 o.bl aR).at_ HY.out;simp only[me,qA,qw] at e0;obtain⟨rfl,rfl⟩:=e0;obtain⟨A3,c3,rfl⟩:=bC.form Y;obtain⟨_,d4,cc⟩:=Y.len_;unfold maxLen at cc;have b5:wr.cell? ⟨b',N+k*2+1,none⟩=some (.slice A3 y.all.length c3):=by simpa using E 1 _ rfl
      clear E;by_cases bY:j<y.all.length
      .obtain⟨z,aa⟩:=aq bY;have dp:=jA (f:=bLs) (db aa);have dy:z.ns.length<=bLs z:=Nat.le_add_left _ _;obtain⟨b3,br,es,e0,_,_,_,⟨v4,rfl,cS,a4⟩,E⟩:=Y.at_ aa;subst e0;obtain⟨A4,c4,rfl⟩:=bC.form a4;have cq:wr.cell? ⟨b3,br+j*2,none⟩=some (.string z.p):=by simpa using E 0 _ rfl
       have cI:wr.cell? ⟨b3,br+j*2+1,none⟩=some (.slice A4 z.ns.length c4):=by simpa using E 1 _ rfl
       have iG:=lE aa;have cw:=ab iG;have b8:=ab H;have a3:=ab o;replace t:=ab t;replace a4:=ab a4;clear E aa iG H Y o;go_wp2;generalize hG:wr.alloc (.cells #[.string z.p,.slice A4 z.ns.length c4] 95)=wa at *;obtain⟨gY,d7,q0,aT,bX⟩:=nh hG;clear hG;have bA:=a3.out.below gY;have bt:=fH.ar.below t.out gY (am _);have b7:=ah a1 gY;have b4:=nV.loc.below a4.out gY (by omega);have M:=ab (lB (F:=ni) b4 (by have:=gY.size;omega));have kC:=ab b4.akE;have bH:=ab bA;have bT:=ab bt;have af:wa.cell? ⟨I.heap.size+1,1,none⟩=some (.slice Av j cv):=b7.cell 1;have bf:=aT 0;have bh:=aT 1;have bO:=gY.size;clear a3 t a4 bA bt b4 cq cI b5 cN a1 gY;have aI:=ae af;have aJ:=ae bf;have bB:=ae bh;refine aD 10 [0,1,2,3,5,6] [4,7,8,9] (h:= ?_);simp only[pick,List.map,gn,gt];repeat(go_big_quiet_step (fail))
       refine ip ?_;clear aI aJ bB;apply Exists.intro;apply bu (eD wa.heap.size 3)
       .rfl
       .exact λv x y h m=>h.keep m
       .intro x _ Qx r;have Q:=ab r;clear r;go_wp2;exact Q.out _ _ (au _ _) (eD.new _ _ x.ok.size)
       intro u4;apply bu (λv w'=>aL ni 3 w' wa.heap.size v z.ns)
       .rfl
       .exact λv x y h m=>h.below m
       .intro x L Qx Q;have hL:=L.1 (by kernel_rfl);exact aiL rfl (.tmp 82) (.tmp 84) 93 rfl abU (am _) rfl rfl hL M.out (by omega) λv' x' m ho=>Q v' x'.to m ho
       intro u7;apply bu (λv w'=>∃A c,v=.agg #[.string z.p,.slice A z.ns.length c]/\aL ni 3 w' wa.heap.size (.slice A z.ns.length c) z.ns)
       .rfl
       .exact λv x y ⟨A,c,e,h⟩ m=>⟨A,c,e,h.below m⟩
       .intro x L Qx r;have Q:=ab r;clear r;have ho:=L.1 (by kernel_rfl);obtain⟨A5,c5,rfl⟩:=ho.form;go_wp2;exact Q.out _ _ (fd _ _) ⟨_,_,rfl,ho⟩
       intro u8;apply bu (λv w'=>∃g A c,v=.slice (some ⟨g,0,none⟩) 1 1/\aX w' g 95 #[.string z.p,.slice A z.ns.length c]/\aL ni 3 w' wa.heap.size (.slice A z.ns.length c) z.ns)
       .rfl
       .exact λv x y ⟨g,A,c,e,J,h⟩ m=>⟨g,A,c,e,ah J m,h.below m⟩
       .intro x L Qx r;have Q:=ab r;clear r;obtain⟨A5,c5,rfl,ho⟩:=L.1 (by kernel_rfl);go_wp2;have ba:=au x.to (.cells #[.string z.p,.slice A5 z.ns.length c5] 95);exact Q.out _ _ ba ⟨_,_,_,rfl,aX.new _ _ _,ho.below ba⟩
       intro u9;refine aS ?_;intro w6 iA xx dh L;dsimp only[dV] at L;try rw[dh] at L
       clear dh xx;obtain⟨⟨g8,A8,c8,rfl,V,o8⟩, -⟩:=L;simp only[List.drop];have a5:=bH.out.below iA;have ad:=fH.ar.below bT.out iA bO;have bn:=ah b7 iA;have z6:=iA.size;have ax:Hid (OLs w6 wa.heap.size w6.heap.size z [.string z.p,.slice A8 z.ns.length c8]):=ab ⟨_,rfl,cS,o8.aap (λx hx=>kC.out x hx) (by omega) λg hg=>(o8.at_ hg).2⟩;replace V:=ab V;have q:=ab a5;replace ad:=ab ad;clear bH bT iA o8 a5 M b7 af bf bh q0 aT bX;go_wp2_with(at_builtin;refine gI ?_);refine⟨?_,trivial⟩;refine gX OLs.ar (by decide) (v:=.slice Av j cv) rfl (.tmp 79) (.tmp 87) 56 rfl ahv z rfl ad.out rfl V.out rfl (by simp[Value.oneCell']) (show wr.heap.size<=w6.heap.size by omega) (OLs.ar.wide ax.out bO (am _)) (am _) (by have:=b8.out;omega) (by omega) ?_;intro v9 X o9 G bi;obtain⟨U,P,rfl⟩:=o9.form;rw[aE,mu,b8.out] at o9;rw[aE,mu,b8.out];have d:=ad.out;have z9:=G.size;have a8:=dE d G bn (by decide);have dB:X.cell? ⟨I.heap.size+1,1,none⟩=some (.slice Av j cv):=a8.cell 1;have e3:=a8.frozen 1;have lX:=a8.bc 1 (.slice U (j+1) P);simp only[de,ff,gc] at lX;have a0:=q.out.gm1;have bS:=q.out.gmr;have O:afB w (X.setCell ⟨I.heap.size+1,1,none⟩ (.slice U (j+1) P)) w.heap.size _ _ C a b c s K (.slice Ap s.pk.length cp) (.slice Ao k co) (.slice Cl s.lg.length cl) s.pk (s.sn.take k) I.heap.size:=
        ⟨bW (dE d G q.out.k0 (by decide)) (p:=⟨I.heap.size+1,1,none⟩) _ (by dsimp only;omega),bW (dE d G q.out.k1 (by decide)) (p:=⟨I.heap.size+1,1,none⟩) _ (by dsimp only;omega),bW (dE d G q.out.m (by decide)) (p:=⟨I.heap.size+1,1,none⟩) _ (by dsimp only;omega),
         ahB bF.ar (jB d G bF.ar q.out.op (by decide)) (by omega),ahB bV.ar (bV.ar.eZ q.out.os G λb _ hb _ hs=>by have:=d.ob hs;omega) (by omega),ahB dD.ar (jB d G dD.ar q.out.ol (by decide)) (by omega),
         (q.out.bl.trans (G.below q.out.bl.size λi hi hs=>by have:=d.ob hs;omega)).setCell (by dsimp only;omega) _,a0,by simp only[be];have:=q.out.gm2;omega,am _,by simp only[be];have:=q.out.hH;omega,bS⟩
       have bb:fH (X.setCell ⟨I.heap.size+1,1,none⟩ (.slice U (j+1) P)) I.heap.size (X.setCell ⟨I.heap.size+1,1,none⟩ (.slice U (j+1) P)).heap.size (y.all.take (j+1)) [.slice U (j+1) P]:=by
        rw[cw.out];simp only[be];exact cQ fH.ar o9 a8 (by decide) 1 _
       have cy:=ab O;replace bb:=ab bb;have cH:=ab lX;clear O lX d a8 bn;go_wp2;go_roundw
       case rel=>exact⟨j+1,_,by omega,by go_num,bb.out,cH.out,cy.out⟩
       simp[intOf];omega
      .obtain rfl:j=y.all.length:=by omega
       rw[gE] at t;have ck:wr.cell? ⟨I.heap.size+1,0,none⟩=some (.int .i64 y.no):=a1.cell 0;have cC:wr.cell? ⟨I.heap.size+1,1,none⟩=some (.slice Av y.all.length cv):=a1.cell 1;have c6:wr.cell? ⟨K,1,none⟩=some (.slice Ao k co):=o.m.cell 1;have a3:=ab o;replace t:=ab t;clear o;go_wp2_with(at_builtin;refine gI ?_);refine⟨?_,trivial⟩;have bx:=au wr (.cells #[.int .i64 y.no,.slice Av y.all.length cv] 58);have bk:=a3.out.below bx;have ch:=aX.new wr 58 #[.int .i64 y.no,.slice Av y.all.length cv];have bQ:=fH.ar.below t.out bx (am _);generalize wr.alloc (.cells #[.int .i64 y.no,.slice Av y.all.length cv] 58)=w6 at *;have z6:=bx.size;have q:=ab bk;have cr:Hid (lY w6 I.heap.size w6.heap.size y [.int .i64 y.no,.slice Av y.all.length cv]):=ab ⟨_,rfl,al,fH.ar.wide bQ (am _) z6⟩;clear bk bQ a3 t ck cC c6 a1 b5 Y;refine gX lY.ar (by decide) (v:=.slice Ao k co) rfl (.tmp 91) (.tmp 93) 24 rfl adY y rfl q.out.os rfl ch rfl (by simp[Value.oneCell']) (show I.heap.size<=w6.heap.size by omega) cr.out (am _) (by have:=W.out;omega) (by omega) ?_;intro v9 X o9 G bi;obtain⟨U,P,rfl⟩:=o9.form;rw[aE,mu,W.out] at o9;rw[aE,mu,W.out];have d:=q.out.os;have u:=dE d G q.out.m (by decide);have a2:=dE d G q.out.k0 (by decide);have a7:=dE d G q.out.k1 (by decide);have bp:=jB d G bF.ar q.out.op (by decide);have a6:=jB d G dD.ar q.out.ol (by decide);have aY:Below w.heap.size w X:=q.out.bl.trans (G.below q.out.bl.size λi hi hs=>by have:=d.ob hs;omega);have cg:X.cell? ⟨K,1,none⟩=some (.slice Ao k co):=u.cell 1;have cd:=u.frozen 1;have z9:=G.size;have a0:=q.out.gm1;have cO:=q.out.gm2;have dd:=q.out.hH;have bS:=q.out.gmr;have lX:=u.bc 1 (.slice U (k+1) P);simp only[de,ff,gc] at lX;have O:afB w (X.setCell ⟨K,1,none⟩ (.slice U (k+1) P)) w.heap.size _ _ C a b c s K (.slice Ap s.pk.length cp) (.slice U (k+1) P) (.slice Cl s.lg.length cl) s.pk (s.sn.take (k+1)) (X.setCell ⟨K,1,none⟩ (.slice U (k+1) P)).heap.size:=
        ⟨bW a2 (p:=⟨K,1,none⟩) _ (by dsimp only;omega),bW a7 (p:=⟨K,1,none⟩) _ (by dsimp only;omega),lX,
         by simp only[be];exact bF.ar.wide (cQ bF.ar bp u (by decide) 1 _) (am _) (by omega),
         by rw[HN.out];simp only[be];exact cQ bV.ar o9 u (by decide) 1 _,
         by simp only[be];exact dD.ar.wide (cQ dD.ar a6 u (by decide) 1 _) (am _) (by omega),
         aY.setCell (by dsimp only;omega) _,a0,by simp only[be];omega,am _,am _,by simp only[be];omega⟩
       have b6:=ab O;clear O lX bp a6 d a2 a7 u;go_wp2;go_roundw
       case rel=>exact⟨k+1,_,by omega,by go_num,b6.out⟩
       simp[intOf];omega
    .obtain rfl:k=s.sn.length:=by omega
     rw[gE] at o;have bZ:=o.k1.cell;have dx:=o.k1.frozen;have e1:=o.m.cell;have n:=ab o;have zr:=o.bl.size;clear o;go_wp2;have a0:=n.out.gm1;have b1:∀(u1 u2 u3:Value) {β:Type} {D:fW β} {T:List TypeId} {y:β} {cs:List Value},dI D T->27∉T->D wr w.heap.size wr.heap.size y cs->D (((wr.setCell ⟨w.heap.size+1,0,none⟩ u1).setCell ⟨w.heap.size+1,1,none⟩ u2).setCell ⟨w.heap.size+1,2,none⟩ u3) w.heap.size (((wr.setCell ⟨w.heap.size+1,0,none⟩ u1).setCell ⟨w.heap.size+1,1,none⟩ u2).setCell ⟨w.heap.size+1,2,none⟩ u3).heap.size y cs:=λu1 u2 u3 {_ _ _ _ _} hD hT hy=>by
      simp only[be];exact hD.go (λb _ _ hb=>by
       have ao:b≠w.heap.size+1:=by rintro rfl;exact dC n.out.k1 hT hb
       rw[io _ _ _ _ ao,io _ _ _ _ ao,io _ _ _ _ ao]) (am _) (am _) hy
     refine mx (v:=.agg #[.slice Ap s.pk.length cp,.slice Ao s.sn.length co,.slice Cl s.lg.length cl]) (by simp[results,results18,go_sem,bZ]) rfl ⟨_,_,_,rfl,⟨b1 _ _ _ bF.ar (by decide) n.out.op,b1 _ _ _ bV.ar (by decide) n.out.os,b1 _ _ _ dD.ar (by decide) n.out.ol⟩, ?_⟩;exact((n.out.bl.setCell (by dsimp only;omega) _).setCell (by dsimp only;omega) _).setCell (by dsimp only;omega) _
end
section
variable {β:Bool}
open Go.RowKit
def acj(key:Int)(f:Nd):Ls:=⟨f.p,(ki f.b).map λp=>cY key (bs p)⟩
def kJ(no key:Int)(t:List Nd):Sn:=⟨no,t.map (acj key)⟩
def aAA(w:World)(s:Sn)(e:Ending)(w':World):Prop:=∃v,e=.returned (.agg #[.int .i64 s.no,v])/\fH w' w.heap.size w'.heap.size s.all [v]/\Below w.heap.size w w'
def aoZ(D key:Int)(hk:1<=key/\key<=99)(bO:cA D)(t:List Nd)(ht:∀x∈t,dN x.b=true)(hl:t.length<=1000)(vt:Value)(w:World)(lo hi:Nat)(aR:hi<=w.heap.size)(h1:fM w lo hi t [vt]) :
  Calls (ai β) 62 #[.int .i64 D,.int .i64 key,vt] w (aAA w (kJ D key t)):=by
 replace ht:=ab ht;have HK:=ab hk;obtain⟨A,c,rfl⟩:=h1.form;obtain⟨_,hc,C⟩:=h1.len_;unfold maxLen at C;go_enter zC,ntmps62;go_wp2;generalize hG:((w.alloc (.cells #[.int .i64 0,.slice none 0 0] 58)).alloc (.cells #[] 95)).alloc (.cells #[.int .i64 D,.slice (some ⟨w.heap.size+1,0,none⟩) 0 0] 58)=w0 at *;obtain⟨aG,iw,E,cN,dS,k1,bZ,dx,V,fq,iK⟩:=adA hG;obtain⟨all,m⟩:∃all,all=(kJ D key t).all:=⟨_,rfl⟩;have oH:all.length=t.length:=by rw[m];exact qh _
 replace m:=ab m;have a5:fH w0 w.heap.size w0.heap.size [] [.slice (some ⟨w.heap.size+1,0,none⟩) 0 0]:=eD.aap ⟨_,rfl,by omega,k1⟩ (am _);have H0:=ab (And.intro a5 (And.intro E (And.intro V aG)));go_loopw [8] (λii wr=>∃(k:Nat) (va:Value),k<=t.length/\ii=.int .i64 k/\fH wr w.heap.size wr.heap.size (all.take k) [va]/\aX wr w.heap.size 58 #[.int .i64 0,.slice none 0 0]/\aX wr (w.heap.size+1+1) 58 #[.int .i64 D,va]/\Below w.heap.size w wr) (λii _=>t.length-(intOf ii).toNat)
 case atStart=>exact⟨0,_,fa _,rfl,H0.out.1,H0.out.2.1,H0.out.2.2.1,H0.out.2.2.2⟩
 case round=>
  obtain⟨k,va,bX,rfl,a,E,V,Q⟩:=hrel;obtain⟨z,bb⟩:∃z,z=wr:=⟨_,rfl⟩;subst bb;obtain⟨Y,cv,rfl⟩:=a.form;have a2:(all.take k).length=k:=by rw[eg,rq (by omega)]
  rw[a2] at a V;by_cases aa:k<t.length
  .obtain⟨f,o⟩:=aq aa;have U:=kW (ht.out f (db o));have O:=fM.ar.below h1 Q aR;obtain⟨b1,bL,rfl,_,c0,a7,lV,bT⟩:=lI O o;have bh:all[k]?=some (acj key f):=by rw[m.out];show(t.map (acj key))[k]?=_;rw[qN,o];rfl
   have fe:=lE bh;have lv:=ab fe;have L:=ab a2;have bn:=nR U.2;have iY:=ab4 f.b;have bY:=U.1;have HA:=ab bn;have HC:=ab (aga (β:=β) f.b (by omega));replace a:=ab a;have bo:=ab a7;replace o:=ab o;go_wp2;refine(HC.out z).mono ?_;rintro e u ⟨v1,rfl,op,oM⟩;obtain⟨Ap,cp,rfl⟩:=op.form;have P:=(op.deep (λx C=>lK (HA.out x C)) z.heap.size).sl (am _);have zo:=Q.size;have z1:=oM.size;obtain⟨q,B⟩:∃q,q=(ki f.b).map λp=>cY key (bs p):=⟨_,rfl⟩;have b6:acj key f=⟨f.p,q⟩:=by rw[B];rfl
   rw[b6] at lv;revert B;revert HA;revert iY;revert P;generalize ki f.b=ps;intro P iY HA B;have M:=ab B;go_wp2;have b2:=au u (.cells #[] 3);have a4:aL ni 3 (u.alloc (.cells #[] 3)) u.heap.size (.slice (some ⟨u.heap.size,0,none⟩) 0 0) []:=(eD.new u 3 (am _)).own 1;have a8:=dA.ar.below P b2 (am _);have b3:=ag oM b2;have b8:=b2.size;have HO:=ab a4;have HR:=ab a8;have HB:=ab b3;generalize u.alloc (.cells #[] 3)=w2 at *;go_loopw [10,11] (λnn jj wr=>∃j:Nat,j<=ps.length/\jj=.int .i64 j/\aL ni 3 wr u.heap.size nn (q.take j)/\Below z.heap.size z wr/\dA wr z.heap.size u.heap.size ps [.slice Ap ps.length cp]/\u.heap.size<=wr.heap.size) (λ_ jj _=>ps.length-(intOf jj).toNat)
   case atStart=>exact⟨0,fa _,rfl,HO.out,HB.out,HR.out,b8⟩
   case round=>
    obtain⟨j,bz,rfl,H,d,hr,hz⟩:=hrel;have bp:q.length=ps.length:=by rw[M.out,qh]
    have a1:(q.take j).length=j:=by rw[eg,rq (by omega)]
    obtain⟨Ao,co,rfl⟩:=H.form;rw[a1] at H ⊢;by_cases bw:j<ps.length
    .obtain⟨p,K⟩:=aq bw;have bl:=HA.out p (db K);obtain⟨b2,jb,rfl,bS,bx,bN,an⟩:=lD hr K;have bt:q[j]?=some (cY key (bs p)):=by rw[M.out,qN,K];rfl
     have fe:=lE bt;have G:=ab fe;have a3:=ab a1;have J:=ab (aaY (β:=β) key p HK.out bl wr);have HR:=ab hr;have r:=pz (key:=key) (l:=bs p);revert J G r;generalize cY key (bs p)=nv;intro G J r;go_wp2;refine J.out.mono ?_;rintro e w3 ⟨rfl,rfl⟩;go_wp2_with(at_builtin;refine cF (F:=ni) (v:=.slice Ao j co) rfl (.tmp 34) (.tmp 41) 93 rfl abU nv rfl H rfl rfl (by have:=a3.out;omega) hz ?_;intro va wa oa I bB;obtain⟨Aa,ca,rfl⟩:=oa.form;simp only[aE,fi,mc,lP,a3.out] at oa);go_roundw
     case rel=>
      refine⟨j+1,by omega,by go_num,by rw[G.out];simpa using oa,d.trans (I.below d.size λi hi C=>by have:=(H.at_ C).1;omega),dA.ar.eZ HR.out I λb _ Q _ hs=>by have:=(H.at_ hs).1;omega,ap hz I.size⟩
     case measure=>simp[intOf];omega
    .obtain rfl:j=ps.length:=by omega
     have b5:q.take ps.length=q:=by rw[<-bp,gE]
     rw[b5] at H;have O:=fM.ar.below h1 (ag Q d) aR;have r:∀x∈q,ni.good x:=λx C=>by
      rw[M.out] at C;obtain⟨p,_,rfl⟩:=qs.1 C;have:=pz (key:=key) (l:=bs p);show cA _;unfold cA;omega
     have af:=ah E d;have X:=ah V d;have a:=fH.ar.below a.out d (am _);obtain⟨b3,bA,e0,_,_,_,bf,_⟩:=lI O o.out;simp only[me,qA,qw] at e0;obtain⟨rfl,rfl⟩:=e0;have ay:wr.cell? ⟨w.heap.size+1+1,1,none⟩=some (.slice Y k cv):=X.cell 1;have zr:=d.size;have br:=ab a;have HO:=ab H;have ax:=ab r;have b9:=ab af;have b7:=ab X;have HB:=ab (ag Q d);go_wp2;have aI:=ae ay;have aJ:=ae bf;refine aD 10 [0,1,2,3,4,5,6,7] [8,9] (h:= ?_);simp only[pick,List.map,gn,gt];repeat(go_big_quiet_step (fail))
     refine ip ?_;apply Exists.intro;apply dW (.agg #[.string f.p,.slice Ao ps.length co])
     .intro y Z Qx n;replace n:=ab n;go_wp2;exact n.out _ (fd _ _)
     apply bu (λv w'=>∃g,v=.slice (some ⟨g,0,none⟩) 1 1/\aX w' g 95 #[.string f.p,.slice Ao ps.length co])
     .rfl
     .exact λv x y ⟨g,e,hk⟩ hle=>⟨g,e,ah hk hle⟩
     .intro x Z Qx n;replace n:=ab n;go_wp2;exact n.out _ _ (au _ _) ⟨_,rfl,aX.new _ _ _⟩
     intro u9;refine aS ?_;intro w6 T xx dh Z;dsimp only[dV] at Z;try rw[dh] at Z
     obtain⟨⟨g8,rfl,ba⟩, -⟩:=Z;simp only[List.drop];have z6:=T.size;have aT:=fH.ar.below br.out T zr;have o8:=(HO.out.below T).base z1;have a6:Hid (OLs w6 z.heap.size w6.heap.size ⟨f.p,q⟩ [.string f.p,.slice Ao ps.length co]):=ab ⟨_,rfl,bo.out.1,o8.aap ax.out (by omega) λg hg=>(o8.at_ hg).2⟩;have b0:=ab ba;have a0:=ab aT;have a9:=ab (ah b9.out T);have bi:=ab (ah b7.out T);have W:=ab (ag HB.out T);go_wp2_with(at_builtin;refine gI ?_);refine⟨?_,trivial⟩;refine gX OLs.ar (by decide) (v:=.slice Y k cv) rfl (.tmp 44) (.tmp 52) 56 rfl ahv ⟨f.p,q⟩ rfl a0.out rfl b0.out rfl (by simp[Value.oneCell']) (show z.heap.size<=w6.heap.size by omega) a6.out (am _) (by have:=L.out;omega) (by omega) ?_;intro v9 w9 o9 gp bH;obtain⟨S,R,rfl⟩:=o9.form;rw[aE,mu,L.out] at o9;rw[aE,mu,L.out];have N:=a0.out;have z9:=gp.size;have s:=dE N gp bi.out (by decide);have aY:=dE N gp a9.out (by decide);have bQ:w9.cell? ⟨w.heap.size+1+1,1,none⟩=some (.slice Y k cv):=s.cell 1;have c1:=s.frozen 1;have lX:=s.bc 1 (.slice S (k+1) R);simp only[de,ff,gc] at lX;have b4:fH (w9.setCell ⟨w.heap.size+1+1,1,none⟩ (.slice S (k+1) R)) w.heap.size (w9.setCell ⟨w.heap.size+1+1,1,none⟩ (.slice S (k+1) R)).heap.size (all.take (k+1)) [.slice S (k+1) R]:=by
      rw[lv.out];simp only[be];exact cQ fH.ar o9 s (by decide) 1 _
     have al:Below w.heap.size w (w9.setCell ⟨w.heap.size+1+1,1,none⟩ (.slice S (k+1) R)):=(W.out.trans (gp.below W.out.size λi hi hs=>by have:=N.ob hs;omega)).setCell (by dsimp only;omega) _;have ad:=bW aY (p:=⟨w.heap.size+1+1,1,none⟩) (.slice S (k+1) R) (by dsimp only;omega);have HF:=ab (And.intro b4 (And.intro ad (And.intro lX al)));go_wp2;go_roundw
     case rel=>exact⟨k+1,_,by omega,by go_num,HF.out.1,HF.out.2.1,HF.out.2.2.1,HF.out.2.2.2⟩
     simp[intOf];omega
  .obtain rfl:k=t.length:=by omega
   have bk:all.take t.length=all:=by rw[<-oH,gE]
   rw[bk] at a;have fq:=V.cell;have dS:=E.frozen;have cN:=E.cell;replace a:=ab a;go_wp2;have k4:=(E.bc 0 (.int .i64 D)).bc 1 (.slice Y t.length cv);simp only[de,ff,gc] at k4;have ao:=k4.cell;refine mx (v:=.agg #[.int .i64 D,.slice Y t.length cv]) (by simp[results,results62,go_sem,ao]) rfl ⟨_,rfl, ?_,(Q.setCell (by simp) _).setCell (by simp) _⟩;rw[<-m.out];simp only[be];exact cQ fH.ar (cQ fH.ar a.out E (by decide) 0 _) (E.bc 0 _) (by decide) 1 _
end
section
variable {β:Bool}
open Go.RowKit
def fZ(l:List Pk):Int:=((l.getLast?).map (·.no)).getD 0+1
def gb(l:List Hd):Int:=l.foldl (λa h=>max a (h.s+1)) 1
def fu(s:dH):Int:=match s.sn.getLast? with|some x=>max (gb s.lg) (x.no+1)|none=>gb s.lg
def alG{l:List Hd}{h:Hd}(a:l[k]?=some h):gb (l.take (k+1))=max (gb (l.take k)) (h.s+1):=by
 unfold gb;rw[lE a,tc];rfl
def ajo{l:List Hd}{b:Int}(d:1<=b)(h:∀x∈l,x.s+1<=b):1<=gb l/\gb l<=b:=by
 induction l using aaa with
 |h0=>exact⟨uZ _,d⟩
 |h1 l x a=>
  have e:gb (l++[x])=max (gb l) (x.s+1):=by unfold gb;rw[tc];rfl
  have:=a λy c=>h y (by simp[c]);have:=h x (by simp);rw[e];omega
def aye(m x:Int):(if m<x then x else m)=max m x:=by rw[Int.max_def];split<;>split<;>omega
def wR{l:List Y}(h:0<l.length):∃x,l[l.length-1]?=some x/\l.getLast?=some x:=by
 obtain⟨x,a⟩:=aq (show l.length-1<l.length by omega);exact⟨x,a,by rw[List.getLast?_eq_getElem?,a]⟩
def alH(b:Int)(s:dH):Prop:=(∀p∈s.pk,p.no<=b)/\(∀x∈s.sn,x.no<=b)/\∀h∈s.lg,h.s<=b
def ajp(s:dH)(u:alH 1000000 s)(va vb vc:Value)(w:World)(lo hi:Nat)(h:fI w lo hi s va vb vc)(aR:hi<=w.heap.size) :
  Calls (ai β) 58 #[.agg #[va,vb,vc]] w λe w'=>e=.returned (.tuple #[.int .i64 (fZ s.pk),.int .i64 (fu s)])/\Below w.heap.size w w':=by
 obtain⟨O,K,V⟩:=h;obtain⟨A,a,rfl⟩:=bC.form O;obtain⟨B,b,rfl⟩:=bC.form K;obtain⟨C,c,rfl⟩:=bC.form V;obtain⟨_,a6,a4⟩:=O.len_;obtain⟨_,an,a5⟩:=K.len_;obtain⟨_,af,a3⟩:=V.len_;unfold maxLen at a4 a5 a3;have r:∀p∈s.pk,cA p.no:=λp i=>by
  obtain⟨P,v,_,hg,_⟩:=O.aqs p i;exact hg
 have q:∀p∈s.sn,cA p.no:=λp i=>by
  obtain⟨P,v,_,hg,_⟩:=K.aqs p i;exact hg
 replace u:=ab u;replace r:=ab r;replace q:=ab q;go_enter zG,ntmps58;rcases qe s.pk.length with t|t
 case' inl=>
  have t1:=bv (show ¬(0<s.pk.length) by omega);have i:fZ s.pk=1:=by rw[qZ.1 t];rfl
  have HP:=ab i;have HZ:=ab t;clear t i;go_wp2
 case' inr=>
  have t1:=dj (show 0<s.pk.length by omega);obtain⟨z,f,E⟩:=wR t;have a9:=u.out.1 z (db f);have Z:=r.out z (db f);unfold cA at Z;have i:fZ s.pk=z.no+1:=by unfold fZ;rw[E];rfl
  have HP:=ab i;replace f:=ab f;clear i E;obtain⟨b4,X,P,D,_,_,_,⟨v4,rfl,S⟩,n⟩:=(iI.loc.below O (au w (.cells #[.slice A s.pk.length a,.slice B s.sn.length b,.slice C s.lg.length c] 27)) aR).at_ f.out;subst D;obtain⟨m4,F⟩:∃m,m=s.pk.length-1:=⟨_,rfl⟩;rw[<-F] at n;have e4:(s.pk.length:Int)-1=((m4:Nat):Int):=by omega
  have a7:m4<s.pk.length:=by omega
  have I:=n 0 _ rfl;rw[tu] at I;clear n S F t f;go_wp2;clear e4 I;generalize some (⟨b4,X,none⟩:Addr)=A at *
 all_goals
  generalize hG:w.alloc (.cells #[.slice A s.pk.length a,.slice B s.sn.length b,.slice C s.lg.length c] 27)=w0 at *;obtain⟨L,iw,k0,cN,dS⟩:=nh hG;clear hG;have a2:=cx.loc.below V L aR
  go_loop [5,6] (λss ii=>∃k:Nat,k<=s.lg.length/\ii=.int .i64 k/\ss=.int .i64 (gb (s.lg.take k))) (λ_ ii=>s.lg.length-(intOf ii).toNat)
  case atStart=>exact⟨0,fa _,rfl,rfl⟩
  case round=>
   obtain⟨k,aa,rfl,rfl⟩:=hrel;by_cases W:k<s.lg.length
   .obtain⟨x,M⟩:=aq W;have ad:=u.out.2.2 x (db M);obtain⟨Y,o,P,D,_,_,_,⟨rfl,g⟩,d⟩:=a2.at_ M;subst D;have a0:cA x.s:=g.2;unfold cA at a0;have Q:w0.cell? ⟨Y,o+k*2+1,none⟩=some (.int .i64 x.s):=by simpa using d 1 _ rfl
    have J:=ajo (l:=s.lg.take k) (b:=1000001) (by omega) λy j=>by have:=u.out.2.2 y (pr j);omega
    have fe:=alG M;have U:=ab fe;clear fe M d g;revert U J;generalize gb (s.lg.take k)=m;intro J U;go_wp2
    go_round
    case rel=>exact⟨k+1,by omega,by go_num,by rw[U.out,aye]⟩
    simp[intOf];omega
   .obtain rfl:k=s.lg.length:=by omega
    rw[gE];have T:=gV.loc.below K L aR;rcases qe s.sn.length with j|j
    .have t2:=bv (show ¬(0<s.sn.length) by omega);have H:fu s=gb s.lg:=by unfold fu;rw[qZ.1 j];rfl
     have R:=ab H;have HY:=ab j;clear H j;go_wp2;go_ret2;exact⟨by rw[HP.out,R.out];rfl,L⟩
    .have t2:=dj (show 0<s.sn.length by omega);obtain⟨y,N,G⟩:=wR j;have a8:=u.out.2.1 y (db N);have a1:=q.out y (db N);unfold cA at a1;have H:fu s=max (gb s.lg) (y.no+1):=by unfold fu;rw[G]
     obtain⟨Y,o,P,D,_,_,_,⟨v5,rfl,g⟩,d⟩:=T.at_ N;subst D;obtain⟨m,J⟩:∃m,m=s.sn.length-1:=⟨_,rfl⟩;rw[<-J] at d;have e1:(s.sn.length:Int)-1=((m:Nat):Int):=by omega
     have al:m<s.sn.length:=by omega
     have Q:w0.cell? ⟨Y,o+m*2,none⟩=some (.int .i64 y.no):=by simpa using d 0 _ rfl
     have R:=ab H;clear H G N d g J j;go_wp2;all_goals
      go_ret2;exact⟨by rw[HP.out,R.out];first|(rw[Int.max_eq_right (by omega)];rfl)|(rw[Int.max_eq_left (by omega)];rfl),L⟩
end
end Go.Proofs.YtlaobkmopohmnaaGreatDoor