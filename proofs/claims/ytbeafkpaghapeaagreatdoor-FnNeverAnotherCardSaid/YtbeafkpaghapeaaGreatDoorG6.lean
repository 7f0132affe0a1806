/- A part of the proof. -/
import Derived.Test.YtbeafkpaghapeaaGreatDoorG5
import Derived.WalkSpells
import Derived.Laws.CopyRow
set_option maxRecDepth 100000
set_option maxHeartbeats 8000000
set_option linter.all false
open Go Go.RowKit Go.Proofs.Tryz Go.Proofs.YtbeafkpaghapeaaGreatDoor
variable {s:dK} {Z U R B N b c g hi hi' i j k n:Nat} {key:Int} {Y β:Type} {X W V v:Value} {w':World} {e:TypeId} {t:List Nd} {xs:List Hd} {p:ByteArray} {S cs:List Value} {A:Option Addr} {T:List TypeId} {o:List ByteArray} {x:Y} {E:fV Y}
namespace Go.Proofs.YtbeafkpaghapeaaGreatDoor
def qT:=@_root_.List.length_eq_zero_iff
def rA:=@_root_.Go.Lib.run_eql_slice_nil
def uQ:=@_root_.List.filter_append
def vP:=@_root_.List.getElem?_toArray
def vS:=@_root_.Classical.choose_spec
section
variable {β:Bool}
open Go.RowKit
def ady(l:List Pk)(v:Value)(w:World)(lo hi:Nat)(aX:hi<=w.heap.size)(h:an0 w lo hi l [v])(hn:(dW l).length<=4000000)(r:List Sp)(hr:IOf l r) :
  Calls (ah β) 55 #[v] w (avI w r):=by
 obtain⟨A,c,rfl⟩:=h.form;obtain⟨_,hc,hx⟩:=h.len_;unfold maxLen at hx;have HR:=ab hr;clear hr;go_enter ze,ntmps55;go_wp2;have ba:=av w (.cells #[] 136);have l0:aK FSp 136 (w.alloc (.cells #[] 136)) w.heap.size (.slice (some ⟨w.heap.size,0,none⟩) 0 0) []:=aK.aif (eb.new _ _ (am _));generalize w.alloc (.cells #[] 136)=w0 at *;go_loopw [3,4] (λoo ii wr=>∃k:Nat,k<=l.length/\ii=.int .i64 k/\aK FSp 136 wr w.heap.size oo (fg (dW (l.take k)) [])/\(∀s∈dW (l.take k),spP s)/\Below w.heap.size w wr) (λoo ii _=>l.length-(intOf ii).toNat)
 case atStart=>exact⟨0,fb _,rfl,l0,λs o=>(by cases o),ba⟩
 case round=>
  clear l0 ba;obtain⟨k,hk,rfl,i,o,u⟩:=hrel;have HS:=ab o;clear o;have g2:=an0.ar.below h u aX;by_cases a4:k<l.length
  .obtain⟨p,J⟩:=aq a4;replace J:=ab J;have S:Hid (∀s∈cH l k 0,spP s):=ab (by rw[abR];exact HS.out);rw[<-abR] at i;obtain⟨Ao,co,rfl⟩:=i.form;have M:=i;clear i HS;go_wp2;go_loopw [3,5] (λoo jj wy=>∃j:Nat,j<=p.its.length/\jj=.int .i64 j/\aK FSp 136 wy w.heap.size oo (fg (cH l k j) [])/\(∀s∈cH l k j,spP s)/\Below w.heap.size w wy) (λoo jj _=>p.its.length-(intOf jj).toNat)
   case atStart=>exact⟨0,fb _,rfl,M,S.out,u⟩
   case round=>
    clear M S g2 u;obtain⟨j,hj,rfl,i,o,f⟩:=hrel;have HS:=ab o;clear o;obtain⟨b1,ad,A1,c1,rfl,af,I,aa,Z,Y,P⟩:=ay2 h J.out;have a2:=aR f Z;have a5:=aR f Y;have Q:=acD.ar.below P f aX;obtain⟨_,al,a8⟩:=Q.len_;unfold maxLen at a8;clear Z Y P;have R:=ain (j:=j) J.out;have N:=afS (a:=cH l k j) (l:=[]);have pT:(fg (cH l k j) []).length<=4000000:=by simp only[mw,tD] at N;omega
    clear N R;by_cases a1:j<p.its.length
    .obtain⟨y,t⟩:=aq a1;obtain⟨b2,iE,rfl,_,_,a9,cn,cb⟩:=avK Q t;have d:=agV J.out t;replace t:=ab t;replace d:=ab d;obtain⟨Ao,co,rfl⟩:=i.form;have U:=ab (λb O=>(i.at_ (g:=b) O).2);go_wp2;have aG:=ae a2;have aI:=ae a5;have aZ:=ae cn;refine aF 16 [0,1,2,3,4,5,6,7,8,9,10,11,12,13,14] [15] (h:= ?_);simp only[pick,List.map,ge,gn];repeat(go_big_quiet_step (fail))
     refine gt ?_;clear aG aI aZ;apply Exists.intro;apply aU (λv w'=>∃g,v=.pointer (some ⟨g,0,none⟩)/\wr.heap.size<=g/\bg w' g 136 #[.int .i64 0,.int .i64 0])
     .rfl
     .exact λv x y ⟨g,e,hg,hk⟩ hle=>⟨g,e,hg,ak hk hle⟩
     .intro x X Qx D;replace D:=ab D;clear X;go_wp2;exact D.out _ _ (av _ _) ⟨_,rfl,x.ok.size,bg.new _ _ _⟩
     intro u6;refine aS ?_;intro w2 I xx cT X;dsimp only[dP] at X;try rw[cT] at X
     clear cT xx;obtain⟨⟨g,rfl,hg,kb⟩, -⟩:=X;simp only[List.drop];have gw:=f.size;replace i:=i.below I;replace f:=ag f I;have H:=kb.cell;have a6:=kb.frozen;go_wp2;have n:=(kb.bF 0 (.int .i64 y.n)).bF 1 (.int .i64 p.no);simp only[ef,ip,jt] at n;have m:Below w.heap.size w ((w2.setCell ⟨g,0,none⟩ (.int .i64 y.n)).setCell ⟨g,1,none⟩ (.int .i64 p.no)):=(f.setCell (by dsimp only;omega) _).setCell (by dsimp only;omega) _;have T:aK FSp 136 ((w2.setCell ⟨g,0,none⟩ (.int .i64 y.n)).setCell ⟨g,1,none⟩ (.int .i64 p.no)) w.heap.size (.slice Ao (fg (cH l k j) []).length co) (fg (cH l k j) []):=
      (i.ap5 _ (λb O=>by have:=U.out b O;dsimp only;omega)).ap5 _ (λb O=>by have:=U.out b O;dsimp only;omega)
     clear H a6;generalize (w2.setCell ⟨g,0,none⟩ (.int .i64 y.n)).setCell ⟨g,1,none⟩ (.int .i64 p.no)=w3 at *;have H:=n.cell;obtain⟨q,W⟩:=at6 (spP ⟨y.n,p.no⟩);refine(ako ⟨y.n,p.no⟩ w3 q W).mono ?_;rintro e w4 ⟨rfl,b4⟩;replace n:=ak n b4;have H:=n.cell;replace T:=T.below b4;replace m:=ag m b4;cases q with
     |false=>
      have K:¬spP ⟨y.n,p.no⟩:=λh=>by have:=W.2 h;cases this
      have a3:r=[]:=by
       rcases HR.out with⟨h,_⟩|⟨_,h⟩
       .exact absurd (h _ (aim (k:=k) (j:=j+1) _ (by rw[d.out];simp))) K
       .exact h
      subst a3;clear W K;have ba:=av w4 (.cells #[] 136);go_wp2;go_ret;exact⟨_,rfl,aK.aif (eb.new _ _ (m.size)),ag m ba⟩
     |true=>
      have iN:=W.1 rfl;replace iN:=ab iN;clear W;have C:=ab pT;have V:=afR (a:=cH l k j) (l:=[]) List.Pairwise.nil;have B:=ab V;clear V;have a0:∀z∈fg (cH l k j) [],FSp.good z:=λz hz=>by
       rcases af3 hz with h|h
       .have:=HS.out z h;unfold spP at this;show bZ z.n/\bZ z.p;unfold bZ;omega
       .cases h
      have E:=ab a0;clear a0;have fC:fg (cH l k (j+1)) []=gO ⟨y.n,p.no⟩ (fg (cH l k j) []):=by
       rw[d.out,abP];rfl
      have kU:=ab fC;clear fC;have F:∀s∈cH l k (j+1),spP s:=λs o=>by
       rw[d.out] at o;rcases mx.1 o with h|h
       .exact HS.out s h
       .rw[pe.1 h];exact iN.out
      replace F:=ab F;revert T C B E kU;generalize fg (cH l k j) []=L;intro T C B E kU;go_wp2;refine(anZ ⟨y.n,p.no⟩ (by have:=iN.out;unfold spP at this;unfold bZ;omega) L _ w4 _ _ (am _) (T.sl E.out (am _)) B.out (by have:=C.out;omega)).mono ?_;rintro e w5 ⟨v5,rfl,o5,b5⟩;obtain⟨A5,c5,rfl⟩:=o5.form;go_wp2;go_roundw
      case rel=>exact⟨j+1,by omega,by go_num,by rw[kU.out];exact o5.base m.size,F.out,ag m b5⟩
      simp[intOf];omega
    .obtain rfl:j=p.its.length:=by omega
     have he:=ail J.out;replace he:=ab he;have a7:Hid (∀s∈dW (l.take (k+1)),spP s):=ab (by rw[<-he.out];exact HS.out);obtain⟨Ao,co,rfl⟩:=i.form;go_wp2;go_roundw
     case rel=>exact⟨k+1,by omega,by go_num,by rw[<-he.out];exact i,a7.out,f⟩
     simp[intOf];omega
  .obtain rfl:k=l.length:=by omega
   have G:r=fg (dW l) []:=by
    have h1:=HS.out;rw[gc] at h1;rcases HR.out with⟨_,h⟩|⟨h,_⟩
    .exact h
    .exact absurd h1 h
   replace G:=ab G;clear HS;rw[gc,<-G.out] at i;obtain⟨Ao,co,rfl⟩:=i.form;go_wp2;go_ret;exact⟨_,rfl,i,u⟩
end
section
variable {β:Bool}
open Go.RowKit
def wX{l:List Y}(h:l[k]?=some x):l.drop k=x::l.drop (k+1):=by
 have a:=aC h;rw[rR a]
 congr 1
 rw[iS a] at h;exact dk h
def ak6(xs:List Sp)(n:Int)(v:Value)(w:World)(t hi:Nat)(h:bE RSp 2 w t hi xs [v]) :
  Calls (ah β) 81 #[v,.int .i64 n] w λe p=>e=.returned (.int .i64 (oY n xs))/\w=p:=by
 obtain⟨A,c,rfl⟩:=h.form;obtain⟨_,z,r⟩:=h.len_;unfold maxLen at r;go_enter yO,ntmps81;go_wp2
 go_loop [5] (λi=>∃k:Nat,k<=xs.length/\i=.int .i64 k/\oY n xs=oY n (xs.drop k)) (λi=>xs.length-(intOf i).toNat)
 case atStart=>exact⟨0,fb _,rfl,by rw[rH]⟩
 case round=>
  obtain⟨k,y,rfl,a⟩:=hrel;replace a:=ab a;by_cases d:k<xs.length
  .obtain⟨x,l⟩:=aq d;obtain⟨u,o,rfl,_,_,s,f,q⟩:=avH h l;have hd:oY n (xs.drop k)=if x.n=n then x.p else oY n (xs.drop (k+1)):=by rw[wX l];rfl
   replace hd:=ab hd;by_cases b:x.n=n
   .have m:(x.n ==n)=true:=nF.2 b;have g:=ab (a.out.trans (hd.out.trans (dq b)));go_wp2;go_ret;exact⟨by rw[g.out];rfl,rfl⟩
   .have m:(x.n ==n)=false:=de.2 b;have g:=ab (a.out.trans (hd.out.trans (bv b)));go_wp2
    go_round
    case rel=>exact⟨k+1,by omega,by go_num,g.out⟩
    simp[intOf];omega
  .obtain rfl:k=xs.length:=by omega
   have j:oY n xs=0:=by rw[a.out,uv];rfl
   replace j:=ab j;go_wp2;go_ret;exact⟨by rw[j.out];rfl,rfl⟩
open Classical in
noncomputable def gq(key:Int)(ix:List Sp)(o:List ByteArray)(p:ByteArray):List ByteArray:=if oY (cP key (bs p)) ix=0/\p∉o then o++[p] else o
noncomputable def ab4(key:Int)(ix:List Sp)(o l:List ByteArray):List ByteArray:=l.foldl (gq key ix) o
def ab5(t:List Nd):List ByteArray:=t.flatMap λf=>jT f.b
noncomputable def aa2(key:Int)(ix:List Sp)(t:List Nd):List ByteArray:=ab4 key ix [] (ab5 t)
def aiR{ix:List Sp}(h:oY (cP key (bs p)) ix=0)(a:p∉o):gq key ix o p=o++[p]:=dq ⟨h,a⟩
def aeR{ix:List Sp}(h:¬(oY (cP key (bs p)) ix=0/\p∉o)):gq key ix o p=o:=bv h
def aon{ix:List Sp}{l : List ByteArray}(h:l[k]?=some p):ab4 key ix o (l.take (k+1))=gq key ix (ab4 key ix o (l.take k)) p:=by
 unfold ab4;rw[li h,sN];rfl
def aoo{ix:List Sp}{f:Nd}(h:t[k]?=some f):aa2 key ix (t.take (k+1))=ab4 key ix (aa2 key ix (t.take k)) (jT f.b):=by
 unfold aa2 ab4 ab5;rw[li h,sX,sN];simp
def ab6{key:Int}{ix:List Sp}:∀(l o:List ByteArray),(ab4 key ix o l).length<=o.length+l.length
 |[],o=>am _
 |p::l,o=>by
  have a:=ab6 (key:=key) (ix:=ix) l (gq key ix o p);have b:(gq key ix o p).length<=o.length+1:=by
   unfold gq;split
   .rw[aE];exact am _
   .exact Nat.le_succ _
  show(ab4 key ix (gq key ix o p) l).length<=_;rw[ga];omega
def aeS{key:Int}{ix:List Sp}{x:ByteArray}:∀{l o:List ByteArray},x∈ab4 key ix o l->x∈o\/x∈l
 |[],o,h=>.inl h
 |p::l,o,h=>by
  rcases aeS (l:=l) (o:=gq key ix o p) h with h|h
  .unfold gq at h;split at h
   .rcases mx.1 h with h|h
    .exact .inl h
    .rw[pe.1 h];exact .inr (by simp)
   .exact .inl h
  .exact .inr (qU _ h)
def acJ:∀{t:List Nd},(∀x∈t,dH x.b=true)->(ab5 t).length<=40*t.length
 |[],_=>fb _
 |f::t,h=>by
  have c:=acJ (t:=t) λx b=>h x (qU _ b);have d:=abT f.b;have a:=h f (by simp);unfold dH at a;simp only[ff,qS] at a;show(jT f.b++ab5 t).length<=_;rw[aE,ga];omega
def kJ{s:ByteArray}(h:dH s=true):s.size<=40/\(bs s).all oQ=true:=by
 unfold dH at h;simpa using h
def aiS(h:∀x∈t,dH x.b=true):∀x∈ab5 t,bB (bs x):=λx a=>by
 obtain⟨f,b,a⟩:=sq.1 a;exact nB (kJ (h f b)).2 x a
def nI{ix:List Sp}(h:∀x∈t,dH x.b=true):∀x∈aa2 key ix t,bB (bs x):=λx b=>by
 rcases aeS b with a|a
 .cases a
 .exact aiS h x a
def lq{x:ByteArray}(h:bB (bs x)):ie.good x:=by
 have:=h.1.2;rw[aO] at this;show x.size<=maxLen;unfold maxLen;omega
def aua(w:World)(xs:List ByteArray)(e:Ending)(w':World):Prop:=∃v,e=.returned v/\aK ie 9 w' w.heap.size v xs/\Below w.heap.size w w'
def ak7(key:Int)(hk:1<=key/\key<=99)(t:List Nd)(R:∀x∈t,dH x.b=true)(hl:t.length<=1000)(ix:List Sp)(vt vi:Value)(w:World)(lo hi:Nat)(aX:hi<=w.heap.size)(h1:eD w lo hi t [vt])(h2:bE RSp 2 w lo hi ix [vi]) :
  Calls (ah β) 54 #[.int .i64 key,vt,vi] w (aua w (aa2 key ix t)):=by
 replace R:=ab R;obtain⟨A,c,rfl⟩:=h1.form;obtain⟨A2,c2,rfl⟩:=h2.form;obtain⟨_,hc,n⟩:=h1.len_;unfold maxLen at n;go_enter zf,ntmps54;go_wp2;have V:=av w (.cells #[] 9);have Q:aK ie 9 (w.alloc (.cells #[] 9)) w.heap.size (.slice (some ⟨w.heap.size,0,none⟩) 0 0) []:=(eb.new w 9 (am _)).own 1;generalize w.alloc (.cells #[] 9)=w0 at *;go_loopw [7,8] (λoo ii wr=>∃k:Nat,k<=t.length/\ii=.int .i64 k/\aK ie 9 wr w.heap.size oo (aa2 key ix (t.take k))/\Below w.heap.size w wr) (λ_ ii _=>t.length-(intOf ii).toNat)
 case atStart=>exact⟨0,fb _,rfl,Q,V⟩
 case round=>
  clear Q V;obtain⟨k,aL,rfl,a,l⟩:=hrel;obtain⟨J,a9⟩:∃J,J=wr:=⟨_,rfl⟩;subst a9;by_cases a4:k<t.length
  .obtain⟨f,z⟩:=aq a4;have E:=kJ (R.out f (db z));obtain⟨b1,ay,rfl,_,_,ao,lF,aa⟩:=jJ (eD.ar.below h1 l aX) z;have s:=aoo (key:=key) (ix:=ix) z;have a7:(aa2 key ix (t.take k)).length<=40000:=by
    have a1:=ab6 (key:=key) (ix:=ix) (ab5 (t.take k)) [];have a2:=acJ (t:=t.take k) λx n=>R.out x (pu n);rw[fa] at a2;show(ab4 key ix [] (ab5 (t.take k))).length<=_;simp only[mw,mc] at a1;omega
   have a0:=nI (key:=key) (ix:=ix) (t:=t.take k) λx n=>R.out x (pu n);have D:=nB E.2;have iZ:=abT f.b;have aT:=E.1;have HS:=ab s;have HP:=ab a0;have S:=ab D;have HC:=ab (afW (β:=β) f.b (by omega));clear z s a0 D E;revert HS;revert HP;generalize aa2 key ix (t.take k)=base at a a7;intro HP HS;obtain⟨A0,c0,rfl⟩:=a.form;go_wp2;refine(HC.out J).mono ?_;rintro e w1 ⟨v1,rfl,op,oh⟩;clear HC;obtain⟨Ap,cp,rfl⟩:=op.form;have Z:=a.below oh;have C:=ag l oh;have Y:∀g,(Value.slice A0 base.length c0).ownBlock=some g->g<J.heap.size\/w1.heap.size<=g:=λg hg=>.inl (a.at_ hg).2;have B:=(op.deep (λx n=>lq (S.out x n)) J.heap.size).sl (am _);have zo:=l.size;have z1:=oh.size;revert HS;revert S;revert iZ;revert B;generalize jT f.b=ps;intro B iZ S HS;have HO:=ab Z;replace C:=ab C;have M:=ab B;have d:=ab Y;clear a l Z B op Y oh aa lF;go_wp2;go_loopw [7,10] (λoo jj wr=>∃j:Nat,j<=ps.length/\jj=.int .i64 j/\aK ie 9 wr w.heap.size oo (ab4 key ix base (ps.take j))/\Below w.heap.size w wr/\dt wr J.heap.size w1.heap.size ps [.slice Ap ps.length cp]/\(∀g,oo.ownBlock=some g->g<J.heap.size\/w1.heap.size<=g)/\w1.heap.size<=wr.heap.size) (λ_ jj _=>ps.length-(intOf jj).toNat)
   case atStart=>exact⟨0,fb _,rfl,HO.out,C.out,M.out,d.out,am _⟩
   case round=>
    clear HO C M d;obtain⟨j,an,rfl,a,l,hr,X,hz⟩:=hrel;by_cases af:j<ps.length
    .obtain⟨p,y⟩:=aq af;have ad:=S.out p (db y);obtain⟨b2,iE,rfl,aI,ax,aG,a6⟩:=kZ hr y;have fC:=aon (key:=key) (ix:=ix) (o:=base) y;have L:=ab6 (key:=key) (ix:=ix) (ps.take j) base;rw[fa] at L;have O:∀x∈ab4 key ix base (ps.take j),ie.good x:=λx n=>by
      rcases aeS n with h|h
      .exact lq (HP.out x h)
      .exact lq (S.out x (pu h))
     have al:=RSp.loc;have N:bE RSp 2 wr lo hi ix [.slice A2 ix.length c2]:=(bE.loc RSp.loc).below h2 l aX;have kU:=ab fC;have H:=ab O;have a8:=ab N;have d:=ab X;have M:=ab hr;have T:=ab (aaM (β:=β) key p hk ad wr);clear al fC O N X hr y;revert kU;revert H;generalize ab4 key ix base (ps.take j)=o at a L;intro H kU;obtain⟨Ao,co,rfl⟩:=a.form;have K:=(a.deep H.out w.heap.size).sl (am _);replace K:=ab K;have pT:o.length<=50000:=by omega
     clear L;go_wp2;refine T.out.mono ?_;rintro e w2 ⟨rfl,rfl⟩;clear T;have I:=ab (ak6 (β:=β) ix (cP key (bs p)) _ wr lo hi a8.out);obtain⟨r,u⟩:∃r,r=oY (cP key (bs p)) ix:=⟨_,rfl⟩;rw[<-u] at I;replace u:=ab u;go_wp2;refine I.out.mono ?_;rintro e w2 ⟨rfl,rfl⟩;clear I;by_cases m:r=0
     .have t1:(r ==0)=true:=nF.2 m;have a3:=ab (u.out.symm.trans m);clear m;obtain⟨q,hq⟩:=atk (p∈o);have U:=ab (an2 (β:=β) o p _ wr _ _ K.out q hq);cases q with
      |true=>
       have W:Hid (gq key ix o p=o):=ab (aeR λh=>h.2 (hq.1 rfl));clear hq;go_wp2;refine U.out.mono ?_;rintro e w2 ⟨rfl,rfl⟩;go_wp2;go_roundw
       case rel=>exact⟨j+1,by omega,by go_num,by rw[kU.out,W.out];exact a,l,M.out,d.out,hz⟩
       simp[intOf];omega
      |false=>
       have W:Hid (gq key ix o p=o++[p]):=ab (aiR a3.out λh=>by have:=hq.2 h;cases this);clear hq;go_wp2;refine U.out.mono ?_;rintro e w2 ⟨rfl,rfl⟩;have P:∀hs:(Value.slice Ao o.length co).ownBlock=some b2,False:=λhs=>by
        have:=d.out _ hs;omega
       replace P:=ab P;go_wp2_with(at_builtin;refine cu (F:=ie) (v:=.slice Ao o.length co) rfl (.tmp 48) (.tmp 53) 78 rfl abS p rfl a rfl rfl (by omega) l.size ?_;intro va wa oa G a5;obtain⟨Aa,ca,rfl⟩:=oa.form;simp only[aE,ga,mw,mc] at oa);go_roundw
       case rel=>
        refine⟨j+1,by omega,by go_num,by rw[kU.out,W.out];simpa using oa,l.trans (G.below l.size λi hi n=>by have:=(a.at_ n).1;omega),dt.ar.fc M.out G λb b1 b2 _ hs=>by have:=d.out _ hs;omega,λg hg=> ?_,ap hz G.size⟩;rcases a5 g (by simpa using hg) with h|h
        .exact d.out g h
        .exact .inr (by omega)
       case measure=>simp[intOf];omega
     .have t1:(r ==0)=false:=de.2 m;have W:Hid (gq key ix o p=o):=ab (aeR λh=>m (u.out.trans h.1));clear m;go_wp2;go_roundw
      case rel=>exact⟨j+1,by omega,by go_num,by rw[kU.out,W.out];exact a,l,M.out,d.out,hz⟩
      simp[intOf];omega
    .obtain rfl:j=ps.length:=by omega
     rw[gc] at a;rw[<-HS.out] at a;have HO:=ab a;clear a;go_wp2;go_roundw
     case rel=>exact⟨k+1,by omega,by go_num,HO.out,l⟩
     simp[intOf];omega
  .obtain rfl:k=t.length:=by omega
   rw[gc] at a;obtain⟨A0,c0,rfl⟩:=a.form;go_wp2;go_ret;exact⟨_,rfl,a,l⟩
end
section
variable {β:Bool}
open Go.RowKit
def marks(k:Int):Nat->List Int
 |0=>[]
 |n+1=>marks k n++[k+n]
end
section
variable {β:Bool}
open Go.RowKit
structure iW (w:World) (lo hi:Nat) (s:dK) (va vb vc:Value):Prop where
 pk:iV w lo hi s.pk [va]
 sn:gQ w lo hi s.sn [vb]
 lg:fG w lo hi s.lg [vc]
def iW.below{w : World}(h:iW w Z hi s X W V)(b:Below B w w')(a:hi<=B):iW w' Z hi s X W V:=⟨iV.loc.below h.pk b a,gQ.loc.below h.sn b a,fG.loc.below h.lg b a⟩
structure eM (w:World) (lo hi:Nat) (s:dK) (va vb vc:Value):Prop where
 pk:bD w lo hi s.pk [va]
 sn:bQ w lo hi s.sn [vb]
 lg:dy w lo hi s.lg [vc]
def eM.go{w : World}{fE : Nat}(h:eM w Z hi s X W V)(d:∀b,Z<=b->b<hi->w'.heap[b]?=w.heap[b]?)(c:fE<=Z)(a:hi<=hi'):eM w' fE hi' s X W V:=
 ⟨bD.ar.loc.go d c a h.pk,bQ.ar.loc.go d c a h.sn,dy.ar.loc.go d c a h.lg⟩
def eM.below{w : World}(h:eM w Z hi s X W V)(a:Below B w w')(d:hi<=B):eM w' Z hi s X W V:=h.go (λb _ c=>a.block b (by omega)) (am _) (am _)
def eM.l{w:World}(h:eM w Z hi s X W V):iW w Z hi s X W V:=⟨bD.l h.pk,bQ.l h.sn,dy.l h.lg⟩
def jV(s:dK):Nat:=dX bPk s.pk+dX bSn s.sn+s.lg.length
def aq1(w:World)(s:dK)(e:Ending)(w':World):Prop:=∃c a b,e=.returned (.agg #[c,a,b])/\eM w' w.heap.size w'.heap.size s c a b/\Below w.heap.size w w'
end
section
variable {β:Bool}
open Go.RowKit
section
variable {P:Program} {α:Type} {E:fV α} {T:List TypeId} {sz:Nat} {e:TypeId}
def gS (D:dC E T) (C:e∉T) {w:World} {p:Array Oper} {rest:List Oper} {o:Oper} {a:Act} {Q:Exit->Act->World->Prop} (q:o.guard=none) (s x:Operand) (t:TypeId)
  (V:o.op=.call ⟨.builtin .append,#[s,x],#[t,t]⟩)
  (z:ib P t e sz Z)  {xs:List α} (y:α) (Y:a.eval s=v) (m:aQ e E sz w U R xs [v]) {es:Array Value} {L:TypeId} (hx:a.eval x=.slice (some ⟨g,0,none⟩) 1 1) (M:bg w g L es) (n:es.toList.length=sz) (H:∀u∈es.toList,u.oneCell'=true) (K:R<=hi) (W:E w R hi y es.toList) (aX:hi<=w.heap.size)
  (hn:xs.length<=1099511627775) (f:U<=w.heap.size)
  (h:∀i c,aQ e E sz c U c.heap.size (xs++[y]) [i]->bq (λb=>v.ownBlock=some b) w c->(∀b,i.ownBlock=some b->v.ownBlock=some b\/w.heap.size<=b)->wpList P p Q rest (a.put o.dst i) c) :
  wpList P p Q (o::rest) a w:=by
 obtain⟨v0,cells,e1,d,hg,B⟩:=m;cases e1;refine aen q s x t V z Y d hx (news:=es.toList) (by rw[n,Nat.one_mul]) (λ_=>⟨_,rfl,λj u X=>by
  have F:(⟨g,0,none⟩:Addr).add j=⟨g,j,none⟩:=by unfold Addr.add;split<;>simp_all
  rw[F,M.cell,<-du];exact X⟩) H (by omega) f λi c k=>h i c ?_ k.fc k.at_
 have A:∀b,v.ownBlock=some b->∃I,bg w b e I:=λb l=>by
  rcases d.2 with⟨rfl,_⟩|⟨g',cap,S,rfl,_,ow,_⟩
  .cases l
  .cases l;exact⟨_,ow⟩
 have J:∀b,Typed w T b->c.heap[b]?=w.heap[b]?:=λb ⟨t',ht',I,hd⟩=>k.fc.block b hd.lt λl=>by
  obtain⟨N,G⟩:=A b l;exact C (cD G hd▸ht')
 have O:=k.fc.size;refine⟨i,cells++es.toList,rfl,by rw[aE];exact k.own,λb l=>(k.own.lt b l).2, ?_⟩;have hS:=Els.snoc (E:=E) (B.go (fE:=U) (hi':=R) D (λb _ _ r=>J b r) (am _) (am _)) (y:=y) (es:=es.toList) n H (hi:=c.heap.size) (by omega) (D.go (λb _ _ r=>J b r) (am _) (by omega) W);exact hS D.loc
end
def ahe:ib (ah β) 25 62 2 16:=ib.mk' xg (z:=.agg #[.int .i64 0,.int .i64 0]) (by kernel_rfl) rfl (by decide) (by decide)
def ahf:ib (ah β) 37 89 2 40:=ib.mk' yF (z:=.agg #[.string ⟨#[]⟩,.slice none 0 0]) (by kernel_rfl) rfl (by decide) (by decide)
def adN:ib (ah β) 24 39 2 32:=ib.mk' xy (z:=.agg #[.int .i64 0,.slice none 0 0]) (by kernel_rfl) rfl (by decide) (by decide)
def ak8(xs:List Int)(v:Value)(w:World)(p hi:Nat)(h:bE (bP mM) 1 w p hi xs [v])(n:hi<=w.heap.size)(k:xs.length<=1099511627776) :
  Calls (ah β) 63 #[v] w (ag0 mM 3 w xs):=by
 obtain⟨A,c,rfl⟩:=h.form;have f:=ab (kY (F:=mM) h n);cases A with
 |none=>
  have a:xs=[]:=by
   rcases qa xs.length with a|a
   .exact qM a
   .obtain⟨x,l⟩:=aq a;obtain⟨b,j,t,o,_⟩:=h.at_ l;cases o
  subst a;have m:=rA (P:=(ah β)) w 87 3 none 0 c 0 0 xe;go_enter xD,ntmps63;go_wp2;go_wp2;go_ret;exact⟨_,rfl,aK.nil _ _ _,fd _ _⟩
 |some q=>
  have m:=rA (P:=(ah β)) w 87 3 (some q) xs.length c 0 0 xe;have d:=av w (.cells #[] 3);have g:=ab (eb.new w 3 (am _));go_enter xD,ntmps63;go_wp2_with(at_builtin;refine mN (F:=mM) (xs:=xs) d rfl (.tmp 5) (.tmp 6) 87 rfl abH (am _) rfl rfl g.out f.out k ?_;intro s r e i);go_wp2;go_ret;exact⟨_,rfl,i,d.trans (e.mono d.size)⟩
def aop(xs:List It)(v:Value)(w:World)(p hi:Nat)(h:bE (bP mo) 2 w p hi xs [v])(n:hi<=w.heap.size)(k:xs.length<=1099511627776) :
  Calls (ah β) 62 #[v] w (ag0 mo 60 w xs):=by
 obtain⟨A,c,rfl⟩:=h.form;have f:=ab (kY (F:=mo) h n);cases A with
 |none=>
  have a:xs=[]:=by
   rcases qa xs.length with a|a
   .exact qM a
   .obtain⟨x,l⟩:=aq a;obtain⟨b,j,t,o,_⟩:=h.at_ l;cases o
  subst a;have m:=rA (P:=(ah β)) w 52 60 none 0 c 0 0 xf;go_enter xE,ntmps62;go_wp2;go_wp2;go_ret;exact⟨_,rfl,aK.nil _ _ _,fd _ _⟩
 |some q=>
  have m:=rA (P:=(ah β)) w 52 60 (some q) xs.length c 0 0 xf;have d:=av w (.cells #[] 60);have g:=ab (eb.new w 60 (am _));go_enter xE,ntmps62;go_wp2_with(at_builtin;refine mN (F:=mo) (xs:=xs) d rfl (.tmp 5) (.tmp 6) 52 rfl nu (am _) rfl rfl g.out f.out k ?_;intro s r e i);go_wp2;go_ret;exact⟨_,rfl,i,d.trans (e.mono d.size)⟩
def aoq(xs:List Hd)(v:Value)(w:World)(p hi:Nat)(h:bE (bP og) 2 w p hi xs [v])(n:hi<=w.heap.size)(k:xs.length<=1099511627776) :
  Calls (ah β) 34 #[v] w (ag0 og 62 w xs):=by
 obtain⟨A,c,rfl⟩:=h.form;have f:=ab (kY (F:=og) h n);cases A with
 |none=>
  have a:xs=[]:=by
   rcases qa xs.length with a|a
   .exact qM a
   .obtain⟨x,l⟩:=aq a;obtain⟨b,j,t,o,_⟩:=h.at_ l;cases o
  subst a;have m:=rA (P:=(ah β)) w 25 62 none 0 c 0 0 xg;go_enter xO,ntmps34;go_wp2;go_wp2;go_ret;exact⟨_,rfl,aK.nil _ _ _,fd _ _⟩
 |some q=>
  have m:=rA (P:=(ah β)) w 25 62 (some q) xs.length c 0 0 xg;have d:=av w (.cells #[] 62);have g:=ab (eb.new w 62 (am _));go_enter xO,ntmps34;go_wp2_with(at_builtin;refine mN (F:=og) (xs:=xs) d rfl (.tmp 5) (.tmp 6) 25 rfl ahe (am _) rfl rfl g.out f.out k ?_;intro s r e i);go_wp2;go_ret;exact⟨_,rfl,i,d.trans (e.mono d.size)⟩
def afk(x:Pk)(v:Value)(w:World)(q hi:Nat)(h:iU w q hi x.its [v])(p:hi<=w.heap.size)(i:bZ x.no)(y:x.its.length<=1099511627776) :
  Calls (ah β) 32 #[.agg #[.int .i64 x.no,v]] w λe j=>∃m,e=.returned (.agg #[.int .i64 x.no,m])/\ki j w.heap.size j.heap.size x [.int .i64 x.no,m]/\Below w.heap.size w j:=by
 have z:=bE.good (F:=mo) h;obtain⟨A,c,rfl⟩:=bE.form h;go_enter zu,ntmps32;go_wp2;generalize B:(w.alloc (.cells #[.int .i64 x.no,.slice A x.its.length c] 54)).alloc (.cells #[.int .i64 0,.slice none 0 0] 54)=w0 at *;obtain⟨k,I,f,n,t,d,o,C⟩:=oV B;refine(aop x.its _ w0 q hi (iU.loc.below h k p) (ap p k.size) y).mono ?_;rintro e D ⟨H,rfl,l,a⟩;replace f:=ak f a;replace n:=f.cell;replace t:=f.frozen;replace d:=ak d a;replace o:=d.cell;replace C:=d.frozen;obtain⟨s,u,rfl⟩:=l.form;have G:=a.size;have HO:=ab (l.aae z a.size λg r=>(l.at_ r).2);go_wp2;exact pa (v:=.agg #[.int .i64 x.no,.slice s x.its.length u]) (by simp[results,results32,go_sem,n,o]) rfl ⟨_,rfl,⟨_,rfl,i,aaZ.ar.go (λb E _ _=>by rw[io _ _ _ _ (by dsimp only;omega),io _ _ _ _ (by dsimp only;omega),io _ _ _ _ (by dsimp only;omega)]) (by omega) (by simp only[be];exact am _) HO.out⟩,
  (((ag k a).setCell (by dsimp only;omega) _).setCell (by dsimp only;omega) _).setCell (by dsimp only;omega) _⟩
end
section
variable {β:Bool}
open Go.RowKit
def gu{p:Prop}(h:p/\True):p:=h.1
def aQ.ob{w:World}{xs:List Y}(h:aQ e E Z w U hi xs [v])(a:v.ownBlock=some b):U<=b/\b<hi/\b<w.heap.size:=by
 obtain⟨f,cells,c,h,d,_⟩:=h;cases c;exact⟨(h.lt b a).1,d b a,(h.lt b a).2⟩
def afl(x:Sn)(v:Value)(w:World)(lo hi:Nat)(h:fP w lo hi x.all [v])(aX:hi<=w.heap.size)(X:bZ x.no)(hl:dX bLs x.all<=1099511627) :
  Calls (ah β) 33 #[.agg #[.int .i64 x.no,v]] w λe n=>∃v',e=.returned (.agg #[.int .i64 x.no,v'])/\lI n w.heap.size n.heap.size x [.int .i64 x.no,v']/\Below w.heap.size w n:=by
 obtain⟨A,c,rfl⟩:=bE.form h;obtain⟨_,hc,hx⟩:=h.len_;unfold maxLen at hx;have a4:=ap (dL (f:=bLs) (l:=x.all)) hl;go_enter zt,ntmps33;go_wp2;generalize U:((w.alloc (.cells #[.int .i64 x.no,.slice A x.all.length c] 39)).alloc (.cells #[.int .i64 0,.slice none 0 0] 39)).alloc (.cells #[.int .i64 x.no,.slice none 0 0] 39)=w0 at *;obtain⟨aL,iP,k0,cZ,eK,j,N,V,d,D,jw⟩:=aes U;go_loopw [12] (λii wr=>∃(k:Nat) (R:Value),k<=x.all.length/\ii=.int .i64 k/\fu wr w0.heap.size wr.heap.size (x.all.take k) [R]/\bg wr (w.heap.size+1) 39 #[.int .i64 0,.slice none 0 0]/\bg wr (w.heap.size+1+1) 39 #[.int .i64 x.no,R]/\Below w.heap.size w wr/\w0.heap.size<=wr.heap.size) (λii _=>x.all.length-(intOf ii).toNat)
 case atStart=>exact⟨0,_,fb _,rfl,aQ.nil (am _),j,d,aL,am _⟩
 case round=>
  obtain⟨k,R,hk,rfl,m,j,d,q,a6⟩:=hrel;obtain⟨W,S,rfl⟩:=m.form;have o:(x.all.take k).length=k:=by rw[fa,qZ hk]
  rw[o] at m d;by_cases Y:k<x.all.length
  .obtain⟨y,H⟩:=aq Y;have iQ:=jq (f:=bLs) (db H);have a8:y.ns.length<=1099511627:=by have h1:y.ns.length<=bLs y:=Nat.le_add_left _ _;omega
   obtain⟨b,I,es,rfl,_,a3,_,⟨v2,rfl,O,L⟩,F⟩:=(fP.loc.below h q aX).at_ H;obtain⟨A2,c2,rfl⟩:=bE.form L;have a2:wr.cell? ⟨b,I+k*2,none⟩=some (.string y.p):=by simpa using F 0 _ rfl
   have ad:wr.cell? ⟨b,I+k*2+1,none⟩=some (.slice A2 y.ns.length c2):=by simpa using F 1 _ rfl
   have P:=li H;replace P:=ab P;replace H:=ab H;replace o:=ab o;replace L:=ab L;go_wp2;generalize U:wr.alloc (.cells #[.string y.p,.slice A2 y.ns.length c2] 89)=wa at *;obtain⟨C,a9,m0,mC,a7⟩:=mL U;replace j:=ak j C;replace N:=j.cell;replace V:=j.frozen;replace d:=ak d C;replace D:=d.cell;replace jw:=d.frozen;have eU:=fu.ar.below m C (am _);have a1:=ab (nG.loc.below L.out C (by have:=q.size;omega));have t:=ag q C;have fk:=D 1;have fm:=mC 0;have T:=mC 1;have aG:=ae fk;have aI:=ae fm;have aZ:=ae T;refine aF 9 [0,1,2,3,4,5] [6,7,8] (h:= ?_);simp only[pick,List.map,ge,gn];repeat(go_big_quiet_step (fail))
   refine gt ?_;apply Exists.intro;apply aU (λv n=>∃A c,v=.slice A y.ns.length c/\iz n wa.heap.size n.heap.size y.ns [v])
   .rfl
   .exact λv x y ⟨A,c,e,m⟩ hle=>⟨A,c,e,iz.ar.wide (iz.ar.below m hle (am _)) (am _) hle.size⟩
   .intro z r Qx a;replace a:=ab a;have hd:=nG.loc.below a1.out z.ok (by have:=t.size;omega);go_wp2;refine(ak8 y.ns _ _ _ _ hd (by have:=z.ok.size;have:=t.size;omega) (by omega)).mono ?_;rintro e w5 ⟨v5,rfl,s,b5⟩;have iN:=hd.akd;obtain⟨A5,c5,rfl⟩:=s.form;go_wp2;exact a.out _ _ b5 ⟨_,_,rfl,iz.ar.wide (s.aae iN b5.size λg Z=>(s.at_ Z).2) z.ok.size (am _)⟩
   intro v6;apply aU (λv n=>∃A c,v=.agg #[.string y.p,.slice A y.ns.length c]/\iz n wa.heap.size n.heap.size y.ns [.slice A y.ns.length c])
   .rfl
   .exact λv x y ⟨A,c,e,m⟩ hle=>⟨A,c,e,iz.ar.wide (iz.ar.below m hle (am _)) (am _) hle.size⟩
   .intro z r Qx a;replace a:=ab a;obtain⟨A5,c5,rfl,s⟩:=r.1 (by kernel_rfl);go_wp2;exact a.out _ _ (fd _ _) ⟨_,_,rfl,s⟩
   intro v7;apply aU (λv n=>∃g A c,v=.slice (some ⟨g,0,none⟩) 1 1/\wa.heap.size<=g/\bg n g 89 #[.string y.p,.slice A y.ns.length c]/\iz n wa.heap.size n.heap.size y.ns [.slice A y.ns.length c])
   .rfl
   .exact λv x y ⟨g,A,c,e,Z,hk,m⟩ hle=>⟨g,A,c,e,Z,ak hk hle,iz.ar.wide (iz.ar.below m hle (am _)) (am _) hle.size⟩
   .intro z r Qx a;replace a:=ab a;obtain⟨A5,c5,rfl,s⟩:=r.1 (by kernel_rfl);go_wp2;have ba:=av z.to (.cells #[.string y.p,.slice A5 y.ns.length c5] 89);exact a.out _ _ ba ⟨_,_,_,rfl,z.ok.size,bg.new _ _ _,iz.ar.wide (iz.ar.below s ba (am _)) (am _) ba.size⟩
   intro v8;refine aS ?_;intro w6 E xx cT r;dsimp only[dP] at r;try rw[cT] at r
   obtain⟨⟨g8,A8,c8,rfl,aa,B,o8⟩, -⟩:=r;simp only[List.drop];replace j:=ak j E;replace N:=j.cell;replace V:=j.frozen;replace d:=ak d E;replace D:=d.cell;replace jw:=d.frozen;have K:=fu.ar.below eU E (by have:=C.size;omega);have G:=ag t E;have z6:=E.size;have za:=C.size;replace K:=ab K;replace o8:=ab o8;replace B:=ab B;go_wp2_with(at_builtin;refine gu ?_);refine⟨?_,trivial⟩;refine gS OLs.ar (by decide) (v:=.slice W k S) rfl (.tmp 17) (.tmp 24) 37 rfl ahf y rfl K.out rfl B.out rfl (by simp[Value.oneCell']) (show wr.heap.size<=w6.heap.size by omega) ⟨_,rfl,O,iz.ar.wide o8.out za (am _)⟩ (am _) (by have:=o.out;omega) (by omega) ?_;intro v9 w9 o9 M a5;obtain⟨A9,c9,rfl⟩:=o9.form;rw[aE,mp,o.out] at o9;rw[aE,mp,o.out];have u:∀b,(Value.slice W k S).ownBlock=some b->w0.heap.size<=b:=λb Q=>(K.out.ob Q).1;replace j:=aP j M (λJ=>by have:=u _ J;omega);replace d:=aP d M (λJ=>by have:=u _ J;omega);replace D:=d.cell;replace jw:=d.frozen;go_wp2;have a0:Below w.heap.size w w9:=G.trans (M.below G.size λi hi J=>by have:=u i J;omega);have z9:=M.size;go_roundw
   case rel=>
    refine⟨k+1,.slice A9 (k+1) c9,by omega,by go_num, ?_,bV j (p:=⟨w.heap.size+1+1,1,none⟩) _ (by dsimp only;omega), ?_,a0.setCell (by dsimp only;omega) _,by simp only[be];omega⟩
    .rw[P.out];exact fu.ar.loc.go (λb Q _=>io _ _ _ _ (by dsimp only;omega)) (am _) (by simp only[be];exact am _) o9
    .have:=d.bF 1 (.slice A9 (k+1) c9);simpa using this
   case measure=>simp[intOf];omega
  .obtain rfl:k=x.all.length:=by omega
   rw[gc] at m;have N:=j.cell;have V:=j.frozen;have D:=d.cell;replace m:=ab m;go_wp2;exact pa (v:=.agg #[.int .i64 x.no,.slice W x.all.length S]) (by simp[results,results33,go_sem,N,D]) rfl ⟨_,rfl,⟨_,rfl,X,fu.ar.go (λb Q _ _=>by rw[io _ _ _ _ (by dsimp only;omega),io _ _ _ _ (by dsimp only;omega)]) (by omega) (by simp only[be];exact am _) m.out⟩,
    (q.setCell (by dsimp only;omega) _).setCell (by dsimp only;omega) _⟩
end
section
variable {β:Bool}
open Go.RowKit
def aeT(s:dK)(va vb vc:Value)(w:World)(lo hi:Nat)(h:iW w lo hi s va vb vc)(aX:hi<=w.heap.size)(hl:jV s<=1099511627) :
  Calls (ah β) 13 #[.agg #[va,vb,vc]] w (aq1 w s):=by
 obtain⟨h1,h2,h3⟩:=h;obtain⟨A,a,rfl⟩:=bE.form h1;obtain⟨B,b,rfl⟩:=bE.form h2;obtain⟨C,c,rfl⟩:=bE.form h3;obtain⟨_,b1,aY⟩:=h1.len_;obtain⟨_,b5,ao⟩:=h2.len_;obtain⟨_,b7,an⟩:=h3.len_;unfold maxLen at aY ao an;unfold jV at hl;have b2:=dL (f:=bPk) (l:=s.pk);have b3:=dL (f:=bSn) (l:=s.sn);go_enter zM,ntmps13;go_wp2;generalize hG:((w.alloc (.cells #[.slice A s.pk.length a,.slice B s.sn.length b,.slice C s.lg.length c] 27)).alloc (.cells #[.slice none 0 0,.slice none 0 0,.slice none 0 0] 27)).alloc (.cells #[.slice none 0 0,.slice none 0 0,.slice none 0 0] 27)=w0 at *;obtain⟨aL,iP,m,cZ,eK,j,W,ed,d,O,U⟩:=aes hG;go_loopw [11] (λii wr=>∃(k:Nat) (Z:Value),k<=s.pk.length/\ii=.int .i64 k/\bD wr w0.heap.size wr.heap.size (s.pk.take k) [Z]/\bg wr w.heap.size 27 #[.slice A s.pk.length a,.slice B s.sn.length b,.slice C s.lg.length c]/\bg wr (w.heap.size+1) 27 #[.slice none 0 0,.slice none 0 0,.slice none 0 0]/\bg wr (w.heap.size+1+1) 27 #[Z,.slice none 0 0,.slice none 0 0]/\Below w.heap.size w wr/\w0.heap.size<=wr.heap.size) (λii _=>s.pk.length-(intOf ii).toNat)
 case atStart=>exact⟨0,_,fb _,rfl,aQ.nil (am _),m,j,d,aL,am _⟩
 case round=>
  obtain⟨k,Z,hk,rfl,r,m,j,d,o,a5⟩:=hrel;have cZ:=m.cell;obtain⟨Ao,co,rfl⟩:=r.form;have Q:(s.pk.take k).length=k:=by rw[fa,qZ hk]
  rw[Q] at r d;by_cases a1:k<s.pk.length
  .obtain⟨y,cG⟩:=aq a1;have iQ:=jq (f:=bPk) (db cG);obtain⟨b',P,es,e0,_,a6,_,⟨v2,rfl,Y,V⟩,R⟩:=(iV.loc.below h1 o aX).at_ cG;subst e0;obtain⟨A2,c2,rfl⟩:=bE.form V;have aT:wr.cell? ⟨b',P+k*2,none⟩=some (.int .i64 y.no):=by simpa using R 0 _ rfl
   have pq:wr.cell? ⟨b',P+k*2+1,none⟩=some (.slice A2 y.its.length c2):=by simpa using R 1 _ rfl
   have iw:=li cG;have HN:=ab iw;have G:=ab Q;replace V:=ab V;go_wp2;generalize hG:wr.alloc (.cells #[.int .i64 y.no,.slice A2 y.its.length c2] 54)=wa at *;obtain⟨u,al,m0,mC,aa⟩:=mL hG;replace m:=ak m u;replace cZ:=m.cell;replace eK:=m.frozen;replace j:=ak j u;replace W:=j.cell;replace ed:=j.frozen;replace d:=ak d u;replace O:=d.cell;replace U:=d.frozen;have eU:=bD.ar.below r u (am _);have a3:=ab (iU.loc.below V.out u (by have:=o.size;omega));have D:=ag o u;have fk:=O 0;have fm:=mC 0;have a0:=mC 1;have aG:=ae fk;have aI:=ae fm;have aZ:=ae a0;refine aF 5 [0,1,2] [3,4] (h:= ?_);simp only[pick,List.map,ge,gn];repeat(go_big_quiet_step (fail))
   refine gt ?_;apply Exists.intro;apply aU (λv K=>∃A c,v=.agg #[.int .i64 y.no,.slice A y.its.length c]/\ki K wa.heap.size K.heap.size y [.int .i64 y.no,.slice A y.its.length c])
   .rfl
   .exact λv x y ⟨A,c,e,r⟩ hle=>⟨A,c,e,ki.ar.wide (ki.ar.below r hle (am _)) (am _) hle.size⟩
   .intro z J Qx n;replace n:=ab n;have hd:=iU.loc.below a3.out z.ok (by have:=D.size;omega);go_wp2;refine(afk y _ _ _ _ hd (by have:=z.ok.size;have:=D.size;omega) Y (by have h5:y.its.length<=bPk y:=dL;omega)).mono ?_;rintro e w5 ⟨v5,rfl,I,M⟩;obtain⟨A5,c5,rfl⟩:∃A c,v5=.slice A y.its.length c:=by
     obtain⟨v6,e6,_,h6⟩:=I;cases e6;exact aQ.form h6
    go_wp2;exact n.out _ _ M ⟨_,_,rfl,ki.ar.wide I z.ok.size (am _)⟩
   intro v6;apply aU (λv K=>∃g A c,v=.slice (some ⟨g,0,none⟩) 1 1/\wa.heap.size<=g/\bg K g 54 #[.int .i64 y.no,.slice A y.its.length c]/\ki K wa.heap.size K.heap.size y [.int .i64 y.no,.slice A y.its.length c])
   .rfl
   .exact λv x y ⟨g,A,c,e,hg,hk,r⟩ hle=>⟨g,A,c,e,hg,ak hk hle,ki.ar.wide (ki.ar.below r hle (am _)) (am _) hle.size⟩
   .intro z J Qx n;replace n:=ab n;obtain⟨A5,c5,rfl,I⟩:=J.1 (by kernel_rfl);go_wp2;have ba:=av z.to (.cells #[.int .i64 y.no,.slice A5 y.its.length c5] 54);exact n.out _ _ ba ⟨_,_,_,rfl,z.ok.size,bg.new _ _ _,ki.ar.wide (ki.ar.below I ba (am _)) (am _) ba.size⟩
   intro v8;refine aS ?_;intro w6 H xx cT J;dsimp only[dP] at J;try rw[cT] at J
   obtain⟨⟨g8,A8,c8,rfl,b0,E,o8⟩, -⟩:=J;simp only[List.drop];replace m:=ak m H;replace cZ:=m.cell;replace eK:=m.frozen;replace j:=ak j H;replace W:=j.cell;replace ed:=j.frozen;replace d:=ak d H;replace O:=d.cell;replace U:=d.frozen;have za:=u.size;have nU:=bD.ar.below eU H (by omega);have S:=ag D H;have z6:=H.size;have T:=ab nU;replace o8:=ab o8;replace E:=ab E;go_wp2_with(at_builtin;refine gu ?_);refine⟨?_,trivial⟩;refine gS ki.ar (by decide) (v:=.slice Ao k co) rfl (.tmp 16) (.tmp 19) 23 rfl adK y rfl T.out rfl E.out rfl (by simp[Value.oneCell']) (show wr.heap.size<=w6.heap.size by omega) (ki.ar.wide o8.out za (am _)) (am _) (by have:=G.out;omega) (by omega) ?_;intro v9 w9 o9 N a8;obtain⟨A9,c9,rfl⟩:=o9.form;rw[aE,mp,G.out] at o9;rw[aE,mp,G.out];have q:∀b,(Value.slice Ao k co).ownBlock=some b->w0.heap.size<=b:=λb L=>(T.out.ob L).1;replace m:=aP m N (λt=>by have:=q _ t;omega);replace j:=aP j N (λt=>by have:=q _ t;omega);replace d:=aP d N (λt=>by have:=q _ t;omega);replace O:=d.cell;replace U:=d.frozen;go_wp2;have a2:Below w.heap.size w w9:=S.trans (N.below S.size λi hi t=>by have:=q i t;omega);have z9:=N.size;go_roundw
   case rel=>
    refine⟨k+1,.slice A9 (k+1) c9,by omega,by go_num, ?_,bV m (p:=⟨w.heap.size+1+1,0,none⟩) _ (by dsimp only;omega),bV j (p:=⟨w.heap.size+1+1,0,none⟩) _ (by dsimp only;omega), ?_,a2.setCell (by dsimp only;omega) _,by simp only[be];omega⟩
    .rw[HN.out];exact bD.ar.loc.go (λb L _=>io _ _ _ _ (by dsimp only;omega)) (am _) (by simp only[be];exact am _) o9
    .have:=d.bF 0 (.slice A9 (k+1) c9);simpa using this
   case measure=>simp[intOf];omega
  .obtain rfl:k=s.pk.length:=by omega
   rw[gc] at r;have W:=j.cell;have O:=d.cell;have eK:=m.frozen;have ed:=j.frozen;have U:=d.frozen;have aL:=o;obtain⟨Ap,a7⟩:∃A,A=Ao:=⟨_,rfl⟩;obtain⟨cp,lF⟩:∃c,c=co:=⟨_,rfl⟩;subst a7 lF;have ad:=ab r;go_wp2;generalize b6:wr=wp at *;have b4:=a5;go_loopw [26] (λii wr=>∃(k:Nat) (Z:Value),k<=s.sn.length/\ii=.int .i64 k/\bQ wr wp.heap.size wr.heap.size (s.sn.take k) [Z]/\bD wr w0.heap.size wp.heap.size s.pk [.slice Ap s.pk.length cp]/\bg wr w.heap.size 27 #[.slice A s.pk.length a,.slice B s.sn.length b,.slice C s.lg.length c]/\bg wr (w.heap.size+1) 27 #[.slice none 0 0,.slice none 0 0,.slice none 0 0]/\bg wr (w.heap.size+1+1) 27 #[.slice Ap s.pk.length cp,Z,.slice none 0 0]/\Below w.heap.size w wr/\wp.heap.size<=wr.heap.size) (λii _=>s.sn.length-(intOf ii).toNat)
   case atStart=>exact⟨0,_,fb _,rfl,aQ.nil (am _),ad.out,m,j,d,aL,am _⟩
   case round=>
    obtain⟨k,Z,hk,rfl,r,X,m,j,d,o,a5⟩:=hrel;have cZ:=m.cell;obtain⟨Ao,co,rfl⟩:=r.form;have Q:(s.sn.take k).length=k:=by rw[fa,qZ hk]
    rw[Q] at r d;by_cases a1:k<s.sn.length
    .obtain⟨y,cG⟩:=aq a1;have iQ:=jq (f:=bSn) (db cG);obtain⟨b',P,es,e0,_,a6,_,⟨v2,rfl,Y,V⟩,R⟩:=(gQ.loc.below h2 o aX).at_ cG;subst e0;obtain⟨A2,c2,rfl⟩:=bE.form V;have aT:wr.cell? ⟨b',P+k*2,none⟩=some (.int .i64 y.no):=by simpa using R 0 _ rfl
     have pq:wr.cell? ⟨b',P+k*2+1,none⟩=some (.slice A2 y.all.length c2):=by simpa using R 1 _ rfl
     have iw:=li cG;have HN:=ab iw;have G:=ab Q;replace V:=ab V;go_wp2;generalize hG:wr.alloc (.cells #[.int .i64 y.no,.slice A2 y.all.length c2] 39)=wa at *;obtain⟨u,al,m0,mC,aa⟩:=mL hG;replace m:=ak m u;replace cZ:=m.cell;replace eK:=m.frozen;replace j:=ak j u;replace W:=j.cell;replace ed:=j.frozen;replace d:=ak d u;replace O:=d.cell;replace U:=d.frozen;have eU:=bQ.ar.below r u (am _);have a3:=ab (fP.loc.below V.out u (by have:=o.size;omega));have D:=ag o u;replace X:=bD.ar.below X u (by omega);have fk:=O 1;have fm:=mC 0;have a0:=mC 1;have aG:=ae fk;have aI:=ae fm;have aZ:=ae a0;refine aF 5 [0,1,2] [3,4] (h:= ?_);simp only[pick,List.map,ge,gn];repeat(go_big_quiet_step (fail))
     refine gt ?_;apply Exists.intro;apply aU (λv K=>∃A c,v=.agg #[.int .i64 y.no,.slice A y.all.length c]/\lI K wa.heap.size K.heap.size y [.int .i64 y.no,.slice A y.all.length c])
     .rfl
     .exact λv x y ⟨A,c,e,r⟩ hle=>⟨A,c,e,lI.ar.wide (lI.ar.below r hle (am _)) (am _) hle.size⟩
     .intro z J Qx n;replace n:=ab n;have hd:=fP.loc.below a3.out z.ok (by have:=D.size;omega);go_wp2;refine(afl y _ _ _ _ hd (by have:=z.ok.size;have:=D.size;omega) Y (by have h5:dX bLs y.all=bSn y:=rfl;omega)).mono ?_;rintro e w5 ⟨v5,rfl,I,M⟩;obtain⟨A5,c5,rfl⟩:∃A c,v5=.slice A y.all.length c:=by
       obtain⟨v6,e6,_,h6⟩:=I;cases e6;exact aQ.form h6
      go_wp2;exact n.out _ _ M ⟨_,_,rfl,lI.ar.wide I z.ok.size (am _)⟩
     intro v6;apply aU (λv K=>∃g A c,v=.slice (some ⟨g,0,none⟩) 1 1/\wa.heap.size<=g/\bg K g 39 #[.int .i64 y.no,.slice A y.all.length c]/\lI K wa.heap.size K.heap.size y [.int .i64 y.no,.slice A y.all.length c])
     .rfl
     .exact λv x y ⟨g,A,c,e,hg,hk,r⟩ hle=>⟨g,A,c,e,hg,ak hk hle,lI.ar.wide (lI.ar.below r hle (am _)) (am _) hle.size⟩
     .intro z J Qx n;replace n:=ab n;obtain⟨A5,c5,rfl,I⟩:=J.1 (by kernel_rfl);go_wp2;have ba:=av z.to (.cells #[.int .i64 y.no,.slice A5 y.all.length c5] 39);exact n.out _ _ ba ⟨_,_,_,rfl,z.ok.size,bg.new _ _ _,lI.ar.wide (lI.ar.below I ba (am _)) (am _) ba.size⟩
     intro v8;refine aS ?_;intro w6 H xx cT J;dsimp only[dP] at J;try rw[cT] at J
     obtain⟨⟨g8,A8,c8,rfl,b0,E,o8⟩, -⟩:=J;simp only[List.drop];replace m:=ak m H;replace cZ:=m.cell;replace eK:=m.frozen;replace j:=ak j H;replace W:=j.cell;replace ed:=j.frozen;replace d:=ak d H;replace O:=d.cell;replace U:=d.frozen;have za:=u.size;have nU:=bQ.ar.below eU H (by omega);have S:=ag D H;have z6:=H.size;replace X:=bD.ar.below X H (by omega);have T:=ab nU;replace o8:=ab o8;replace E:=ab E;go_wp2_with(at_builtin;refine gu ?_);refine⟨?_,trivial⟩;refine gS lI.ar (by decide) (v:=.slice Ao k co) rfl (.tmp 31) (.tmp 34) 24 rfl adN y rfl T.out rfl E.out rfl (by simp[Value.oneCell']) (show wr.heap.size<=w6.heap.size by omega) (lI.ar.wide o8.out za (am _)) (am _) (by have:=G.out;omega) (by omega) ?_;intro v9 w9 o9 N a8;obtain⟨A9,c9,rfl⟩:=o9.form;rw[aE,mp,G.out] at o9;rw[aE,mp,G.out];have q:∀b,(Value.slice Ao k co).ownBlock=some b->wp.heap.size<=b:=λb L=>(T.out.ob L).1;replace m:=aP m N (λt=>by have:=q _ t;omega);replace j:=aP j N (λt=>by have:=q _ t;omega);replace d:=aP d N (λt=>by have:=q _ t;omega);replace O:=d.cell;replace U:=d.frozen;replace X:=bD.ar.fc X N (λb _ L _ t=>by have:=q b t;omega);go_wp2;have a2:Below w.heap.size w w9:=S.trans (N.below S.size λi hi t=>by have:=q i t;omega);have z9:=N.size;go_roundw
     case rel=>
      refine⟨k+1,.slice A9 (k+1) c9,by omega,by go_num, ?_, ?_,bV m (p:=⟨w.heap.size+1+1,1,none⟩) _ (by dsimp only;omega),bV j (p:=⟨w.heap.size+1+1,1,none⟩) _ (by dsimp only;omega), ?_,a2.setCell (by dsimp only;omega) _,by simp only[be];omega⟩
      .rw[HN.out];exact bQ.ar.loc.go (λb L _=>io _ _ _ _ (by dsimp only;omega)) (am _) (by simp only[be];exact am _) o9
      .exact bD.ar.loc.go (λb L _=>io _ _ _ _ (by dsimp only;omega)) (am _) (am _) X
      .have:=d.bF 1 (.slice A9 (k+1) c9);simpa using this
     case measure=>simp[intOf];omega
    .obtain rfl:k=s.sn.length:=by omega
     rw[gc] at r;have W:=j.cell;have O:=d.cell;have eK:=m.frozen;have ed:=j.frozen;have U:=d.frozen;have a9:=ab r;have ax:=ab X;go_wp2;have iN:=bE.good (F:=og) h3;refine(aoq s.lg _ wr lo hi (fG.loc.below h3 o aX) (ap aX o.size) (by omega)).mono ?_;rintro e w5 ⟨v5,rfl,I,M⟩;replace m:=ak m M;replace cZ:=m.cell;replace eK:=m.frozen;replace j:=ak j M;replace W:=j.cell;replace ed:=j.frozen;replace d:=ak d M;replace O:=d.cell;replace U:=d.frozen;obtain⟨A5,c5,rfl⟩:=I.form;have z5:=M.size;have HO:=ab (I.aae iN M.size λg hg=>(I.at_ hg).2);have af:=ab (bQ.ar.below a9.out M (am _));have ay:=ab (bD.ar.below ax.out M (by omega));go_wp2;have a4:∀(u0 u1 u2 u3:Value) (b:Nat),w0.heap.size<=b->((((w5.setCell ⟨w.heap.size+1+1,2,none⟩ u0).setCell ⟨w.heap.size+1,0,none⟩ u1).setCell ⟨w.heap.size+1,1,none⟩ u2).setCell ⟨w.heap.size+1,2,none⟩ u3).heap[b]?=w5.heap[b]?:=λu0 u1 u2 u3 b L=>by
      rw[io _ _ _ _ (by dsimp only;omega),io _ _ _ _ (by dsimp only;omega),io _ _ _ _ (by dsimp only;omega),io _ _ _ _ (by dsimp only;omega)]
     exact pa (v:=.agg #[_,_,_]) (by simp[results,results13,go_sem,W,O]) rfl ⟨_,_,_,rfl,
      ⟨bD.ar.loc.go (λb L _=>a4 _ _ _ _ b L) (by omega) (by simp only[be];omega) ay.out,bQ.ar.loc.go (λb L _=>a4 _ _ _ _ b (by omega)) (by omega) (by simp only[be];omega) af.out,dy.ar.loc.go (λb L _=>a4 _ _ _ _ b (by omega)) (by omega) (by simp only[be];exact am _) HO.out⟩,
      ((((ag o M).setCell (by dsimp only;omega) _).setCell (by dsimp only;omega) _).setCell (by dsimp only;omega) _).setCell (by dsimp only;omega) _⟩
end
section
variable {β:Bool}
open Go.RowKit
section
variable {α:Type} {E:fV α} {T:List TypeId} {e:TypeId}
def Els.afP {w:World} {xs:List α} {m:Nat->Nat} (g:S.length=xs.length*U) (v:∀u∈S,u.oneCell'=true) (p:∀i,m i<=m (i+1)) (l:Z<=m 0)
  (f:∀i x,xs[i]?=some x->∃a:List Value,a.length=U/\E w (m i) (m (i+1)) x a/\∀j u,a[j]?=some u->S[i*U+j]?=some u) (s:j<=xs.length):Els E U w Z (m j) (xs.take j) (S.take (j*U)):=by
 have b:(xs.take j).length=j:=by rw[fa];omega
 have o:j*U<=xs.length*U:=qI _ s;refine⟨by rw[fa,b,g];omega,λu c=>v u (pu c),m,p,l,by rw[b];exact am _,λi x d=> ?_⟩;rw[qx] at d;split at d
 .rename_i e;obtain⟨a,q,k,r⟩:=f i x d;refine⟨a,q,k,λt u c=> ?_⟩;have y:=aC c;have n:(i+1)*U<=j*U:=qI _ e;rw[rm] at n;rw[qx,dq (by omega)];exact r t u c
 .cases d
def Els.wide{w:World}{xs:List α}(h:Els E U w Z hi xs S)(d:hi<=hi'):Els E U w Z hi' xs S:=by
 obtain⟨a,b,m,f,c,e,g⟩:=h;exact⟨a,b,m,f,c,ap e d,g⟩
def fw(e:TypeId)(E:fV α)(w:World)(lo hi g N:Nat)(xs:List α)(p:α->Bool)(j:Nat):Prop:=
 ∃(a:Array Value) (m:Nat->Nat) (b:Nat->List Value) (cells:List Value),bg w g e a/\a.size=N/\lo<=g/\g<hi/\xs.length*2<=N/\(∀i,m i<=m (i+1))/\lo<=m 0/\m xs.length<=hi/\
  (∀i x,xs[i]?=some x->(b i).length=2/\(∀u∈b i,u.oneCell'=true)/\E w (m i) (m (i+1)) x (b i))/\
  (∀(i:Nat) (x:α),j<=i->xs[i]?=some x->∀(t:Nat) (u:Value),(b i)[t]?=some u->a[i*2+t]?=some u)/\
  Els E 2 w lo (m j) ((xs.take j).filter λx=>!p x) cells/\∀(k:Nat) (u:Value),cells[k]?=some u->a[k]?=some u
def fw.start{w:World}{xs:List α}(h:aQ e E 2 w Z hi xs [.slice (some ⟨g,0,none⟩) n c])(p:α->Bool)(V:j<=xs.length)(Q:∀y∈xs.take j,p y=false):fw e E w Z hi g (c*2) xs p j:=by
 obtain⟨W,cells,C,G,O,S,F,m,H,D,K,I⟩:=h;cases C;obtain⟨A,X,v⟩:=gK G;cases v;rcases G.2 with⟨s,_⟩|⟨Y,cap,l,s,N,P,z,J,B,L⟩
 .cases s
 cases s;have r:∀(k:Nat) (u:Value),cells[k]?=some u->l[k]?=some u:=λk u d=>by
  rw[<-L,qx] at d;split at d
  .simpa using d
  .cases d
 have f:∀i,∃o:List Value,∀x,xs[i]?=some x->o.length=2/\E w (m i) (m (i+1)) x o/\∀t u,o[t]?=some u->cells[i*2+t]?=some u:=λi=>by
  cases q:xs[i]? with
  |none=>exact⟨[],λx h=>by cases h⟩
  |some y=>
   obtain⟨o,C,v,U⟩:=I i y q;exact⟨o,λx h=>by cases h;exact⟨C,v,U⟩⟩
 refine⟨l,m,λi=>Classical.choose (f i),cells.take (j*2),P,B,N,O g rfl,qI _ z,H,D,K,λi x q=> ?_,λi x _ q t u d=> ?_, ?_,λk u d=> ?_⟩
 .obtain⟨a,b,c⟩:=vS (f i) x q;refine⟨a,λu d=> ?_,b⟩;obtain⟨t,M⟩:=rS d;exact F u (db (c t u M))
 .obtain⟨a,b,c⟩:=vS (f i) x q;exact r _ _ (c t u d)
 .have R:(xs.take j).filter (λx=>!p x)=xs.take j:=sg.2 λy T=>by rw[Q y T];rfl
  rw[R];exact Els.afP S F H D I V
 .rw[qx] at d;split at d
  .exact r k u d
  .cases d
def fw.keep(k:dC E T){w : World}{xs:List α}{p:α->Bool}(h:fw e E w Z hi g N xs p j)(a:Below w.heap.size w w')(H:hi<=w.heap.size)(C:j<=xs.length):fw e E w' Z hi g N xs p j:=by
 obtain⟨c,m,f,cells,s,D,F,t,v,d,o,q,n,A,r,B⟩:=h;refine⟨c,m,f,cells,ak s a,D,F,t,v,d,o,q,λi x l=> ?_,A,r.go k (λb _ G _=>a.block b ?_) (am _) (am _),B⟩
 .obtain⟨u,y,z⟩:=n i x l;have:=dD d (show i+1<=xs.length from aC l);exact⟨u,y,k.below z a (by omega)⟩
 .have:=dD d C;omega
def fw.drop{w:World}{xs:List α}{p:α->Bool}(h:fw e E w Z hi g N xs p j){x:α}(s:xs[j]?=some x)(d:p x=true):fw e E w Z hi g N xs p (j+1):=by
 obtain⟨a,m,b,cells,t,u,v,y,f,c,l,n,k,o,r,q⟩:=h;refine⟨a,m,b,cells,t,u,v,y,f,c,l,n,k,λi x hi=>o i x (by omega), ?_,q⟩;rw[li s,uQ];have:[x].filter (λx=>!p x)=[]:=by simp[d]
 rw[this,rU];exact r.wide (c j)
def jK{xs:List α}{p:α->Bool}{x:α}(b:xs[j]?=some x)(a:p x=false):(xs.take (j+1)).filter (λx=>!p x)=(xs.take j).filter (λx=>!p x)++[x]:=by
 rw[li b,uQ]
 congr 1
 simp[a]
def iA{xs:List α}{p:α->Bool}{x:α}(b:xs[j]?=some x)(a:p x=true):(xs.take (j+1)).filter (λx=>!p x)=(xs.take j).filter (λx=>!p x):=by
 rw[li b,uQ];have:[x].filter (λx=>!p x)=[]:=by simp[a]
 rw[this,rU]
def fw.at_(z:dC E T)(I:e∉T){w:World}{xs:List α}{p:α->Bool}(h:fw e E w Z hi g N xs p j){x:α}(v:xs[j]?=some x) :
  ∃m S es,m<=S/\es.length=2/\E w m S x es/\(∀t u,es[t]?=some u->w.cell? ⟨g,j*2+t,none⟩=some u)/\
   ∀(d c:Value) (i:Nat),es=[d,c]->p x=false->i=((xs.take j).filter λx=>!p x).length->i<j->fw e E ((w.setCell ⟨g,i*2,none⟩ d).setCell ⟨g,i*2+1,none⟩ c) Z hi g N xs p (j+1):=by
 obtain⟨l,m,q,cells,G,U,a2,a3,a4,A,m2,X,P,R,O,b4⟩:=h;obtain⟨c1,c2,Q⟩:=P j x v;have a0:=aC v;refine⟨m j,m (j+1),q j,A j,c1,Q,λt u a=>by rw[G.cell];exact R j x (am _) v t u a,λd c i r hp hi a5=> ?_⟩;have iZ:cells.length=i*2:=by rw[O.1,<-hi]
 have D:bg ((w.setCell ⟨g,i*2,none⟩ d).setCell ⟨g,i*2+1,none⟩ c) g e ((l.setIfInBounds (i*2) d).setIfInBounds (i*2+1) c):=(G.bF (i*2) d).bF (i*2+1) c;have F:¬Typed w T g:=λ⟨t,f,ds,hd⟩=>I (cD G hd▸f)
 have K:∀b,Typed w T b->((w.setCell ⟨g,i*2,none⟩ d).setCell ⟨g,i*2+1,none⟩ c).heap[b]?=w.heap[b]?:=λb f=>by
  have o:b≠g:=by rintro rfl;exact F f
  rw[io _ _ _ _ o,io _ _ _ _ o]
 have s:∀k,k≠i*2->k≠i*2+1->((l.setIfInBounds (i*2) d).setIfInBounds (i*2+1) c)[k]?=l[k]?:=λk H W=>by
  rw[mT,bv (sj W),mT,bv (sj H)]
 have B:∀u∈([d,c]:List Value),u.oneCell'=true:=λu a=>c2 u (by rw[r];exact a);refine⟨_,m,q,cells++[d,c],D,by simpa using U,a2,a3,a4,A,m2,X,λM J n=> ?_,λM J hi' n t u a=> ?_, ?_,λk u a=> ?_⟩
 .obtain⟨d1,V,d3⟩:=P M J n;exact⟨d1,V,z.go (λb _ _ f=>K b f) (am _) (am _) d3⟩
 .rw[s _ (by omega) (by omega)];exact R M J (by omega) n t u a
 .rw[jK v hp];have Y:=Els.snoc (E:=E) (O.go (fE:=Z) (hi':=m j) z (λb _ _ f=>K b f) (am _) (am _)) (y:=x) (es:=[d,c]) rfl B (A j) (z.go (λb _ _ f=>K b f) (am _) (am _) (by rw[<-r];exact Q));exact Y z.loc
 .rcases pi k cells.length with L|L
  .rw[qn L] at a;rw[s _ (by omega) (by omega)];exact b4 k u a
  .rw[qg L,iZ] at a;have C:=aC a;simp only[ga,mw] at C;have a1:i*2+1<l.size:=by rw[U];omega
   rcases pi (k-i*2) 1 with H|H
   .obtain rfl:k=i*2:=by omega
    rw[sV] at a;simp at a;subst a;rw[mT,bv (by omega),mT,dq rfl,dq (by omega)]
   .obtain rfl:k=i*2+1:=by omega
    rw[show i*2+1-i*2=1 by omega] at a;simp at a;subst a;rw[mT,dq rfl,dq (by simp;omega)]
def fw.frozen{w:World}{xs:List α}{p:α->Bool}(h:fw e E w Z hi g N xs p j)(k:Nat):w.frozen? ⟨g,k,none⟩=false:=by
 obtain⟨a,m,c,cells,b,_⟩:=h;exact b.frozen k
def fw.there{w:World}{xs:List α}{p:α->Bool}(h:fw e E w Z hi g N xs p j)(d:k<N):∃u,w.cell? ⟨g,k,none⟩=some u:=by
 obtain⟨a,m,b,cells,c,f,_⟩:=h;rw[c.cell];exact⟨_,fi (by omega)⟩
def fw.end_(F:dC E T)(s:e∉T){w:World}{xs:List α}{p:α->Bool}(h:fw e E w Z hi g N xs p xs.length)(V:N=c*2)(M:c<=maxLen) :
  ∃d,bg w g e d/\d.size=N/\∀(f:World) (a:Array Value),bg f g e a->a.size=N->(∀k,k<(xs.filter λx=>!p x).length*2->a[k]?=d[k]?)->bq (λb=>b=g) w f->
   aQ e E 2 f Z hi (xs.filter λx=>!p x) [.slice (some ⟨g,0,none⟩) (xs.filter λx=>!p x).length c]:=by
 obtain⟨d,m,H,cells,z,L,K,C,Q,S,P,A,O,R,n,I⟩:=h;rw[gc] at n;refine⟨d,z,L,λf a J U q v=> ?_⟩;have o:¬Typed w T g:=λ⟨t,i,D,hd⟩=>s (cD z hd▸i)
 have B:=n.1;have G:(xs.filter λx=>!p x).length<=xs.length:=rQ _ _;refine⟨_,cells,rfl,⟨B,.inr ⟨g,c,a,rfl,K,J,by omega,M,by omega, ?_⟩⟩,λb l=>by cases l;exact C,(n.go (fE:=Z) (hi':=m xs.length) F (λb _ _ i=> ?_) (am _) (am _)).wide A⟩
 .apply tv;intro k;rw[qx];split
  .rename_i j;have r:k<cells.length:=by omega
   rw[iS r];have y:=I k _ (iS r);rw[<-q k j] at y;rw[<-y];simp
  .rw[qY (by omega)]
 .obtain⟨t,r,D,hd⟩:=id i;exact v.block b hd.lt λl=>by
   have u:b=g:=l;subst u;exact o i
end
def aar{P:Program}(w:World)(t e' ty j:TypeId)(z:Value)(l g o n c:Nat)(a:Array Value)(B:P.underlying t=some (.slice e'))(G:∀w,(zeroValue e').run P w=.ok z w)(E:z.cells.size=l)(D:∀u∈z.cells.toList,u.oneCell'=true)(y:bg w g j a)(K:0<n)(F:o+n*l<=a.size)(I:0<l) :
  ∃(q:World) (d:Array Value),(Builtin.clear_ #[t] ty #[.slice (some ⟨g,o,none⟩) n c]).run P w=.ok (.tuple #[]) q/\bg q g j d/\d.size=a.size/\(∀k,k<o->d[k]?=a[k]?)/\bq (λb=>b=g) w q:=by
 have f:(Builtin.zeroCells z.cells n).toList.length=n*l:=by simp[Builtin.zeroCells,E]
 have x:∀u∈(Builtin.zeroCells z.cells n).toList,u.oneCell'=true:=by
  intro u A;simp only[Builtin.zeroCells,qA,ql] at A;obtain⟨i,_,rfl⟩:=A;have p:i % z.cells.size<z.cells.size:=tI _ (by omega);rw[getElem!_pos z.cells (i % z.cells.size) p];exact D _ (by simp)
 have s:=run_storeCells_at P g o j (Builtin.zeroCells z.cells n).toList 0 a w y (by rw[f];omega) x;refine⟨_,(a.toList.take (o+0)++(Builtin.zeroCells z.cells n).toList++a.toList.drop (o+0+(Builtin.zeroCells z.cells n).toList.length)).toArray, ?_,setRow_heap w g a _ j _ y, ?_,λk J=> ?_, ?_⟩
 rotate_left
 .have C:a.toList.length=a.size:=by simp
  simp only[tu,aE,fa,qj,f,C];omega
 .rw[vP,sO,qn (by simp only[fa,qL];omega),qx,dq (by omega)];simp
 .refine⟨rfl,rfl,rfl,by simp[World.setRow],λb H r=> ?_⟩;have v:¬g=b:=λe=>r e.symm;simp[World.setRow,ph,v]
 .obtain⟨m,rfl⟩:∃m,n=m+1:=⟨n-1,by omega⟩;simp[Builtin.clear_,me B,G,s]
end
section
variable {β:Bool}
open Go.RowKit
def aor(F:Nat)(dE:Array Value)(p:Int->Bool)(Q:World->Prop):Prop:=∀(n:Int) (A:Option Addr) (m c:Nat) (a:World),Q a->Calls (ah β) F (#[.agg #[.int .i64 n,.slice A m c]]++dE) a λe b=>e=.returned (.bool (p n))/\Below a.heap.size a b
def aq3{α:Type}(xs:List α)(p:α->Bool)(e:Ending):Prop:=(e=.returned (.int .i64 (-1))/\∀y∈xs,p y=false)\/∃(i:Nat) (x:α),e=.returned (.int .i64 i)/\xs[i]?=some x/\p x=true/\∀y∈xs.take i,p y=false
def ahh(F:Nat)(s:Array Value)(p:Int->Bool)(xs:List Pk)(v:Value)(w:World)(J hi:Nat)(h:iV w J hi xs [v])(I:hi<=w.heap.size)(D:abQ (β:=β) F)(n:aor (β:=β) F s p λj=>Below w.heap.size w j) :
  Calls (ah β) 64 #[v,.func (.func F) #[] s] w λe j=>aq3 xs (λx=>p x.no) e/\Below w.heap.size w j:=by
 obtain⟨A,c,rfl⟩:=bE.form h;obtain⟨_,N,H⟩:=h.len_;unfold maxLen at H;replace n:=ab n;go_enter yX,ntmps64;go_wp2;go_loopw [8] (λu wr=>∃k:Nat,k<=xs.length/\u=.int .i64 k/\(∀y∈xs.take k,p y.no=false)/\Below w.heap.size w wr) (λu _=>xs.length-(intOf u).toNat)
 case atStart=>exact⟨0,fb _,rfl,by simp,fd _ _⟩
 case round=>
  obtain⟨k,L,rfl,g,a⟩:=hrel;replace g:=ab g;by_cases r:k<xs.length
  .obtain⟨x,i⟩:=aq r;obtain⟨b,m,P,B,_,E,_,⟨O,rfl,z,G⟩,l⟩:=(iV.loc.below h a I).at_ i;subst B;obtain⟨q,o,rfl⟩:=bE.form G;have C:wr.cell? ⟨b,m+k*2,none⟩=some (.int .i64 x.no):=by simpa using l 0 _ rfl
   have K:wr.cell? ⟨b,m+k*2+1,none⟩=some (.slice q x.its.length o):=by simpa using l 1 _ rfl
   replace i:=ab i;have M:=D (#[.agg #[.int .i64 x.no,.slice q x.its.length o]]++s) wr;cases d:p x.no
   .replace d:=ab d;go_wp2;refine(n.out x.no q x.its.length o wr a).mono ?_;rintro e j ⟨rfl,t⟩;rw[d.out];go_wp2;go_roundw
    case rel=>
     refine⟨k+1,by omega,by go_num,λy f=> ?_,ag a t⟩;rw[li i.out,mx] at f;rcases f with f|f
     .exact g.out y f
     .rw[pe.1 f];exact d.out
    case measure=>simp[intOf];omega
   .replace d:=ab d;go_wp2;refine(n.out x.no q x.its.length o wr a).mono ?_;rintro e j ⟨rfl,t⟩;rw[d.out];go_wp2;go_ret;exact⟨.inr ⟨k,x,rfl,i.out,d.out,g.out⟩,ag a t⟩
  .obtain rfl:k=xs.length:=by omega
   rw[gc] at g;go_wp2;go_ret;exact⟨.inl ⟨rfl,g.out⟩,a⟩
def ahi(F:Nat)(s:Array Value)(p:Int->Bool)(xs:List Sn)(v:Value)(w:World)(J hi:Nat)(h:gQ w J hi xs [v])(I:hi<=w.heap.size)(D:abQ (β:=β) F)(n:aor (β:=β) F s p λj=>Below w.heap.size w j) :
  Calls (ah β) 21 #[v,.func (.func F) #[] s] w λe j=>aq3 xs (λx=>p x.no) e/\Below w.heap.size w j:=by
 obtain⟨A,c,rfl⟩:=bE.form h;obtain⟨_,N,H⟩:=h.len_;unfold maxLen at H;replace n:=ab n;go_enter xQ,ntmps21;go_wp2;go_loopw [8] (λu wr=>∃k:Nat,k<=xs.length/\u=.int .i64 k/\(∀y∈xs.take k,p y.no=false)/\Below w.heap.size w wr) (λu _=>xs.length-(intOf u).toNat)
 case atStart=>exact⟨0,fb _,rfl,by simp,fd _ _⟩
 case round=>
  obtain⟨k,L,rfl,g,a⟩:=hrel;replace g:=ab g;by_cases r:k<xs.length
  .obtain⟨x,i⟩:=aq r;obtain⟨b,m,P,B,_,E,_,⟨O,rfl,z,G⟩,l⟩:=(gQ.loc.below h a I).at_ i;subst B;obtain⟨q,o,rfl⟩:=bE.form G;have C:wr.cell? ⟨b,m+k*2,none⟩=some (.int .i64 x.no):=by simpa using l 0 _ rfl
   have K:wr.cell? ⟨b,m+k*2+1,none⟩=some (.slice q x.all.length o):=by simpa using l 1 _ rfl
   replace i:=ab i;have M:=D (#[.agg #[.int .i64 x.no,.slice q x.all.length o]]++s) wr;cases d:p x.no
   .replace d:=ab d;go_wp2;refine(n.out x.no q x.all.length o wr a).mono ?_;rintro e j ⟨rfl,t⟩;rw[d.out];go_wp2;go_roundw
    case rel=>
     refine⟨k+1,by omega,by go_num,λy f=> ?_,ag a t⟩;rw[li i.out,mx] at f;rcases f with f|f
     .exact g.out y f
     .rw[pe.1 f];exact d.out
    case measure=>simp[intOf];omega
   .replace d:=ab d;go_wp2;refine(n.out x.no q x.all.length o wr a).mono ?_;rintro e j ⟨rfl,t⟩;rw[d.out];go_wp2;go_ret;exact⟨.inr ⟨k,x,rfl,i.out,d.out,g.out⟩,ag a t⟩
  .obtain rfl:k=xs.length:=by omega
   rw[gc] at g;go_wp2;go_ret;exact⟨.inl ⟨rfl,g.out⟩,a⟩
def aub(w:World):(zeroValue 54).run (ah β) w=.ok (.agg #[.int .i64 0,.slice none 0 0]) w:=by
 simp[go_sem]
def afm(F:Nat)(dE:Array Value)(p:Int->Bool)(xs:List Pk)(v:Value)(w:World)(H hi:Nat)(h:bD w H hi xs [v])(aX:hi<=w.heap.size)(hF:abQ (β:=β) F)(hf:aor (β:=β) F dE p λI=>bq (λb=>H<=b/\b<hi/\Typed w [54] b) w I) :
  Calls (ah β) 36 #[v,.func (.func F) #[] dE] w λe I=>∃v',e=.returned v'/\bD I H hi (xs.filter λx=>!p x.no) [v']/\bq (λb=>H<=b/\b<hi/\Typed w [54] b) w I:=by
 obtain⟨A,c,rfl⟩:=aQ.form h;obtain⟨_,hc,hx⟩:=(bD.l h).len_;have ax:=hx;unfold maxLen at hx;replace hf:=ab hf;go_enter zp,ntmps36;go_wp2;refine(ahh F dE p xs _ w H hi (bD.l h) aX hF (λn A m c I hb=>hf.out n A m c I (bq.aN hb))).mono ?_;rintro e w1 ⟨a6,b1⟩;have X:bq (λb=>H<=b/\b<hi/\Typed w [54] b) w w1:=bq.aN b1;have h1:=bD.ar.below h b1 aX;rcases a6 with⟨rfl,a⟩|⟨i,x0,rfl,D,W,a⟩
 .have N:xs.filter (λx=>!p x.no)=xs:=sg.2 λy hy=>by have h2:p y.no=false:=a y hy;rw[h2];rfl
  replace N:=ab N;clear a;go_wp2;go_ret;exact⟨_,rfl,by rw[N.out];exact h1,X⟩
 .have a3:=aC D;obtain⟨g,c',e,M,E,b0,a8,a4⟩:=aQ.some_ h1 (by omega);simp only[nf] at e;obtain⟨rfl, -,rfl⟩:=e;have Q:Typed w [54] g:=lf X (T:=[54]) (λt ht=>ht) E aX (λhs=>hs.2.2) ⟨_,qv,a8,a4⟩;have d0:=(fw.start h1 (λx=>p x.no) (Nat.le_of_lt a3) a).drop D W;have a2:(xs.take (i+1)).filter (λx=>!p x.no)=xs.take i:=by
   rw[iA (p:=λx=>p x.no) D W];exact sg.2 λy hy=>by have h2:p y.no=false:=a y hy;rw[h2];rfl
  have u:((xs.take (i+1)).filter λx=>!p x.no).length=i:=by rw[a2,fa];omega
  replace d0:=ab d0;replace u:=ab u;clear a2 D W a a4 h1;have a7:((i:Int)==-1)=false:=by rw[de];omega
  go_wp2;go_loopw [5,6] (λii jj wr=>∃i j:Nat,ii=.int .i64 i/\jj=.int .i64 j/\i<j/\j<=xs.length/\i=((xs.take j).filter λx=>!p x.no).length/\fw 54 ki wr H hi g (c*2) xs (λx=>p x.no) j/\bq (λb=>H<=b/\b<hi/\Typed w [54] b) w wr) (λ_ jj _=>xs.length-(intOf jj).toNat)
  case atStart=>exact⟨i,i+1,rfl,by go_num,by omega,by omega,u.out.symm,d0.out,X⟩
  case round=>
   clear d0 u a7 a3;obtain⟨i,j,rfl,rfl,ao,hj,f,hd,fL⟩:=hrel;have B:=ab f;clear f;have aZ:=fL.size;by_cases af:j<xs.length
   .obtain⟨x,U⟩:=aq af;obtain⟨m,m',es,hm,aG,⟨v2,rfl,aL,hr⟩,l, -⟩:=fw.at_ ki.ar (by decide) hd U;obtain⟨s,r,rfl⟩:=aQ.form hr;have ay:wr.cell? ⟨g,j*2,none⟩=some (.int .i64 x.no):=l 0 _ rfl;have pq:wr.cell? ⟨g,j*2+1,none⟩=some (.slice s x.its.length r):=l 1 _ rfl;replace U:=ab U;clear l hr;have ba:=av wr (.cells #[.int .i64 x.no,.slice s x.its.length r] 54);have fe:=hF (#[.agg #[.int .i64 x.no,.slice s x.its.length r]]++dE) (wr.alloc (.cells #[.int .i64 x.no,.slice s x.its.length r] 54));have z:=fL.alloc (.cells #[.int .i64 x.no,.slice s x.its.length r] 54);have G:bg (wr.alloc (.cells #[.int .i64 x.no,.slice s x.its.length r] 54)) wr.heap.size 54 #[.int .i64 x.no,.slice s x.its.length r]:=bg.new _ _ _;replace G:=ab G;replace z:=ab z;replace ba:=ab ba;go_wp2;refine(hf.out x.no s x.its.length r _ z.out).mono ?_;rintro e w2 ⟨rfl,b2⟩;have C:Below wr.heap.size wr w2:=ag ba.out b2;have O:=fL.trans (bq.aN (S:=λ_=>False) C) λ_ _ h=>h.elim;have V:=aR C pq;have d:=hd.keep ki.ar C (by omega) hj;have R:=ak G.out b2;have b4:w2.cell? ⟨wr.heap.size,0,none⟩=some (.int .i64 x.no):=R.cell 0;have b6:w2.cell? ⟨wr.heap.size,1,none⟩=some (.slice s x.its.length r):=R.cell 1;clear hd fL ay pq fe G z ba b2 C R;cases hp:p x.no
    .obtain⟨m,m',es,hm,aG,⟨v3,e3,aT,a0⟩,l,a1⟩:=fw.at_ ki.ar (by decide) d U.out;obtain⟨A3,c3,rfl⟩:=aQ.form a0;subst e3;obtain⟨eA,eC⟩:A3=s/\c3=r:=by
      have q1:=(l 1 _ rfl).symm.trans V;simp only[mt,nf] at q1;exact⟨q1.1,q1.2.2⟩
     subst eA eC;clear V;have ad:=ab (a1 _ _ i rfl hp B.out ao);have o:i+1=((xs.take (j+1)).filter λx=>!p x.no).length:=by rw[jK (p:=λx=>p x.no) U.out hp,aE,<-B.out];rfl
     have K:=ab o;obtain⟨q0,b3⟩:=d.there (k:=i*2) (by omega);obtain⟨q1,b7⟩:=d.there (k:=i*2+1) (by omega);have aY:=d.frozen (i*2);have b8:=d.frozen (i*2+1);have J:=(O.setCell (p:=⟨g,i*2,none⟩) (.inl ⟨M,E,Q⟩) (.int .i64 x.no)).setCell (p:=⟨g,i*2+1,none⟩) (.inl ⟨M,E,Q⟩) (.slice A3 x.its.length c3);replace J:=ab J;clear l a1 a0 o d O;go_wp2;go_roundw
     case rel=>exact⟨i+1,j+1,by go_num,by go_num,by omega,by omega,K.out,ad.out,J.out⟩
     simp[intOf];omega
    .have o:i=((xs.take (j+1)).filter λx=>!p x.no).length:=by rw[iA (p:=λx=>p x.no) U.out hp];exact B.out
     have K:=ab o;have al:=ab (d.drop U.out hp);clear o hp d V;go_wp2;go_roundw
     case rel=>exact⟨i,j+1,rfl,by go_num,by omega,by omega,K.out,al.out,O⟩
     simp[intOf];omega
   .obtain rfl:j=xs.length:=by omega
    have f:=B.out;rw[gc] at f;obtain⟨a9,Z,aa,q⟩:=hd.end_ ki.ar (by decide) rfl ax;replace q:=ab q;obtain⟨I,Y,aI,ow,b5,a5,L⟩:=aar (P:=(ah β)) wr 23 54 0 54 (.agg #[.int .i64 0,.slice none 0 0]) 2 g (i*2) (xs.length-i) (c-i) a9 xz (aub) rfl (by decide) Z (by omega) (by omega) (by decide);have ho:=q.out I Y ow (by omega) (λk hk=>a5 k (by rw[f];exact hk)) L;rw[<-f] at ho;have HO:=ab ho;have an:=fL.trans L λb _ hb=>(show b=g from hb)▸⟨M,E,Q⟩;clear f ho L a5 Z aa hd ow;go_wp2;go_ret;exact⟨_,rfl,HO.out,an⟩
def auc(w:World):(zeroValue 39).run (ah β) w=.ok (.agg #[.int .i64 0,.slice none 0 0]) w:=by
 simp[go_sem]
def afn(F:Nat)(dE:Array Value)(p:Int->Bool)(xs:List Sn)(v:Value)(w:World)(H hi:Nat)(h:bQ w H hi xs [v])(aX:hi<=w.heap.size)(hF:abQ (β:=β) F)(hf:aor (β:=β) F dE p λI=>bq (λb=>H<=b/\b<hi/\Typed w [39] b) w I) :
  Calls (ah β) 39 #[v,.func (.func F) #[] dE] w λe I=>∃v',e=.returned v'/\bQ I H hi (xs.filter λx=>!p x.no) [v']/\bq (λb=>H<=b/\b<hi/\Typed w [39] b) w I:=by
 obtain⟨A,c,rfl⟩:=aQ.form h;obtain⟨_,hc,hx⟩:=(bQ.l h).len_;have ax:=hx;unfold maxLen at hx;replace hf:=ab hf;go_enter zn,ntmps39;go_wp2;refine(ahi F dE p xs _ w H hi (bQ.l h) aX hF (λn A m c I hb=>hf.out n A m c I (bq.aN hb))).mono ?_;rintro e w1 ⟨a6,b1⟩;have X:bq (λb=>H<=b/\b<hi/\Typed w [39] b) w w1:=bq.aN b1;have h1:=bQ.ar.below h b1 aX;rcases a6 with⟨rfl,a⟩|⟨i,x0,rfl,D,W,a⟩
 .have N:xs.filter (λx=>!p x.no)=xs:=sg.2 λy hy=>by have h2:p y.no=false:=a y hy;rw[h2];rfl
  replace N:=ab N;clear a;go_wp2;go_ret;exact⟨_,rfl,by rw[N.out];exact h1,X⟩
 .have a3:=aC D;obtain⟨g,c',e,M,E,b0,a8,a4⟩:=aQ.some_ h1 (by omega);simp only[nf] at e;obtain⟨rfl, -,rfl⟩:=e;have Q:Typed w [39] g:=lf X (T:=[39]) (λt ht=>ht) E aX (λhs=>hs.2.2) ⟨_,qv,a8,a4⟩;have d0:=(fw.start h1 (λx=>p x.no) (Nat.le_of_lt a3) a).drop D W;have a2:(xs.take (i+1)).filter (λx=>!p x.no)=xs.take i:=by
   rw[iA (p:=λx=>p x.no) D W];exact sg.2 λy hy=>by have h2:p y.no=false:=a y hy;rw[h2];rfl
  have u:((xs.take (i+1)).filter λx=>!p x.no).length=i:=by rw[a2,fa];omega
  replace d0:=ab d0;replace u:=ab u;clear a2 D W a a4 h1;have a7:((i:Int)==-1)=false:=by rw[de];omega
  go_wp2;go_loopw [5,6] (λii jj wr=>∃i j:Nat,ii=.int .i64 i/\jj=.int .i64 j/\i<j/\j<=xs.length/\i=((xs.take j).filter λx=>!p x.no).length/\fw 39 lI wr H hi g (c*2) xs (λx=>p x.no) j/\bq (λb=>H<=b/\b<hi/\Typed w [39] b) w wr) (λ_ jj _=>xs.length-(intOf jj).toNat)
  case atStart=>exact⟨i,i+1,rfl,by go_num,by omega,by omega,u.out.symm,d0.out,X⟩
  case round=>
   clear d0 u a7 a3;obtain⟨i,j,rfl,rfl,ao,hj,f,hd,fL⟩:=hrel;have B:=ab f;clear f;have aZ:=fL.size;by_cases af:j<xs.length
   .obtain⟨x,U⟩:=aq af;obtain⟨m,m',es,hm,aG,⟨v2,rfl,aL,hr⟩,l, -⟩:=fw.at_ lI.ar (by decide) hd U;obtain⟨s,r,rfl⟩:=aQ.form hr;have ay:wr.cell? ⟨g,j*2,none⟩=some (.int .i64 x.no):=l 0 _ rfl;have pq:wr.cell? ⟨g,j*2+1,none⟩=some (.slice s x.all.length r):=l 1 _ rfl;replace U:=ab U;clear l hr;have ba:=av wr (.cells #[.int .i64 x.no,.slice s x.all.length r] 39);have fe:=hF (#[.agg #[.int .i64 x.no,.slice s x.all.length r]]++dE) (wr.alloc (.cells #[.int .i64 x.no,.slice s x.all.length r] 39));have z:=fL.alloc (.cells #[.int .i64 x.no,.slice s x.all.length r] 39);have G:bg (wr.alloc (.cells #[.int .i64 x.no,.slice s x.all.length r] 39)) wr.heap.size 39 #[.int .i64 x.no,.slice s x.all.length r]:=bg.new _ _ _;replace G:=ab G;replace z:=ab z;replace ba:=ab ba;go_wp2;refine(hf.out x.no s x.all.length r _ z.out).mono ?_;rintro e w2 ⟨rfl,b2⟩;have C:Below wr.heap.size wr w2:=ag ba.out b2;have O:=fL.trans (bq.aN (S:=λ_=>False) C) λ_ _ h=>h.elim;have V:=aR C pq;have d:=hd.keep lI.ar C (by omega) hj;have R:=ak G.out b2;have b4:w2.cell? ⟨wr.heap.size,0,none⟩=some (.int .i64 x.no):=R.cell 0;have b6:w2.cell? ⟨wr.heap.size,1,none⟩=some (.slice s x.all.length r):=R.cell 1;clear hd fL ay pq fe G z ba b2 C R;cases hp:p x.no
    .obtain⟨m,m',es,hm,aG,⟨v3,e3,aT,a0⟩,l,a1⟩:=fw.at_ lI.ar (by decide) d U.out;obtain⟨A3,c3,rfl⟩:=aQ.form a0;subst e3;obtain⟨eA,eC⟩:A3=s/\c3=r:=by
      have q1:=(l 1 _ rfl).symm.trans V;simp only[mt,nf] at q1;exact⟨q1.1,q1.2.2⟩
     subst eA eC;clear V;have ad:=ab (a1 _ _ i rfl hp B.out ao);have o:i+1=((xs.take (j+1)).filter λx=>!p x.no).length:=by rw[jK (p:=λx=>p x.no) U.out hp,aE,<-B.out];rfl
     have K:=ab o;obtain⟨q0,b3⟩:=d.there (k:=i*2) (by omega);obtain⟨q1,b7⟩:=d.there (k:=i*2+1) (by omega);have aY:=d.frozen (i*2);have b8:=d.frozen (i*2+1);have J:=(O.setCell (p:=⟨g,i*2,none⟩) (.inl ⟨M,E,Q⟩) (.int .i64 x.no)).setCell (p:=⟨g,i*2+1,none⟩) (.inl ⟨M,E,Q⟩) (.slice A3 x.all.length c3);replace J:=ab J;clear l a1 a0 o d O;go_wp2;go_roundw
     case rel=>exact⟨i+1,j+1,by go_num,by go_num,by omega,by omega,K.out,ad.out,J.out⟩
     simp[intOf];omega
    .have o:i=((xs.take (j+1)).filter λx=>!p x.no).length:=by rw[iA (p:=λx=>p x.no) U.out hp];exact B.out
     have K:=ab o;have al:=ab (d.drop U.out hp);clear o hp d V;go_wp2;go_roundw
     case rel=>exact⟨i,j+1,rfl,by go_num,by omega,by omega,K.out,al.out,O⟩
     simp[intOf];omega
   .obtain rfl:j=xs.length:=by omega
    have f:=B.out;rw[gc] at f;obtain⟨a9,Z,aa,q⟩:=hd.end_ lI.ar (by decide) rfl ax;replace q:=ab q;obtain⟨I,Y,aI,ow,b5,a5,L⟩:=aar (P:=(ah β)) wr 24 39 0 39 (.agg #[.int .i64 0,.slice none 0 0]) 2 g (i*2) (xs.length-i) (c-i) a9 xy (auc) rfl (by decide) Z (by omega) (by omega) (by decide);have ho:=q.out I Y ow (by omega) (λk hk=>a5 k (by rw[f];exact hk)) L;rw[<-f] at ho;have HO:=ab ho;have an:=fL.trans L λb _ hb=>(show b=g from hb)▸⟨M,E,Q⟩;clear f ho L a5 Z aa hd ow;go_wp2;go_ret;exact⟨_,rfl,HO.out,an⟩
end
section
variable {β:Bool}
open Go.RowKit
structure iX where
 k:Int
 n:Int
 m:Int
 b:ByteArray
def se{α:Type}(l:List α)(i:Nat)(f:α->α):List α:=match l[i]? with|some x=>l.set i (f x)|none=>l
def nJ{l:List Y}(h:l[i]?=some x)(f:Y->Y):se l i f=l.set i (f x):=by unfold se;rw[h]
def mQ(l:List Y)(i:Nat)(f:Y->Y):(se l i f).length=l.length:=by
 unfold se;split
 .rw[qQ]
 .rfl
def fA(l:iX)(p:Pk):Pk:=if p.no=l.n/\0<=l.m/\l.m<p.its.length then⟨p.no,se p.its l.m.toNat λx=>⟨x.n,l.b⟩⟩ else p
def ko(x:Hd):Hd:=⟨wrap64 (3-x.b),x.s⟩
def dF(s:dK)(l:iX):dK:=
 if l.k=1 then⟨s.pk.filter λp=>!(p.no ==l.n),s.sn,s.lg⟩
 else if l.k=2 then(if 0<=l.n/\l.n<=s.lg.length then⟨s.pk,s.sn.filter λx=>!((s.lg.drop l.n.toNat).any λh=>h.s ==x.no),s.lg.take l.n.toNat⟩ else s)
 else if l.k=3 then⟨s.pk.map (fA l),s.sn,s.lg⟩
 else if l.k=4 then(if 0<=l.n/\l.n<s.lg.length then⟨s.pk,s.sn,se s.lg l.n.toNat ko⟩ else s)
 else s
def aa3{l:iX}(h:l.k=1):dF s l=⟨s.pk.filter λp=>!(p.no ==l.n),s.sn,s.lg⟩:=by unfold dF;rw[dq h]
def nK{l:iX}(h:l.k=2)(a:0<=l.n/\l.n<=s.lg.length):dF s l=⟨s.pk,s.sn.filter λx=>!((s.lg.drop l.n.toNat).any λh=>h.s ==x.no),s.lg.take l.n.toNat⟩:=by unfold dF;rw[bv (by omega),dq h,dq a]
def lU{l:iX}(h:l.k=2)(a:¬(0<=l.n/\l.n<=s.lg.length)):dF s l=s:=by unfold dF;rw[bv (by omega),dq h,bv a]
def aa4{l:iX}(h:l.k=3):dF s l=⟨s.pk.map (fA l),s.sn,s.lg⟩:=by unfold dF;rw[bv (by omega),bv (by omega),dq h]
def aa5{l:iX}(h:l.k=4)(a:0<=l.n/\l.n<s.lg.length):dF s l=⟨s.pk,s.sn,se s.lg l.n.toNat ko⟩:=by unfold dF;rw[bv (by omega),bv (by omega),bv (by omega),dq h,dq a]
def lV{l:iX}(h:l.k=4)(a:¬(0<=l.n/\l.n<s.lg.length)):dF s l=s:=by unfold dF;rw[bv (by omega),bv (by omega),bv (by omega),dq h,bv a]
def aa6{l:iX}(a:¬l.k=1)(d:¬l.k=2)(b:¬l.k=3)(c:¬l.k=4):dF s l=s:=by unfold dF;rw[bv a,bv d,bv b,bv c]
def jW:fV (List Hd):=λw e d b f=>∃(A:Option Addr) (c:Nat),f=[.slice A b.length c]/\b.length<=c/\c<=maxLen/\e<=d/\(∀x∈b,og.good x)/\
 (0<b.length->∃(g:Nat) (a:Array Value),A=some ⟨g,0,none⟩/\e<=g/\g<d/\bg w g 62 a/\∀(k:Nat) (u:Value),(dV og b)[k]?=some u->a[k]?=some u)
def jW.ar:dC jW [62]:=by
 refine⟨?_⟩;intro w q y t p n s v l x r h;obtain⟨A,c,rfl,a,b,u,d,e⟩:=h;refine⟨A,c,rfl,a,b,by omega,d,λj=> ?_⟩;obtain⟨g,f,rfl,k,m,i,o⟩:=e j;exact⟨g,f,rfl,by omega,by omega,(l g k m ⟨_,qv,f,i⟩).trans i,o⟩
def jW.form{w:World}(h:jW w Z hi xs [v]):∃A c,v=.slice A xs.length c:=by
 obtain⟨A,c,e,_⟩:=h;cases e;exact⟨A,c,rfl⟩
def dy.w{w:World}(h:dy w Z hi xs cs):jW w Z hi xs cs:=by
 obtain⟨v,rfl⟩:∃v,cs=[v]:=by
  obtain⟨v,_,rfl,_⟩:=h;exact⟨v,rfl⟩
 obtain⟨i,f,a,p⟩:=aQ.flat (F:=og) h;rcases i.2 with⟨rfl,l⟩|⟨g,cap,c,rfl,m,o,e,d,n,j⟩
 .exact⟨none,0,by rw[l],by omega,by unfold maxLen;omega,a,f,λq=>by omega⟩
 .refine⟨_,cap,rfl,e,d,a,f,λ_=>⟨g,c,rfl,m,p g rfl,o,λk u b=> ?_⟩⟩;rw[<-j,qx] at b;split at b
  .simpa using b
  .cases b
def jW.l{w:World}(h:jW w Z hi xs cs):fG w Z hi xs cs:=by
 obtain⟨A,c,rfl,a,b,q,d,e⟩:=h;refine⟨A,c,rfl,a,b,λk=> ?_⟩;obtain⟨g,f,rfl,l,n,o,p⟩:=e k;refine⟨g,0,rfl,l,n,λi x hi=>⟨og.cells x,rfl,⟨rfl,d x (db hi)⟩,λj u m=> ?_⟩⟩;rw[o.cell,mc];exact p _ _ (dZ og xs i j x u hi m)
def jW.afP{w:World}(h:jW w Z hi xs [.slice A n c])(B:k<=xs.length):jW w Z hi (xs.take k) [.slice A k k]:=by
 obtain⟨A',z,e,a,b,y,d,f⟩:=h;simp only[qf,nf,qu] at e;obtain⟨rfl,rfl,rfl⟩:=e;have s:(xs.take k).length=k:=by rw[fa];omega
 refine⟨_,k,by rw[s],by omega,by omega,y,λx v=>d x (pu v),λC=> ?_⟩;obtain⟨g,i,p,r,m,t,o⟩:=f (by omega);refine⟨g,i,p,r,m,t,λj u l=>o j u ?_⟩;have q:xs=xs.take k++xs.drop k:=(vN k xs).symm;rw[q,nt,qn (aC l)];exact l
def jW.some_{w:World}(h:jW w Z hi xs [v])(j:0<xs.length):∃g c,v=.slice (some ⟨g,0,none⟩) xs.length c/\Z<=g/\g<hi/\∃n,bg w g 62 n:=by
 obtain⟨A,c,e,a,b,o,d,f⟩:=h;cases e;obtain⟨g,i,rfl,k,l,m,_⟩:=f j;exact⟨g,c,rfl,k,l,i,m⟩
def jW.at_{w:World}(h:jW w Z hi xs [.slice (some ⟨g,0,none⟩) n c]){x:Hd}(j:xs[i]?=some x) :
  og.good x/\w.cell? ⟨g,i*2,none⟩=some (.int .i64 x.b)/\w.cell? ⟨g,i*2+1,none⟩=some (.int .i64 x.s):=by
 obtain⟨A,q,e,a,b,t,d,f⟩:=h;simp only[qf,nf,qu] at e;obtain⟨rfl,rfl,rfl⟩:=e;obtain⟨r,o,m,p,s,k,l⟩:=f (by have:=aC j;omega);simp only[mt,qz,qu] at m;subst m;refine⟨d x (db j), ?_, ?_⟩
 .rw[k.cell];exact l _ _ (dZ og xs i 0 x _ j rfl)
 .rw[k.cell];exact l _ _ (dZ og xs i 1 x _ j rfl)
def jW.put{w:World}(h:jW w Z hi xs [.slice (some ⟨g,0,none⟩) n c]){x y:Hd}{u:Value}(s:xs[i]?=some x)(K:j<2)(C:og.good y)(I:og.cells y=(og.cells x).set j u) :
  jW (w.setCell ⟨g,i*2+j,none⟩ u) Z hi (xs.set i y) [.slice (some ⟨g,0,none⟩) n c]:=by
 obtain⟨A,M,e,a,b,L,d,f⟩:=h;simp only[qf,nf,qu] at e;obtain⟨rfl,rfl,rfl⟩:=e;have t:=aC s;obtain⟨N,l,r,H,D,E,q⟩:=f (by omega);simp only[mt,qz,qu] at r;subst r;refine⟨_,c,by rw[qQ],by rw[qQ];exact a,b,L,λz G=> ?_,λ_=>⟨g,l.setIfInBounds (i*2+j) u,rfl,H,D,E.bF _ _,λk v m=> ?_⟩⟩
 .rcases sP G with F|rfl
  .exact d z F
  .exact C
 .rw[acC xs i j x y u s K I] at m;by_cases o:i*2+j=k
  .subst o;have p:i*2+j<(dV og xs).length:=by rw[dY];show _<xs.length*2;omega
   rw[show og.sz=2 from rfl,rq p] at m;have B:=q _ _ (iS p);have J:i*2+j<l.size:=(dl.1 B).1;rw[mT,dq rfl,dq J];exact m
  .rw[show og.sz=2 from rfl,rG o] at m;rw[mT,bv o];exact q k v m
structure pw (w:World) (lo hi:Nat) (s:dK) (va vb vc:Value):Prop where
 pk:bD w lo hi s.pk [va]
 sn:bQ w lo hi s.sn [vb]
 lg:jW w lo hi s.lg [vc]
def eM.w{w:World}(h:eM w Z hi s X W V):pw w Z hi s X W V:=⟨h.pk,h.sn,dy.w h.lg⟩
def pw.go{w : World}{fE : Nat}(h:pw w Z hi s X W V)(d:∀b,Z<=b->b<hi->w'.heap[b]?=w.heap[b]?)(c:fE<=Z)(a:hi<=hi'):pw w' fE hi' s X W V:=
 ⟨bD.ar.loc.go d c a h.pk,bQ.ar.loc.go d c a h.sn,jW.ar.loc.go d c a h.lg⟩
def pw.below{w : World}(h:pw w Z hi s X W V)(a:Below B w w')(d:hi<=B):pw w' Z hi s X W V:=h.go (λb _ c=>a.block b (by omega)) (am _) (am _)
def pw.l{w:World}(h:pw w Z hi s X W V):iW w Z hi s X W V:=⟨bD.l h.pk,bQ.l h.sn,jW.l h.lg⟩
end
section
variable {β:Bool}
open Go.RowKit
abbrev mR(l:iX):Array Value:=#[.int .i64 l.k,.int .i64 l.n,.int .i64 l.m,.string l.b]
def aos(s s':dK)(w:World)(lo hi gs:Nat)(T:List TypeId)(e:Ending)(w':World):Prop:=
 e=.returned (.tuple #[])/\∃d a c,bg w' gs 27 #[d,a,c]/\pw w' lo hi s' d a c/\bq (λb=>b=gs\/(lo<=b/\b<hi/\Typed w T b)) w w'
def dw{w:World}{t:TypeId}{cs:Array Value}(a:bg w g t cs)(c:t∉T):¬Typed w T g:=λ⟨d,b,e,hd⟩=>c (cD a hd▸b)
def gz{w:World}{U : List TypeId}(h:Typed w U b)(d:∀t∈T,t∉U):¬Typed w T b:=λ⟨e,f,i,hd⟩=>by
 obtain⟨t,c,g,a⟩:=h;exact d e f (cD a hd▸c)
def azF(l:iX)(b:Nat)(Q:World->Prop)(f:∀a,Q a->bg a b 29 (mR l)):aor (β:=β) 37 #[.pointer (some ⟨b,0,none⟩)] (λn=>n ==l.n) Q:=by
 intro n A m c a e;have k:=f a e;have g:a.cell? ⟨b,1,none⟩=some (.int .i64 l.n):=k.cell 1;show Calls _ _ #[.agg #[.int .i64 n,.slice A m c],.pointer (some ⟨b,0,none⟩)] _ _;have d:=av a (.cells #[.int .i64 n,.slice A m c] 54);have i:=aR d g;go_enter xM,ntmps37;go_wp2;go_ret;exact⟨rfl,d⟩
def axp:abQ (β:=β) 37:=aez xM (by kernel_rfl) rfl
def aq5(s:dK)(l:iX)(gs x:Nat)(F B G:Value)(w:World)(g hi:Nat)(h:pw w g hi s F B G)(S:hi<=w.heap.size)(o:bg w gs 27 #[F,B,G])(E:bg w x 29 (mR l))(J:l.k=1) :
  Calls (ah β) 35 #[.pointer (some ⟨gs,0,none⟩),.pointer (some ⟨x,0,none⟩)] w (aos s (dF s l) w g hi gs [54]):=by
 rw[aa3 J];obtain⟨C,H,Q⟩:=h;obtain⟨A,a,rfl⟩:=aQ.form C;have Y:w.cell? ⟨gs,0,none⟩=some (.slice A s.pk.length a):=o.cell 0;go_enter xN,ntmps35;go_wp2;refine(afm 37 _ (λn=>n ==l.n) s.pk _ w g hi C S axp (azF l x _ λw' K=>aP E K λo=>dw E (by decide) o.2.2)).mono ?_;rintro e d ⟨V,rfl,D,m⟩;obtain⟨k,r,rfl⟩:=aQ.form D;have f:=aP o m λq=>dw o (by decide) q.2.2;have R:d.cell? ⟨gs,0,none⟩=some (.slice A s.pk.length a):=f.cell 0;have X:=f.frozen 0;have W:=m.size;have y:=f.bF 0 (.slice k (s.pk.filter λp=>!(p.no ==l.n)).length r);have O:=bQ.ar.go (w':=d) (fE:=g) (hi':=hi) (λb t v c=>m.block b (by omega) λq=>gz c (by decide) q.2.2) (am _) (am _) H;have P:=jW.ar.go (w':=d) (fE:=g) (hi':=hi) (λb t v c=>m.block b (by omega) λq=>gz c (by decide) q.2.2) (am _) (am _) Q;have i:∀(u:Value) {T:List TypeId} (b:Nat),27∉T->Typed d T b->(d.setCell ⟨gs,0,none⟩ u).heap[b]?=d.heap[b]?:=λu T b L c=>io _ _ _ _ (by rintro rfl;exact dw f L c);have M:=bD.ar.go (w':=d.setCell ⟨gs,0,none⟩ (.slice k (s.pk.filter λp=>!(p.no ==l.n)).length r)) (fE:=g) (hi':=hi) (λb t v c=>i _ b (by decide) c) (am _) (am _) D;have U:=bQ.ar.go (w':=d.setCell ⟨gs,0,none⟩ (.slice k (s.pk.filter λp=>!(p.no ==l.n)).length r)) (fE:=g) (hi':=hi) (λb t v c=>i _ b (by decide) c) (am _) (am _) O;have N:=jW.ar.go (w':=d.setCell ⟨gs,0,none⟩ (.slice k (s.pk.filter λp=>!(p.no ==l.n)).length r)) (fE:=g) (hi':=hi) (λb t v c=>i _ b (by decide) c) (am _) (am _) P;have z:=(m.mono (T:=λb=>b=gs\/(g<=b/\b<hi/\Typed w [54] b)) λb _ I=>.inr I).setCell (p:=⟨gs,0,none⟩) (.inl (.inl rfl)) (.slice k (s.pk.filter λp=>!(p.no ==l.n)).length r);have j:=ab (And.intro M (And.intro U (And.intro N (And.intro z y))));go_wp2
 go_end0
 exact⟨rfl,_,_,_,by simpa using j.out.2.2.2.2,⟨j.out.1,j.out.2.1,j.out.2.2.1⟩,j.out.2.2.2.1⟩
end
section
variable {β:Bool}
open Go.RowKit
def lW{α:Type}(f:α->α)(l:List α)(j:Nat):List α:=(l.take j).map f++l.drop j
def aeW(f:Y->Y)(l:List Y):lW f l 0=l:=rfl
def af4(f:Y->Y)(l:List Y):lW f l l.length=l.map f:=by
 unfold lW;rw[gc,uv,rU]
def af5(f:Y->Y)(l:List Y)(j:Nat):(lW f l j).length=l.length:=by
 unfold lW;rw[aE,qc,fa,qj];omega
def acK(f:Y->Y){l:List Y}(h:l[j]?=some x):(lW f l j)[j]?=some x:=by
 unfold lW;have b:=aC h;have a:((l.take j).map f).length=j:=by rw[qc,fa];omega
 rw[qg (by omega),a,sV,th,tD];exact h
def aa7(f:Y->Y){l:List Y}(h:l[j]?=some x):(lW f l j).set j (f x)=lW f l (j+1):=by
 have a:=aC h;have b:((l.take j).map f).length=j:=by rw[qc,fa];omega
 unfold lW;rw[uB _ _ (by omega),b,sV,rR a,ip,li h,tf,sO];rfl
def lr(f:Y->Y){l:List Y}(h:l[j]?=some x)(c:f x=x):lW f l (j+1)=lW f l j:=by
 rw[<-aa7 f h,c];have b:=acK f h;apply tv;intro k;by_cases a:j=k
 .subst a;rw[rq (aC b),b]
 .rw[rG a]
def px{l:iX}{p:Pk}(h:¬(p.no=l.n/\0<=l.m/\l.m<p.its.length)):fA l p=p:=bv h
def aq6(s:dK)(l:iX)(gs gl:Nat)(va vb vc:Value)(w:World)(J hi:Nat)(h:pw w J hi s va vb vc)(aX:hi<=w.heap.size)(Z:bg w gs 27 #[va,vb,vc])(hl:bg w gl 29 (mR l))(hk:l.k=3)(aL:l.b.size<=maxLen) :
  Calls (ah β) 43 #[.pointer (some ⟨gs,0,none⟩),.pointer (some ⟨gl,0,none⟩)] w (aos s (dF s l) w J hi gs [60]):=by
 rw[aa4 hk];obtain⟨h1,h2,h3⟩:=h;obtain⟨A,a,rfl⟩:=aQ.form h1;obtain⟨_,ha,v⟩:=(bD.l h1).len_;unfold maxLen at v;have c0:w.cell? ⟨gs,0,none⟩=some (.slice A s.pk.length a):=Z.cell 0;go_enter xJ,ntmps43;go_wp2;go_loopw [10] (λii wr=>∃j:Nat,j<=s.pk.length/\ii=.int .i64 j/\bD wr J hi (lW (fA l) s.pk j) [.slice A s.pk.length a]/\bq (λb=>J<=b/\b<hi/\Typed w [60] b) w wr) (λii _=>s.pk.length-(intOf ii).toNat)
 case atStart=>exact⟨0,fb _,rfl,by rw[aeW];exact h1,bq.refl _ _⟩
 case round=>
  obtain⟨j,hj,rfl,r,n⟩:=hrel;have zr:=n.size;by_cases a5:j<s.pk.length
  .obtain⟨x,cL⟩:=aq a5;have a0:=acK (fA l) cL;have Y:=af5 (fA l) s.pk j;obtain⟨g,c',e,b0,b8,aZ,a4,ao⟩:=aQ.some_ r (by rw[Y];omega);simp only[nf] at e;obtain⟨rfl, -,rfl⟩:=e;have HX:=ab cL;have ay:=ab a0;have k:=aa7 (fA l) cL;replace k:=ab k;clear cL a0 Y ao a4;obtain⟨m,m',es,l1,l2,l3,b6,⟨v2,rfl,a3,o⟩,i,a2⟩:=aQ.at_ ki.ar (by decide) r ay.out;obtain⟨A2,H,rfl⟩:=aQ.form o;obtain⟨_,lO,ji⟩:=(aaZ.l o).len_;unfold maxLen at ji;have b5:wr.cell? ⟨g,j*2,none⟩=some (.int .i64 x.no):=i 0 _ rfl;have ba:wr.cell? ⟨g,j*2+1,none⟩=some (.slice A2 x.its.length H):=i 1 _ rfl;have O:=ab o;have W:=ab a2;have V:=aP hl n λv=>dw hl (by decide) v.2.2;have f:=av wr (.cells #[.int .i64 x.no,.slice A2 x.its.length H] 54);have D:=ak V f;have b9:(wr.alloc (.cells #[.int .i64 x.no,.slice A2 x.its.length H] 54)).cell? ⟨gl,1,none⟩=some (.int .i64 l.n):=D.cell 1;have a7:(wr.alloc (.cells #[.int .i64 x.no,.slice A2 x.its.length H] 54)).cell? ⟨gl,2,none⟩=some (.int .i64 l.m):=D.cell 2;have b4:(wr.alloc (.cells #[.int .i64 x.no,.slice A2 x.its.length H] 54)).cell? ⟨gl,3,none⟩=some (.string l.b):=D.cell 3;clear i o a2 V D;by_cases I:x.no=l.n
   .have t1:(x.no ==l.n)=true:=nF.2 I;replace I:=ab I;by_cases E:0<=l.m
    .have t2:decide (0<=l.m)=true:=dj E;obtain⟨F,C⟩:=qe E;by_cases P:l.m<(x.its.length:Int)
     .have t3:decide (l.m<(x.its.length:Int))=true:=dj P;have ad:F<x.its.length:=by omega
      obtain⟨y,cG⟩:=aq ad;obtain⟨L,ci,ei,aI,af,aa,aG,a9⟩:=aQ.some_ O.out (by omega);simp only[nf] at ei;obtain⟨rfl, -,rfl⟩:=ei;have c:=aaZ.ar.below O.out f (by omega);obtain⟨n1,n2,aY, -, -, -, -,⟨rfl,aT⟩,X, -⟩:=aQ.at_ (bP.ar mo) (by decide) c cG;have b1:(wr.alloc (.cells #[.int .i64 x.no,.slice (some ⟨L,0,none⟩) x.its.length H] 54)).cell? ⟨L,F*2+1,none⟩=some (.string y.b):=X 1 _ rfl;have b7:=aQ.frozen c (F*2+1);have M:=aQ.put (j:=1) (u:=.string l.b) (bP.ar mo) (by decide) c cG (y:=(⟨y.n,l.b⟩:It)) (by decide) rfl (λw' J hi es hh=>⟨by rw[hh.1];rfl,hh.2.1,aL⟩);have U:fA l x=⟨x.no,x.its.set F ⟨y.n,l.b⟩⟩:=by
       unfold fA;rw[dq ⟨I.out,E,P⟩,nJ (x:=y) (by rw[C];exact cG),C];rfl
      have an:Typed wr [60] L:=⟨_,qv,aG,a9⟩;have q:bq (λb=>m<=b/\b<m'/\Typed wr [60] b) wr ((wr.alloc (.cells #[.int .i64 x.no,.slice (some ⟨L,0,none⟩) x.its.length H] 54)).setCell ⟨L,F*2+1,none⟩ (.string l.b)):=
       (bq.aN (S:=λb=>m<=b/\b<m'/\Typed wr [60] b) f).setCell (p:=⟨L,F*2+1,none⟩) (.inl ⟨aI,af,an⟩) (.string l.b)
      have nU:=W.out _ ⟨x.no,x.its.set F ⟨y.n,l.b⟩⟩ q ⟨.slice (some ⟨L,0,none⟩) x.its.length H,rfl,a3,M⟩;rw[<-U,k.out] at nU;have N:=n.trans q λb hb v=>⟨by omega,by omega,lf n (T:=[60]) (λt Q=>Q) (show b<hi by omega) aX (λZ=>Z.2.2) v.2.2⟩;have a8:L<wr.heap.size:=aa;rw[World.setCell_alloc_past _ _ _ _ a8] at nU N;have al:=ab nU;have a6:=ab N;have ax:(l.m:Int)=((F:Nat):Int):=C;clear r n nU N q M X U cG W O c f E P C;have b3:((F:Nat):Int)<(x.its.length:Int):=by omega
      rw[ax] at t2 t3 a7;go_wp2;go_roundw
      case rel=>exact⟨j+1,by omega,by go_num,al.out,a6.out⟩
      simp[intOf];omega
     .have t3:decide (l.m<(x.its.length:Int))=false:=da P;replace P:=ab P;clear E C;have G:=lr (fA l) HX.out (px (λh=>P.out h.2.2));have HS:=ab G;clear G;have K:=bD.ar.below r f (by omega);have d:=n.trans (bq.aN (S:=λ_=>False) f) λ_ _ h=>h.elim;have z:=ab K;have B:=ab d;clear r n K d f;go_wp2;go_roundw
      case rel=>exact⟨j+1,by omega,by go_num,by rw[HS.out];exact z.out,B.out⟩
      simp[intOf];omega
    .have t2:decide (0<=l.m)=false:=da E;replace E:=ab E;have G:=lr (fA l) HX.out (px (λh=>E.out h.2.1));have HS:=ab G;clear G;have K:=bD.ar.below r f (by omega);have d:=n.trans (bq.aN (S:=λ_=>False) f) λ_ _ h=>h.elim;have z:=ab K;have B:=ab d;clear r n K d f;go_wp2;go_roundw
     case rel=>exact⟨j+1,by omega,by go_num,by rw[HS.out];exact z.out,B.out⟩
     simp[intOf];omega
   .have t1:(x.no ==l.n)=false:=de.2 I;replace I:=ab I;have G:=lr (fA l) HX.out (px (λh=>I.out h.1));have HS:=ab G;clear G;have K:=bD.ar.below r f (by omega);have d:=n.trans (bq.aN (S:=λ_=>False) f) λ_ _ h=>h.elim;have z:=ab K;have B:=ab d;clear r n K d f;go_wp2;go_roundw
    case rel=>exact⟨j+1,by omega,by go_num,by rw[HS.out];exact z.out,B.out⟩
    simp[intOf];omega
  .obtain rfl:j=s.pk.length:=by omega
   rw[af4] at r;have a1:=aP Z n λv=>dw Z (by decide) v.2.2;have o2:=bQ.ar.go (w':=wr) (fE:=J) (hi':=hi) (λb f b2 Q=>n.block b (by omega) λv=>gz Q (by decide) v.2.2) (am _) (am _) h2;have o3:=jW.ar.go (w':=wr) (fE:=J) (hi':=hi) (λb f b2 Q=>n.block b (by omega) λv=>gz Q (by decide) v.2.2) (am _) (am _) h3;have q:=n.mono (T:=λb=>b=gs\/(J<=b/\b<hi/\Typed w [60] b)) λb _ hb=>.inr hb;have R:=ab (And.intro r (And.intro o2 (And.intro o3 (And.intro q a1))));clear r o2 o3 q a1;go_wp2
   go_end0
   exact⟨rfl,_,_,_,R.out.2.2.2.2,⟨R.out.1,R.out.2.1,R.out.2.2.1⟩,R.out.2.2.2.1⟩
end
section
variable {β:Bool}
open Go.RowKit
def bE.amC{w:World}{xs:List Y}(h:bE E Z w U hi xs [.slice A n c])(z:k<=xs.length):bE E Z w U hi (xs.drop k) [.slice (if c=k then A else A.map λx=>x.add (k*Z)) (xs.length-k) (c-k)]:=by
 obtain⟨A',y,g,B,C,t⟩:=h;simp only[qf,nf,qu] at g;obtain⟨rfl,rfl,rfl⟩:=g;refine⟨_,c-k,by rw[qj],by rw[qj];omega,by omega,λq=> ?_⟩;rw[qj] at q;have a:¬c=k:=by omega
 have f:0<xs.length:=by omega
 obtain⟨b,e,rfl,o,l,d⟩:=t f;refine⟨b,e+k*Z,by rw[bv a];simp only[qk,aew],o,l,λi x hi=> ?_⟩;rw[th] at hi;obtain⟨r,s,m,p⟩:=d _ _ hi;refine⟨r,s,m,λj u v=> ?_⟩;have:=p j u v;rw[<-this,Nat.add_mul]
 congr 2
 omega
def aq7(s s':dK)(a:s'=s)(gs:Nat)(d c b:Value)(w:World)(e hi:Nat)(h:pw w e hi s d c b)(f:bg w gs 27 #[d,c,b]) :
  Calls (ah β) 45 #[.pointer (some ⟨gs,0,none⟩)] w (aos s s' w e hi gs []):=by
 subst a;go_enter xI,ntmps45;go_wp2
 go_end0
 exact⟨rfl,_,_,_,f,h,bq.refl _ _⟩
def aq8(s:dK)(l:iX)(gs R:Nat)(va vb vc:Value)(w:World)(q hi:Nat)(h:pw w q hi s va vb vc)(A:hi<=w.heap.size)(E:bg w gs 27 #[va,vb,vc])(hl:bg w R 29 (mR l))(U:l.k=4) :
  Calls (ah β) 44 #[.pointer (some ⟨gs,0,none⟩),.pointer (some ⟨R,0,none⟩)] w (aos s (dF s l) w q hi gs [62]):=by
 have hh:=h;obtain⟨h1,h2,x⟩:=h;obtain⟨C,c,rfl⟩:=jW.form x;obtain⟨_,ha,hx⟩:=(jW.l x).len_;unfold maxLen at hx;have H:w.cell? ⟨gs,2,none⟩=some (.slice C s.lg.length c):=E.cell 2;have F:w.cell? ⟨R,1,none⟩=some (.int .i64 l.n):=hl.cell 1;by_cases z:0<=l.n
 .have t1:decide (0<=l.n)=true:=dj z;by_cases v:l.n<(s.lg.length:Int)
  .have t2:decide (l.n<(s.lg.length:Int))=true:=dj v;rw[aa5 U ⟨z,v⟩];obtain⟨a,Y⟩:=qe z;obtain⟨y,B⟩:=aq (l:=s.lg) (k:=a) (by omega);have S:se s.lg l.n.toNat ko=s.lg.set a (ko y):=by
    have:l.n.toNat=a:=by omega
    rw[this,nJ B]
   rw[S];obtain⟨g,c',e,W,X,a0,n⟩:=jW.some_ x (by omega);simp only[nf] at e;obtain⟨rfl, -,rfl⟩:=e;obtain⟨I,O,a2⟩:=jW.at_ x B;have iN:og.good (ko y):=by
    refine⟨?_,I.2⟩;show bZ (wrap64 (3-y.b));unfold bZ wrap64;omega
   have Z:∀w',Below w.heap.size w w'->jW (w'.setCell ⟨g,a*2,none⟩ (.int .i64 (wrap64 (3-y.b)))) q hi (s.lg.set a (ko y)) [.slice (some ⟨g,0,none⟩) s.lg.length c]:=λw' i=>
    jW.put (j:=0) (jW.ar.below x i A) B (by decide) iN rfl
   replace Z:=ab Z;replace B:=ab B;rw[Y] at t1 t2 F v;go_enter wN,ntmps44;go_wp2;have K:=ae H;have J:=ae F;refine aF 13 [0,1,2,3,4,5,6,7,8,9,10,11,12] [] (h:= ?_);simp only[pick,List.map,ge,gn];repeat(go_big_quiet_step (fail))
   refine gt ?_;apply Exists.intro;refine aS ?_;intro wq d M o f;dsimp only[dP] at f;try rw[o] at f
   simp only[List.drop];have V:=aR d H;have N:=aR d F;have G:=aR d O;have a1:¬(((a:Nat):Int)<0):=by omega
   go_wp2;have K:=ae V;have J:=ae N;have aZ:=ae G;refine aF 16 [0,1,2,3,4,5,6,7,8,9,10,11,12,13,14,15] [] (h:= ?_);simp only[pick,List.map,ge,gn];repeat(go_big_quiet_step (fail))
   refine gt ?_;apply Exists.intro;refine aS ?_;intro m hz M o f;dsimp only[dP] at f;try rw[o] at f
   simp only[List.drop];have i:=ag d hz;have a3:=aR hz G;have D:=ak n i;have a4:=D.frozen (a*2);have nU:=Z.out m i;have P:=bV (ak E i) (p:=⟨g,a*2,none⟩) (.int .i64 (wrap64 (3-y.b))) (λe=>by have e':gs=g:=e;subst e';have:=cD E n;revert this;decide);have r:∀{T:List TypeId} (b:Nat),62∉T->Typed m T b->(m.setCell ⟨g,a*2,none⟩ (.int .i64 (wrap64 (3-y.b)))).heap[b]?=m.heap[b]?:=λb hT t=>io _ _ _ _ (by rintro rfl;exact dw D hT t);have L:=bD.ar.go (w':=m.setCell ⟨g,a*2,none⟩ (.int .i64 (wrap64 (3-y.b)))) (fE:=q) (hi':=hi) (λb _ _ t=>r b (by decide) t) (am _) (am _) (bD.ar.below h1 i A);have eU:=bQ.ar.go (w':=m.setCell ⟨g,a*2,none⟩ (.int .i64 (wrap64 (3-y.b)))) (fE:=q) (hi':=hi) (λb _ _ t=>r b (by decide) t) (am _) (am _) (bQ.ar.below h2 i A);have Q:bq (λb=>b=gs\/(q<=b/\b<hi/\Typed w [62] b)) w (m.setCell ⟨g,a*2,none⟩ (.int .i64 (wrap64 (3-y.b)))):=(bq.aN i).setCell (p:=⟨g,a*2,none⟩) (.inl (.inr ⟨W,X,_,qv,a0,n⟩)) _;have u:=ab (And.intro L (And.intro eU (And.intro nU (And.intro Q P))));go_wp2
   go_end0
   exact⟨rfl,_,_,_,u.out.2.2.2.2,⟨u.out.1,u.out.2.1,u.out.2.2.1⟩,u.out.2.2.2.1⟩
  .have t2:decide (l.n<(s.lg.length:Int))=false:=da v;rw[lV U (λh=>v h.2)];go_enter wN,ntmps44;go_wp2;have K:=ae H;have J:=ae F;refine aF 13 [0,1,2,3,4,5,6,7,8,9,10,11,12] [] (h:= ?_);simp only[pick,List.map,ge,gn];repeat(go_big_quiet_step (fail))
   refine gt ?_;apply Exists.intro;refine aS ?_;intro wq d M o f;dsimp only[dP] at f;try rw[o] at f
   simp only[List.drop];go_wp2
   go_end0
   exact⟨rfl,_,_,_,ak E d,hh.below d A,bq.aN d⟩
 .have t1:decide (0<=l.n)=false:=da z;rw[lV U (λh=>z h.1)];go_enter wN,ntmps44;go_wp2;have K:=ae H;have J:=ae F;refine aF 13 [0,1,2,3,4,5,6,7,8,9,10,11,12] [] (h:= ?_);simp only[pick,List.map,ge,gn];repeat(go_big_quiet_step (fail))
  refine gt ?_;apply Exists.intro;refine aS ?_;intro wq d M o f;dsimp only[dP] at f;try rw[o] at f
  simp only[List.drop];go_wp2
  go_end0
  exact⟨rfl,_,_,_,ak E d,hh.below d A,bq.aN d⟩
end
section
variable {β:Bool}
open Go.RowKit
def aq9(F:Nat)(dE:Array Value)(p:Int->Bool)(Q:World->Prop):Prop:=∀(b s:Int) (a:World),Q a->Calls (ah β) F (#[.agg #[.int .i64 b,.int .i64 s]]++dE) a λe c=>e=.returned (.bool (p s))/\Below a.heap.size a c
def ahk(F:Nat)(s:Array Value)(p:Int->Bool)(xs:List Hd)(v:Value)(w:World)(I hi:Nat)(h:fG w I hi xs [v])(H:hi<=w.heap.size)(D:abQ (β:=β) F)(q:aq9 (β:=β) F s p λl=>Below w.heap.size w l) :
  Calls (ah β) 65 #[v,.func (.func F) #[] s] w λe l=>aq3 xs (λx=>p x.s) e/\Below w.heap.size w l:=by
 obtain⟨A,c,rfl⟩:=bE.form h;obtain⟨_,K,G⟩:=h.len_;unfold maxLen at G;replace q:=ab q;go_enter yW,ntmps65;go_wp2;go_loopw [8] (λu wr=>∃k:Nat,k<=xs.length/\u=.int .i64 k/\(∀y∈xs.take k,p y.s=false)/\Below w.heap.size w wr) (λu _=>xs.length-(intOf u).toNat)
 case atStart=>exact⟨0,fb _,rfl,by simp,fd _ _⟩
 case round=>
  obtain⟨k,J,rfl,i,a⟩:=hrel;replace i:=ab i;by_cases r:k<xs.length
  .obtain⟨x,j⟩:=aq r;obtain⟨b,n,L,C,_,E,_,⟨rfl,B⟩,f⟩:=(fG.loc.below h a H).at_ j;subst C;have m:wr.cell? ⟨b,n+k*2,none⟩=some (.int .i64 x.b):=by simpa using f 0 _ rfl
   have o:wr.cell? ⟨b,n+k*2+1,none⟩=some (.int .i64 x.s):=by simpa using f 1 _ rfl
   replace j:=ab j;clear f;have z:=D (#[.agg #[.int .i64 x.b,.int .i64 x.s]]++s) wr;cases d:p x.s
   .replace d:=ab d;go_wp2;refine(q.out x.b x.s wr a).mono ?_;rintro e l ⟨rfl,t⟩;rw[d.out];clear z m o;go_wp2;go_roundw
    case rel=>
     refine⟨k+1,by omega,by go_num,λy g=> ?_,ag a t⟩;rw[li j.out,mx] at g;rcases g with g|g
     .exact i.out y g
     .rw[pe.1 g];exact d.out
    case measure=>simp[intOf];omega
   .replace d:=ab d;go_wp2;refine(q.out x.b x.s wr a).mono ?_;rintro e l ⟨rfl,t⟩;rw[d.out];clear z m o;go_wp2;go_ret;exact⟨.inr ⟨k,x,rfl,j.out,d.out,i.out⟩,ag a t⟩
  .obtain rfl:k=xs.length:=by omega
   rw[gc] at i;go_wp2;go_ret;exact⟨.inl ⟨rfl,i.out⟩,a⟩
def adz(F:Nat)(d:Array Value)(p:Int->Bool)(xs:List Hd)(v:Value)(w:World)(n hi:Nat)(h:fG w n hi xs [v])(t:hi<=w.heap.size)(q:abQ (β:=β) F)(l:aq9 (β:=β) F d p λf=>Below w.heap.size w f) :
  Calls (ah β) 41 #[v,.func (.func F) #[] d] w λe f=>e=.returned (.bool (xs.any λx=>p x.s))/\Below w.heap.size w f:=by
 obtain⟨A,c,rfl⟩:=bE.form h;replace l:=ab l;go_enter zm,ntmps41;go_wp2;refine(ahk F d p xs _ w n hi h t q l.out).mono ?_;rintro e u ⟨b,m⟩;rcases b with⟨rfl,a⟩|⟨i,x,rfl,k,r, -⟩
 .have j:(xs.any λx=>p x.s)=false:=by rw[List.any_eq_false];intro y s;have o:p y.s=false:=a y s;rw[o];simp
  have g:=ab j;go_wp2;go_ret;exact⟨aB g.out.symm,m⟩
 .have j:(xs.any λx=>p x.s)=true:=by rw[List.any_eq_true];exact⟨x,db k,r⟩
  have g:=ab j;go_wp2;go_ret;exact⟨aB g.out.symm,m⟩
def axt(d:Int)(u:Value)(c:Nat)(Q:World->Prop)(g:∀a,Q a->bg a c 39 #[.int .i64 d,u]):aq9 (β:=β) 42 #[.pointer (some ⟨c,0,none⟩)] (λs=>s ==d) Q:=by
 intro b s a f;have k:=g a f;have i:a.cell? ⟨c,0,none⟩=some (.int .i64 d):=k.cell 0;show Calls _ _ #[.agg #[.int .i64 b,.int .i64 s],.pointer (some ⟨c,0,none⟩)] _ _;have e:=av a (.cells #[.int .i64 b,.int .i64 s] 62);have j:=aR e i;go_enter xK,ntmps42;go_wp2;go_ret;exact⟨rfl,e⟩
def aud:abQ (β:=β) 42:=aez xK (by kernel_rfl) rfl
def azI(g:List Hd)(v:Value)(b:Nat)(Q:World->Prop)(w:∀a,Q a->bg a b 25 #[v]/\∃o i,i<=a.heap.size/\fG a o i g [v]):aor (β:=β) 40 #[.pointer (some ⟨b,0,none⟩)] (λno=>g.any λh=>h.s ==no) Q:=by
 intro n A m c a l;obtain⟨k,o,i,q,p⟩:=w a l;obtain⟨B,d,rfl⟩:=bE.form p;have y:a.cell? ⟨b,0,none⟩=some (.slice B g.length d):=k.cell 0;show Calls _ _ #[.agg #[.int .i64 n,.slice A m c],.pointer (some ⟨b,0,none⟩)] _ _;have f:=av a (.cells #[.int .i64 n,.slice A m c] 39);have j:=fG.loc.below p f q;have t:=bg.new a 39 #[.int .i64 n,.slice A m c];have u:=aR f y;go_enter xL,ntmps40;go_wp2;refine(adz 42 _ (λs=>s ==n) g _ _ o i j (ap q f.size) aud (axt n (.slice A m c) a.heap.size _ λx l=>ak t l)).mono ?_;rintro e z ⟨rfl,r⟩;go_wp2;go_ret;exact⟨rfl,ag f r⟩
def axu:abQ (β:=β) 40:=aez xL (by kernel_rfl) rfl
def ara(s:dK)(l:iX)(gs gl:Nat)(va vb vc:Value)(w:World)(o hi:Nat)(h:pw w o hi s va vb vc)(aX:hi<=w.heap.size)(hs:bg w gs 27 #[va,vb,vc])(hl:bg w gl 29 (mR l))(O:l.k=2) :
  Calls (ah β) 38 #[.pointer (some ⟨gs,0,none⟩),.pointer (some ⟨gl,0,none⟩)] w (aos s (dF s l) w o hi gs [39]):=by
 have hh:=h;obtain⟨h1,h2,h3⟩:=h;obtain⟨C,c,rfl⟩:=jW.form h3;obtain⟨B,b,rfl⟩:=aQ.form h2;obtain⟨_,ha,m⟩:=(jW.l h3).len_;unfold maxLen at m;have c2:w.cell? ⟨gs,2,none⟩=some (.slice C s.lg.length c):=hs.cell 2;have cl:w.cell? ⟨gl,1,none⟩=some (.int .i64 l.n):=hl.cell 1;by_cases e1:l.n<0
 .have t1:decide (l.n<0)=true:=dj e1;rw[lU O (λh=>by omega)];clear e1;go_enter wO,ntmps38;go_wp2;have H:=ae c2;have G:=ae cl;refine aF 13 [0,1,2,3,4,5,6,7,8,9,10,11,12] [] (h:= ?_);simp only[pick,List.map,ge,gn];repeat(go_big_quiet_step (fail))
  refine gt ?_;clear H G;apply Exists.intro;refine aS ?_;intro wq q I z f;dsimp only[dP] at f;try rw[z] at f
  clear z I;simp only[List.drop];clear f;go_wp2
  go_end0
  exact⟨rfl,_,_,_,ak hs q,hh.below q aX,bq.aN q⟩
 .have t1:decide (l.n<0)=false:=da e1;by_cases e2:(s.lg.length:Int)<l.n
  .have t2:decide ((s.lg.length:Int)<l.n)=true:=dj e2;rw[lU O (λh=>by omega)];clear e1 e2;go_enter wO,ntmps38;go_wp2;have H:=ae c2;have G:=ae cl;refine aF 13 [0,1,2,3,4,5,6,7,8,9,10,11,12] [] (h:= ?_);simp only[pick,List.map,ge,gn];repeat(go_big_quiet_step (fail))
   refine gt ?_;clear H G;apply Exists.intro;refine aS ?_;intro wq q I z f;dsimp only[dP] at f;try rw[z] at f
   clear z I;simp only[List.drop];clear f;go_wp2
   go_end0
   exact⟨rfl,_,_,_,ak hs q,hh.below q aX,bq.aN q⟩
  .have t2:decide ((s.lg.length:Int)<l.n)=false:=da e2;rw[nK O ⟨by omega,by omega⟩];obtain⟨a,a0⟩:=qe (show 0<=l.n by omega);have a5:l.n.toNat=a:=by omega
   have a8:a<=s.lg.length:=by omega
   rw[a5];rw[a0] at t1 t2 cl;have ao:=a0;clear e1 e2 a0 a5;go_enter wO,ntmps38;go_wp2;have H:=ae c2;have G:=ae cl;refine aF 13 [0,1,2,3,4,5,6,7,8,9,10,11,12] [] (h:= ?_);simp only[pick,List.map,ge,gn];repeat(go_big_quiet_step (fail))
   refine gt ?_;clear H G;apply Exists.intro;refine aS ?_;intro wq q I z f;dsimp only[dP] at f;try rw[z] at f
   clear z I;simp only[List.drop];clear f;have a4:=aR q c2;have a7:=aR q cl;have g1:¬(((a:Nat):Int)<0):=by omega
   have g2:((a:Nat):Int)<=(s.lg.length:Int):=by omega
   have g3:((a:Nat):Int)<=(c:Int):=by omega
   go_wp2;have H:=ae a4;have G:=ae a7;refine aF 8 [0,1,2,3,4,5,6] [7] (by kernel_rfl) (by kernel_rfl) (by kernel_rfl) ?_;simp only[pick,List.map,ge,gn];repeat(go_big_quiet_step (fail))
   refine gt ?_;clear H G;have aa:∀w',jW w' o hi s.lg [.slice C s.lg.length c]->fG w' o hi (s.lg.drop a) [.slice (if c=a then C else Option.map (λx=>x.add (a*2)) C) (s.lg.length-a) (c-a)]:=λw' ho=>bE.amC (jW.l ho) a8;generalize (if c=a then C else Option.map (λx=>x.add (a*2)) C)=AD at *;apply Exists.intro;apply aU (λv w'=>∃g,v=.pointer (some ⟨g,0,none⟩)/\wq.heap.size<=g/\bg w' g 25 #[.slice none 0 0])
   .rfl
   .exact λv x y ⟨g,e,hg,O⟩ hle=>⟨g,e,hg,ak O hle⟩
   .intro x f Qx X;replace X:=ab X;clear f;go_wp2;exact X.out _ _ (av _ _) ⟨_,rfl,x.ok.size,bg.new _ _ _⟩
   intro u3;refine aS ?_;intro wz hz I z f;dsimp only[dP] at f;try rw[z] at f
   clear z I;obtain⟨⟨R,rfl,b0,kv⟩, -⟩:=f;simp only[List.drop];have zq:=q.size;have zz:=hz.size;have af:=ag q hz;have a9:=kv.bF 0 (.slice AD (s.lg.length-a) (c-a));have aY:wz.cell? ⟨R,0,none⟩=some (.slice none 0 0):=kv.cell 0;have aL:=kv.frozen 0;have j:=af.setCell (p:=⟨R,0,none⟩) (by dsimp only;omega) (.slice AD (s.lg.length-a) (c-a));have M:bg (wz.setCell ⟨R,0,none⟩ (.slice AD (s.lg.length-a) (c-a))) R 25 #[.slice AD (s.lg.length-a) (c-a)]:=by simpa using a9
   have F:=ak hs j;have ay:(wz.setCell ⟨R,0,none⟩ (.slice AD (s.lg.length-a) (c-a))).cell? ⟨gs,1,none⟩=some (.slice B s.sn.length b):=F.cell 1;clear kv a9 c2 cl a4 a7 g1;go_wp2;generalize wz.setCell ⟨R,0,none⟩ (.slice AD (s.lg.length-a) (c-a))=w3 at *;have z3:=j.size;have p1:=bD.ar.below h1 j aX;have p2:=bQ.ar.below h2 j aX;have p3:=jW.ar.below h3 j aX;have Q:=ak hl j;have aG:(s.lg.drop a).length=s.lg.length-a:=qj;refine(afn 40 _ (λno=>(s.lg.drop a).any λh=>h.s ==no) s.sn _ w3 o hi p2 (by omega) axu (azI (s.lg.drop a) (.slice AD (s.lg.length-a) (c-a)) R _ λw' q=>⟨aP M q λhs=>dw M (by decide) hs.2.2,o,hi,by have:=q.size;omega,aa w' (jW.ar.go (λb b1 b2 d=>q.block b (by omega) λm=>gz d (by decide) m.2.2) (am _) (am _) p3)⟩)).mono ?_;rintro e L ⟨v4,rfl,o4,W⟩;obtain⟨B4,b4,rfl⟩:=aQ.form o4;have z4:=W.size;have k:=aP F W λm=>dw F (by decide) m.2.2;have U:=aP Q W λm=>dw Q (by decide) m.2.2;have q1:=bD.ar.go (w':=L) (fE:=o) (hi':=hi) (λb b1 b2 d=>W.block b (by omega) λm=>gz d (by decide) m.2.2) (am _) (am _) p1;have q3:=jW.ar.go (w':=L) (fE:=o) (hi':=hi) (λb b1 b2 d=>W.block b (by omega) λm=>gz d (by decide) m.2.2) (am _) (am _) p3;have aZ:L.cell? ⟨gs,1,none⟩=some (.slice B s.sn.length b):=k.cell 1;have b3:=k.frozen 1;obtain⟨vv,J⟩:∃vv,vv=Value.slice B4 (s.sn.filter λx=>!((s.lg.drop a).any λh=>h.s ==x.no)).length b4:=⟨_,rfl⟩;rw[<-J] at o4;rw[<-J];have al:∃A n c,vv=.slice A n c:=⟨_,_,_,J⟩;clear J;obtain⟨P,N,Z,rfl⟩:=al;have E:=k.bF 1 (.slice P N Z);simp only[ef,ip,jt] at E;have an:gl≠gs:=by rintro rfl;exact absurd (cD U k) (by decide)
   have Y:=bV U (p:=⟨gs,1,none⟩) (.slice P N Z) an;have r:∀(w':World) (i:Nat) (u:Value) {cs:Array Value} {T:List TypeId},bg w' gs 27 cs->∀(b:Nat),27∉T->Typed w' T b->(w'.setCell ⟨gs,i,none⟩ u).heap[b]?=w'.heap[b]?:=λw' i u cs T O b hT d=>io _ _ _ _ (by rintro rfl;exact dw O hT d);have r1:=bD.ar.go (w':=L.setCell ⟨gs,1,none⟩ (.slice P N Z)) (fE:=o) (hi':=hi) (λb _ _ d=>r _ 1 _ k b (by decide) d) (am _) (am _) q1;have r2:=bQ.ar.go (w':=L.setCell ⟨gs,1,none⟩ (.slice P N Z)) (fE:=o) (hi':=hi) (λb _ _ d=>r _ 1 _ k b (by decide) d) (am _) (am _) o4;have r3:=jW.ar.go (w':=L.setCell ⟨gs,1,none⟩ (.slice P N Z)) (fE:=o) (hi':=hi) (λb _ _ d=>r _ 1 _ k b (by decide) d) (am _) (am _) q3;have K:bq (λb=>b=gs\/(o<=b/\b<hi/\Typed w [39] b)) w (L.setCell ⟨gs,1,none⟩ (.slice P N Z)):=
    ((bq.aN (S:=λb=>b=gs\/(o<=b/\b<hi/\Typed w [39] b)) j).trans W λb hb m=>.inr ⟨m.1,m.2.1,lf (bq.aN (S:=λ_=>False) j) (T:=[39]) (λt d=>d) m.2.1 aX (λh=>h.elim) m.2.2⟩).setCell (p:=⟨gs,1,none⟩) (.inl (.inl rfl)) _
   replace K:=ab K;replace r1:=ab r1;replace r2:=ab r2;replace r3:=ab r3;replace E:=ab E;replace Y:=ab Y;clear q1 q3 o4 p1 p2 p3 k U F Q ay W j aa M;go_wp2;generalize L.setCell ⟨gs,1,none⟩ (.slice P N Z)=w5 at *;have ad:w5.cell? ⟨gs,2,none⟩=some (.slice C s.lg.length c):=E.out.cell 2;have ax:w5.cell? ⟨gl,1,none⟩=some (.int .i64 ((a:Nat):Int)):=by rw[<-ao];exact Y.out.cell 1
   have g1:¬(((a:Nat):Int)<0):=by omega
   have H:=ae ad;have G:=ae ax;refine aF 10 [0,1,2,3,4,5,6,7,8,9] [] (h:= ?_);simp only[pick,List.map,ge,gn];repeat(go_big_quiet_step (fail))
   refine gt ?_;clear H G;apply Exists.intro;refine aS ?_;intro wy hy I z f;dsimp only[dP] at f;try rw[z] at f
   clear z I;simp only[List.drop];clear f;have zy:=hy.size;have z5:=K.out.size;have D:=ak E.out hy;have aI:wy.cell? ⟨gs,2,none⟩=some (.slice C s.lg.length c):=D.cell 2;have aT:=D.frozen 2;have V:=D.bF 2 (.slice C a a);simp only[ef,ip,jt] at V;have a3:=bD.ar.go (w':=wy.setCell ⟨gs,2,none⟩ (.slice C a a)) (fE:=o) (hi':=hi) (λb _ _ d=>r _ 2 _ D b (by decide) d) (am _) (am _) (bD.ar.below r1.out hy (by omega));have a2:=bQ.ar.go (w':=wy.setCell ⟨gs,2,none⟩ (.slice C a a)) (fE:=o) (hi':=hi) (λb _ _ d=>r _ 2 _ D b (by decide) d) (am _) (am _) (bQ.ar.below r2.out hy (by omega));have a1:=jW.ar.go (w':=wy.setCell ⟨gs,2,none⟩ (.slice C a a)) (fE:=o) (hi':=hi) (λb _ _ d=>r _ 2 _ D b (by decide) d) (am _) (am _) (jW.afP (jW.ar.below r3.out hy (by omega)) a8);have a6:=(K.out.trans (bq.aN (S:=λ_=>False) hy) λ_ _ h=>h.elim).setCell (p:=⟨gs,2,none⟩) (.inl (.inl rfl)) (.slice C a a);have HQ:=ab (And.intro a3 (And.intro a2 (And.intro a1 (And.intro a6 V))));clear a3 a2 a1 a6 V r;go_wp2
   go_end0
   exact⟨rfl,_,_,_,HQ.out.2.2.2.2,⟨HQ.out.1,HQ.out.2.1,HQ.out.2.2.1⟩,HQ.out.2.2.2.1⟩
end
section
variable {β:Bool}
open Go.RowKit
def aue(l:iX)(w:World)(e:Ending)(w':World):Prop:=
 ∃F i,e=.returned (.func (.func F) #[] i)/\abQ (β:=β) F/\Below w.heap.size w w'/\∀(s:dK) (a:Nat) (g f d:Value) (j b:Nat),pw w' j b s g f d->b<=w'.heap.size->bg w' a 27 #[g,f,d]->
  Calls (ah β) F (#[.pointer (some ⟨a,0,none⟩)]++i) w' λe x=>∃T,aos s (dF s l) w' j b a T e x
def alc(l:iX)(w:World)(f:l.b.size<=maxLen):Calls (ah β) 14 #[.agg (mR l)] w (aue (β:=β) l w):=by
 have i:=ab (av w (.cells (mR l) 29));have HK:=ab (bg.new w 29 (mR l));rcases(by omega:l.k=1\/l.k=2\/l.k=3\/l.k=4\/¬(l.k=1\/l.k=2\/l.k=3\/l.k=4)) with a|a|a|a|a
 case' inr.inr.inr.inr=>
  have p:(l.k ==1)=false:=de.2 (by omega);have j:(l.k ==2)=false:=de.2 (by omega);have o:(l.k ==3)=false:=de.2 (by omega);have r:(l.k ==4)=false:=de.2 (by omega);have g:=ab λs=>aa6 (s:=s) (l:=l) (by omega) (by omega) (by omega) (by omega)
 all_goals
  try
   obtain⟨k,n,m,b⟩:=l;dsimp only at a;subst a
  go_enter zL,ntmps14;go_wp2;go_ret;refine⟨_,_,rfl, ?_,i.out,λs x q v u y t d e c=> ?_⟩
  .first|exact aez xN (by kernel_rfl) rfl|exact aez wO (by kernel_rfl) rfl|exact aez xJ (by kernel_rfl) rfl|exact aez wN (by kernel_rfl) rfl|exact aez xI (by kernel_rfl) rfl
  .first|exact(aq5 _ _ _ _ _ _ _ _ _ _ d e c HK.out rfl).mono λ_ _ h=>⟨_,h⟩|exact(ara _ _ _ _ _ _ _ _ _ _ d e c HK.out rfl).mono λ_ _ h=>⟨_,h⟩|exact(aq6 _ _ _ _ _ _ _ _ _ _ d e c HK.out rfl f).mono λ_ _ h=>⟨_,h⟩|exact(aq8 _ _ _ _ _ _ _ _ _ _ d e c HK.out rfl).mono λ_ _ h=>⟨_,h⟩|exact(aq7 _ _ (g.out s) _ _ _ _ _ _ _ d c).mono λ_ _ h=>⟨_,h⟩
def axw(w:World)(s:dK)(e:Ending)(w':World):Prop:=∃c a b,e=.returned (.agg #[c,a,b])/\pw w' w.heap.size w'.heap.size s c a b/\Below w.heap.size w w'
def adA(s:dK)(l:iX)(Q X vc:Value)(w:World)(V hi:Nat)(h:iW w V hi s Q X vc)(U:hi<=w.heap.size)(hl:jV s<=1099511627)(K:l.b.size<=maxLen) :
  Calls (ah β) 5 #[.agg #[Q,X,vc],.agg (mR l)] w (axw w (dF s l)):=by
 obtain⟨A,a,rfl⟩:=bE.form h.pk;obtain⟨B,b,rfl⟩:=bE.form h.sn;obtain⟨C,c,rfl⟩:=bE.form h.lg;go_enter qF5,ntmps5;go_wp2;generalize x:((w.alloc (.cells #[.slice A s.pk.length a,.slice B s.sn.length b,.slice C s.lg.length c] 27)).alloc (.cells #[.int .i64 l.k,.int .i64 l.n,.int .i64 l.m,.string l.b] 29)).alloc (.cells #[.slice none 0 0,.slice none 0 0,.slice none 0 0] 27)=w0 at *;obtain⟨n,iP,k0,cZ,eK,f,dx,S,d,W,Z⟩:=aes x;refine(aeT s _ _ _ w0 V hi (h.below n U) (ap U n.size) hl).mono ?_;rintro e o ⟨v1,v2,v3,rfl,r,q⟩;obtain⟨M,a1,rfl⟩:=aQ.form r.pk;obtain⟨R,P,rfl⟩:=aQ.form r.sn;obtain⟨C1,c1,rfl⟩:=aQ.form r.lg;replace f:=ak f q;replace dx:=f.cell;replace S:=f.frozen;replace d:=ak d q;replace W:=d.cell;replace Z:=d.frozen;replace n:=ag n q;have z1:=q.size;have o2:=r.w;have nY:=av o (.cells #[.slice M s.pk.length a1,.slice R s.sn.length P,.slice C1 s.lg.length c1] 27);have a3:=(ak f nY).cell;go_wp2;generalize x:o.alloc (.cells #[.slice M s.pk.length a1,.slice R s.sn.length P,.slice C1 s.lg.length c1] 27)=w3 at *;obtain⟨D,a0,m0,mC,a7⟩:=mL x;replace d:=ak d D;replace W:=d.cell;replace Z:=d.frozen;have I:=ag n D;have o3:=o2.below D (am _);have u:=m0;have f:=d;have dx:=f.cell;have S:=f.frozen;have a2:=u.cell;have a6:=u.frozen;refine(alc l w3 K).mono ?_;rintro e w4 ⟨F,cs,rfl,hF,k,iZ⟩;have p:=ag I k;have y:=ak u k;have z:=ak f k;have o4:=o3.below k (by omega);have fe:=hF (#[.pointer (some ⟨o.heap.size,0,none⟩)]++cs) w4;have HC:=ab (iZ s o.heap.size _ _ _ w0.heap.size o.heap.size o4 (by have:=k.size;omega) y);have z4:=k.size;go_wp2;refine HC.out.mono ?_;rintro e J ⟨T,rfl,ua,ub,uc,k5,j,G⟩;have z5:=G.size;have H:Below w.heap.size w J:=p.trans (G.below p.size λi hi g=>by rcases g with g|g<;>omega);have m:=aP z G λg=>by
  rcases g with g|g
  .omega
  .omega
 have a8:=k5.cell;have t:=m.cell;have a4:=m.frozen;obtain⟨A5,a5,rfl⟩:=aQ.form j.pk;obtain⟨B5,b5,rfl⟩:=aQ.form j.sn;obtain⟨C5,d5,rfl⟩:=jW.form j.lg;replace j:=ab j;go_wp2;have E:∀(O Y N:Value) (b:Nat),w0.heap.size<=b->(((J.setCell ⟨w.heap.size+1+1,0,none⟩ O).setCell ⟨w.heap.size+1+1,1,none⟩ Y).setCell ⟨w.heap.size+1+1,2,none⟩ N).heap[b]?=J.heap[b]?:=λO Y N b L=>by
  rw[io _ _ _ _ (by dsimp only;omega),io _ _ _ _ (by dsimp only;omega),io _ _ _ _ (by dsimp only;omega)]
 refine pa (v:=.agg #[.slice A5 (dF s l).pk.length a5,.slice B5 (dF s l).sn.length b5,.slice C5 (dF s l).lg.length d5]) (by simp[results,results5,go_sem,t]) rfl ⟨_,_,_,rfl, ?_, ?_⟩
 .refine j.out.go (λb L _=>E _ _ _ b L) (by omega) ?_;simp only[be];omega
 .exact((H.setCell (by dsimp only;omega) _).setCell (by dsimp only;omega) _).setCell (by dsimp only;omega) _
end
section
variable {β:Bool}
open Go.RowKit
def aQ.obT{w:World}{xs:List Y}(h:aQ e E Z w U hi xs [v])(a:v.ownBlock=some b):∃g,bg w b e g:=by
 obtain⟨i,cells,f,h,_⟩:=h;cases f;rcases h.2 with⟨rfl,_⟩|⟨j,cap,c,rfl,_,d,_⟩
 .cases a
 .cases a;exact⟨_,d⟩
def eb.aae{w:World}(h:eb U e v w)(f:w.heap.size<=hi):aQ e E Z w U hi [] [v]:=by
 obtain⟨g,rfl,d,c⟩:=h;have:=c.lt;exact⟨_,[],rfl,eb.own ⟨g,rfl,d,c⟩ Z,λb a=>by cases a;dsimp only;omega,Els.nil (by omega)⟩
def dz{w : World}{xs:List Y}(h:aQ e E Z w U hi xs [v])(f:bq (λb=>v.ownBlock=some b) w w'){t:TypeId}{cs:Array Value}(a:bg w g t cs)(c:t≠e):bg w' g t cs:=
 aP a f λd=>by
  obtain⟨i,hd⟩:=h.obT d;exact c (cD a hd)
def jr{β : Type}{D:fV β}{w : World}{xs:List Y}{y:β}(h:aQ e E Z w U hi xs [v])(l:bq (λb=>v.ownBlock=some b) w w')(j:dC D T)(c:D w R B y cs)(d:e∉T):D w' R B y cs:=
 j.fc c l λb _ _ f g=>by
  obtain⟨m,hd⟩:=h.obT g;obtain⟨t,k,i,a⟩:=f;exact d (cD a hd▸k)
def cI{β:Type}{D:fV β}{w:World}{t:TypeId}{a:Array Value}{y:β}(f:dC D T)(c:D w Z hi y cs)(j:bg w g t a)(d:t∉T)(i:Nat)(u:Value):D (w.setCell ⟨g,i,none⟩ u) Z hi y cs:=
 f.go (λb _ _ e=>io _ _ _ _ (by rintro rfl;exact dw j d e)) (am _) (am _) c
def ahl{β:Type}{D:fV β}{w:World}{u:Value}{y:β}(c:dC D T)(a:D w Z hi y cs)(e:hi<=g):D (w.setCell ⟨g,i,none⟩ u) Z hi y cs:=
 c.go (λb _ d _=>io _ _ _ _ (by dsimp only;omega)) (am _) (am _) a
structure afp (w wr:World) (L:Nat) (A B C:Option Addr) (a b c:Nat) (s:dK) (gm:Nat) (vp vs vl:Value) (pk:List Pk) (sn:List Sn) (H:Nat):Prop where
 k0:bg wr w.heap.size 27 #[.slice A s.pk.length a,.slice B s.sn.length b,.slice C s.lg.length c]
 k1:bg wr (w.heap.size+1) 27 #[.slice none 0 0,.slice none 0 0,.slice none 0 0]
 m:bg wr gm 27 #[vp,vs,vl]
 op:bD wr L H pk [vp]
 os:bQ wr L H sn [vs]
 ol:dy wr L H s.lg [vl]
 bl:Below w.heap.size w wr
 gm1:w.heap.size+1<gm
 gm2:gm<wr.heap.size
 hL:w.heap.size<=L
 hH:H<=wr.heap.size
 gmr:gm<H
def afp.below{w wr : World}{B C : Option Addr}{a : Nat}{f:List Pk}{e:List Sn}(h:afp w wr Z A B C a b c s U X W V f e R)(d:Below wr.heap.size wr w'):afp w w' Z A B C a b c s U X W V f e R:=
 ⟨ak h.k0 d,ak h.k1 d,ak h.m d,bD.ar.below h.op d h.hH,bQ.ar.below h.os d h.hH,dy.ar.below h.ol d h.hH,ag h.bl d,h.gm1,bd h.gm2 d.size,h.hL,ap h.hH d.size,h.gmr⟩
def eT(s:dK)(va vb vc:Value)(w:World)(lo hi:Nat)(h:iW w lo hi s va vb vc)(aX:hi<=w.heap.size)(hl:jV s<=1099511627) :
  Calls (ah β) 18 #[.agg #[va,vb,vc]] w (aq1 w s):=by
 obtain⟨h1,h2,h3⟩:=h;obtain⟨A,a,rfl⟩:=bE.form h1;obtain⟨B,b,rfl⟩:=bE.form h2;obtain⟨C,c,rfl⟩:=bE.form h3;obtain⟨_,d3,d1⟩:=h1.len_;obtain⟨_,e8,cd⟩:=h2.len_;obtain⟨_,b5,cC⟩:=h3.len_;unfold maxLen at d1 cd cC;unfold jV at hl;have d8:=dL (f:=bPk) (l:=s.pk);have e5:=dL (f:=bSn) (l:=s.sn);have c6:=bE.good (F:=og) h3;go_enter zH,ntmps18;go_wp2_with(at_builtin;refine gu ?_);refine⟨?_,trivial⟩;have aL:Below w.heap.size w (((((w.alloc (.cells #[.slice A s.pk.length a,.slice B s.sn.length b,.slice C s.lg.length c] 27)).alloc (.cells #[.slice none 0 0,.slice none 0 0,.slice none 0 0] 27)).alloc (.cells #[] 54)).alloc (.cells #[] 39)).alloc (.cells #[] 62)):=cM (cM (cM (cM (av _ _) _) _) _) _;have k0:bg (((((w.alloc (.cells #[.slice A s.pk.length a,.slice B s.sn.length b,.slice C s.lg.length c] 27)).alloc (.cells #[.slice none 0 0,.slice none 0 0,.slice none 0 0] 27)).alloc (.cells #[] 54)).alloc (.cells #[] 39)).alloc (.cells #[] 62)) (w.heap.size) 27 #[.slice A s.pk.length a,.slice B s.sn.length b,.slice C s.lg.length c]:=by
  have I:=bu (bu (bu (bu (bg.new w 27 #[.slice A s.pk.length a,.slice B s.sn.length b,.slice C s.lg.length c]) (.cells #[.slice none 0 0,.slice none 0 0,.slice none 0 0] 27)) (.cells #[] 54)) (.cells #[] 39)) (.cells #[] 62);exact I
 have k1:bg (((((w.alloc (.cells #[.slice A s.pk.length a,.slice B s.sn.length b,.slice C s.lg.length c] 27)).alloc (.cells #[.slice none 0 0,.slice none 0 0,.slice none 0 0] 27)).alloc (.cells #[] 54)).alloc (.cells #[] 39)).alloc (.cells #[] 62)) (w.heap.size+1) 27 #[.slice none 0 0,.slice none 0 0,.slice none 0 0]:=by
  have I:=bu (bu (bu (bg.new (w.alloc (.cells #[.slice A s.pk.length a,.slice B s.sn.length b,.slice C s.lg.length c] 27)) 27 #[.slice none 0 0,.slice none 0 0,.slice none 0 0]) (.cells #[] 54)) (.cells #[] 39)) (.cells #[] 62);simp only[oR] at I;exact I
 have k2:bg (((((w.alloc (.cells #[.slice A s.pk.length a,.slice B s.sn.length b,.slice C s.lg.length c] 27)).alloc (.cells #[.slice none 0 0,.slice none 0 0,.slice none 0 0] 27)).alloc (.cells #[] 54)).alloc (.cells #[] 39)).alloc (.cells #[] 62)) (w.heap.size+1+1) 54 #[]:=by
  have I:=bu (bu (bg.new ((w.alloc (.cells #[.slice A s.pk.length a,.slice B s.sn.length b,.slice C s.lg.length c] 27)).alloc (.cells #[.slice none 0 0,.slice none 0 0,.slice none 0 0] 27)) 54 #[]) (.cells #[] 39)) (.cells #[] 62);simp only[oR] at I;exact I
 have k3:bg (((((w.alloc (.cells #[.slice A s.pk.length a,.slice B s.sn.length b,.slice C s.lg.length c] 27)).alloc (.cells #[.slice none 0 0,.slice none 0 0,.slice none 0 0] 27)).alloc (.cells #[] 54)).alloc (.cells #[] 39)).alloc (.cells #[] 62)) (w.heap.size+1+1+1) 39 #[]:=by
  have I:=bu (bg.new (((w.alloc (.cells #[.slice A s.pk.length a,.slice B s.sn.length b,.slice C s.lg.length c] 27)).alloc (.cells #[.slice none 0 0,.slice none 0 0,.slice none 0 0] 27)).alloc (.cells #[] 54)) 39 #[]) (.cells #[] 62);simp only[oR] at I;exact I
 have k4:bg (((((w.alloc (.cells #[.slice A s.pk.length a,.slice B s.sn.length b,.slice C s.lg.length c] 27)).alloc (.cells #[.slice none 0 0,.slice none 0 0,.slice none 0 0] 27)).alloc (.cells #[] 54)).alloc (.cells #[] 39)).alloc (.cells #[] 62)) (w.heap.size+1+1+1+1) 62 #[]:=by
  have I:=bg.new ((((w.alloc (.cells #[.slice A s.pk.length a,.slice B s.sn.length b,.slice C s.lg.length c] 27)).alloc (.cells #[.slice none 0 0,.slice none 0 0,.slice none 0 0] 27)).alloc (.cells #[] 54)).alloc (.cells #[] 39)) 62 #[];simp only[oR] at I;exact I
 have iP:w.heap.size+5<=(((((w.alloc (.cells #[.slice A s.pk.length a,.slice B s.sn.length b,.slice C s.lg.length c] 27)).alloc (.cells #[.slice none 0 0,.slice none 0 0,.slice none 0 0] 27)).alloc (.cells #[] 54)).alloc (.cells #[] 39)).alloc (.cells #[] 62)).heap.size:=by simp only[oR];omega
 generalize (((((w.alloc (.cells #[.slice A s.pk.length a,.slice B s.sn.length b,.slice C s.lg.length c] 27)).alloc (.cells #[.slice none 0 0,.slice none 0 0,.slice none 0 0] 27)).alloc (.cells #[] 54)).alloc (.cells #[] 39)).alloc (.cells #[] 62))=w0 at *;have cZ:=k0.cell;have eK:=k0.frozen;have dx:=k1.cell;have ed:=k1.frozen;have gp:=k2.cell;have jw:=k2.frozen;have an:=k3.cell;have b0:=k3.frozen;have cc:=k4.cell;have d2:=k4.frozen;have N:=kY (F:=og) h3 aX;have bR:eb w.heap.size 62 (.slice (some ⟨w.heap.size+1+1+1+1,0,none⟩) 0 0) w0:=⟨_,rfl,by omega,k4⟩;refine mN (F:=og) (xs:=s.lg) aL rfl (.tmp 11) (.tmp 13) 25 rfl ahe (am _) rfl rfl bR N (by omega) ?_;intro vl x1 P Q;replace k0:=ak k0 P;replace cZ:=k0.cell;replace eK:=k0.frozen;replace k1:=ak k1 P;replace dx:=k1.cell;replace ed:=k1.frozen;replace k2:=ak k2 P;replace gp:=k2.cell;replace jw:=k2.frozen;replace k3:=ak k3 P;replace an:=k3.cell;replace b0:=k3.frozen;replace aL:=ag aL P;obtain⟨Cl,cl,rfl⟩:=Q.form;have z1:=P.size;clear k4 cc d2 bR N;go_wp2;generalize hG:x1.alloc (.cells #[.slice (some ⟨w.heap.size+1+1,0,none⟩) 0 0,.slice (some ⟨w.heap.size+1+1+1,0,none⟩) 0 0,.slice Cl s.lg.length cl] 27)=w1 at *;obtain⟨R,e2,m0,mC,ca⟩:=mL hG;clear hG;replace k0:=ak k0 R;replace cZ:=k0.cell;replace eK:=k0.frozen;replace k1:=ak k1 R;replace dx:=k1.cell;replace ed:=k1.frozen;replace k2:=ak k2 R;replace gp:=k2.cell;replace jw:=k2.frozen;replace k3:=ak k3 R;replace an:=k3.cell;replace b0:=k3.frozen;have bb:=Q.below R;have o:afp w w1 w.heap.size A B C a b c s x1.heap.size (.slice (some ⟨w.heap.size+1+1,0,none⟩) 0 0) (.slice (some ⟨w.heap.size+1+1+1,0,none⟩) 0 0) (.slice Cl s.lg.length cl) [] [] w1.heap.size:=
  ⟨k0,k1,m0,eb.aae ⟨_,rfl,by omega,k2⟩ (am _),eb.aae ⟨_,rfl,by omega,k3⟩ (am _),bb.aae c6 (by omega) (λg hg=>(bb.at_ hg).2),ag aL R,by omega,by omega,am _,am _,by omega⟩
 have n:=ab o;obtain⟨J,bl⟩:∃J,J=x1.heap.size:=⟨_,rfl⟩;rw[<-bl] at n ⊢;obtain⟨vs,bz⟩:∃vs,vs=Value.slice (some ⟨w.heap.size+1+1+1,0,none⟩) 0 0:=⟨_,rfl⟩;rw[<-bz] at n;clear bl bz o k0 k1 k2 k3 m0 cZ dx gp an mC eK ed jw b0 ca Q bb aL R P;go_loopw [4] (λii wr=>∃(k:Nat) (vo:Value),k<=s.pk.length/\ii=.int .i64 k/\afp w wr w.heap.size A B C a b c s J vo vs (.slice Cl s.lg.length cl) (s.pk.take k) [] wr.heap.size) (λii _=>s.pk.length-(intOf ii).toNat)
 case atStart=>exact⟨0,_,fb _,rfl,n.out⟩
 case round=>
  clear n;obtain⟨k,vo,I,rfl,o⟩:=hrel;obtain⟨Ao,co,rfl⟩:=o.op.form;have G:(s.pk.take k).length=k:=by rw[fa,qZ I]
  rw[G] at o;have cZ:wr.cell? ⟨w.heap.size,0,none⟩=some (.slice A s.pk.length a):=o.k0.cell 0;by_cases ay:k<s.pk.length
  .obtain⟨y,cG⟩:=aq ay;have iQ:=jq (f:=bPk) (db cG);have d4:y.its.length<=bPk y:=dL;obtain⟨b',L,es,e0,_,cw,_,⟨v2,rfl,al,Y⟩,u⟩:=(iV.loc.below h1 o.bl aX).at_ cG;subst e0;obtain⟨A2,c2,rfl⟩:=bE.form Y;have aa:wr.cell? ⟨b',L+k*2,none⟩=some (.int .i64 y.no):=by simpa using u 0 _ rfl
   have pq:wr.cell? ⟨b',L+k*2+1,none⟩=some (.slice A2 y.its.length c2):=by simpa using u 1 _ rfl
   have cm:wr.cell? ⟨J,0,none⟩=some (.slice Ao k co):=o.m.cell 0;have iw:=li cG;have HN:=ab iw;have W:=ab G;have N:=ab (kY (F:=mo) Y (by have:=o.bl.size;omega));have iN:=ab (bE.good (F:=mo) Y);have n:=ab o;have zr:=o.bl.size;clear u cG iw G Y o;go_wp2;have aG:=ae cZ;have aI:=ae aa;have aZ:=ae pq;have cY:=ae cm;refine aF 18 [0,1,2,3,4,5,6,7,9,10,11,12,13,14] [8,15,16,17] (h:= ?_);simp only[pick,List.map,ge,gn];repeat(go_big_quiet_step (fail))
   refine gt ?_;clear aG aI aZ cY;apply Exists.intro;apply aU (eb wr.heap.size 60)
   .rfl
   .exact λv x y h m=>h.keep m
   .intro x _ Qx r;have S:=ab r;clear r;go_wp2;exact S.out _ _ (av _ _) (eb.new _ _ x.ok.size)
   intro u8;apply aU (λv w'=>aK mo 60 w' wr.heap.size v y.its)
   .rfl
   .exact λv x y h m=>h.below m
   .intro x K Qx S;have hL:=K.1 (by kernel_rfl);exact aii rfl (.tmp 31) (.tmp 37) 52 rfl nu (am _) rfl rfl hL N.out (by omega) λv' x' m ho=>S v' x'.to m ho
   intro di;apply aU (λv w'=>∃A c,v=.agg #[.int .i64 y.no,.slice A y.its.length c]/\aK mo 60 w' wr.heap.size (.slice A y.its.length c) y.its)
   .rfl
   .exact λv x y ⟨A,c,e,h⟩ m=>⟨A,c,e,h.below m⟩
   .intro x K Qx r;have S:=ab r;clear r;have ho:=K.1 (by kernel_rfl);obtain⟨A5,c5,rfl⟩:=ho.form;go_wp2;exact S.out _ _ (fd _ _) ⟨_,_,rfl,ho⟩
   intro d5;apply aU (λv w'=>∃g A c,v=.slice (some ⟨g,0,none⟩) 1 1/\bg w' g 54 #[.int .i64 y.no,.slice A y.its.length c]/\aK mo 60 w' wr.heap.size (.slice A y.its.length c) y.its)
   .rfl
   .exact λv x y ⟨g,A,c,e,I,h⟩ m=>⟨g,A,c,e,ak I m,h.below m⟩
   .intro x K Qx r;have S:=ab r;clear r;obtain⟨A5,c5,rfl,ho⟩:=K.1 (by kernel_rfl);go_wp2;have ba:=av x.to (.cells #[.int .i64 y.no,.slice A5 y.its.length c5] 54);exact S.out _ _ ba ⟨_,_,_,rfl,bg.new _ _ _,ho.below ba⟩
   intro dp;refine aS ?_;intro w6 gW xx cT K;dsimp only[dP] at K;try rw[cT] at K
   clear cT xx;obtain⟨⟨g8,A8,c8,rfl,V,o8⟩, -⟩:=K;simp only[List.drop];have a3:=n.out.below gW;have z6:=gW.size;have ax:Hid (ki w6 wr.heap.size w6.heap.size y [.int .i64 y.no,.slice A8 y.its.length c8]):=ab ⟨_,rfl,al,o8.aae iN.out (by omega) λg hg=>(o8.at_ hg).2⟩;replace V:=ab V;have q:=ab a3;clear n gW o8 a3 aa pq cm cZ N;go_wp2_with(at_builtin;refine gu ?_);refine⟨?_,trivial⟩;refine gS ki.ar (by decide) (v:=.slice Ao k co) rfl (.tmp 24) (.tmp 40) 23 rfl adK y rfl q.out.op rfl V.out rfl (by simp[Value.oneCell']) z6 ax.out (am _) (by have:=W.out;omega) (by omega) ?_;intro v9 X o9 E bk;obtain⟨U,O,rfl⟩:=o9.form;rw[aE,mp,W.out] at o9;rw[aE,mp,W.out];have d:=q.out.op;have t:=dz d E q.out.m (by decide);have a2:=dz d E q.out.k0 (by decide);have a7:=dz d E q.out.k1 (by decide);have bo:=jr d E bQ.ar q.out.os (by decide);have a6:=jr d E dy.ar q.out.ol (by decide);have aY:Below w.heap.size w X:=q.out.bl.trans (E.below q.out.bl.size λi hi hs=>by have:=d.ob hs;omega);have cq:X.cell? ⟨J,0,none⟩=some (.slice Ao k co):=t.cell 0;have ci:=t.frozen 0;have z9:=E.size;have a0:=q.out.gm1;have cX:=q.out.gm2;have lH:=t.bF 0 (.slice U (k+1) O);simp only[ef,ip,jt] at lH;have M:afp w (X.setCell ⟨J,0,none⟩ (.slice U (k+1) O)) w.heap.size _ B C a b c s J (.slice U (k+1) O) vs (.slice Cl s.lg.length cl) (s.pk.take (k+1)) [] (X.setCell ⟨J,0,none⟩ (.slice U (k+1) O)).heap.size:=
    ⟨bV a2 (p:=⟨J,0,none⟩) _ (by dsimp only;omega),bV a7 (p:=⟨J,0,none⟩) _ (by dsimp only;omega),lH,
     by rw[HN.out];simp only[be];exact cI bD.ar o9 t (by decide) 0 _,
     by simp only[be];exact bQ.ar.wide (cI bQ.ar bo t (by decide) 0 _) (am _) (ap z6 z9),
     by simp only[be];exact dy.ar.wide (cI dy.ar a6 t (by decide) 0 _) (am _) (ap z6 z9),
     aY.setCell (by dsimp only;omega) _,a0,by simp only[be];omega,am _,am _,by simp only[be];omega⟩
   have b6:=ab M;clear M lH bo a6 d a2 a7 t;go_wp2;go_roundw
   case rel=>exact⟨k+1,_,by omega,by go_num,b6.out⟩
   simp[intOf];omega
  .obtain rfl:k=s.pk.length:=by omega
   rw[gc] at o;obtain⟨Ap,cy⟩:∃A,A=Ao:=⟨_,rfl⟩;obtain⟨cp,ct⟩:∃c,c=co:=⟨_,rfl⟩;subst cy ct;have n:=ab o;clear o;go_wp2;clear cZ;go_loopw [5] (λii wr=>∃(k:Nat) (vo:Value),k<=s.sn.length/\ii=.int .i64 k/\afp w wr w.heap.size A B C a b c s J (.slice Ap s.pk.length cp) vo (.slice Cl s.lg.length cl) s.pk (s.sn.take k) wr.heap.size) (λii _=>s.sn.length-(intOf ii).toNat)
   case atStart=>exact⟨0,_,fb _,rfl,n.out⟩
   case round=>
    clear n;obtain⟨k,vo,I,rfl,o⟩:=hrel;obtain⟨Ao,co,rfl⟩:=o.os.form;have G:(s.sn.take k).length=k:=by rw[fa,qZ I]
    rw[G] at o;have cZ:wr.cell? ⟨w.heap.size,1,none⟩=some (.slice B s.sn.length b):=o.k0.cell 1;by_cases ay:k<s.sn.length
    .obtain⟨y,cG⟩:=aq ay;have iQ:=jq (f:=bSn) (db cG);have d9:dX bLs y.all=bSn y:=rfl;have ds:y.all.length<=dX bLs y.all:=dL;obtain⟨b',L,es,e0,dA,cw,_,⟨v2,rfl,al,Y⟩,u⟩:=(gQ.loc.below h2 o.bl aX).at_ cG;subst e0;obtain⟨A2,c2,rfl⟩:=bE.form Y;obtain⟨_,d7,cn⟩:=Y.len_;unfold maxLen at cn;have aa:wr.cell? ⟨b',L+k*2,none⟩=some (.int .i64 y.no):=by simpa using u 0 _ rfl
     have pq:wr.cell? ⟨b',L+k*2+1,none⟩=some (.slice A2 y.all.length c2):=by simpa using u 1 _ rfl
     have iw:=li cG;have HN:=ab iw;have W:=ab G;have HY:=ab cG;have n:=ab o;have zr:=o.bl.size;clear u cG iw G Y o;go_wp2;obtain⟨H,cO⟩:∃H,H=wr:=⟨_,rfl⟩;subst cO;generalize hG:(H.alloc (.cells #[] 89)).alloc (.cells #[.int .i64 y.no,.slice (some ⟨H.heap.size,0,none⟩) 0 0] 39)=w2 at *;obtain⟨c7,d6,n0,cg,cN,n1,af,ce⟩:=oV hG;clear hG;have bO:=n.out.below c7;have bG:=ab bO;have Z:fu w2 H.heap.size w2.heap.size [] [.slice (some ⟨H.heap.size,0,none⟩) 0 0]:=eb.aae ⟨_,rfl,am _,n0⟩ (am _);have HST:=ab (And.intro Z n1);clear n bO aa pq cZ n0 n1 cg af cN ce Z;go_loopw [7] (λii wr=>∃(j:Nat) (va:Value),j<=y.all.length/\ii=.int .i64 j/\fu wr H.heap.size wr.heap.size (y.all.take j) [va]/\bg wr (H.heap.size+1) 39 #[.int .i64 y.no,va]/\afp w wr w.heap.size A (some ⟨b',L,none⟩) C a b c s J (.slice Ap s.pk.length cp) (.slice Ao k co) (.slice Cl s.lg.length cl) s.pk (s.sn.take k) H.heap.size) (λii _=>y.all.length-(intOf ii).toNat)
     case atStart=>exact⟨0,_,fb _,rfl,HST.out.1,HST.out.2,bG.out⟩
     case round=>
      clear HST bG;obtain⟨j,va,hj,rfl,Q,a1,o⟩:=hrel;obtain⟨Av,cv,rfl⟩:=Q.form;have G:(y.all.take j).length=j:=by rw[fa,qZ hj]
      rw[G] at Q a1;have cZ:wr.cell? ⟨w.heap.size,1,none⟩=some (.slice (some ⟨b',L,none⟩) s.sn.length b):=o.k0.cell 1;have zx:=o.hH;have zw:=o.bl.size;obtain⟨b2,iE,es,e0,_,_,_,⟨v2,rfl,dr,Y⟩,u⟩:=(gQ.loc.below h2 o.bl aX).at_ HY.out;simp only[mt,qz,qu] at e0;obtain⟨rfl,rfl⟩:=e0;obtain⟨A3,c3,rfl⟩:=bE.form Y;obtain⟨_,dd,ch⟩:=Y.len_;unfold maxLen at ch;have b5:wr.cell? ⟨b',L+k*2+1,none⟩=some (.slice A3 y.all.length c3):=by simpa using u 1 _ rfl
      clear u;by_cases c1:j<y.all.length
      .obtain⟨z,ad⟩:=aq c1;have dU:=jq (f:=bLs) (db ad);have e1:z.ns.length<=bLs z:=Nat.le_add_left _ _;obtain⟨b3,br,es,e0,_,_,_,⟨v4,rfl,d0,a5⟩,u⟩:=Y.at_ ad;subst e0;obtain⟨A4,c4,rfl⟩:=bE.form a5;have cz:wr.cell? ⟨b3,br+j*2,none⟩=some (.string z.p):=by simpa using u 0 _ rfl
       have cW:wr.cell? ⟨b3,br+j*2+1,none⟩=some (.slice A4 z.ns.length c4):=by simpa using u 1 _ rfl
       have iw:=li ad;have cE:=ab iw;have b9:=ab G;have a4:=ab o;replace Q:=ab Q;replace a5:=ab a5;clear u ad iw G Y o;go_wp2;generalize hG:wr.alloc (.cells #[.string z.p,.slice A4 z.ns.length c4] 89)=wa at *;obtain⟨gT,e3,q0,aT,c0⟩:=mL hG;clear hG;have bw:=a4.out.below gT;have bt:=fu.ar.below Q.out gT (am _);have b4:=ak a1 gT;have b8:=nG.loc.below a5.out gT (by omega);have N:=ab (kY (F:=mM) b8 (by have:=gT.size;omega));have jZ:=ab b8.akd;have bL:=ab bw;have bY:=ab bt;have af:wa.cell? ⟨H.heap.size+1,1,none⟩=some (.slice Av j cv):=b4.cell 1;have bf:=aT 0;have bh:=aT 1;have bS:=gT.size;clear a4 Q a5 bw bt b8 cz cW b5 cZ a1 gT;have aG:=ae af;have aI:=ae bf;have aZ:=ae bh;refine aF 10 [0,1,2,3,5,6] [4,7,8,9] (h:= ?_);simp only[pick,List.map,ge,gn];repeat(go_big_quiet_step (fail))
       refine gt ?_;clear aG aI aZ;apply Exists.intro;apply aU (eb wa.heap.size 3)
       .rfl
       .exact λv x y h m=>h.keep m
       .intro x _ Qx r;have S:=ab r;clear r;go_wp2;exact S.out _ _ (av _ _) (eb.new _ _ x.ok.size)
       intro u4;apply aU (λv w'=>aK mM 3 w' wa.heap.size v z.ns)
       .rfl
       .exact λv x y h m=>h.below m
       .intro x K Qx S;have hL:=K.1 (by kernel_rfl);exact aii rfl (.tmp 82) (.tmp 84) 87 rfl abH (am _) rfl rfl hL N.out (by omega) λv' x' m ho=>S v' x'.to m ho
       intro u7;apply aU (λv w'=>∃A c,v=.agg #[.string z.p,.slice A z.ns.length c]/\aK mM 3 w' wa.heap.size (.slice A z.ns.length c) z.ns)
       .rfl
       .exact λv x y ⟨A,c,e,h⟩ m=>⟨A,c,e,h.below m⟩
       .intro x K Qx r;have S:=ab r;clear r;have ho:=K.1 (by kernel_rfl);obtain⟨A5,c5,rfl⟩:=ho.form;go_wp2;exact S.out _ _ (fd _ _) ⟨_,_,rfl,ho⟩
       intro u8;apply aU (λv w'=>∃g A c,v=.slice (some ⟨g,0,none⟩) 1 1/\bg w' g 89 #[.string z.p,.slice A z.ns.length c]/\aK mM 3 w' wa.heap.size (.slice A z.ns.length c) z.ns)
       .rfl
       .exact λv x y ⟨g,A,c,e,I,h⟩ m=>⟨g,A,c,e,ak I m,h.below m⟩
       .intro x K Qx r;have S:=ab r;clear r;obtain⟨A5,c5,rfl,ho⟩:=K.1 (by kernel_rfl);go_wp2;have ba:=av x.to (.cells #[.string z.p,.slice A5 z.ns.length c5] 89);exact S.out _ _ ba ⟨_,_,_,rfl,bg.new _ _ _,ho.below ba⟩
       intro u9;refine aS ?_;intro w6 gW xx cT K;dsimp only[dP] at K;try rw[cT] at K
       clear cT xx;obtain⟨⟨g8,A8,c8,rfl,V,o8⟩, -⟩:=K;simp only[List.drop];have a3:=bL.out.below gW;have a9:=fu.ar.below bY.out gW bS;have bn:=ak b4 gW;have z6:=gW.size;have ax:Hid (OLs w6 wa.heap.size w6.heap.size z [.string z.p,.slice A8 z.ns.length c8]):=ab ⟨_,rfl,d0,o8.aae (λx hx=>jZ.out x hx) (by omega) λg hg=>(o8.at_ hg).2⟩;replace V:=ab V;have q:=ab a3;replace a9:=ab a9;clear bL bY gW o8 a3 N b4 af bf bh q0 aT c0;go_wp2_with(at_builtin;refine gu ?_);refine⟨?_,trivial⟩;refine gS OLs.ar (by decide) (v:=.slice Av j cv) rfl (.tmp 79) (.tmp 87) 37 rfl ahf z rfl a9.out rfl V.out rfl (by simp[Value.oneCell']) (show wr.heap.size<=w6.heap.size by omega) (OLs.ar.wide ax.out bS (am _)) (am _) (by have:=b9.out;omega) (by omega) ?_;intro v9 X o9 E bk;obtain⟨U,O,rfl⟩:=o9.form;rw[aE,mp,b9.out] at o9;rw[aE,mp,b9.out];have d:=a9.out;have z9:=E.size;have a8:=dz d E bn (by decide);have e4:X.cell? ⟨H.heap.size+1,1,none⟩=some (.slice Av j cv):=a8.cell 1;have e7:=a8.frozen 1;have lH:=a8.bF 1 (.slice U (j+1) O);simp only[ef,ip,jt] at lH;have a0:=q.out.gm1;have bU:=q.out.gmr;have M:afp w (X.setCell ⟨H.heap.size+1,1,none⟩ (.slice U (j+1) O)) w.heap.size _ _ C a b c s J (.slice Ap s.pk.length cp) (.slice Ao k co) (.slice Cl s.lg.length cl) s.pk (s.sn.take k) H.heap.size:=
        ⟨bV (dz d E q.out.k0 (by decide)) (p:=⟨H.heap.size+1,1,none⟩) _ (by dsimp only;omega),bV (dz d E q.out.k1 (by decide)) (p:=⟨H.heap.size+1,1,none⟩) _ (by dsimp only;omega),bV (dz d E q.out.m (by decide)) (p:=⟨H.heap.size+1,1,none⟩) _ (by dsimp only;omega),
         ahl bD.ar (jr d E bD.ar q.out.op (by decide)) (by omega),ahl bQ.ar (bQ.ar.fc q.out.os E λb _ hb _ hs=>by have:=d.ob hs;omega) (by omega),ahl dy.ar (jr d E dy.ar q.out.ol (by decide)) (by omega),
         (q.out.bl.trans (E.below q.out.bl.size λi hi hs=>by have:=d.ob hs;omega)).setCell (by dsimp only;omega) _,a0,by simp only[be];have:=q.out.gm2;omega,am _,by simp only[be];have:=q.out.hH;omega,bU⟩
       have b7:fu (X.setCell ⟨H.heap.size+1,1,none⟩ (.slice U (j+1) O)) H.heap.size (X.setCell ⟨H.heap.size+1,1,none⟩ (.slice U (j+1) O)).heap.size (y.all.take (j+1)) [.slice U (j+1) O]:=by
        rw[cE.out];simp only[be];exact cI fu.ar o9 a8 (by decide) 1 _
       have cL:=ab M;replace b7:=ab b7;have cS:=ab lH;clear M lH d a8 bn;go_wp2;go_roundw
       case rel=>exact⟨j+1,_,by omega,by go_num,b7.out,cS.out,cL.out⟩
       simp[intOf];omega
      .obtain rfl:j=y.all.length:=by omega
       rw[gc] at Q;have ck:wr.cell? ⟨H.heap.size+1,0,none⟩=some (.int .i64 y.no):=a1.cell 0;have c9:wr.cell? ⟨H.heap.size+1,1,none⟩=some (.slice Av y.all.length cv):=a1.cell 1;have cb:wr.cell? ⟨J,1,none⟩=some (.slice Ao k co):=o.m.cell 1;have a4:=ab o;replace Q:=ab Q;clear o;go_wp2_with(at_builtin;refine gu ?_);refine⟨?_,trivial⟩;have bx:=av wr (.cells #[.int .i64 y.no,.slice Av y.all.length cv] 39);have bi:=a4.out.below bx;have cr:=bg.new wr 39 #[.int .i64 y.no,.slice Av y.all.length cv];have bT:=fu.ar.below Q.out bx (am _);generalize wr.alloc (.cells #[.int .i64 y.no,.slice Av y.all.length cv] 39)=w6 at *;have z6:=bx.size;have q:=ab bi;have cA:Hid (lI w6 H.heap.size w6.heap.size y [.int .i64 y.no,.slice Av y.all.length cv]):=ab ⟨_,rfl,al,fu.ar.wide bT (am _) z6⟩;clear bi bT a4 Q ck c9 cb a1 b5 Y;refine gS lI.ar (by decide) (v:=.slice Ao k co) rfl (.tmp 91) (.tmp 93) 24 rfl adN y rfl q.out.os rfl cr rfl (by simp[Value.oneCell']) (show H.heap.size<=w6.heap.size by omega) cA.out (am _) (by have:=W.out;omega) (by omega) ?_;intro v9 X o9 E bk;obtain⟨U,O,rfl⟩:=o9.form;rw[aE,mp,W.out] at o9;rw[aE,mp,W.out];have d:=q.out.os;have t:=dz d E q.out.m (by decide);have a2:=dz d E q.out.k0 (by decide);have a7:=dz d E q.out.k1 (by decide);have bp:=jr d E bD.ar q.out.op (by decide);have a6:=jr d E dy.ar q.out.ol (by decide);have aY:Below w.heap.size w X:=q.out.bl.trans (E.below q.out.bl.size λi hi hs=>by have:=d.ob hs;omega);have cq:X.cell? ⟨J,1,none⟩=some (.slice Ao k co):=t.cell 1;have ci:=t.frozen 1;have z9:=E.size;have a0:=q.out.gm1;have cX:=q.out.gm2;have dv:=q.out.hH;have bU:=q.out.gmr;have lH:=t.bF 1 (.slice U (k+1) O);simp only[ef,ip,jt] at lH;have M:afp w (X.setCell ⟨J,1,none⟩ (.slice U (k+1) O)) w.heap.size _ _ C a b c s J (.slice Ap s.pk.length cp) (.slice U (k+1) O) (.slice Cl s.lg.length cl) s.pk (s.sn.take (k+1)) (X.setCell ⟨J,1,none⟩ (.slice U (k+1) O)).heap.size:=
        ⟨bV a2 (p:=⟨J,1,none⟩) _ (by dsimp only;omega),bV a7 (p:=⟨J,1,none⟩) _ (by dsimp only;omega),lH,
         by simp only[be];exact bD.ar.wide (cI bD.ar bp t (by decide) 1 _) (am _) (by omega),
         by rw[HN.out];simp only[be];exact cI bQ.ar o9 t (by decide) 1 _,
         by simp only[be];exact dy.ar.wide (cI dy.ar a6 t (by decide) 1 _) (am _) (by omega),
         aY.setCell (by dsimp only;omega) _,a0,by simp only[be];omega,am _,am _,by simp only[be];omega⟩
       have b6:=ab M;clear M lH bp a6 d a2 a7 t;go_wp2;go_roundw
       case rel=>exact⟨k+1,_,by omega,by go_num,b6.out⟩
       simp[intOf];omega
    .obtain rfl:k=s.sn.length:=by omega
     rw[gc] at o;have dx:=o.k1.cell;have ed:=o.k1.frozen;have e6:=o.m.cell;have n:=ab o;have zr:=o.bl.size;clear o;go_wp2;have a0:=n.out.gm1;have b1:∀(u1 u2 u3:Value) {β:Type} {D:fV β} {T:List TypeId} {y:β} {cs:List Value},dC D T->27∉T->D wr w.heap.size wr.heap.size y cs->D (((wr.setCell ⟨w.heap.size+1,0,none⟩ u1).setCell ⟨w.heap.size+1,1,none⟩ u2).setCell ⟨w.heap.size+1,2,none⟩ u3) w.heap.size (((wr.setCell ⟨w.heap.size+1,0,none⟩ u1).setCell ⟨w.heap.size+1,1,none⟩ u2).setCell ⟨w.heap.size+1,2,none⟩ u3).heap.size y cs:=λu1 u2 u3 {_ _ _ _ _} hD hT hy=>by
      simp only[be];exact hD.go (λb _ _ hb=>by
       have ao:b≠w.heap.size+1:=by rintro rfl;exact dw n.out.k1 hT hb
       rw[io _ _ _ _ ao,io _ _ _ _ ao,io _ _ _ _ ao]) (am _) (am _) hy
     refine pa (v:=.agg #[.slice Ap s.pk.length cp,.slice Ao s.sn.length co,.slice Cl s.lg.length cl]) (by simp[results,results18,go_sem,dx]) rfl ⟨_,_,_,rfl,⟨b1 _ _ _ bD.ar (by decide) n.out.op,b1 _ _ _ bQ.ar (by decide) n.out.os,b1 _ _ _ dy.ar (by decide) n.out.ol⟩, ?_⟩;exact((n.out.bl.setCell (by dsimp only;omega) _).setCell (by dsimp only;omega) _).setCell (by dsimp only;omega) _
end
section
variable {β:Bool}
open Go.RowKit
def ab9(key:Int)(f:Nd):Ls:=⟨f.p,(jT f.b).map λp=>cP key (bs p)⟩
def kq(no key:Int)(t:List Nd):Sn:=⟨no,t.map (ab9 key)⟩
def azR(w:World)(s:Sn)(e:Ending)(w':World):Prop:=∃v,e=.returned (.agg #[.int .i64 s.no,v])/\fu w' w.heap.size w'.heap.size s.all [v]/\Below w.heap.size w w'
def aou(D key:Int)(hk:1<=key/\key<=99)(bS:bZ D)(t:List Nd)(ht:∀x∈t,dH x.b=true)(hl:t.length<=1000)(vt:Value)(w:World)(lo hi:Nat)(aX:hi<=w.heap.size)(h1:eD w lo hi t [vt]) :
  Calls (ah β) 57 #[.int .i64 D,.int .i64 key,vt] w (azR w (kq D key t)):=by
 replace ht:=ab ht;have HK:=ab hk;obtain⟨A,c,rfl⟩:=h1.form;obtain⟨_,hc,C⟩:=h1.len_;unfold maxLen at C;go_enter zc,ntmps57;go_wp2;generalize hG:((w.alloc (.cells #[.int .i64 0,.slice none 0 0] 39)).alloc (.cells #[] 89)).alloc (.cells #[.int .i64 D,.slice (some ⟨w.heap.size+1,0,none⟩) 0 0] 39)=w0 at *;obtain⟨aL,iP,E,cZ,eK,k1,dx,ed,V,gp,jw⟩:=aes hG;obtain⟨all,d⟩:∃all,all=(kq D key t).all:=⟨_,rfl⟩;have nY:all.length=t.length:=by rw[d];exact qc _
 replace d:=ab d;have a5:fu w0 w.heap.size w0.heap.size [] [.slice (some ⟨w.heap.size+1,0,none⟩) 0 0]:=eb.aae ⟨_,rfl,by omega,k1⟩ (am _);have H0:=ab (And.intro a5 (And.intro E (And.intro V aL)));go_loopw [8] (λii wr=>∃(k:Nat) (va:Value),k<=t.length/\ii=.int .i64 k/\fu wr w.heap.size wr.heap.size (all.take k) [va]/\bg wr w.heap.size 39 #[.int .i64 0,.slice none 0 0]/\bg wr (w.heap.size+1+1) 39 #[.int .i64 D,va]/\Below w.heap.size w wr) (λii _=>t.length-(intOf ii).toNat)
 case atStart=>exact⟨0,_,fb _,rfl,H0.out.1,H0.out.2.1,H0.out.2.2.1,H0.out.2.2.2⟩
 case round=>
  obtain⟨k,va,c0,rfl,q,E,V,Q⟩:=hrel;obtain⟨u,bh⟩:∃u,u=wr:=⟨_,rfl⟩;subst bh;obtain⟨Y,cv,rfl⟩:=q.form;have a2:(all.take k).length=k:=by rw[fa,qZ (by omega)]
  rw[a2] at q V;by_cases ad:k<t.length
  .obtain⟨f,n⟩:=aq ad;have U:=kJ (ht.out f (db n));have O:=eD.ar.below h1 Q aX;obtain⟨b1,bO,rfl,_,bz,a8,lF,bY⟩:=jJ O n;have bk:all[k]?=some (ab9 key f):=by rw[d.out];show(t.map (ab9 key))[k]?=_;rw[qH,n];rfl
   have fC:=li bk;have kU:=ab fC;have L:=ab a2;have ax:=nB U.2;have iZ:=abT f.b;have c2:=U.1;have HA:=ab ax;have HC:=ab (afW (β:=β) f.b (by omega));replace q:=ab q;have bo:=ab a8;replace n:=ab n;go_wp2;refine(HC.out u).mono ?_;rintro e s ⟨v1,rfl,op,oh⟩;obtain⟨Ap,cp,rfl⟩:=op.form;have P:=(op.deep (λx C=>lq (HA.out x C)) u.heap.size).sl (am _);have zo:=Q.size;have z1:=oh.size;obtain⟨o,z⟩:∃o,o=(jT f.b).map λp=>cP key (bs p):=⟨_,rfl⟩;have b7:ab9 key f=⟨f.p,o⟩:=by rw[z];rfl
   rw[b7] at kU;revert z;revert HA;revert iZ;revert P;generalize jT f.b=ps;intro P iZ HA z;have M:=ab z;go_wp2;have b2:=av s (.cells #[] 3);have a4:aK mM 3 (s.alloc (.cells #[] 3)) s.heap.size (.slice (some ⟨s.heap.size,0,none⟩) 0 0) []:=(eb.new s 3 (am _)).own 1;have aT:=dt.ar.below P b2 (am _);have b3:=ag oh b2;have b9:=b2.size;have HO:=ab a4;have HR:=ab aT;have HB:=ab b3;generalize s.alloc (.cells #[] 3)=w2 at *;go_loopw [10,11] (λnn jj wr=>∃j:Nat,j<=ps.length/\jj=.int .i64 j/\aK mM 3 wr s.heap.size nn (o.take j)/\Below u.heap.size u wr/\dt wr u.heap.size s.heap.size ps [.slice Ap ps.length cp]/\s.heap.size<=wr.heap.size) (λ_ jj _=>ps.length-(intOf jj).toNat)
   case atStart=>exact⟨0,fb _,rfl,HO.out,HB.out,HR.out,b9⟩
   case round=>
    obtain⟨j,bw,rfl,H,a,hr,hz⟩:=hrel;have bp:o.length=ps.length:=by rw[M.out,qc]
    have a1:(o.take j).length=j:=by rw[fa,qZ (by omega)]
    obtain⟨Ao,co,rfl⟩:=H.form;rw[a1] at H ⊢;by_cases bt:j<ps.length
    .obtain⟨p,K⟩:=aq bt;have bn:=HA.out p (db K);obtain⟨b2,iE,rfl,bU,bx,bR,ay⟩:=kZ hr K;have br:o[j]?=some (cP key (bs p)):=by rw[M.out,qH,K];rfl
     have fC:=li br;have G:=ab fC;have a3:=ab a1;have J:=ab (aaM (β:=β) key p HK.out bn wr);have HR:=ab hr;have r:=oT (key:=key) (l:=bs p);revert J G r;generalize cP key (bs p)=nv;intro G J r;go_wp2;refine J.out.mono ?_;rintro e w3 ⟨rfl,rfl⟩;go_wp2_with(at_builtin;refine cu (F:=mM) (v:=.slice Ao j co) rfl (.tmp 34) (.tmp 41) 87 rfl abH nv rfl H rfl rfl (by have:=a3.out;omega) hz ?_;intro va wa oa I bG;obtain⟨Aa,ca,rfl⟩:=oa.form;simp only[aE,ga,mw,mc,a3.out] at oa);go_roundw
     case rel=>
      refine⟨j+1,by omega,by go_num,by rw[G.out];simpa using oa,a.trans (I.below a.size λi hi C=>by have:=(H.at_ C).1;omega),dt.ar.fc HR.out I λb _ Q _ hs=>by have:=(H.at_ hs).1;omega,ap hz I.size⟩
     case measure=>simp[intOf];omega
    .obtain rfl:j=ps.length:=by omega
     have b6:o.take ps.length=o:=by rw[<-bp,gc]
     rw[b6] at H;have O:=eD.ar.below h1 (ag Q a) aX;have r:∀x∈o,mM.good x:=λx C=>by
      rw[M.out] at C;obtain⟨p,_,rfl⟩:=ql.1 C;have:=oT (key:=key) (l:=bs p);show bZ _;unfold bZ;omega
     have af:=ak E a;have X:=ak V a;have q:=fu.ar.below q.out a (am _);obtain⟨b3,c1,e0,_,_,_,ba,_⟩:=jJ O n.out;simp only[mt,qz,qu] at e0;obtain⟨rfl,rfl⟩:=e0;have b0:wr.cell? ⟨w.heap.size+1+1,1,none⟩=some (.slice Y k cv):=X.cell 1;have zr:=a.size;have bi:=ab q;have HO:=ab H;have aZ:=ab r;have bb:=ab af;have b8:=ab X;have HB:=ab (ag Q a);go_wp2;have aG:=ae b0;have aI:=ae ba;refine aF 10 [0,1,2,3,4,5,6,7] [8,9] (h:= ?_);simp only[pick,List.map,ge,gn];repeat(go_big_quiet_step (fail))
     refine gt ?_;apply Exists.intro;apply dQ (.agg #[.string f.p,.slice Ao ps.length co])
     .intro y Z Qx m;replace m:=ab m;go_wp2;exact m.out _ (fd _ _)
     apply aU (λv w'=>∃g,v=.slice (some ⟨g,0,none⟩) 1 1/\bg w' g 89 #[.string f.p,.slice Ao ps.length co])
     .rfl
     .exact λv x y ⟨g,e,hk⟩ hle=>⟨g,e,ak hk hle⟩
     .intro x Z Qx m;replace m:=ab m;go_wp2;exact m.out _ _ (av _ _) ⟨_,rfl,bg.new _ _ _⟩
     intro u9;refine aS ?_;intro w6 T xx cT Z;dsimp only[dP] at Z;try rw[cT] at Z
     obtain⟨⟨g8,rfl,bf⟩, -⟩:=Z;simp only[List.drop];have z6:=T.size;have a7:=fu.ar.below bi.out T zr;have o8:=(HO.out.below T).base z1;have a6:Hid (OLs w6 u.heap.size w6.heap.size ⟨f.p,o⟩ [.string f.p,.slice Ao ps.length co]):=ab ⟨_,rfl,bo.out.1,o8.aae aZ.out (by omega) λg hg=>(o8.at_ hg).2⟩;have b5:=ab bf;have a0:=ab a7;have an:=ab (ak bb.out T);have aa:=ab (ak b8.out T);have W:=ab (ag HB.out T);go_wp2_with(at_builtin;refine gu ?_);refine⟨?_,trivial⟩;refine gS OLs.ar (by decide) (v:=.slice Y k cv) rfl (.tmp 44) (.tmp 52) 37 rfl ahf ⟨f.p,o⟩ rfl a0.out rfl b5.out rfl (by simp[Value.oneCell']) (show u.heap.size<=w6.heap.size by omega) a6.out (am _) (by have:=L.out;omega) (by omega) ?_;intro v9 w9 o9 fW bL;obtain⟨S,R,rfl⟩:=o9.form;rw[aE,mp,L.out] at o9;rw[aE,mp,L.out];have N:=a0.out;have z9:=fW.size;have B:=dz N fW aa.out (by decide);have b4:=dz N fW an.out (by decide);have bT:w9.cell? ⟨w.heap.size+1+1,1,none⟩=some (.slice Y k cv):=B.cell 1;have c3:=B.frozen 1;have lH:=B.bF 1 (.slice S (k+1) R);simp only[ef,ip,jt] at lH;have al:fu (w9.setCell ⟨w.heap.size+1+1,1,none⟩ (.slice S (k+1) R)) w.heap.size (w9.setCell ⟨w.heap.size+1+1,1,none⟩ (.slice S (k+1) R)).heap.size (all.take (k+1)) [.slice S (k+1) R]:=by
      rw[kU.out];simp only[be];exact cI fu.ar o9 B (by decide) 1 _
     have ao:Below w.heap.size w (w9.setCell ⟨w.heap.size+1+1,1,none⟩ (.slice S (k+1) R)):=(W.out.trans (fW.below W.out.size λi hi hs=>by have:=N.ob hs;omega)).setCell (by dsimp only;omega) _;have a9:=bV b4 (p:=⟨w.heap.size+1+1,1,none⟩) (.slice S (k+1) R) (by dsimp only;omega);have HF:=ab (And.intro al (And.intro a9 (And.intro lH ao)));go_wp2;go_roundw
     case rel=>exact⟨k+1,_,by omega,by go_num,HF.out.1,HF.out.2.1,HF.out.2.2.1,HF.out.2.2.2⟩
     simp[intOf];omega
  .obtain rfl:k=t.length:=by omega
   have bl:all.take t.length=all:=by rw[<-nY,gc]
   rw[bl] at q;have gp:=V.cell;have eK:=E.frozen;have cZ:=E.cell;replace q:=ab q;go_wp2;have k4:=(E.bF 0 (.int .i64 D)).bF 1 (.slice Y t.length cv);simp only[ef,ip,jt] at k4;have aY:=k4.cell;refine pa (v:=.agg #[.int .i64 D,.slice Y t.length cv]) (by simp[results,results57,go_sem,aY]) rfl ⟨_,rfl, ?_,(Q.setCell (by simp) _).setCell (by simp) _⟩;rw[<-d.out];simp only[be];exact cI fu.ar (cI fu.ar q.out E (by decide) 0 _) (E.bF 0 _) (by decide) 1 _
end
section
variable {β:Bool}
open Go.RowKit
def fQ(l:List Pk):Int:=((l.getLast?).map (·.no)).getD 0+1
def fR(l:List Hd):Int:=l.foldl (λa h=>max a (h.s+1)) 1
def eX(s:dK):Int:=match s.sn.getLast? with|some x=>max (fR s.lg) (x.no+1)|none=>fR s.lg
def ale{l:List Hd}{h:Hd}(a:l[k]?=some h):fR (l.take (k+1))=max (fR (l.take k)) (h.s+1):=by
 unfold fR;rw[li a,sN];rfl
def aiX{l:List Hd}{b:Int}(d:1<=b)(h:∀x∈l,x.s+1<=b):1<=fR l/\fR l<=b:=by
 induction l using pN with
 |h0=>exact⟨uP _,d⟩
 |h1 l x a=>
  have e:fR (l++[x])=max (fR l) (x.s+1):=by unfold fR;rw[sN];rfl
  have:=a λy c=>h y (by simp[c]);have:=h x (by simp);rw[e];omega
def axA(m x:Int):(if m<x then x else m)=max m x:=by rw[Int.max_def];split<;>split<;>omega
def wD{l:List Y}(h:0<l.length):∃x,l[l.length-1]?=some x/\l.getLast?=some x:=by
 obtain⟨x,a⟩:=aq (show l.length-1<l.length by omega);exact⟨x,a,by rw[List.getLast?_eq_getElem?,a]⟩
def alf(b:Int)(s:dK):Prop:=(∀p∈s.pk,p.no<=b)/\(∀x∈s.sn,x.no<=b)/\∀h∈s.lg,h.s<=b
def aiY(s:dK)(u:alf 1000000 s)(va vb vc:Value)(w:World)(lo hi:Nat)(h:iW w lo hi s va vb vc)(W:hi<=w.heap.size) :
  Calls (ah β) 53 #[.agg #[va,vb,vc]] w λe w'=>e=.returned (.tuple #[.int .i64 (fQ s.pk),.int .i64 (eX s)])/\Below w.heap.size w w':=by
 obtain⟨N,K,V⟩:=h;obtain⟨A,a,rfl⟩:=bE.form N;obtain⟨B,b,rfl⟩:=bE.form K;obtain⟨C,c,rfl⟩:=bE.form V;obtain⟨_,a7,a5⟩:=N.len_;obtain⟨_,an,a6⟩:=K.len_;obtain⟨_,af,a4⟩:=V.len_;unfold maxLen at a5 a6 a4;have r:∀p∈s.pk,bZ p.no:=λp i=>by
  obtain⟨P,v,_,hg,_⟩:=N.apS p i;exact hg
 have q:∀p∈s.sn,bZ p.no:=λp i=>by
  obtain⟨P,v,_,hg,_⟩:=K.apS p i;exact hg
 replace u:=ab u;replace r:=ab r;replace q:=ab q;go_enter zg,ntmps53;rcases qa s.pk.length with t|t
 case' inl=>
  have t1:=da (show ¬(0<s.pk.length) by omega);have i:fQ s.pk=1:=by rw[qT.1 t];rfl
  have HP:=ab i;have HZ:=ab t;clear t i;go_wp2
 case' inr=>
  have t1:=dj (show 0<s.pk.length by omega);obtain⟨z,f,E⟩:=wD t;have aa:=u.out.1 z (db f);have a0:=r.out z (db f);unfold bZ at a0;have i:fQ s.pk=z.no+1:=by unfold fQ;rw[E];rfl
  have HP:=ab i;replace f:=ab f;clear i E;obtain⟨b4,U,P,D,_,_,_,⟨v4,rfl,Y⟩,n⟩:=(iV.loc.below N (av w (.cells #[.slice A s.pk.length a,.slice B s.sn.length b,.slice C s.lg.length c] 27)) W).at_ f.out;subst D;obtain⟨m4,F⟩:∃m,m=s.pk.length-1:=⟨_,rfl⟩;rw[<-F] at n;have e4:(s.pk.length:Int)-1=((m4:Nat):Int):=by omega
  have a8:m4<s.pk.length:=by omega
  have I:=n 0 _ rfl;rw[tD] at I;clear n Y F t f;go_wp2;clear e4 I;generalize some (⟨b4,U,none⟩:Addr)=A at *
 all_goals
  generalize hG:w.alloc (.cells #[.slice A s.pk.length a,.slice B s.sn.length b,.slice C s.lg.length c] 27)=w0 at *;obtain⟨L,iP,k0,cZ,eK⟩:=mL hG;clear hG;have a3:=fG.loc.below V L W
  go_loop [5,6] (λss ii=>∃k:Nat,k<=s.lg.length/\ii=.int .i64 k/\ss=.int .i64 (fR (s.lg.take k))) (λ_ ii=>s.lg.length-(intOf ii).toNat)
  case atStart=>exact⟨0,fb _,rfl,rfl⟩
  case round=>
   obtain⟨k,ad,rfl,rfl⟩:=hrel;by_cases X:k<s.lg.length
   .obtain⟨x,M⟩:=aq X;have pM:=u.out.2.2 x (db M);obtain⟨Z,o,P,D,_,_,_,⟨rfl,g⟩,d⟩:=a3.at_ M;subst D;have a1:bZ x.s:=g.2;unfold bZ at a1;have Q:w0.cell? ⟨Z,o+k*2+1,none⟩=some (.int .i64 x.s):=by simpa using d 1 _ rfl
    have J:=aiX (l:=s.lg.take k) (b:=1000001) (by omega) λy j=>by have:=u.out.2.2 y (pu j);omega
    have fC:=ale M;have T:=ab fC;clear fC M d g;revert T J;generalize fR (s.lg.take k)=m;intro J T;go_wp2
    go_round
    case rel=>exact⟨k+1,by omega,by go_num,by rw[T.out,axA]⟩
    simp[intOf];omega
   .obtain rfl:k=s.lg.length:=by omega
    rw[gc];have S:=gQ.loc.below K L W;rcases qa s.sn.length with j|j
    .have t2:=da (show ¬(0<s.sn.length) by omega);have H:eX s=fR s.lg:=by unfold eX;rw[qT.1 j];rfl
     have R:=ab H;have HY:=ab j;clear H j;go_wp2;go_ret2;exact⟨by rw[HP.out,R.out];rfl,L⟩
    .have t2:=dj (show 0<s.sn.length by omega);obtain⟨y,O,G⟩:=wD j;have a9:=u.out.2.1 y (db O);have a2:=q.out y (db O);unfold bZ at a2;have H:eX s=max (fR s.lg) (y.no+1):=by unfold eX;rw[G]
     obtain⟨Z,o,P,D,_,_,_,⟨v5,rfl,g⟩,d⟩:=S.at_ O;subst D;obtain⟨m,J⟩:∃m,m=s.sn.length-1:=⟨_,rfl⟩;rw[<-J] at d;have e1:(s.sn.length:Int)-1=((m:Nat):Int):=by omega
     have al:m<s.sn.length:=by omega
     have Q:w0.cell? ⟨Z,o+m*2,none⟩=some (.int .i64 y.no):=by simpa using d 0 _ rfl
     have R:=ab H;clear H G O d g J j;go_wp2;all_goals
      go_ret2;exact⟨by rw[HP.out,R.out];first|(rw[Int.max_eq_right (by omega)];rfl)|(rw[Int.max_eq_left (by omega)];rfl),L⟩
end
end Go.Proofs.YtbeafkpaghapeaaGreatDoor