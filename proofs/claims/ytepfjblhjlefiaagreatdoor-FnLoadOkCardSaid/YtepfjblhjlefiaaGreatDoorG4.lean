/- A part. -/
import Derived.Test.YtepfjblhjlefiaaGreatDoorG3
import Derived.Laws.MakeOwn
import Derived.WalkSpells
import Derived.Laws.BytesString
set_option maxRecDepth 100000
set_option maxHeartbeats 8000000
set_option linter.all false
open Go Go.RowKit Go.Proofs.Tryz Go.Proofs.YtepfjblhjlefiaaGreatDoor
variable {x z:It} {Y U b c g hi i j k lo n:Nat} {key:Int} {Z β:Type} {X W V v:Value} {w w':World} {e:TypeId} {R:List Pk} {a o:List It} {p s:ByteArray} {S cs:List Value} {A:Option Addr} {T:List TypeId} {E:gF Z} {xs:List Z}
namespace Go.Proofs.YtepfjblhjlefiaaGreatDoor
def db:=@List.setIfInBounds_toArray
def eg:=@Go.World.size_setCell
def fd:=@List.set_cons_zero
def ga:=@List.set_cons_succ
def nf:=@List.length_singleton
def pi:=@List.length_eq_zero_iff
def sd:=@List.getElem?_set_self
def sK:=@List.mem_or_eq_of_mem_set
def sL:=@List.getElem?_set_ne
def tw:=@List.drop_length
def ue:=@Int.le_refl
def ui:=@List.sum_cons
def uB:=@Nat.sub_self
def vR:=@List.mem_of_getLast?
section
variable {β:Bool}
open Go.RowKit
def adB(l:List Pk)(v:Value)(w:World)(lo hi:Nat)(bG:hi<=w.heap.size)(h:fh w lo hi l [v])(hn:(dh l).length<=4000000)(r:List Sp)(hr:IOf l r) :
  Calls (ah β) 67 #[v] w (awQ w r):=by
 obtain⟨A,c,rfl⟩:=h.form;obtain⟨_,hc,hx⟩:=h.len_;unfold maxLen at hx;have HR:=ab hr;clear hr;go_enter yN,ntmps67;go_wp2;have ba:=aB w (.cells #[] 174);have l0:aD FSp 174 (w.alloc (.cells #[] 174)) w.heap.size (.slice (some ⟨w.heap.size,0,none⟩) 0 0) []:=aD.aaM (eD.new _ _ (am _));generalize w.alloc (.cells #[] 174)=w0 at *;go_loopw [3,4] (λoo ii wr=>∃k:Nat,k<=l.length/\ii=.int .i64 k/\aD FSp 174 wr w.heap.size oo (dY (dh (l.take k)) [])/\(∀s∈dh (l.take k),spP s)/\Below w.heap.size w wr) (λoo ii _=>l.length-(intOf ii).toNat)
 case atStart=>exact⟨0,fa _,rfl,l0,λs t=>(by cases t),ba⟩
 case round=>
  clear l0 ba;obtain⟨k,hk,rfl,i,t,C⟩:=hrel;have HS:=ab t;clear t;have g2:=fh.aw.below h C bG;by_cases a5:k<l.length
  .obtain⟨p,K⟩:=aq a5;replace K:=ab K;have T:Hid (∀s∈cM l k 0,spP s):=ab (by rw[abG];exact HS.out);rw[<-abG] at i;obtain⟨Ao,co,rfl⟩:=i.form;have N:=i;clear i HS;go_wp2;go_loopw [3,5] (λoo jj wy=>∃j:Nat,j<=p.its.length/\jj=.int .i64 j/\aD FSp 174 wy w.heap.size oo (dY (cM l k j) [])/\(∀s∈cM l k j,spP s)/\Below w.heap.size w wy) (λoo jj _=>p.its.length-(intOf jj).toNat)
   case atStart=>exact⟨0,fa _,rfl,N,T.out,C⟩
   case round=>
    clear N T g2 C;obtain⟨j,hj,rfl,i,t,f⟩:=hrel;have HS:=ab t;clear t;obtain⟨b1,ad,A1,c1,rfl,af,J,aa,Y,S,Q⟩:=af3 h K.out;have a3:=fC f Y;have a1:=fC f S;have M:=gK.aw.below Q f bG;obtain⟨_,al,a8⟩:=M.len_;unfold maxLen at a8;clear Y S Q;have R:=ai4 (j:=j) K.out;have O:=agl (a:=cM l k j) (l:=[]);have pE:(dY (cM l k j) []).length<=4000000:=by simp only[me,tM] at O;omega
    clear O R;by_cases a2:j<p.its.length
    .obtain⟨y,u⟩:=aq a2;obtain⟨b2,nP,rfl,_,_,a9,cn,cb⟩:=aeK M u;have d:=ahH K.out u;replace u:=ab u;replace d:=ab d;obtain⟨Ao,co,rfl⟩:=i.form;have V:=ab (λb P=>(i.at_ (g:=b) P).2);go_wp2;have aJ:=aj a3;have aL:=aj a1;have cB:=aj cn;refine bB 16 [0,1,2,3,4,5,6,7,8,9,10,11,12,13,14] [15] (h:= ?_);simp only[pick,List.map,pa,pb];repeat(go_big_quiet_step (fail))
     refine iS ?_;clear aJ aL cB;apply Exists.intro;apply bN (λv w'=>∃g,v=.pointer (some ⟨g,0,none⟩)/\wr.heap.size<=g/\bW w' g 174 #[.int .i64 0,.int .i64 0])
     .rfl
     .exact λv x y ⟨g,e,hg,hk⟩ hle=>⟨g,e,hg,av hk hle⟩
     .intro x X Qx F;replace F:=ab F;clear X;go_wp2;exact F.out _ _ (aB _ _) ⟨_,rfl,x.ok.size,bW.new _ _ _⟩
     intro u6;refine dD ?_;intro w2 J xx kR X;dsimp only[iZ] at X;try rw[kR] at X
     clear kR xx;obtain⟨⟨g,rfl,hg,kb⟩, -⟩:=X;simp only[List.drop];have gw:=f.size;replace i:=i.below J;replace f:=ae f J;have I:=kb.cell;have a6:=kb.frozen;go_wp2;have n:=(kb.bZ 0 (.int .i64 y.n)).bZ 1 (.int .i64 p.no);simp only[db,fd,ga] at n;have m:Below w.heap.size w ((w2.setCell ⟨g,0,none⟩ (.int .i64 y.n)).setCell ⟨g,1,none⟩ (.int .i64 p.no)):=(f.setCell (by dsimp only;omega) _).setCell (by dsimp only;omega) _;have o:aD FSp 174 ((w2.setCell ⟨g,0,none⟩ (.int .i64 y.n)).setCell ⟨g,1,none⟩ (.int .i64 p.no)) w.heap.size (.slice Ao (dY (cM l k j) []).length co) (dY (cM l k j) []):=
      (i.arh _ (λb P=>by have:=V.out b P;dsimp only;omega)).arh _ (λb P=>by have:=V.out b P;dsimp only;omega)
     clear I a6;generalize (w2.setCell ⟨g,0,none⟩ (.int .i64 y.n)).setCell ⟨g,1,none⟩ (.int .i64 p.no)=w3 at *;have I:=n.cell;obtain⟨q,W⟩:=auH (spP ⟨y.n,p.no⟩);refine(ak3 ⟨y.n,p.no⟩ w3 q W).mono ?_;rintro e w4 ⟨rfl,b4⟩;replace n:=av n b4;have I:=n.cell;replace o:=o.below b4;replace m:=ae m b4;cases q with
     |false=>
      have a0:¬spP ⟨y.n,p.no⟩:=λh=>by have:=W.2 h;cases this
      have a4:r=[]:=by
       rcases HR.out with⟨h,_⟩|⟨_,h⟩
       .exact absurd (h _ (ai3 (k:=k) (j:=j+1) _ (by rw[d.out];simp))) a0
       .exact h
      subst a4;clear W a0;have ba:=aB w4 (.cells #[] 174);go_wp2;go_ret;exact⟨_,rfl,aD.aaM (eD.new _ _ (m.size)),ae m ba⟩
     |true=>
      have B:=W.1 rfl;replace B:=ab B;clear W;have D:=ab pE;have U:=agk (a:=cM l k j) (l:=[]) List.Pairwise.nil;have E:=ab U;clear U;have Z:∀z∈dY (cM l k j) [],FSp.good z:=λz hz=>by
       rcases agq hz with h|h
       .have:=HS.out z h;unfold spP at this;show cA z.n/\cA z.p;unfold cA;omega
       .cases h
      have G:=ab Z;clear Z;have eC:dY (cM l k (j+1)) []=fG ⟨y.n,p.no⟩ (dY (cM l k j) []):=by
       rw[d.out,abF];rfl
      have jG:=ab eC;clear eC;have H:∀s∈cM l k (j+1),spP s:=λs t=>by
       rw[d.out] at t;rcases jt.1 t with h|h
       .exact HS.out s h
       .rw[gE.1 h];exact B.out
      replace H:=ab H;revert o D E G jG;generalize dY (cM l k j) []=L;intro o D E G jG;go_wp2;refine(aoZ ⟨y.n,p.no⟩ (by have:=B.out;unfold spP at this;unfold cA;omega) L _ w4 _ _ (am _) (o.sl G.out (am _)) E.out (by have:=D.out;omega)).mono ?_;rintro e w5 ⟨v5,rfl,o5,b5⟩;obtain⟨A5,c5,rfl⟩:=o5.form;go_wp2;go_roundw
      case rel=>exact⟨j+1,by omega,by go_num,by rw[jG.out];exact o5.base m.size,H.out,ae m b5⟩
      simp[intOf];omega
    .obtain rfl:j=p.its.length:=by omega
     have he:=ai2 K.out;replace he:=ab he;have a7:Hid (∀s∈dh (l.take (k+1)),spP s):=ab (by rw[<-he.out];exact HS.out);obtain⟨Ao,co,rfl⟩:=i.form;go_wp2;go_roundw
     case rel=>exact⟨k+1,by omega,by go_num,by rw[<-he.out];exact i,a7.out,f⟩
     simp[intOf];omega
  .obtain rfl:k=l.length:=by omega
   have mP:r=dY (dh l) []:=by
    have h1:=HS.out;rw[gt] at h1;rcases HR.out with⟨_,h⟩|⟨h,_⟩
    .exact h
    .exact absurd h1 h
   replace mP:=ab mP;clear HS;rw[gt,<-mP.out] at i;obtain⟨Ao,co,rfl⟩:=i.form;go_wp2;go_ret;exact⟨_,rfl,i,C⟩
end
section
variable {β:Bool}
open Go.RowKit
def wK{l:List Z}{x:Z}(h:l[k]?=some x):l.drop k=x::l.drop (k+1):=by
 have a:=aH h;rw[rr a]
 congr 1
 rw[lm a] at h;exact dl h
def alg(xs:List Sp)(n:Int)(v:Value)(w:World)(lo hi:Nat)(h:cR RSp 2 w lo hi xs [v]) :
  Calls (ah β) 120 #[v,.int .i64 n] w λe p=>e=.returned (.int .i64 (dZ n xs))/\w=p:=by
 obtain⟨A,c,rfl⟩:=h.form;obtain⟨_,y,r⟩:=h.len_;unfold maxLen at r;go_enter yj,ntmps120;go_wp2
 go_loop [5] (λi=>∃k:Nat,k<=xs.length/\i=.int .i64 k/\dZ n xs=dZ n (xs.drop k)) (λi=>xs.length-(intOf i).toNat)
 case atStart=>exact⟨0,fa _,rfl,by rw[qV]⟩
 case round=>
  obtain⟨k,u,rfl,a⟩:=hrel;replace a:=ab a;by_cases d:k<xs.length
  .obtain⟨x,j⟩:=aq d;obtain⟨t,o,rfl,_,_,s,f,q⟩:=awP h j;have hd:dZ n (xs.drop k)=if x.n=n then x.p else dZ n (xs.drop (k+1)):=by rw[wK j];rfl
   replace hd:=ab hd;clear j;by_cases b:x.n=n
   .have m:(x.n ==n)=true:=mp.2 b;have g:=ab (a.out.trans (hd.out.trans (dj b)));clear b;go_wp2;go_ret;exact⟨by rw[g.out];rfl,rfl⟩
   .have m:(x.n ==n)=false:=dq.2 b;have g:=ab (a.out.trans (hd.out.trans (bd b)));clear b;go_wp2
    go_round
    case rel=>exact⟨k+1,by omega,by go_num,g.out⟩
    simp[intOf];omega
  .obtain rfl:k=xs.length:=by omega
   have l:dZ n xs=0:=by rw[a.out,tw];rfl
   replace l:=ab l;clear a;go_wp2;go_ret;exact⟨by rw[l.out];rfl,rfl⟩
open Classical in
noncomputable def dx(key:Int)(ix:List Sp)(o:List ByteArray)(p:ByteArray):List ByteArray:=if dZ (bm key (bs p)) ix=0/\p∉o then o++[p] else o
noncomputable def nh(key:Int)(ix:List Sp)(o l:List ByteArray):List ByteArray:=l.foldl (dx key ix) o
def oO(t:List Nd):List ByteArray:=t.flatMap λf=>fO f.b
noncomputable def aaa(key:Int)(ix:List Sp)(t:List Nd):List ByteArray:=nh key ix [] (oO t)
def ai9{ix:List Sp}{o:List ByteArray}(h:dZ (bm key (bs p)) ix=0)(a:p∉o):dx key ix o p=o++[p]:=dj ⟨h,a⟩
def aeP{ix:List Sp}{o:List ByteArray}(h:¬(dZ (bm key (bs p)) ix=0/\p∉o)):dx key ix o p=o:=bd h
def ao3{ix:List Sp}{o l:List ByteArray}(h:l[k]?=some p):nh key ix o (l.take (k+1))=dx key ix (nh key ix o (l.take k)) p:=by
 unfold nh;rw[mu h,sI];rfl
def ao4{ix:List Sp}{t:List Nd}{f:Nd}(h:t[k]?=some f):aaa key ix (t.take (k+1))=nh key ix (aaa key ix (t.take k)) (fO f.b):=by
 unfold aaa nh oO;rw[mu h,qT,sI];simp
def abJ{key:Int}{ix:List Sp}:∀(l o:List ByteArray),(nh key ix o l).length<=o.length+l.length
 |[],o=>am _
 |p::l,o=>by
  have a:=abJ (key:=key) (ix:=ix) l (dx key ix o p);have b:(dx key ix o p).length<=o.length+1:=by
   unfold dx;split
   .rw[ap];exact am _
   .exact Nat.le_succ _
  show(nh key ix (dx key ix o p) l).length<=_;rw[fm];omega
def aeQ{key:Int}{ix:List Sp}{x:ByteArray}:∀{l o:List ByteArray},x∈nh key ix o l->x∈o\/x∈l
 |[],o,h=>.inl h
 |p::l,o,h=>by
  rcases aeQ (l:=l) (o:=dx key ix o p) h with h|h
  .unfold dx at h;split at h
   .rcases jt.1 h with h|h
    .exact .inl h
    .rw[gE.1 h];exact .inr (by simp)
   .exact .inl h
  .exact .inr (qQ _ h)
def acD:∀{t:List Nd},(∀x∈t,dw x.b=true)->(oO t).length<=40*t.length
 |[],_=>fa _
 |f::t,h=>by
  have c:=acD (t:=t) λx b=>h x (qQ _ b);have d:=abH f.b;have a:=h f (by simp);unfold dw at a;simp only[fb,qG] at a;show(fO f.b++oO t).length<=_;rw[ap,fm];omega
def fD(h:dw s=true):s.size<=40/\(bs s).all nU=true:=by
 unfold dw at h;simpa using h
def aja{t:List Nd}(h:∀x∈t,dw x.b=true):∀x∈oO t,aQ (bs x):=λx a=>by
 obtain⟨f,b,a⟩:=qe.1 a;exact jg (fD (h f b)).2 x a
def kW{ix:List Sp}{t:List Nd}(h:∀x∈t,dw x.b=true):∀x∈aaa key ix t,aQ (bs x):=λx b=>by
 rcases aeQ b with a|a
 .cases a
 .exact aja h x a
def kX{x:ByteArray}(h:aQ (bs x)):gS.good x:=by
 have:=h.1.2;rw[aK] at this;show x.size<=maxLen;unfold maxLen;omega
def auJ(w:World)(xs:List ByteArray)(e:Ending)(w':World):Prop:=∃v,e=.returned v/\aD gS 9 w' w.heap.size v xs/\Below w.heap.size w w'
def alh(key:Int)(hk:1<=key/\key<=99)(t:List Nd)(R:∀x∈t,dw x.b=true)(hl:t.length<=1000)(ix:List Sp)(vt vi:Value)(w:World)(lo hi:Nat)(bG:hi<=w.heap.size)(h1:eF w lo hi t [vt])(h2:cR RSp 2 w lo hi ix [vi]) :
  Calls (ah β) 66 #[.int .i64 key,vt,vi] w (auJ w (aaa key ix t)):=by
 replace R:=ab R;obtain⟨A,c,rfl⟩:=h1.form;obtain⟨A2,c2,rfl⟩:=h2.form;obtain⟨_,hc,n⟩:=h1.len_;unfold maxLen at n;go_enter yO,ntmps66;go_wp2;have W:=aB w (.cells #[] 9);have Q:aD gS 9 (w.alloc (.cells #[] 9)) w.heap.size (.slice (some ⟨w.heap.size,0,none⟩) 0 0) []:=(eD.new w 9 (am _)).own 1;generalize w.alloc (.cells #[] 9)=w0 at *;go_loopw [7,8] (λoo ii wr=>∃k:Nat,k<=t.length/\ii=.int .i64 k/\aD gS 9 wr w.heap.size oo (aaa key ix (t.take k))/\Below w.heap.size w wr) (λ_ ii _=>t.length-(intOf ii).toNat)
 case atStart=>exact⟨0,fa _,rfl,Q,W⟩
 case round=>
  clear Q W;obtain⟨k,aU,rfl,a,l⟩:=hrel;obtain⟨J,af⟩:∃J,J=wr:=⟨_,rfl⟩;subst af;by_cases a6:k<t.length
  .obtain⟨f,z⟩:=aq a6;have E:=fD (R.out f (be z));obtain⟨b1,aL,rfl,_,_,ay,lK,al⟩:=jI (eF.aw.below h1 l bG) z;have s:=ao4 (key:=key) (ix:=ix) z;have aa:(aaa key ix (t.take k)).length<=40000:=by
    have a1:=abJ (key:=key) (ix:=ix) (oO (t.take k)) [];have a2:=acD (t:=t.take k) λx n=>R.out x (pr n);rw[fi] at a2;show(nh key ix [] (oO (t.take k))).length<=_;simp only[me,ls] at a1;omega
   have a4:=kW (key:=key) (ix:=ix) (t:=t.take k) λx n=>R.out x (pr n);have D:=jg E.2;have jS:=abH f.b;have aY:=E.1;have HS:=ab s;have HP:=ab a4;have S:=ab D;have HC:=ab (acC (β:=β) f.b (by omega));clear z s a4 D E;revert HS;revert HP;generalize aaa key ix (t.take k)=base at a aa;intro HP HS;obtain⟨A0,c0,rfl⟩:=a.form;go_wp2;refine(HC.out J).mono ?_;rintro e w1 ⟨v1,rfl,op,u⟩;clear HC;obtain⟨Ap,cp,rfl⟩:=op.form;have a3:=a.below u;have C:=ae l u;have Z:∀g,(Value.slice A0 base.length c0).ownBlock=some g->g<J.heap.size\/w1.heap.size<=g:=λg hg=>.inl (a.at_ hg).2;have B:=(op.deep (λx n=>kX (S.out x n)) J.heap.size).sl (am _);have zo:=l.size;have z1:=u.size;revert HS;revert S;revert jS;revert B;generalize fO f.b=ps;intro B jS S HS;have HO:=ab a3;replace C:=ab C;have M:=ab B;have d:=ab Z;clear a l a3 B op Z u al lK;go_wp2;go_loopw [7,10] (λoo jj wr=>∃j:Nat,j<=ps.length/\jj=.int .i64 j/\aD gS 9 wr w.heap.size oo (nh key ix base (ps.take j))/\Below w.heap.size w wr/\cH wr J.heap.size w1.heap.size ps [.slice Ap ps.length cp]/\(∀g,oo.ownBlock=some g->g<J.heap.size\/w1.heap.size<=g)/\w1.heap.size<=wr.heap.size) (λ_ jj _=>ps.length-(intOf jj).toNat)
   case atStart=>exact⟨0,fa _,rfl,HO.out,C.out,M.out,d.out,am _⟩
   case round=>
    clear HO C M d;obtain⟨j,ax,rfl,a,l,hr,a0,hz⟩:=hrel;by_cases a9:j<ps.length
    .obtain⟨p,y⟩:=aq a9;have an:=S.out p (be y);obtain⟨b2,nP,rfl,aJ,aP,aM,a8⟩:=iO hr y;have eC:=ao3 (key:=key) (ix:=ix) (o:=base) y;have L:=abJ (key:=key) (ix:=ix) (ps.take j) base;rw[fi] at L;have O:∀x∈nh key ix base (ps.take j),gS.good x:=λx n=>by
      rcases aeQ n with h|h
      .exact kX (HP.out x h)
      .exact kX (S.out x (pr h))
     have ao:=RSp.loc;have N:cR RSp 2 wr lo hi ix [.slice A2 ix.length c2]:=(cR.loc RSp.loc).below h2 l bG;have U:=ab eC;have H:=ab O;have ad:=ab N;have d:=ab a0;have M:=ab hr;have T:=ab (mV (β:=β) key p hk an wr);clear ao eC O N a0 hr y;revert U;revert H;generalize nh key ix base (ps.take j)=o at a L;intro H U;obtain⟨Ao,co,rfl⟩:=a.form;have K:=(a.deep H.out w.heap.size).sl (am _);replace K:=ab K;have pE:o.length<=50000:=by omega
     clear L;go_wp2;refine T.out.mono ?_;rintro e w2 ⟨rfl,rfl⟩;clear T;have I:=ab (alg (β:=β) ix (bm key (bs p)) _ wr lo hi ad.out);obtain⟨r,X⟩:∃r,r=dZ (bm key (bs p)) ix:=⟨_,rfl⟩;rw[<-X] at I;replace X:=ab X;go_wp2;refine I.out.mono ?_;rintro e w2 ⟨rfl,rfl⟩;clear I;by_cases m:r=0
     .have t1:(r ==0)=true:=mp.2 m;have a5:=ab (X.out.symm.trans m);clear m;obtain⟨q,hq⟩:=jv (p∈o);have V:=ab (ao1 (β:=β) o p _ wr _ _ K.out q hq);cases q with
      |true=>
       have Y:Hid (dx key ix o p=o):=ab (aeP λh=>h.2 (hq.1 rfl));clear hq;go_wp2;refine V.out.mono ?_;rintro e w2 ⟨rfl,rfl⟩;go_wp2;go_roundw
       case rel=>exact⟨j+1,by omega,by go_num,by rw[U.out,Y.out];exact a,l,M.out,d.out,hz⟩
       simp[intOf];omega
      |false=>
       have Y:Hid (dx key ix o p=o++[p]):=ab (ai9 a5.out λh=>by have:=hq.2 h;cases this);clear hq;go_wp2;refine V.out.mono ?_;rintro e w2 ⟨rfl,rfl⟩;have P:∀hs:(Value.slice Ao o.length co).ownBlock=some b2,False:=λhs=>by
        have:=d.out _ hs;omega
       replace P:=ab P;go_wp2_with(at_builtin;refine bR (F:=gS) (v:=.slice Ao o.length co) rfl (.tmp 48) (.tmp 53) 66 rfl oM p rfl a rfl rfl (by omega) l.size ?_;intro va wa oa G a7;obtain⟨Aa,ca,rfl⟩:=oa.form;simp only[ap,fm,me,ls] at oa);go_roundw
       case rel=>
        refine⟨j+1,by omega,by go_num,by rw[U.out,Y.out];simpa using oa,l.trans (G.below l.size λi hi n=>by have:=(a.at_ n).1;omega),cH.aw.eY M.out G λb b1 b2 _ hs=>by have:=d.out _ hs;omega,λg hg=> ?_,da hz G.size⟩;rcases a7 g (by simpa using hg) with h|h
        .exact d.out g h
        .exact .inr (by omega)
       case measure=>simp[intOf];omega
     .have t1:(r ==0)=false:=dq.2 m;have Y:Hid (dx key ix o p=o):=ab (aeP λh=>m (X.out.trans h.1));clear m;go_wp2;go_roundw
      case rel=>exact⟨j+1,by omega,by go_num,by rw[U.out,Y.out];exact a,l,M.out,d.out,hz⟩
      simp[intOf];omega
    .obtain rfl:j=ps.length:=by omega
     rw[gt] at a;rw[<-HS.out] at a;have HO:=ab a;clear a;go_wp2;go_roundw
     case rel=>exact⟨k+1,by omega,by go_num,HO.out,l⟩
     simp[intOf];omega
  .obtain rfl:k=t.length:=by omega
   rw[gt] at a;obtain⟨A0,c0,rfl⟩:=a.form;go_wp2;go_ret;exact⟨_,rfl,a,l⟩
end
section
variable {β:Bool}
open Go.RowKit
def ao5 {P:Program} (t e:TypeId) (z:Value) (f a:Nat) (j:P.underlying t=some (.slice e)) (c:(P.info? e).map (λi=>(i.zero,i.size,i.bytes))=some (some z,f,a))
  (n:Nat) (b:a*n<=281474976710656) (o:n<=9223372036854775807) (w:World) :
  (Instr.makeSlice t (.int .i64 (n:Int)) (.int .i64 (n:Int))).run P w=.ok (.slice (some ⟨w.heap.size,0,none⟩) n n) (w.alloc (.cells (madeCells z.cells (n*f)) e)):=by
 obtain⟨i,m,p,l,k⟩:=info_parts c;have d:(i.bytes:Int)*(n:Int)<=281474976710656:=by
  have h:((i.bytes*n:Nat):Int)<=281474976710656:=by rw[k];omega
  rwa [Int.natCast_mul] at h
 have g:=run_make (P:=P) w t e i z j m p .i64 .i64 n n (by omega) (ue _) d (by omega);simp only[sJ,l] at g;exact g
end
section
variable {β:Bool}
open Go.RowKit
section
variable {α:Type} {E:gF α} {T:List TypeId} {sz:Nat} {e:TypeId}
def Els(E:gF α)(sz:Nat)(w:World)(lo hi:Nat)(xs:List α)(cells:List Value):Prop:=
 cells.length=xs.length*sz/\(∀u∈cells,u.oneCell'=true)/\∃m:Nat->Nat,(∀i,m i<=m (i+1))/\lo<=m 0/\m xs.length<=hi/\
  ∀i x,xs[i]?=some x->∃a:List Value,a.length=sz/\E w (m i) (m (i+1)) x a/\∀j u,a[j]?=some u->cells[i*sz+j]?=some u
def eG{m:Nat->Nat}(h:∀i,m i<=m (i+1)){i:Nat}:∀{j:Nat},i<=j->m i<=m j
 |0,hj=>by obtain rfl:i=0:=by omega
           exact am _
 |j+1,hj=>by
  by_cases a:i=j+1
  .rw[a];exact am _
  .exact da (eG h (show i<=j by omega)) (h j)
def Els.nil(h:lo<=hi):Els E sz w lo hi [] []:=⟨by simp,λ_ h=>(by cases h),λ_=>lo,λ_=>am _,am _,h,λi x h=>by simp at h⟩
def Els.go(g:eE E T){oF hi' : Nat}{xs:List α}(h:Els E sz w lo hi xs S)(k:∀b,lo<=b->b<hi->Typed w T b->w'.heap[b]?=w.heap[b]?)(t:oF<=lo)(r:hi<=hi'):Els E sz w' oF hi' xs S:=by
 obtain⟨a,b,m,c,q,s,o⟩:=h;refine⟨a,b,m,c,by omega,by omega,λi x hi=> ?_⟩;obtain⟨j,l,f,n⟩:=o i x hi;have d:=aH hi;have v:=eG c (fa i);have y:=eG c (show i+1<=xs.length by omega);exact⟨j,l,g.go (λb p u e=>k b (by omega) (by omega) e) (am _) (am _) f,n⟩
def Els.snoc{xs:List α}(h:Els E sz w lo Y xs S){y:α}{es:List Value}(n:es.length=sz)(B:∀u∈es,u.oneCell'=true)(H:Y<=hi)(D:E w Y hi y es)(C:∀a b,a<=Y->E w Y hi y es->E w a b y es->True:=λ_ _ _ _ _=>trivial):Lcy E->Els E sz w lo hi (xs++[y]) (S++es):=by
 intro g;clear C;obtain⟨a,b,m,o,r,s,G⟩:=h;refine⟨by rw[ap,ap,a,n,nf,Nat.add_mul,Nat.one_mul],λu d=> ?_,λi=>if i<=xs.length then m i else hi,λi=> ?_, ?_, ?_,λi x c=> ?_⟩
 .rcases jt.1 d with d|d
  .exact b u d
  .exact B u d
 .show(if i<=xs.length then m i else hi)<=(if i+1<=xs.length then m (i+1) else hi);by_cases p:i+1<=xs.length
  .rw[dj p,dj (by omega)];exact o i
  .rw[bd p];by_cases k:i<=xs.length
   .rw[dj k];have:=eG o k;omega
   .rw[bd k];exact am _
 .show lo<=(if 0<=xs.length then m 0 else hi);rw[dj (fa _)];exact r
 .show(if(xs++[y]).length<=xs.length then _ else hi)<=hi;rw[bd (by rw[ap,nf];omega)];exact am _
 .rcases oR i xs.length with f|q
  .rw[qz f] at c;obtain⟨l,A,z,F⟩:=G i x c;refine⟨l,A, ?_,λj u d=> ?_⟩
   .show E w (if i<=xs.length then m i else hi) (if i+1<=xs.length then m (i+1) else hi) x l;rw[dj (by omega),dj (by omega)];exact z
   .have I:=aH d;have v:(i+1)*sz<=xs.length*sz:=rB _ f;rw[rH] at v;rw[qz (by omega)];exact F j u d
  .rw[qp q] at c;have t:i-xs.length=0:=by have:=aH c;simp at this;omega
   rw[t] at c;simp at c;subst c;have e:i=xs.length:=by omega
   refine⟨es,n, ?_,λj u d=> ?_⟩
   .show E w (if i<=xs.length then m i else hi) (if i+1<=xs.length then m (i+1) else hi) y es;rw[dj (by omega),bd (by omega),e];exact g.wide D s (am _)
   .rw[e,qp (by omega),a,rU];exact d
def Els.at_(K:eE E T){xs:List α}(h:Els E sz w lo hi xs S){x:α}(v:xs[i]?=some x) :
  ∃m l g,lo<=m/\m<=l/\l<=hi/\g.length=sz/\E w m l x g/\(∀j u,g[j]?=some u->S[i*sz+j]?=some u)/\
   ∀(n:World) (y:α) (d:List Value),d.length=sz->(∀u∈d,u.oneCell'=true)->(∀b,lo<=b->b<hi->Typed w T b->¬(m<=b/\b<l)->n.heap[b]?=w.heap[b]?)->E n m l y d->
    ∀c:List Value,c.length=S.length->(∀k,¬(i*sz<=k/\k<i*sz+sz)->c[k]?=S[k]?)->(∀j u,d[j]?=some u->c[i*sz+j]?=some u)->(∀u∈c,u.oneCell'=true)->Els E sz n lo hi (xs.set i y) c:=by
 obtain⟨a,b,m,e,B,C,A⟩:=h;have p:=aH v;obtain⟨g,Q,J,R⟩:=A i x v;have l1:=eG e (fa i);have l2:=eG e (show i+1<=xs.length by omega);refine⟨m i,m (i+1),g,by omega,e i,by omega,Q,J,R,λn y d L X O M c N r q s=>⟨by rw[N,a,qK],s,m,e,B,by rw[qK];exact C,λk z f=> ?_⟩⟩;by_cases o:i=k
 .subst o;rw[sd p] at f;cases f;exact⟨d,L,M,q⟩
 .rw[sL o] at f;obtain⟨G,I,H,P⟩:=A k z f;have D:=aH f;have U:=eG e (fa k);have Z:=eG e (show k+1<=xs.length by omega);refine⟨G,I,K.go (λb V Y F=>O b (by omega) (by omega) F λW=> ?_) (am _) (am _) H,λj u t=> ?_⟩
  .rcases Nat.lt_or_gt_of_ne o with h|h
   .have:=eG e (show i+1<=k by omega);omega
   .have:=eG e (show k+1<=i by omega);omega
  .rw[r _ (by
    have hj:=aH t;rcases Nat.lt_or_gt_of_ne o with h|h
    .have:(i+1)*sz<=k*sz:=rB _ h;rw[rH] at this;omega
    .have:(k+1)*sz<=i*sz:=rB _ h;rw[rH] at this;omega)]
   exact P j u t
def cJ(e:TypeId)(E:gF α)(sz:Nat):gF (List α):=λw b c a d=>
 ∃(v:Value) (cells:List Value),d=[v]/\w.ownsRow b e sz v a.length cells/\(∀g,v.ownBlock=some g->g<c)/\Els E sz w b c a cells
def cJ.form{xs:List α}(h:cJ e E sz w lo hi xs [v]):∃A c,v=.slice A xs.length c:=by
 obtain⟨b,cells,a,h,_⟩:=h;cases a;exact jH h
def cJ.aw(o:eE E T):eE (cJ e E sz) (e::T):=by
 refine⟨?_⟩;intro w u B y z s x A l n j h;obtain⟨v,cells,rfl,i,m,f⟩:=h;refine⟨v,cells,rfl,⟨i.1, ?_⟩,λg a=>aE (m g a) j,f.go o (λb p q ⟨t,ht,hd⟩=>l b p q ⟨t,qQ _ ht,hd⟩) n j⟩;rcases i.2 with r|⟨g,cap,c,rfl,k,a,d⟩
 .exact .inl r
 .refine .inr ⟨g,cap,c,rfl,da n k, ?_,d⟩;rw[l g k (m g rfl) ⟨e,qP,c,a⟩];exact a
def cJ.sl{k:gF α}(d:Lcy k)(G:∀{w:World} {lo hi:Nat} {x:α} {b:List Value},E w lo hi x b->k w lo hi x b){xs:List α}(h:cJ e E sz w lo hi xs cs):cR k sz w lo hi xs cs:=by
 obtain⟨v,cells,rfl,y,t,a,_,m,o,J,K,H⟩:=h;obtain⟨_,q⟩:=y;rcases q with⟨rfl,r⟩|⟨g,cap,l,rfl,s,A,n,f,C,I⟩
 .exact⟨none,0,by rw[r],by omega,by unfold maxLen;omega,λL=>by omega⟩
 .refine⟨_,cap,rfl,n,f,λ_=>⟨g,0,rfl,s,t g rfl,λi x hi=> ?_⟩⟩;obtain⟨b,D,z,F⟩:=H i x hi;have p:=aH hi;have M:=eG o (fa i);have N:=eG o (show i+1<=xs.length by omega);refine⟨b,D,d.wide (G z) (by omega) (by omega),λj u B=> ?_⟩;have c:=F j u B;rw[<-I,qX] at c;split at c
  .rw[cell_of_row w g (0+i*sz+j) l _ (0,0) A,ls];simpa using c
  .cases c
def cJ.slT{f:gF α}(a:Lcy f)(o:∀{w:World} {lo hi:Nat} {x:α} {i:List Value},E w lo hi x i->f w lo hi x i){xs:List α}(h:cJ e E sz w lo hi xs cs):eZ e f sz w lo hi xs cs:=by
 refine⟨h.sl a o,λq b l n c j=> ?_⟩;obtain⟨v,cells,rfl,p,r,_⟩:=h;simp only[pZ,qk] at j;subst j;rcases p.2 with⟨d,_⟩|⟨g,cap,k,d,_,m,_⟩
 .cases d
 .cases d;exact⟨_,m⟩
def cJ.some_{xs:List α}(h:cJ e E sz w lo hi xs [v])(k:0<xs.length):∃g c,v=.slice (some ⟨g,0,none⟩) xs.length c/\lo<=g/\g<hi/\g<w.heap.size/\∃j,bW w g e j:=by
 obtain⟨l,cells,i,h,f,_⟩:=h;cases i;rcases h.2 with⟨_,m⟩|⟨g,cap,a,rfl,d,b,_⟩
 .omega
 .exact⟨g,cap,rfl,d,f g rfl,(show bW w g e a from b).lt,a,b⟩
def cJ.frozen{xs:List α}(h:cJ e E sz w lo hi xs [.slice (some ⟨g,0,none⟩) n c])(j:Nat):w.frozen? ⟨g,j,none⟩=false:=by
 obtain⟨d,cells,a,h,i,_⟩:=h;cases a;obtain⟨A,f,b⟩:=jH h;cases b;exact h.frozenAt j
def cJ.at_(P:eE E T)(B:e∉T){xs:List α}(h:cJ e E sz w lo hi xs [.slice (some ⟨g,0,none⟩) n c]){x:α}(I:xs[i]?=some x) :
  ∃m a d,lo<=m/\m<=a/\a<=hi/\d.length=sz/\E w m a x d/\(∀j u,d[j]?=some u->w.cell? ⟨g,i*sz+j,none⟩=some u)/\
   ∀(k:World) (y:α),bJ (λb=>m<=b/\b<a/\Typed w T b) w k->E k m a y d->cJ e E sz k lo hi (xs.set i y) [.slice (some ⟨g,0,none⟩) n c]:=by
 obtain⟨V,cells,q,o,K,f⟩:=h;cases q;obtain⟨A,W,C⟩:=jH o;cases C;have r:=aH I;obtain⟨m,a,d,R,S,N,q,C,F,z⟩:=f.at_ P I;refine⟨m,a,d,R,S,N,q,C,λj u p=> ?_,λk y G Q=> ?_⟩
 .have J:=aH p;have l:(i+1)*sz<=xs.length*sz:=rB _ r;rw[rH] at l;rw[o.cellAt _ (by omega)];exact F j u p
 .have D:¬(m<=g/\g<a/\Typed w T g):=λ⟨_,_,t,s,M,hd⟩=>by
   rcases o.2 with⟨v,_⟩|⟨X,cap,O,v,_,L,_⟩
   .cases v
   .cases v;exact B (fp L hd▸s)
  refine⟨_,cells,rfl, ?_,K,z k y d q (λu p=> ?_) (λb U Y s l=> ?_) Q cells rfl (λ_ _=>rfl) F f.2.1⟩
  .rw[qK];exact ahr o G λb l=>by cases l;exact D
  .obtain⟨j,J⟩:=qZ p;exact f.2.1 u (be (F j u J))
  .obtain⟨t,_,M,hd⟩:=id s;exact G.block b hd.lt λH=>l ⟨H.1,H.2.1⟩
def cJ.put(Q:eE E T)(L:e∉T){xs:List α}(h:cJ e E sz w lo hi xs [.slice (some ⟨g,0,none⟩) n c]){x y:α}{u:Value}(N:xs[i]?=some x)(hj:j<sz)(U:u.oneCell'=true)(W:∀(O:World) (lo hi:Nat) (z:List Value),E O lo hi x z->E O lo hi y (z.set j u)) :
  cJ e E sz (w.setCell ⟨g,i*sz+j,none⟩ u) lo hi (xs.set i y) [.slice (some ⟨g,0,none⟩) n c]:=by
 obtain⟨v',cells,F,D,V,o⟩:=h;cases F;obtain⟨A,c',C⟩:=jH D;cases C;have G:=aH N;have J:=(D.stored (i*sz+j) u).1;obtain⟨m,m',z,l1,l2,Z,F,C,X,K⟩:=o.at_ Q N;have I:¬Typed w T g:=λ⟨t,l,ds,hd⟩=>by
  rcases D.2 with⟨H,_⟩|⟨Y,cap,S,H,_,P,_⟩
  .cases H
  .cases H;exact L (fp P hd▸l)
 have p:∀b,Typed w T b->(w.setCell ⟨g,i*sz+j,none⟩ u).heap[b]?=w.heap[b]?:=λb l=>qs _ _ _ _ (by rintro rfl;exact I l);have d:∀v∈cells.set (i*sz+j) u,v.oneCell'=true:=λv q=>by
  rcases sK q with q|rfl
  .exact o.2.1 v q
  .exact U
 have r:∀f B,(z.set j u)[f]?=some B->(cells.set (i*sz+j) u)[i*sz+f]?=some B:=λf B a=>by
  by_cases s:j=f
  .subst s;rw[sd (by omega)] at a;rw[sd (by
    have R:(i+1)*sz<=xs.length*sz:=rB _ G;rw[rH] at R;rw[o.1];omega)]
   exact a
  .rw[sL s] at a;rw[sL (by omega)];exact X f B a
 refine⟨_,cells.set (i*sz+j) u,rfl,by rw[qK];exact J,V,K _ y (z.set j u) (by rw[qK];exact F) (λv q=> ?_) (λb b1 b2 l _=>p b l) (W _ _ _ _ (Q.go (λb _ _ l=>p b l) (am _) (am _) C)) _ (by rw[qK]) (λk P=> ?_) r d⟩
 .obtain⟨f,M⟩:=qZ q;exact d v (be (r f v M))
 .rw[sL (by omega)]
end
def aD.acE{F:Flat Z}{base : Nat}(h:aD F e w base v xs)(a:∀x∈xs,F.good x)(b:base<=hi)(c:∀g,v.ownBlock=some g->g<hi):cJ e (cg F) F.sz w base hi xs [v]:=
 ⟨v,dG F xs,rfl,h,c,eN F xs,pB F xs,λ_=>base,λ_=>am _,am _,b,λi x hi=>⟨F.cells x,F.len x,⟨rfl,a x (be hi)⟩,λ_ _ d=>iw F xs i _ x _ hi d⟩⟩
end
section
variable {β:Bool}
open Go.RowKit
structure Ls where
 p:ByteArray
 ns:List Int
structure Sn where
 no:Int
 all:List Ls
structure Hd where
 b:Int
 s:Int
structure dE where
 pk:List Pk
 sn:List Sn
 lg:List Hd
def FHd:Flat Hd:=⟨2,λx=>[.int .i64 x.b,.int .i64 x.s],λx=>cA x.b/\cA x.s,λ_=>rfl,λx u a=>by simp at a;rcases a with rfl|rfl<;>rfl,by decide⟩
abbrev aeS:gF (List It):=cR (cg nV) 2
def ali:gF Pk:=λw a b x c=>∃v,c=[.int .i64 x.no,v]/\cA x.no/\aeS w a b x.its [v]
abbrev iJ:gF (List Pk):=cR ali 2
def ao6:gF Ls:=λw a b x c=>∃v,c=[.string x.p,v]/\x.p.size<=maxLen/\cR adx 1 w a b x.ns [v]
abbrev gD:gF (List Ls):=cR ao6 2
def ao7:gF Sn:=λw a b x c=>∃v,c=[.int .i64 x.no,v]/\cA x.no/\gD w a b x.all [v]
abbrev iK:gF (List Sn):=cR ao7 2
abbrev oB:gF (List Hd):=cR (cg FHd) 2
def aeS.loc:Lcy aeS:=cR.loc (cg.loc nV)
def ali.loc:Lcy ali:=⟨λh a b ⟨v,e,i,hr⟩=>⟨v,e,i,aeS.loc.go h a b hr⟩⟩
def iJ.loc:Lcy iJ:=cR.loc ali.loc
def alj.loc:Lcy (cR adx 1):=cR.loc adx.loc
def ao6.loc:Lcy ao6:=⟨λh a b ⟨v,e,i,hr⟩=>⟨v,e,i,alj.loc.go h a b hr⟩⟩
def gD.loc:Lcy gD:=cR.loc ao6.loc
def ao7.loc:Lcy ao7:=⟨λh a b ⟨v,e,i,hr⟩=>⟨v,e,i,gD.loc.go h a b hr⟩⟩
def iK.loc:Lcy iK:=cR.loc ao7.loc
def oB.loc:Lcy oB:=cR.loc (cg.loc FHd)
def cR.ayb{g : gF Z}(t:∀{w:World} {lo hi:Nat} {x:Z} {a:List Value},E w lo hi x a->g w lo hi x a)(h:cR E Y w lo hi xs cs):cR g Y w lo hi xs cs:=by
 obtain⟨A,c,f,l,q,p⟩:=h;refine⟨A,c,f,l,q,λo=> ?_⟩;obtain⟨b,e,m,k,j,d⟩:=p o;refine⟨b,e,m,k,j,λi x hi=> ?_⟩;obtain⟨a,r,n,s⟩:=d i x hi;exact⟨a,r,t n,s⟩
def RPk.l{x:Pk}(h:RPk w lo hi x cs):ali w lo hi x cs:=by
 obtain⟨v,e,i,a⟩:=h;exact⟨v,e,i,a.1⟩
def fh.l{x:List Pk}(h:fh w lo hi x cs):iJ w lo hi x cs:=cR.ayb RPk.l h.1
abbrev adD:gF (List It):=cJ 59 (cg nV) 2
def OPk:gF Pk:=λw a b x c=>∃v,c=[.int .i64 x.no,v]/\cA x.no/\adD w a b x.its [v]
abbrev fT:gF (List Pk):=cJ 62 OPk 2
abbrev aeT:gF (List Int):=cJ 3 (cg ie) 1
def adD.aw:eE adD [59]:=cJ.aw (cg.aw nV)
def OPk.aw:eE OPk [59]:=⟨λh a b ⟨v,e,i,hr⟩=>⟨v,e,i,adD.aw.go h a b hr⟩⟩
def fT.aw:eE fT [62,59]:=cJ.aw OPk.aw
def aeT.aw:eE aeT [3]:=cJ.aw (cg.aw ie)
def adD.l{x:List It}(h:adD w lo hi x cs):aeS w lo hi x cs:=cJ.sl (cg.loc nV) (λh=>h) h
def adD.t{x:List It}(h:adD w lo hi x cs):gK w lo hi x cs:=cJ.slT (cg.loc nV) (λh=>h) h
def OPk.l{x:Pk}(h:OPk w lo hi x cs):ali w lo hi x cs:=by
 obtain⟨v,e,i,a⟩:=h;exact⟨v,e,i,adD.l a⟩
def OPk.t{x:Pk}(h:OPk w lo hi x cs):RPk w lo hi x cs:=by
 obtain⟨v,e,i,a⟩:=h;exact⟨v,e,i,adD.t a⟩
def fT.l{x:List Pk}(h:fT w lo hi x cs):iJ w lo hi x cs:=cJ.sl ali.loc OPk.l h
def fT.t{x:List Pk}(h:fT w lo hi x cs):fh w lo hi x cs:=cJ.slT RPk.aw.loc OPk.t h
def aeT.l{x:List Int}(h:aeT w lo hi x cs):cR adx 1 w lo hi x cs:=cJ.sl adx.loc (λh=>h) h
def OLs:gF Ls:=λw a b x c=>∃v,c=[.string x.p,v]/\x.p.size<=maxLen/\aeT w a b x.ns [v]
abbrev gM:gF (List Ls):=cJ 65 OLs 2
def OSn:gF Sn:=λw a b x c=>∃v,c=[.int .i64 x.no,v]/\cA x.no/\gM w a b x.all [v]
abbrev gO:gF (List Sn):=cJ 37 OSn 2
abbrev fU:gF (List Hd):=cJ 78 (cg FHd) 2
def OLs.aw:eE OLs [3]:=⟨λh a b ⟨v,e,i,hr⟩=>⟨v,e,i,aeT.aw.go h a b hr⟩⟩
def gM.aw:eE gM [65,3]:=cJ.aw OLs.aw
def OSn.aw:eE OSn [65,3]:=⟨λh a b ⟨v,e,i,hr⟩=>⟨v,e,i,gM.aw.go h a b hr⟩⟩
def gO.aw:eE gO [37,65,3]:=cJ.aw OSn.aw
def fU.aw:eE fU [78]:=cJ.aw (cg.aw FHd)
def OLs.l{x:Ls}(h:OLs w lo hi x cs):ao6 w lo hi x cs:=by
 obtain⟨v,e,i,a⟩:=h;exact⟨v,e,i,aeT.l a⟩
def gM.l{x:List Ls}(h:gM w lo hi x cs):gD w lo hi x cs:=cJ.sl ao6.loc OLs.l h
def OSn.l{x:Sn}(h:OSn w lo hi x cs):ao7 w lo hi x cs:=by
 obtain⟨v,e,i,a⟩:=h;exact⟨v,e,i,gM.l a⟩
def gO.l{x:List Sn}(h:gO w lo hi x cs):iK w lo hi x cs:=cJ.sl ao7.loc OSn.l h
def fU.l{x:List Hd}(h:fU w lo hi x cs):oB w lo hi x cs:=cJ.sl (cg.loc FHd) (λh=>h) h
def dS{α:Type}(f:α->Nat)(l:List α):Nat:=l.length+(l.map f).sum
def pI{a:Type}{f:a->Nat}:∀{l:List a} {x:a},x∈l->f x<=dS f l
 |[],_,h=>by cases h
 |y::l,x,h=>by
  have e:dS f (y::l)=dS f l+1+f y:=by unfold dS;simp only[fm,qN,ui];omega
  rcases mc.1 h with rfl|h
  .omega
  .have:=pI (f:=f) h;omega
def jh{f:Z->Nat}{l:List Z}:l.length<=dS f l:=by unfold dS;omega
def bIt(x:It):Nat:=x.b.size
def bPk(x:Pk):Nat:=dS bIt x.its
def bLs(x:Ls):Nat:=x.p.size+x.ns.length
def bSn(x:Sn):Nat:=dS bLs x.all
def abL{α:Type}(n:α->Nat)(l:List α)(j:Nat):Nat:=((l.take j).map n).sum
def aek{α:Type}(n:α->Nat)(l:List α):Nat:=(l.map n).sum
def alk{n:Z->Nat}{l:List Z}{x:Z}(h:l[j]?=some x):abL n l (j+1)=abL n l j+n x:=by
 unfold abL;rw[mu h,qJ,List.sum_append];simp
def aou(n:Z->Nat)(l:List Z):abL n l l.length=aek n l:=by unfold abL aek;rw[gt]
def ajb{n:Z->Nat}{l:List Z} :abL n l j<=aek n l:=by
 unfold abL aek;have h:l.map n=(l.take j).map n++(l.drop j).map n:=by rw[<-qJ,sA]
 rw[h,List.sum_append];omega
def abM{c:Type}:∀(l:List c) (j:Nat) (a b:c),(l.set j a).set j b=l.set j b
 |[],_,_,_=>rfl
 |_::_,0,_,_=>rfl
 |x::l,j+1,a,b=>by show x::(l.set j a).set j b=x::l.set j b;rw[abM l j a b]
end
section
variable {β:Bool}
open Go.RowKit
def marks(k:Int):Nat->List Int
 |0=>[]
 |n+1=>marks k n++[k+n]
end
section
variable {β:Bool}
open Go.RowKit
structure oA (w:World) (lo hi:Nat) (s:dE) (va vb vc:Value):Prop where
 pk:iJ w lo hi s.pk [va]
 sn:iK w lo hi s.sn [vb]
 lg:oB w lo hi s.lg [vc]
def oA.below{B : Nat}{s:dE}(h:oA w lo hi s X W V)(b:Below B w w')(a:hi<=B):oA w' lo hi s X W V:=⟨iJ.loc.below h.pk b a,iK.loc.below h.sn b a,oB.loc.below h.lg b a⟩
structure gq (w:World) (lo hi:Nat) (s:dE) (va vb vc:Value):Prop where
 pk:fT w lo hi s.pk [va]
 sn:gO w lo hi s.sn [vb]
 lg:fU w lo hi s.lg [vc]
def gq.go{oF hi' : Nat}{s:dE}(h:gq w lo hi s X W V)(d:∀b,lo<=b->b<hi->w'.heap[b]?=w.heap[b]?)(c:oF<=lo)(a:hi<=hi'):gq w' oF hi' s X W V:=
 ⟨fT.aw.loc.go d c a h.pk,gO.aw.loc.go d c a h.sn,fU.aw.loc.go d c a h.lg⟩
def gq.below{B : Nat}{s:dE}(h:gq w lo hi s X W V)(a:Below B w w')(d:hi<=B):gq w' lo hi s X W V:=h.go (λb _ c=>a.block b (by omega)) (am _) (am _)
def gq.l{s:dE}(h:gq w lo hi s X W V):oA w lo hi s X W V:=⟨fT.l h.pk,gO.l h.sn,fU.l h.lg⟩
def aeq(s:dE):Nat:=dS bPk s.pk+dS bSn s.sn+s.lg.length
def ayc(w:World)(s:dE)(e:Ending)(w':World):Prop:=∃c a b,e=.returned (.agg #[c,a,b])/\gq w' w.heap.size w'.heap.size s c a b/\Below w.heap.size w w'
end
section
variable {β:Bool}
open Go.RowKit
section
variable {P:Program} {α:Type} {E:gF α} {T:List TypeId} {sz:Nat} {e:TypeId}
def kY (F:eE E T) (D:e∉T) {p:Array Oper} {rest:List Oper} {o:Oper} {a:Act} {Q:Exit->Act->World->Prop} (r:o.guard=none) (s x:Operand) (t:TypeId)
  (V:o.op=.call ⟨.builtin .append,#[s,x],#[t,t]⟩)
  (A:ig P t e sz Y)  {xs:List α} (y:α) (Z:a.eval s=v) (m:cJ e E sz w lo U xs [v]) {es:Array Value} {M:TypeId} (hx:a.eval x=.slice (some ⟨g,0,none⟩) 1 1) (N:bW w g M es) (n:es.toList.length=sz) (J:∀u∈es.toList,u.oneCell'=true) (L:U<=hi) (W:E w U hi y es.toList) (bG:hi<=w.heap.size)
  (hn:xs.length<=1099511627775) (f:lo<=w.heap.size)
  (h:∀i c,cJ e E sz c lo c.heap.size (xs++[y]) [i]->bJ (λb=>v.ownBlock=some b) w c->(∀b,i.ownBlock=some b->v.ownBlock=some b\/w.heap.size<=b)->wpList P p Q rest (a.put o.dst i) c) :
  wpList P p Q (o::rest) a w:=by
 obtain⟨v0,cells,e1,d,hg,I⟩:=m;cases e1;refine aby r s x t V A Z d hx (news:=es.toList) (by rw[n,Nat.one_mul]) (λ_=>⟨_,rfl,λj u X=>by
  have G:(⟨g,0,none⟩:Addr).add j=⟨g,j,none⟩:=by unfold Addr.add;split<;>simp_all
  rw[G,N.cell,<-du];exact X⟩) J (by omega) f λi c k=>h i c ?_ k.eY k.at_
 have C:∀b,v.ownBlock=some b->∃K,bW w b e K:=λb l=>by
  rcases d.2 with⟨rfl,_⟩|⟨g',cap,S,rfl,_,B,_⟩
  .cases l
  .cases l;exact⟨_,B⟩
 have q:∀b,Typed w T b->c.heap[b]?=w.heap[b]?:=λb ⟨t',ht',K,hd⟩=>k.eY.block b hd.lt λl=>by
  obtain⟨O,H⟩:=C b l;exact D (fp H hd▸ht')
 have R:=k.eY.size;refine⟨i,cells++es.toList,rfl,by rw[ap];exact k.own,λb l=>(k.own.lt b l).2, ?_⟩;have hS:=Els.snoc (E:=E) (I.go (oF:=lo) (hi':=U) F (λb _ _ z=>q b z) (am _) (am _)) (y:=y) (es:=es.toList) n J (hi:=c.heap.size) (by omega) (F.go (λb _ _ z=>q b z) (am _) (by omega) W);exact hS F.loc
end
def anB:ig (ah β) 25 78 2 16:=ig.mk' yz (z:=.agg #[.int .i64 0,.int .i64 0]) (by kernel_rfl) rfl (by decide) (by decide)
def anC:ig (ah β) 35 65 2 40:=ig.mk' yx (z:=.agg #[.string ⟨#[]⟩,.slice none 0 0]) (by kernel_rfl) rfl (by decide) (by decide)
def anD:ig (ah β) 24 37 2 32:=ig.mk' yA (z:=.agg #[.int .i64 0,.slice none 0 0]) (by kernel_rfl) rfl (by decide) (by decide)
end
section
variable {β:Bool}
open Go.RowKit
def lL{p:Prop}(h:p/\True):p:=h.1
def cJ.ob(h:cJ e E Y w lo hi xs [v])(a:v.ownBlock=some b):lo<=b/\b<hi/\b<w.heap.size:=by
 obtain⟨f,cells,c,h,d,_⟩:=h;cases c;exact⟨(h.lt b a).1,d b a,(h.lt b a).2⟩
end
section
variable {β:Bool}
open Go.RowKit
structure abN where
 k:Int
 n:Int
 m:Int
 b:ByteArray
def tQ{α:Type}(l:List α)(i:Nat)(f:α->α):List α:=match l[i]? with|some x=>l.set i (f x)|none=>l
def ags(l:List Z)(i:Nat)(f:Z->Z):(tQ l i f).length=l.length:=by
 unfold tQ;split
 .rw[qK]
 .rfl
def anE(l:abN)(p:Pk):Pk:=if p.no=l.n/\0<=l.m/\l.m<p.its.length then⟨p.no,tQ p.its l.m.toNat λx=>⟨x.n,l.b⟩⟩ else p
def ac7(x:Hd):Hd:=⟨wrap64 (3-x.b),x.s⟩
def kE(s:dE)(l:abN):dE:=
 if l.k=1 then⟨s.pk.filter λp=>!(p.no ==l.n),s.sn,s.lg⟩
 else if l.k=2 then(if 0<=l.n/\l.n<=s.lg.length then⟨s.pk,s.sn.filter λx=>!((s.lg.drop l.n.toNat).any λh=>h.s ==x.no),s.lg.take l.n.toNat⟩ else s)
 else if l.k=3 then⟨s.pk.map (anE l),s.sn,s.lg⟩
 else if l.k=4 then(if 0<=l.n/\l.n<s.lg.length then⟨s.pk,s.sn,tQ s.lg l.n.toNat ac7⟩ else s)
 else s
def ahL{s:dE}{l:abN}(h:l.k=1):kE s l=⟨s.pk.filter λp=>!(p.no ==l.n),s.sn,s.lg⟩:=by unfold kE;rw[dj h]
def aeU{s:dE}{l:abN}(h:l.k=2)(a:0<=l.n/\l.n<=s.lg.length):kE s l=⟨s.pk,s.sn.filter λx=>!((s.lg.drop l.n.toNat).any λh=>h.s ==x.no),s.lg.take l.n.toNat⟩:=by unfold kE;rw[bd (by omega),dj h,dj a]
def ahM{s:dE}{l:abN}(h:l.k=2)(a:¬(0<=l.n/\l.n<=s.lg.length)):kE s l=s:=by unfold kE;rw[bd (by omega),dj h,bd a]
def alm{s:dE}{l:abN}(h:l.k=3):kE s l=⟨s.pk.map (anE l),s.sn,s.lg⟩:=by unfold kE;rw[bd (by omega),bd (by omega),dj h]
def aln{s:dE}{l:abN}(h:l.k=4)(a:0<=l.n/\l.n<s.lg.length):kE s l=⟨s.pk,s.sn,tQ s.lg l.n.toNat ac7⟩:=by unfold kE;rw[bd (by omega),bd (by omega),bd (by omega),dj h,dj a]
def ahN{s:dE}{l:abN}(h:l.k=4)(a:¬(0<=l.n/\l.n<s.lg.length)):kE s l=s:=by unfold kE;rw[bd (by omega),bd (by omega),bd (by omega),dj h,bd a]
def alo{s:dE}{l:abN}(a:¬l.k=1)(d:¬l.k=2)(b:¬l.k=3)(c:¬l.k=4):kE s l=s:=by unfold kE;rw[bd a,bd d,bd b,bd c]
end
section
variable {β:Bool}
open Go.RowKit
def mA{t:TypeId}{cs:Array Value}(a:bW w g t cs)(c:t∉T):¬Typed w T g:=λ⟨d,b,e,hd⟩=>c (fp a hd▸b)
def pJ{U : List TypeId}(h:Typed w U b)(d:∀t∈T,t∉U):¬Typed w T b:=λ⟨e,f,i,hd⟩=>by
 obtain⟨t,c,g,a⟩:=h;exact d e f (fp a hd▸c)
end
section
variable {β:Bool}
open Go.RowKit
def cR.ari(h:cR E Y w lo hi xs [.slice A n c])(z:k<=xs.length):cR E Y w lo hi (xs.drop k) [.slice (if c=k then A else A.map λx=>x.add (k*Y)) (xs.length-k) (c-k)]:=by
 obtain⟨A',y,g,B,C,t⟩:=h;simp only[pZ,pv,qk] at g;obtain⟨rfl,rfl,rfl⟩:=g;refine⟨_,c-k,by rw[pX],by rw[pX];omega,by omega,λq=> ?_⟩;rw[pX] at q;have a:¬c=k:=by omega
 have f:0<xs.length:=by omega
 obtain⟨b,e,rfl,o,l,d⟩:=t f;refine⟨b,e+k*Y,by rw[bd a];simp only[qf,aeH],o,l,λi x hi=> ?_⟩;rw[sZ] at hi;obtain⟨r,s,m,p⟩:=d _ _ hi;refine⟨r,s,m,λj u v=> ?_⟩;have:=p j u v;rw[<-this,Nat.add_mul]
 congr 2
 omega
end
section
variable {β:Bool}
open Go.RowKit
def cJ.obT(h:cJ e E Y w lo hi xs [v])(a:v.ownBlock=some b):∃g,bW w b e g:=by
 obtain⟨i,cells,f,h,_⟩:=h;cases f;rcases h.2 with⟨rfl,_⟩|⟨j,cap,c,rfl,_,d,_⟩
 .cases a
 .cases a;exact⟨_,d⟩
def eD.acE(h:eD lo e v w)(f:w.heap.size<=hi):cJ e E Y w lo hi [] [v]:=by
 obtain⟨g,rfl,d,c⟩:=h;have:=c.lt;exact⟨_,[],rfl,eD.own ⟨g,rfl,d,c⟩ Y,λb a=>by cases a;dsimp only;omega,Els.nil (by omega)⟩
def dy(h:cJ e E Y w lo hi xs [v])(f:bJ (λb=>v.ownBlock=some b) w w'){t:TypeId}{cs:Array Value}(a:bW w g t cs)(c:t≠e):bW w' g t cs:=
 bQ a f λd=>by
  obtain⟨i,hd⟩:=h.obT d;exact c (fp a hd)
def ji{β : Type}{D:gF β}{y:β}(h:cJ e E Y w lo hi xs [v])(m:bJ (λb=>v.ownBlock=some b) w w')(k:eE D T)(d:D w U c y cs)(f:e∉T):D w' U c y cs:=
 k.eY d m λb _ _ g i=>by
  obtain⟨n,hd⟩:=h.obT i;obtain⟨t,l,j,a⟩:=g;exact f (fp a hd▸l)
def cN{β:Type}{D:gF β}{t:TypeId}{a:Array Value}{y:β}(f:eE D T)(c:D w lo hi y cs)(j:bW w g t a)(d:t∉T)(i:Nat)(u:Value):D (w.setCell ⟨g,i,none⟩ u) lo hi y cs:=
 f.go (λb _ _ e=>qs _ _ _ _ (by rintro rfl;exact mA j d e)) (am _) (am _) c
def ahO{β:Type}{D:gF β}{u:Value}{y:β}(c:eE D T)(a:D w lo hi y cs)(e:hi<=g):D (w.setCell ⟨g,i,none⟩ u) lo hi y cs:=
 c.go (λb _ d _=>qs _ _ _ _ (by dsimp only;omega)) (am _) (am _) a
structure afG (w wr:World) (L:Nat) (A B C:Option Addr) (a b c:Nat) (s:dE) (gm:Nat) (vp vs vl:Value) (pk:List Pk) (sn:List Sn) (H:Nat):Prop where
 k0:bW wr w.heap.size 27 #[.slice A s.pk.length a,.slice B s.sn.length b,.slice C s.lg.length c]
 k1:bW wr (w.heap.size+1) 27 #[.slice none 0 0,.slice none 0 0,.slice none 0 0]
 m:bW wr gm 27 #[vp,vs,vl]
 op:fT wr L H pk [vp]
 os:gO wr L H sn [vs]
 ol:fU wr L H s.lg [vl]
 bl:Below w.heap.size w wr
 gm1:w.heap.size+1<gm
 gm2:gm<wr.heap.size
 hL:w.heap.size<=L
 hH:H<=wr.heap.size
 gmr:gm<H
def afG.below{wr : World}{B C : Option Addr}{a : Nat}{s:dE}{e:List Sn}(h:afG w wr Y A B C a b c s U X W V R e g)(d:Below wr.heap.size wr w'):afG w w' Y A B C a b c s U X W V R e g:=
 ⟨av h.k0 d,av h.k1 d,av h.m d,fT.aw.below h.op d h.hH,gO.aw.below h.os d h.hH,fU.aw.below h.ol d h.hH,ae h.bl d,h.gm1,aE h.gm2 d.size,h.hL,da h.hH d.size,h.gmr⟩
def ac8(s:dE)(va vb vc:Value)(w:World)(lo hi:Nat)(h:oA w lo hi s va vb vc)(bG:hi<=w.heap.size)(hl:aeq s<=1099511627) :
  Calls (ah β) 64 #[.agg #[va,vb,vc]] w (ayc w s):=by
 obtain⟨h1,h2,h3⟩:=h;obtain⟨A,a,rfl⟩:=cR.form h1;obtain⟨B,b,rfl⟩:=cR.form h2;obtain⟨C,c,rfl⟩:=cR.form h3;obtain⟨_,di,d9⟩:=h1.len_;obtain⟨_,ei,ci⟩:=h2.len_;obtain⟨_,b9,cY⟩:=h3.len_;unfold maxLen at d9 ci cY;unfold aeq at hl;have ds:=jh (f:=bPk) (l:=s.pk);have ea:=jh (f:=bSn) (l:=s.sn);have cc:=cR.good (F:=FHd) h3;go_enter yQ,ntmps64;go_wp2_with(at_builtin;refine lL ?_);refine⟨?_,trivial⟩;have aM:Below w.heap.size w (((((w.alloc (.cells #[.slice A s.pk.length a,.slice B s.sn.length b,.slice C s.lg.length c] 27)).alloc (.cells #[.slice none 0 0,.slice none 0 0,.slice none 0 0] 27)).alloc (.cells #[] 62)).alloc (.cells #[] 37)).alloc (.cells #[] 78)):=cU (cU (cU (cU (aB _ _) _) _) _) _;have k0:bW (((((w.alloc (.cells #[.slice A s.pk.length a,.slice B s.sn.length b,.slice C s.lg.length c] 27)).alloc (.cells #[.slice none 0 0,.slice none 0 0,.slice none 0 0] 27)).alloc (.cells #[] 62)).alloc (.cells #[] 37)).alloc (.cells #[] 78)) (w.heap.size) 27 #[.slice A s.pk.length a,.slice B s.sn.length b,.slice C s.lg.length c]:=by
  have I:=bc (bc (bc (bc (bW.new w 27 #[.slice A s.pk.length a,.slice B s.sn.length b,.slice C s.lg.length c]) (.cells #[.slice none 0 0,.slice none 0 0,.slice none 0 0] 27)) (.cells #[] 62)) (.cells #[] 37)) (.cells #[] 78);exact I
 have k1:bW (((((w.alloc (.cells #[.slice A s.pk.length a,.slice B s.sn.length b,.slice C s.lg.length c] 27)).alloc (.cells #[.slice none 0 0,.slice none 0 0,.slice none 0 0] 27)).alloc (.cells #[] 62)).alloc (.cells #[] 37)).alloc (.cells #[] 78)) (w.heap.size+1) 27 #[.slice none 0 0,.slice none 0 0,.slice none 0 0]:=by
  have I:=bc (bc (bc (bW.new (w.alloc (.cells #[.slice A s.pk.length a,.slice B s.sn.length b,.slice C s.lg.length c] 27)) 27 #[.slice none 0 0,.slice none 0 0,.slice none 0 0]) (.cells #[] 62)) (.cells #[] 37)) (.cells #[] 78);simp only[mw] at I;exact I
 have k2:bW (((((w.alloc (.cells #[.slice A s.pk.length a,.slice B s.sn.length b,.slice C s.lg.length c] 27)).alloc (.cells #[.slice none 0 0,.slice none 0 0,.slice none 0 0] 27)).alloc (.cells #[] 62)).alloc (.cells #[] 37)).alloc (.cells #[] 78)) (w.heap.size+1+1) 62 #[]:=by
  have I:=bc (bc (bW.new ((w.alloc (.cells #[.slice A s.pk.length a,.slice B s.sn.length b,.slice C s.lg.length c] 27)).alloc (.cells #[.slice none 0 0,.slice none 0 0,.slice none 0 0] 27)) 62 #[]) (.cells #[] 37)) (.cells #[] 78);simp only[mw] at I;exact I
 have k3:bW (((((w.alloc (.cells #[.slice A s.pk.length a,.slice B s.sn.length b,.slice C s.lg.length c] 27)).alloc (.cells #[.slice none 0 0,.slice none 0 0,.slice none 0 0] 27)).alloc (.cells #[] 62)).alloc (.cells #[] 37)).alloc (.cells #[] 78)) (w.heap.size+1+1+1) 37 #[]:=by
  have I:=bc (bW.new (((w.alloc (.cells #[.slice A s.pk.length a,.slice B s.sn.length b,.slice C s.lg.length c] 27)).alloc (.cells #[.slice none 0 0,.slice none 0 0,.slice none 0 0] 27)).alloc (.cells #[] 62)) 37 #[]) (.cells #[] 78);simp only[mw] at I;exact I
 have k4:bW (((((w.alloc (.cells #[.slice A s.pk.length a,.slice B s.sn.length b,.slice C s.lg.length c] 27)).alloc (.cells #[.slice none 0 0,.slice none 0 0,.slice none 0 0] 27)).alloc (.cells #[] 62)).alloc (.cells #[] 37)).alloc (.cells #[] 78)) (w.heap.size+1+1+1+1) 78 #[]:=by
  have I:=bW.new ((((w.alloc (.cells #[.slice A s.pk.length a,.slice B s.sn.length b,.slice C s.lg.length c] 27)).alloc (.cells #[.slice none 0 0,.slice none 0 0,.slice none 0 0] 27)).alloc (.cells #[] 62)).alloc (.cells #[] 37)) 78 #[];simp only[mw] at I;exact I
 have jU:w.heap.size+5<=(((((w.alloc (.cells #[.slice A s.pk.length a,.slice B s.sn.length b,.slice C s.lg.length c] 27)).alloc (.cells #[.slice none 0 0,.slice none 0 0,.slice none 0 0] 27)).alloc (.cells #[] 62)).alloc (.cells #[] 37)).alloc (.cells #[] 78)).heap.size:=by simp only[mw];omega
 generalize (((((w.alloc (.cells #[.slice A s.pk.length a,.slice B s.sn.length b,.slice C s.lg.length c] 27)).alloc (.cells #[.slice none 0 0,.slice none 0 0,.slice none 0 0] 27)).alloc (.cells #[] 62)).alloc (.cells #[] 37)).alloc (.cells #[] 78))=w0 at *;have dV:=k0.cell;have gz:=k0.frozen;have a7:=k1.cell;have an:=k1.frozen;have bf:=k2.cell;have b7:=k2.frozen;have ay:=k3.cell;have b4:=k3.frozen;have ch:=k4.cell;have dd:=k4.frozen;have N:=mz (F:=FHd) h3 bG;have c0:eD w.heap.size 78 (.slice (some ⟨w.heap.size+1+1+1+1,0,none⟩) 0 0) w0:=⟨_,rfl,by omega,k4⟩;refine abC (F:=FHd) (xs:=s.lg) aM rfl (.tmp 11) (.tmp 13) 25 rfl anB (am _) rfl rfl c0 N (by omega) ?_;intro vl x1 U Q;replace k0:=av k0 U;replace dV:=k0.cell;replace gz:=k0.frozen;replace k1:=av k1 U;replace a7:=k1.cell;replace an:=k1.frozen;replace k2:=av k2 U;replace bf:=k2.cell;replace b7:=k2.frozen;replace k3:=av k3 U;replace ay:=k3.cell;replace b4:=k3.frozen;replace aM:=ae aM U;obtain⟨Cl,cl,rfl⟩:=Q.form;have z1:=U.size;clear k4 ch dd c0 N;go_wp2;generalize hG:x1.alloc (.cells #[.slice (some ⟨w.heap.size+1+1,0,none⟩) 0 0,.slice (some ⟨w.heap.size+1+1+1,0,none⟩) 0 0,.slice Cl s.lg.length cl] 27)=w1 at *;obtain⟨P,e5,m0,mO,cd⟩:=iB hG;clear hG;replace k0:=av k0 P;replace dV:=k0.cell;replace gz:=k0.frozen;replace k1:=av k1 P;replace a7:=k1.cell;replace an:=k1.frozen;replace k2:=av k2 P;replace bf:=k2.cell;replace b7:=k2.frozen;replace k3:=av k3 P;replace ay:=k3.cell;replace b4:=k3.frozen;have b6:=Q.below P;have o:afG w w1 w.heap.size A B C a b c s x1.heap.size (.slice (some ⟨w.heap.size+1+1,0,none⟩) 0 0) (.slice (some ⟨w.heap.size+1+1+1,0,none⟩) 0 0) (.slice Cl s.lg.length cl) [] [] w1.heap.size:=
  ⟨k0,k1,m0,eD.acE ⟨_,rfl,by omega,k2⟩ (am _),eD.acE ⟨_,rfl,by omega,k3⟩ (am _),b6.acE cc (by omega) (λg hg=>(b6.at_ hg).2),ae aM P,by omega,by omega,am _,am _,by omega⟩
 have n:=ab o;obtain⟨J,bu⟩:∃J,J=x1.heap.size:=⟨_,rfl⟩;rw[<-bu] at n ⊢;obtain⟨vs,bO⟩:∃vs,vs=Value.slice (some ⟨w.heap.size+1+1+1,0,none⟩) 0 0:=⟨_,rfl⟩;rw[<-bO] at n;clear bu bO o k0 k1 k2 k3 m0 dV a7 bf ay mO gz an b7 b4 cd Q b6 aM P U;go_loopw [4] (λii wr=>∃(k:Nat) (vo:Value),k<=s.pk.length/\ii=.int .i64 k/\afG w wr w.heap.size A B C a b c s J vo vs (.slice Cl s.lg.length cl) (s.pk.take k) [] wr.heap.size) (λii _=>s.pk.length-(intOf ii).toNat)
 case atStart=>exact⟨0,_,fa _,rfl,n.out⟩
 case round=>
  clear n;obtain⟨k,vo,I,rfl,o⟩:=hrel;obtain⟨Ao,co,rfl⟩:=o.op.form;have G:(s.pk.take k).length=k:=by rw[fi,qW I]
  rw[G] at o;have dV:wr.cell? ⟨w.heap.size,0,none⟩=some (.slice A s.pk.length a):=o.k0.cell 0;by_cases aY:k<s.pk.length
  .obtain⟨y,dI⟩:=aq aY;have jZ:=pI (f:=bPk) (be dI);have e4:y.its.length<=bPk y:=jh;obtain⟨b',M,es,e0,_,cO,_,⟨v2,rfl,ax,Y⟩,u⟩:=(iJ.loc.below h1 o.bl bG).at_ dI;subst e0;obtain⟨A2,c2,rfl⟩:=cR.form Y;have ad:wr.cell? ⟨b',M+k*2,none⟩=some (.int .i64 y.no):=by simpa using u 0 _ rfl
   have aa:wr.cell? ⟨b',M+k*2+1,none⟩=some (.slice A2 y.its.length c2):=by simpa using u 1 _ rfl
   have cm:wr.cell? ⟨J,0,none⟩=some (.slice Ao k co):=o.m.cell 0;have eM:=mu dI;have HN:=ab eM;have W:=ab G;have N:=ab (mz (F:=nV) Y (by have:=o.bl.size;omega));have d3:=ab (cR.good (F:=nV) Y);have n:=ab o;have zr:=o.bl.size;clear u dI eM G Y o;go_wp2;have aJ:=aj dV;have aL:=aj ad;have cB:=aj aa;have jA:=aj cm;refine bB 18 [0,1,2,3,4,5,6,7,9,10,11,12,13,14] [8,15,16,17] (h:= ?_);simp only[pick,List.map,pa,pb];repeat(go_big_quiet_step (fail))
   refine iS ?_;clear aJ aL cB jA;apply Exists.intro;apply bN (eD wr.heap.size 59)
   .rfl
   .exact λv x y h m=>h.keep m
   .intro x _ Qx r;have R:=ab r;clear r;go_wp2;exact R.out _ _ (aB _ _) (eD.new _ _ x.ok.size)
   intro u8;apply bN (λv w'=>aD nV 59 w' wr.heap.size v y.its)
   .rfl
   .exact λv x y h m=>h.below m
   .intro x K Qx R;have hL:=K.1 (by kernel_rfl);exact ai0 rfl (.tmp 31) (.tmp 37) 60 rfl pF (am _) rfl rfl hL N.out (by omega) λv' x' m ho=>R v' x'.to m ho
   intro dR;apply bN (λv w'=>∃A c,v=.agg #[.int .i64 y.no,.slice A y.its.length c]/\aD nV 59 w' wr.heap.size (.slice A y.its.length c) y.its)
   .rfl
   .exact λv x y ⟨A,c,e,h⟩ m=>⟨A,c,e,h.below m⟩
   .intro x K Qx r;have R:=ab r;clear r;have ho:=K.1 (by kernel_rfl);obtain⟨A5,c5,rfl⟩:=ho.form;go_wp2;exact R.out _ _ (ff _ _) ⟨_,_,rfl,ho⟩
   intro dp;apply bN (λv w'=>∃g A c,v=.slice (some ⟨g,0,none⟩) 1 1/\bW w' g 62 #[.int .i64 y.no,.slice A y.its.length c]/\aD nV 59 w' wr.heap.size (.slice A y.its.length c) y.its)
   .rfl
   .exact λv x y ⟨g,A,c,e,I,h⟩ m=>⟨g,A,c,e,av I m,h.below m⟩
   .intro x K Qx r;have R:=ab r;clear r;obtain⟨A5,c5,rfl,ho⟩:=K.1 (by kernel_rfl);go_wp2;have ba:=aB x.to (.cells #[.int .i64 y.no,.slice A5 y.its.length c5] 62);exact R.out _ _ ba ⟨_,_,_,rfl,bW.new _ _ _,ho.below ba⟩
   intro dW;refine dD ?_;intro w6 ni xx kR K;dsimp only[iZ] at K;try rw[kR] at K
   clear kR xx;obtain⟨⟨g8,A8,c8,rfl,V,o8⟩, -⟩:=K;simp only[List.drop];have a3:=n.out.below ni;have z6:=ni.size;have aU:Hid (OPk w6 wr.heap.size w6.heap.size y [.int .i64 y.no,.slice A8 y.its.length c8]):=ab ⟨_,rfl,ax,o8.acE d3.out (by omega) λg hg=>(o8.at_ hg).2⟩;replace V:=ab V;have q:=ab a3;clear n ni o8 a3 ad aa cm dV N;go_wp2_with(at_builtin;refine lL ?_);refine⟨?_,trivial⟩;refine kY OPk.aw (by decide) (v:=.slice Ao k co) rfl (.tmp 24) (.tmp 40) 23 rfl adS y rfl q.out.op rfl V.out rfl (by simp[Value.oneCell']) z6 aU.out (am _) (by have:=W.out;omega) (by omega) ?_;intro v9 X o9 E br;obtain⟨S,O,rfl⟩:=o9.form;rw[ap,nf,W.out] at o9;rw[ap,nf,W.out];have d:=q.out.op;have t:=dy d E q.out.m (by decide);have a2:=dy d E q.out.k0 (by decide);have a8:=dy d E q.out.k1 (by decide);have bz:=ji d E gO.aw q.out.os (by decide);have a6:=ji d E fU.aw q.out.ol (by decide);have b1:Below w.heap.size w X:=q.out.bl.trans (E.below q.out.bl.size λi hi hs=>by have:=d.ob hs;omega);have cC:X.cell? ⟨J,0,none⟩=some (.slice Ao k co):=t.cell 0;have cx:=t.frozen 0;have z9:=E.size;have a0:=q.out.gm1;have d7:=q.out.gm2;have lz:=t.bZ 0 (.slice S (k+1) O);simp only[db,fd,ga] at lz;have L:afG w (X.setCell ⟨J,0,none⟩ (.slice S (k+1) O)) w.heap.size _ B C a b c s J (.slice S (k+1) O) vs (.slice Cl s.lg.length cl) (s.pk.take (k+1)) [] (X.setCell ⟨J,0,none⟩ (.slice S (k+1) O)).heap.size:=
    ⟨iM a2 (p:=⟨J,0,none⟩) _ (by dsimp only;omega),iM a8 (p:=⟨J,0,none⟩) _ (by dsimp only;omega),lz,
     by rw[HN.out];simp only[eg];exact cN fT.aw o9 t (by decide) 0 _,
     by simp only[eg];exact gO.aw.wide (cN gO.aw bz t (by decide) 0 _) (am _) (da z6 z9),
     by simp only[eg];exact fU.aw.wide (cN fU.aw a6 t (by decide) 0 _) (am _) (da z6 z9),
     b1.setCell (by dsimp only;omega) _,a0,by simp only[eg];omega,am _,am _,by simp only[eg];omega⟩
   have bb:=ab L;clear L lz bz a6 d a2 a8 t;go_wp2;go_roundw
   case rel=>exact⟨k+1,_,by omega,by go_num,bb.out⟩
   simp[intOf];omega
  .obtain rfl:k=s.pk.length:=by omega
   rw[gt] at o;obtain⟨Ap,cS⟩:∃A,A=Ao:=⟨_,rfl⟩;obtain⟨cp,ck⟩:∃c,c=co:=⟨_,rfl⟩;subst cS ck;have n:=ab o;clear o;go_wp2;clear dV;go_loopw [5] (λii wr=>∃(k:Nat) (vo:Value),k<=s.sn.length/\ii=.int .i64 k/\afG w wr w.heap.size A B C a b c s J (.slice Ap s.pk.length cp) vo (.slice Cl s.lg.length cl) s.pk (s.sn.take k) wr.heap.size) (λii _=>s.sn.length-(intOf ii).toNat)
   case atStart=>exact⟨0,_,fa _,rfl,n.out⟩
   case round=>
    clear n;obtain⟨k,vo,I,rfl,o⟩:=hrel;obtain⟨Ao,co,rfl⟩:=o.os.form;have G:(s.sn.take k).length=k:=by rw[fi,qW I]
    rw[G] at o;have dV:wr.cell? ⟨w.heap.size,1,none⟩=some (.slice B s.sn.length b):=o.k0.cell 1;by_cases aY:k<s.sn.length
    .obtain⟨y,dI⟩:=aq aY;have jZ:=pI (f:=bSn) (be dI);have dB:dS bLs y.all=bSn y:=rfl;have e2:y.all.length<=dS bLs y.all:=jh;obtain⟨b',M,es,e0,e1,cO,_,⟨v2,rfl,ax,Y⟩,u⟩:=(iK.loc.below h2 o.bl bG).at_ dI;subst e0;obtain⟨A2,c2,rfl⟩:=cR.form Y;obtain⟨_,dr,cy⟩:=Y.len_;unfold maxLen at cy;have ad:wr.cell? ⟨b',M+k*2,none⟩=some (.int .i64 y.no):=by simpa using u 0 _ rfl
     have aa:wr.cell? ⟨b',M+k*2+1,none⟩=some (.slice A2 y.all.length c2):=by simpa using u 1 _ rfl
     have eM:=mu dI;have HN:=ab eM;have W:=ab G;have HY:=ab dI;have n:=ab o;have zr:=o.bl.size;clear u dI eM G Y o;go_wp2;obtain⟨H,d4⟩:∃H,H=wr:=⟨_,rfl⟩;subst d4;generalize hG:(H.alloc (.cells #[] 65)).alloc (.cells #[.int .i64 y.no,.slice (some ⟨H.heap.size,0,none⟩) 0 0] 37)=w2 at *;obtain⟨jB,e8,n0,cr,d2,n1,ao,cq⟩:=ahB hG;clear hG;have bn:=n.out.below jB;have bF:=ab bn;have Z:gM w2 H.heap.size w2.heap.size [] [.slice (some ⟨H.heap.size,0,none⟩) 0 0]:=eD.acE ⟨_,rfl,am _,n0⟩ (am _);have HST:=ab (And.intro Z n1);clear n bn ad aa dV n0 n1 cr ao d2 cq Z;go_loopw [7] (λii wr=>∃(j:Nat) (va:Value),j<=y.all.length/\ii=.int .i64 j/\gM wr H.heap.size wr.heap.size (y.all.take j) [va]/\bW wr (H.heap.size+1) 37 #[.int .i64 y.no,va]/\afG w wr w.heap.size A (some ⟨b',M,none⟩) C a b c s J (.slice Ap s.pk.length cp) (.slice Ao k co) (.slice Cl s.lg.length cl) s.pk (s.sn.take k) H.heap.size) (λii _=>y.all.length-(intOf ii).toNat)
     case atStart=>exact⟨0,_,fa _,rfl,HST.out.1,HST.out.2,bF.out⟩
     case round=>
      clear HST bF;obtain⟨j,va,hj,rfl,Q,a1,o⟩:=hrel;obtain⟨Av,cv,rfl⟩:=Q.form;have G:(y.all.take j).length=j:=by rw[fi,qW hj]
      rw[G] at Q a1;have dV:wr.cell? ⟨w.heap.size,1,none⟩=some (.slice (some ⟨b',M,none⟩) s.sn.length b):=o.k0.cell 1;have zx:=o.hH;have zw:=o.bl.size;obtain⟨b2,nP,es,e0,_,_,_,⟨v2,rfl,ec,Y⟩,u⟩:=(iK.loc.below h2 o.bl bG).at_ HY.out;simp only[lw,qo,qk] at e0;obtain⟨rfl,rfl⟩:=e0;obtain⟨A3,c3,rfl⟩:=cR.form Y;obtain⟨_,dQ,ct⟩:=Y.len_;unfold maxLen at ct;have b9:wr.cell? ⟨b',M+k*2+1,none⟩=some (.slice A3 y.all.length c3):=by simpa using u 1 _ rfl
      clear u;by_cases cb:j<y.all.length
      .obtain⟨z,al⟩:=aq cb;have ow:=pI (f:=bLs) (be al);have e7:z.ns.length<=bLs z:=Nat.le_add_left _ _;obtain⟨b3,bP,es,e0,_,_,_,⟨v4,rfl,d8,a5⟩,u⟩:=Y.at_ al;subst e0;obtain⟨A4,c4,rfl⟩:=cR.form a5;have cV:wr.cell? ⟨b3,bP+j*2,none⟩=some (.string z.p):=by simpa using u 0 _ rfl
       have d6:wr.cell? ⟨b3,bP+j*2+1,none⟩=some (.slice A4 z.ns.length c4):=by simpa using u 1 _ rfl
       have eM:=mu al;have d0:=ab eM;have bk:=ab G;have a4:=ab o;replace Q:=ab Q;replace a5:=ab a5;clear u al eM G Y o;go_wp2;generalize hG:wr.alloc (.cells #[.string z.p,.slice A4 z.ns.length c4] 65)=wa at *;obtain⟨fR,e6,q0,b0,ca⟩:=iB hG;clear hG;have bt:=a4.out.below fR;have bY:=gM.aw.below Q.out fR (am _);have b8:=av a1 fR;have bi:=alj.loc.below a5.out fR (by omega);have N:=ab (mz (F:=ie) bi (by have:=fR.size;omega));have cw:=ab bi.akN;have bT:=ab bt;have c9:=ab bY;have ao:wa.cell? ⟨H.heap.size+1,1,none⟩=some (.slice Av j cv):=b8.cell 1;have bo:=b0 0;have bp:=b0 1;have c1:=fR.size;clear a4 Q a5 bt bY bi cV d6 b9 dV a1 fR;have aJ:=aj ao;have aL:=aj bo;have cB:=aj bp;refine bB 10 [0,1,2,3,5,6] [4,7,8,9] (h:= ?_);simp only[pick,List.map,pa,pb];repeat(go_big_quiet_step (fail))
       refine iS ?_;clear aJ aL cB;apply Exists.intro;apply bN (eD wa.heap.size 3)
       .rfl
       .exact λv x y h m=>h.keep m
       .intro x _ Qx r;have R:=ab r;clear r;go_wp2;exact R.out _ _ (aB _ _) (eD.new _ _ x.ok.size)
       intro u4;apply bN (λv w'=>aD ie 3 w' wa.heap.size v z.ns)
       .rfl
       .exact λv x y h m=>h.below m
       .intro x K Qx R;have hL:=K.1 (by kernel_rfl);exact ai0 rfl (.tmp 82) (.tmp 84) 43 rfl oH (am _) rfl rfl hL N.out (by omega) λv' x' m ho=>R v' x'.to m ho
       intro u7;apply bN (λv w'=>∃A c,v=.agg #[.string z.p,.slice A z.ns.length c]/\aD ie 3 w' wa.heap.size (.slice A z.ns.length c) z.ns)
       .rfl
       .exact λv x y ⟨A,c,e,h⟩ m=>⟨A,c,e,h.below m⟩
       .intro x K Qx r;have R:=ab r;clear r;have ho:=K.1 (by kernel_rfl);obtain⟨A5,c5,rfl⟩:=ho.form;go_wp2;exact R.out _ _ (ff _ _) ⟨_,_,rfl,ho⟩
       intro u8;apply bN (λv w'=>∃g A c,v=.slice (some ⟨g,0,none⟩) 1 1/\bW w' g 65 #[.string z.p,.slice A z.ns.length c]/\aD ie 3 w' wa.heap.size (.slice A z.ns.length c) z.ns)
       .rfl
       .exact λv x y ⟨g,A,c,e,I,h⟩ m=>⟨g,A,c,e,av I m,h.below m⟩
       .intro x K Qx r;have R:=ab r;clear r;obtain⟨A5,c5,rfl,ho⟩:=K.1 (by kernel_rfl);go_wp2;have ba:=aB x.to (.cells #[.string z.p,.slice A5 z.ns.length c5] 65);exact R.out _ _ ba ⟨_,_,_,rfl,bW.new _ _ _,ho.below ba⟩
       intro u9;refine dD ?_;intro w6 ni xx kR K;dsimp only[iZ] at K;try rw[kR] at K
       clear kR xx;obtain⟨⟨g8,A8,c8,rfl,V,o8⟩, -⟩:=K;simp only[List.drop];have a3:=bT.out.below ni;have af:=gM.aw.below c9.out ni c1;have bw:=av b8 ni;have z6:=ni.size;have aU:Hid (OLs w6 wa.heap.size w6.heap.size z [.string z.p,.slice A8 z.ns.length c8]):=ab ⟨_,rfl,d8,o8.acE (λx hx=>cw.out x hx) (by omega) λg hg=>(o8.at_ hg).2⟩;replace V:=ab V;have q:=ab a3;replace af:=ab af;clear bT c9 ni o8 a3 N b8 ao bo bp q0 b0 ca;go_wp2_with(at_builtin;refine lL ?_);refine⟨?_,trivial⟩;refine kY OLs.aw (by decide) (v:=.slice Av j cv) rfl (.tmp 79) (.tmp 87) 35 rfl anC z rfl af.out rfl V.out rfl (by simp[Value.oneCell']) (show wr.heap.size<=w6.heap.size by omega) (OLs.aw.wide aU.out c1 (am _)) (am _) (by have:=bk.out;omega) (by omega) ?_;intro v9 X o9 E br;obtain⟨S,O,rfl⟩:=o9.form;rw[ap,nf,bk.out] at o9;rw[ap,nf,bk.out];have d:=af.out;have z9:=E.size;have a9:=dy d E bw (by decide);have e9:X.cell? ⟨H.heap.size+1,1,none⟩=some (.slice Av j cv):=a9.cell 1;have ee:=a9.frozen 1;have lz:=a9.bZ 1 (.slice S (j+1) O);simp only[db,fd,ga] at lz;have a0:=q.out.gm1;have c7:=q.out.gmr;have L:afG w (X.setCell ⟨H.heap.size+1,1,none⟩ (.slice S (j+1) O)) w.heap.size _ _ C a b c s J (.slice Ap s.pk.length cp) (.slice Ao k co) (.slice Cl s.lg.length cl) s.pk (s.sn.take k) H.heap.size:=
        ⟨iM (dy d E q.out.k0 (by decide)) (p:=⟨H.heap.size+1,1,none⟩) _ (by dsimp only;omega),iM (dy d E q.out.k1 (by decide)) (p:=⟨H.heap.size+1,1,none⟩) _ (by dsimp only;omega),iM (dy d E q.out.m (by decide)) (p:=⟨H.heap.size+1,1,none⟩) _ (by dsimp only;omega),
         ahO fT.aw (ji d E fT.aw q.out.op (by decide)) (by omega),ahO gO.aw (gO.aw.eY q.out.os E λb _ hb _ hs=>by have:=d.ob hs;omega) (by omega),ahO fU.aw (ji d E fU.aw q.out.ol (by decide)) (by omega),
         (q.out.bl.trans (E.below q.out.bl.size λi hi hs=>by have:=d.ob hs;omega)).setCell (by dsimp only;omega) _,a0,by simp only[eg];have:=q.out.gm2;omega,am _,by simp only[eg];have:=q.out.hH;omega,c7⟩
       have bl:gM (X.setCell ⟨H.heap.size+1,1,none⟩ (.slice S (j+1) O)) H.heap.size (X.setCell ⟨H.heap.size+1,1,none⟩ (.slice S (j+1) O)).heap.size (y.all.take (j+1)) [.slice S (j+1) O]:=by
        rw[d0.out];simp only[eg];exact cN gM.aw o9 a9 (by decide) 1 _
       have d1:=ab L;replace bl:=ab bl;have d5:=ab lz;clear L lz d a9 bw;go_wp2;go_roundw
       case rel=>exact⟨j+1,_,by omega,by go_num,bl.out,d5.out,d1.out⟩
       simp[intOf];omega
      .obtain rfl:j=y.all.length:=by omega
       rw[gt] at Q;have cn:wr.cell? ⟨H.heap.size+1,0,none⟩=some (.int .i64 y.no):=a1.cell 0;have cz:wr.cell? ⟨H.heap.size+1,1,none⟩=some (.slice Av y.all.length cv):=a1.cell 1;have ce:wr.cell? ⟨J,1,none⟩=some (.slice Ao k co):=o.m.cell 1;have a4:=ab o;replace Q:=ab Q;clear o;go_wp2_with(at_builtin;refine lL ?_);refine⟨?_,trivial⟩;have bx:=aB wr (.cells #[.int .i64 y.no,.slice Av y.all.length cv] 37);have bS:=a4.out.below bx;have cG:=bW.new wr 37 #[.int .i64 y.no,.slice Av y.all.length cv];have c6:=gM.aw.below Q.out bx (am _);generalize wr.alloc (.cells #[.int .i64 y.no,.slice Av y.all.length cv] 37)=w6 at *;have z6:=bx.size;have q:=ab bS;have cW:Hid (OSn w6 H.heap.size w6.heap.size y [.int .i64 y.no,.slice Av y.all.length cv]):=ab ⟨_,rfl,ax,gM.aw.wide c6 (am _) z6⟩;clear bS c6 a4 Q cn cz ce a1 b9 Y;refine kY OSn.aw (by decide) (v:=.slice Ao k co) rfl (.tmp 91) (.tmp 93) 24 rfl anD y rfl q.out.os rfl cG rfl (by simp[Value.oneCell']) (show H.heap.size<=w6.heap.size by omega) cW.out (am _) (by have:=W.out;omega) (by omega) ?_;intro v9 X o9 E br;obtain⟨S,O,rfl⟩:=o9.form;rw[ap,nf,W.out] at o9;rw[ap,nf,W.out];have d:=q.out.os;have t:=dy d E q.out.m (by decide);have a2:=dy d E q.out.k0 (by decide);have a8:=dy d E q.out.k1 (by decide);have bL:=ji d E fT.aw q.out.op (by decide);have a6:=ji d E fU.aw q.out.ol (by decide);have b1:Below w.heap.size w X:=q.out.bl.trans (E.below q.out.bl.size λi hi hs=>by have:=d.ob hs;omega);have cC:X.cell? ⟨J,1,none⟩=some (.slice Ao k co):=t.cell 1;have cx:=t.frozen 1;have z9:=E.size;have a0:=q.out.gm1;have d7:=q.out.gm2;have e3:=q.out.hH;have c7:=q.out.gmr;have lz:=t.bZ 1 (.slice S (k+1) O);simp only[db,fd,ga] at lz;have L:afG w (X.setCell ⟨J,1,none⟩ (.slice S (k+1) O)) w.heap.size _ _ C a b c s J (.slice Ap s.pk.length cp) (.slice S (k+1) O) (.slice Cl s.lg.length cl) s.pk (s.sn.take (k+1)) (X.setCell ⟨J,1,none⟩ (.slice S (k+1) O)).heap.size:=
        ⟨iM a2 (p:=⟨J,1,none⟩) _ (by dsimp only;omega),iM a8 (p:=⟨J,1,none⟩) _ (by dsimp only;omega),lz,
         by simp only[eg];exact fT.aw.wide (cN fT.aw bL t (by decide) 1 _) (am _) (by omega),
         by rw[HN.out];simp only[eg];exact cN gO.aw o9 t (by decide) 1 _,
         by simp only[eg];exact fU.aw.wide (cN fU.aw a6 t (by decide) 1 _) (am _) (by omega),
         b1.setCell (by dsimp only;omega) _,a0,by simp only[eg];omega,am _,am _,by simp only[eg];omega⟩
       have bb:=ab L;clear L lz bL a6 d a2 a8 t;go_wp2;go_roundw
       case rel=>exact⟨k+1,_,by omega,by go_num,bb.out⟩
       simp[intOf];omega
    .obtain rfl:k=s.sn.length:=by omega
     rw[gt] at o;have a7:=o.k1.cell;have an:=o.k1.frozen;have eb:=o.m.cell;have n:=ab o;have zr:=o.bl.size;clear o;go_wp2;have a0:=n.out.gm1;have b5:∀(u1 u2 u3:Value) {β:Type} {D:gF β} {T:List TypeId} {y:β} {cs:List Value},eE D T->27∉T->D wr w.heap.size wr.heap.size y cs->D (((wr.setCell ⟨w.heap.size+1,0,none⟩ u1).setCell ⟨w.heap.size+1,1,none⟩ u2).setCell ⟨w.heap.size+1,2,none⟩ u3) w.heap.size (((wr.setCell ⟨w.heap.size+1,0,none⟩ u1).setCell ⟨w.heap.size+1,1,none⟩ u2).setCell ⟨w.heap.size+1,2,none⟩ u3).heap.size y cs:=λu1 u2 u3 {_ _ _ _ _} hD hT hy=>by
      simp only[eg];exact hD.go (λb _ _ hb=>by
       have aP:b≠w.heap.size+1:=by rintro rfl;exact mA n.out.k1 hT hb
       rw[qs _ _ _ _ aP,qs _ _ _ _ aP,qs _ _ _ _ aP]) (am _) (am _) hy
     refine ph (v:=.agg #[.slice Ap s.pk.length cp,.slice Ao s.sn.length co,.slice Cl s.lg.length cl]) (by simp[results,results64,go_sem,a7]) rfl ⟨_,_,_,rfl,⟨b5 _ _ _ fT.aw (by decide) n.out.op,b5 _ _ _ gO.aw (by decide) n.out.os,b5 _ _ _ fU.aw (by decide) n.out.ol⟩, ?_⟩;exact((n.out.bl.setCell (by dsimp only;omega) _).setCell (by dsimp only;omega) _).setCell (by dsimp only;omega) _
end
section
variable {β:Bool}
open Go.RowKit
def fI(key:Int)(f:Nd):Ls:=⟨f.p,(fO f.b).map λp=>bm key (bs p)⟩
def jJ(no key:Int)(t:List Nd):Sn:=⟨no,t.map (fI key)⟩
def aAb(w:World)(s:Sn)(e:Ending)(w':World):Prop:=∃v,e=.returned (.agg #[.int .i64 s.no,v])/\gM w' w.heap.size w'.heap.size s.all [v]/\Below w.heap.size w w'
theorem ao8(no key:Int)(hk:1<=key/\key<=99)(c4:cA no)(t:List Nd)(ht:∀x∈t,dw x.b=true)(hl:t.length<=1000)(vt:Value)(w:World)(lo hi:Nat)(bG:hi<=w.heap.size)(h1:eF w lo hi t [vt]) :
  Calls (ah β) 69 #[.int .i64 no,.int .i64 key,vt] w (aAb w (jJ no key t)):=by
 have HT:=ab ht;clear ht;have HK:=ab hk;obtain⟨A,c,rfl⟩:=h1.form;obtain⟨_,hc,K⟩:=h1.len_;unfold maxLen at K;go_enter yL,ntmps69;go_wp2;generalize hG:((w.alloc (.cells #[.int .i64 0,.slice none 0 0] 37)).alloc (.cells #[] 65)).alloc (.cells #[.int .i64 no,.slice (some ⟨w.heap.size+1,0,none⟩) 0 0] 37)=w0 at *;obtain⟨aM,jU,B,dV,gz,k1,bt,bn,P,a5,bp⟩:=az1 hG;clear hG;obtain⟨all,n⟩:∃all,all=(jJ no key t).all:=⟨_,rfl⟩;have b9:all.length=t.length:=by rw[n];exact pe _
 have jF:=ab n;clear n;have a1:gM w0 w.heap.size w0.heap.size [] [.slice (some ⟨w.heap.size+1,0,none⟩) 0 0]:=eD.acE ⟨_,rfl,by omega,k1⟩ (am _);have H0:=ab (And.intro a1 (And.intro B (And.intro P aM)));clear a1 B k1 P dV bt a5 gz bn bp aM;go_loopw [8] (λii wr=>∃(k:Nat) (va:Value),k<=t.length/\ii=.int .i64 k/\gM wr w.heap.size wr.heap.size (all.take k) [va]/\bW wr w.heap.size 37 #[.int .i64 0,.slice none 0 0]/\bW wr (w.heap.size+1+1) 37 #[.int .i64 no,va]/\Below w.heap.size w wr) (λii _=>t.length-(intOf ii).toNat)
 case atStart=>exact⟨0,_,fa _,rfl,H0.out.1,H0.out.2.1,H0.out.2.2.1,H0.out.2.2.2⟩
 case round=>
  clear H0;obtain⟨k,va,c6,rfl,z,B,P,L⟩:=hrel;obtain⟨H,bu⟩:∃H,H=wr:=⟨_,rfl⟩;subst bu;obtain⟨Av,cv,rfl⟩:=z.form;have X:(all.take k).length=k:=by rw[fi,qW (by omega)]
  rw[X] at z P;by_cases ba:k<t.length
  .obtain⟨f,q⟩:=aq ba;have M:=fD (HT.out f (be q));have o:=eF.aw.below h1 L bG;obtain⟨b1,c1,rfl,_,bS,b8,lK,bw⟩:=jI o q;have b0:all[k]?=some (fI key f):=by rw[jF.out];show(t.map (fI key))[k]?=_;rw[qE,q];rfl
   have eC:=mu b0;have jG:=ab eC;have U:=ab X;have a3:=jg M.2;have jS:=abH f.b;have c7:=M.1;have HA:=ab a3;have HC:=ab (acC (β:=β) f.b (by omega));have C:=ab z;have bF:=ab b8;have ad:=ab q;clear q o M b0 eC a3 X z;go_wp2;refine(HC.out H).mono ?_;rintro e E ⟨v1,rfl,op,T⟩;clear HC;obtain⟨Ap,cp,rfl⟩:=op.form;have I:=(op.deep (λx K=>kX (HA.out x K)) H.heap.size).sl (am _);have zo:=L.size;have z1:=T.size;obtain⟨d,s⟩:∃d,d=(fO f.b).map λp=>bm key (bs p):=⟨_,rfl⟩;have ao:fI key f=⟨f.p,d⟩:=by rw[s];rfl
   rw[ao] at jG;clear ao;revert s;revert HA;revert jS;revert I;generalize fO f.b=ps;intro I jS HA s;have V:=ab s;clear s;go_wp2;have b2:=aB E (.cells #[] 3);have a0:aD ie 3 (E.alloc (.cells #[] 3)) E.heap.size (.slice (some ⟨E.heap.size,0,none⟩) 0 0) []:=(eD.new E 3 (am _)).own 1;have al:=cH.aw.below I b2 (am _);have b3:=ae T b2;have br:=b2.size;have HO:=ab a0;have HR:=ab al;have HB:=ab b3;clear a0 I al op b2 b3 lK bw T;generalize E.alloc (.cells #[] 3)=w2 at *;go_loopw [10,11] (λnn jj wr=>∃j:Nat,j<=ps.length/\jj=.int .i64 j/\aD ie 3 wr E.heap.size nn (d.take j)/\Below H.heap.size H wr/\cH wr H.heap.size E.heap.size ps [.slice Ap ps.length cp]/\E.heap.size<=wr.heap.size) (λ_ jj _=>ps.length-(intOf jj).toNat)
   case atStart=>exact⟨0,fa _,rfl,HO.out,HB.out,HR.out,br⟩
   case round=>
    clear HO HB HR;obtain⟨j,bO,rfl,J,a,hr,hz⟩:=hrel;have bL:d.length=ps.length:=by rw[V.out,pe]
    have W:(d.take j).length=j:=by rw[fi,qW (by omega)]
    obtain⟨Ao,co,rfl⟩:=J.form;rw[W] at J ⊢;by_cases bi:j<ps.length
    .obtain⟨p,D⟩:=aq bi;have bz:=HA.out p (be D);obtain⟨b2,nP,rfl,bP,c3,c2,bf⟩:=iO hr D;have b6:d[j]?=some (bm key (bs p)):=by rw[V.out,qE,D];rfl
     have eC:=mu b6;have N:=ab eC;have b5:=ab W;have S:=ab (mV (β:=β) key p HK.out bz wr);have HR:=ab hr;have m:=lH (key:=key) (l:=bs p);revert S N m;generalize bm key (bs p)=nv;intro N S m;clear b6 eC hr D W;go_wp2;refine S.out.mono ?_;rintro e w3 ⟨rfl,rfl⟩;go_wp2_with(at_builtin;refine bR (F:=ie) (v:=.slice Ao j co) rfl (.tmp 34) (.tmp 41) 43 rfl oH nv rfl J rfl rfl (by have:=b5.out;omega) hz ?_;intro va wa oa Q bT;obtain⟨Aa,ca,rfl⟩:=oa.form;simp only[ap,fm,me,ls,b5.out] at oa);go_roundw
     case rel=>
      refine⟨j+1,by omega,by go_num,by rw[N.out];simpa using oa,a.trans (Q.below a.size λi hi K=>by have:=(J.at_ K).1;omega),cH.aw.eY HR.out Q λb _ L _ hs=>by have:=(J.at_ hs).1;omega,da hz Q.size⟩
     case measure=>simp[intOf];omega
    .obtain rfl:j=ps.length:=by omega
     have an:d.take ps.length=d:=by rw[<-bL,gt]
     rw[an] at J;have o:=eF.aw.below h1 (ae L a) bG;have m:∀x∈d,ie.good x:=λx K=>by
      rw[V.out] at K;obtain⟨p,_,rfl⟩:=mx.1 K;have:=lH (key:=key) (l:=bs p);show cA _;unfold cA;omega
     have fS:=av B a;have R:=av P a;have z:=gM.aw.below C.out a (am _);obtain⟨b3,bY,e0,_,_,_,a4,_⟩:=jI o ad.out;simp only[lw,qo,qk] at e0;obtain⟨rfl,rfl⟩:=e0;have a9:wr.cell? ⟨w.heap.size+1+1,1,none⟩=some (.slice Av k cv):=R.cell 1;have zr:=a.size;have a2:=ab z;have HO:=ab J;have bl:=ab m;have aU:=ab fS;have ax:=ab R;have HB:=ab (ae L a);clear z J m fS R o hr C B P L a an ad;go_wp2;have aJ:=aj a9;have aL:=aj a4;refine bB 10 [0,1,2,3,4,5,6,7] [8,9] (h:= ?_);simp only[pick,List.map,pa,pb];repeat(go_big_quiet_step (fail))
     refine iS ?_;clear aJ aL;apply Exists.intro;apply kQ (.agg #[.string f.p,.slice Ao ps.length co])
     .intro y Z Qx r;have hQ:=ab r;clear r Z;go_wp2;exact hQ.out _ (ff _ _)
     apply bN (λv w'=>∃g,v=.slice (some ⟨g,0,none⟩) 1 1/\bW w' g 65 #[.string f.p,.slice Ao ps.length co])
     .rfl
     .exact λv x y ⟨g,e,hk⟩ hle=>⟨g,e,av hk hle⟩
     .intro x Z Qx r;have hQ:=ab r;clear r;go_wp2;exact hQ.out _ _ (aB _ _) ⟨_,rfl,bW.new _ _ _⟩
     intro u9;refine dD ?_;intro w6 O xx kR Z;dsimp only[iZ] at Z;try rw[kR] at Z
     clear kR xx;obtain⟨⟨g8,rfl,aY⟩, -⟩:=Z;simp only[List.drop];have z6:=O.size;have ay:=gM.aw.below a2.out O zr;have o8:=(HO.out.below O).base z1;have b7:Hid (OLs w6 H.heap.size w6.heap.size ⟨f.p,d⟩ [.string f.p,.slice Ao ps.length co]):=ab ⟨_,rfl,bF.out.1,o8.acE bl.out (by omega) λg hg=>(o8.at_ hg).2⟩;have bo:=ab aY;have aP:=ab ay;have bx:=ab (av aU.out O);have bb:=ab (av ax.out O);have a6:=ab (ae HB.out O);clear a2 HO O o8 aY ay aU ax HB a9 a4;go_wp2_with(at_builtin;refine lL ?_);refine⟨?_,trivial⟩;refine kY OLs.aw (by decide) (v:=.slice Av k cv) rfl (.tmp 44) (.tmp 52) 35 rfl anC ⟨f.p,d⟩ rfl aP.out rfl bo.out rfl (by simp[Value.oneCell']) (show H.heap.size<=w6.heap.size by omega) b7.out (am _) (by have:=U.out;omega) (by omega) ?_;intro v9 w9 o9 kJ c0;obtain⟨A9,Y,rfl⟩:=o9.form;rw[ap,nf,U.out] at o9;rw[ap,nf,U.out];have G:=aP.out;have z9:=kJ.size;have u:=dy G kJ bb.out (by decide);have af:=dy G kJ bx.out (by decide);have c5:w9.cell? ⟨w.heap.size+1+1,1,none⟩=some (.slice Av k cv):=u.cell 1;have c8:=u.frozen 1;have lz:=u.bZ 1 (.slice A9 (k+1) Y);simp only[db,fd,ga] at lz;have a8:gM (w9.setCell ⟨w.heap.size+1+1,1,none⟩ (.slice A9 (k+1) Y)) w.heap.size (w9.setCell ⟨w.heap.size+1+1,1,none⟩ (.slice A9 (k+1) Y)).heap.size (all.take (k+1)) [.slice A9 (k+1) Y]:=by
      rw[jG.out];simp only[eg];exact cN gM.aw o9 u (by decide) 1 _
     have a7:Below w.heap.size w (w9.setCell ⟨w.heap.size+1+1,1,none⟩ (.slice A9 (k+1) Y)):=(a6.out.trans (kJ.below a6.out.size λi hi hs=>by have:=G.ob hs;omega)).setCell (by dsimp only;omega) _;have aa:=iM af (p:=⟨w.heap.size+1+1,1,none⟩) (.slice A9 (k+1) Y) (by dsimp only;omega);have HF:=ab (And.intro a8 (And.intro aa (And.intro lz a7)));clear a8 aa lz a7 G u af;go_wp2;go_roundw
     case rel=>exact⟨k+1,_,by omega,by go_num,HF.out.1,HF.out.2.1,HF.out.2.2.1,HF.out.2.2.2⟩
     case measure=>simp[intOf];omega
  .obtain rfl:k=t.length:=by omega
   have b4:all.take t.length=all:=by rw[<-b9,gt]
   rw[b4] at z;have a5:=P.cell;have gz:=B.frozen;have dV:=B.cell;have C:=ab z;clear z b4;go_wp2;have k4:=(B.bZ 0 (.int .i64 no)).bZ 1 (.slice Av t.length cv);simp only[db,fd,ga] at k4;have bk:=k4.cell;refine ph (v:=.agg #[.int .i64 no,.slice Av t.length cv]) (by simp[results,results69,go_sem,bk]) rfl ⟨_,rfl, ?_,(L.setCell (by simp) _).setCell (by simp) _⟩;rw[<-jF.out];simp only[eg];exact cN gM.aw (cN gM.aw C.out B (by decide) 0 _) (B.bZ 0 _) (by decide) 1 _
end
section
variable {β:Bool}
open Go.RowKit
def kF(x:It):List It->List It
 |[]=>[x]
 |y::l=>if x.n<y.n then x::y::l else y::kF x l
def agt{x:It}:∀{a:List It},(∀y∈a,¬x.n<y.n)->kF x a=a++[x]
 |[],_=>rfl
 |y::a,h=>by
  show(if x.n<y.n then _ else _)=_;rw[bd (h y (by simp)),agt λz b=>h z (by simp[b])];rfl
def aje{x z:It}:∀{a:List It},(∀y∈a,¬x.n<y.n)->x.n<z.n->kF x (a++[z])=a++[x]++[z]
 |[],_,b=>by show(if x.n<z.n then _ else _)=_;rw[dj b];rfl
 |y::a,h,b=>by
  show(if x.n<y.n then _ else _)=_;rw[bd (h y (by simp))];show y::kF x (a++[z])=_;rw[aje (λz b=>h z (by simp[b])) b];rfl
def ajf{x z:It}:∀{a:List It},(∃y∈a,x.n<y.n)->kF x (a++[z])=kF x a++[z]
 |[],h=>by obtain⟨y,b,_⟩:=h;cases b
 |y::a,h=>by
  show(if x.n<y.n then _ else _)=(if x.n<y.n then _ else _)++_;by_cases b:x.n<y.n
  .rw[dj b,dj b];rfl
  .rw[bd b,bd b];show y::kF x (a++[z])=y::(kF x a++[z]);rw[ajf];obtain⟨u,d,c⟩:=h;rcases mc.1 d with rfl|d
   .exact absurd c b
   .exact⟨u,d,c⟩
def aeW(x:It):∀l:List It,(kF x l).length=l.length+1
 |[]=>rfl
 |y::l=>by
  show(if x.n<y.n then _ else _:List It).length=_;split
  .rfl
  .show(kF x l).length+1=_;rw[aeW x l];rfl
def ajg{x z:It}:∀{l:List It},z∈kF x l↔z=x\/z∈l
 |[]=>by show z∈[x]↔_;simp
 |y::l=>by
  show z∈(if x.n<y.n then _ else _)↔_;split
  .simp
  .rw[mc,ajg,mc];constructor
   .rintro(h|h|h)<;>simp[h]
   .rintro(h|h|h)<;>simp[h]
def abO(x:It)(a:List It)(b:Bool)(o:List It):Prop:=(b=false/\o=a/\∀y∈a,¬x.n<y.n)\/(b=true/\o=kF x a/\∃y∈a,x.n<y.n)
def ao9{b:Bool}(h:abO x a b o):o.length<=a.length+1:=by
 rcases h with⟨_,rfl,_⟩|⟨_,rfl,_⟩
 .omega
 .rw[aeW];exact am _
def apa(h:abO x a false o)(b:x.n<z.n):abO x (a++[z]) true (o++[x]++[z]):=by
 rcases h with⟨_,rfl,h⟩|⟨h,_⟩
 .exact .inr ⟨rfl,(aje h b).symm,z,by simp,b⟩
 .cases h
def arI(h:abO x a false o)(c:¬x.n<z.n):abO x (a++[z]) false (o++[z]):=by
 rcases h with⟨_,rfl,h⟩|⟨h,_⟩
 .exact .inl ⟨rfl,rfl,λy b=>by
   rcases jt.1 b with b|b
   .exact h y b
   .rw[gE.1 b];exact c⟩
 .cases h
def alq(h:abO x a true o):abO x (a++[z]) true (o++[z]):=by
 rcases h with⟨h,_⟩|⟨_,rfl,y,c,b⟩
 .cases h
 .exact .inr ⟨rfl,(ajf ⟨y,c,b⟩).symm,y,by simp[c],b⟩
def apb{b:Bool}(h:abO x a b o):(b=false/\kF x a=o++[x])\/(b=true/\kF x a=o):=by
 rcases h with⟨c,rfl,h⟩|⟨c,rfl,_⟩
 .exact .inl ⟨c,agt h⟩
 .exact .inr ⟨c,rfl⟩
def aAh(w:World)(ys:List It)(e:Ending)(w':World):Prop:=∃v,e=.returned v/\aD nV 59 w' w.heap.size v ys/\Below w.heap.size w w'
def apc(x:It)(a2:nV.good x)(xs:List It)(v:Value)(w:World)(lo hi:Nat)(bG:hi<=w.heap.size)(h:gK w lo hi xs [v])(hl:xs.length<=1000000) :
  Calls (ah β) 125 #[v,.agg #[.int .i64 x.n,.string x.b]] w (aAh w (kF x xs)):=by
 obtain⟨A,c,rfl⟩:=h.form;obtain⟨_,hc,hx⟩:=h.len_;unfold maxLen at hx;go_enter ye,ntmps125;go_wp2;generalize V:(w.alloc (.cells #[.int .i64 x.n,.string x.b] 59)).alloc (.cells #[] 59)=w0 at *;obtain⟨C,jU,k0,dV,gz,H,u,I⟩:=ahB V;clear V;have D:w.heap.size+1<=w0.heap.size:=by omega
 have g0:=gK.aw.below h C bG;have W:aD nV 59 w0 (w.heap.size+1) (.slice (some ⟨w.heap.size+1,0,none⟩) 0 0) []:=aD.aaM ⟨_,rfl,am _,H⟩;go_loopw [5,6,7] (λoo pp U wr=>∃(k:Nat) (b:Bool) (o:List It),k<=xs.length/\pp=.bool b/\U=.int .i64 k/\aD nV 59 wr (w.heap.size+1) oo o/\abO x (xs.take k) b o/\bJ (λb=>w.heap.size+1<=b) w0 wr) (λ_ _ U _=>xs.length-(intOf U).toNat)
 case atStart=>exact⟨0,false,[],fa _,rfl,rfl,W,.inl ⟨rfl,rfl,λy hy=>(by cases hy)⟩,bJ.refl _ _⟩
 case round=>
  clear W H u I;obtain⟨k,b,o,hk,rfl,rfl,s,g,a⟩:=hrel;replace g:=ab g;obtain⟨r,t,rfl⟩:=s.form;have pE:=ao9 g.out;rw[fi] at pE;have g1:gK wr lo hi xs [.slice A xs.length c]:=gK.aw.eY g0 a λb _ h2 _ h3=>by omega
  have H:=bQ k0 a (by omega);have u:=H.cell;have I:=H.frozen;by_cases Q:k<xs.length
  .obtain⟨z,n⟩:=aq Q;obtain⟨b1,a4,rfl,a7,a5,a0,cn,cb⟩:=aeK g1 n;replace n:=ab n;have P:=ab (mu n.out);cases b with
   |true=>
    have E:=ab (alq (z:=z) g.out);go_wp2
    go_quiet (fail)
    have m:aD nV 59 (wr.drewN nq) (w.heap.size+1) (.slice r o.length t) o:=s;go_wp2_with(at_builtin;refine bR (F:=nV) (v:=.slice r o.length t) rfl (.tmp 31) (.tmp 36) 60 rfl pF z rfl m rfl rfl (by first|omega|(simp only[ap,fm,me];omega)) (da D (a.drewN nq).size) ?_;intro R B f p q;obtain⟨G,J,rfl⟩:=f.form;simp only[ap,fm,me,ls] at f;skip);have d:bJ (λb=>w.heap.size+1<=b) w0 B:=(a.drewN nq).trans p λb L e=>(m.at_ e).1;go_roundw
    case rel=>exact⟨k+1,true,o++[z],by omega,rfl,by go_num,f,by rw[P.out];exact E.out,d⟩
    simp[intOf];omega
   |false=>
    by_cases j:x.n<z.n
    .have t1:decide (x.n<z.n)=true:=de j;have E:=ab (apa g.out j);clear j;go_wp2
     go_quiet (fail)
     have m:aD nV 59 (wr.drewN nq) (w.heap.size+1) (.slice r o.length t) o:=s;have a1:∀i,(wr.drewN nq).cell? ⟨w.heap.size,i,none⟩=_:=u;go_wp2_with(first|(at_builtin;refine bR (F:=nV) (v:=.slice r o.length t) rfl (.tmp 27) (.tmp 29) 60 rfl pF x rfl m rfl rfl (by first|omega|(simp only[ap,fm,me];omega)) (da D (a.drewN nq).size) ?_;intro R B f p q;obtain⟨G,J,rfl⟩:=f.form;simp only[ap,fm,me,ls] at f;have d:bJ (λb=>w.heap.size+1<=b) w0 B:=(a.drewN nq).trans p λb L e=>(m.at_ e).1;have a3:=iN (w:=wr.drewN nq) cn p (λK=>by have:=(m.at_ K).1;dsimp only at this;omega);have a6:=iN (w:=wr.drewN nq) cb p (λK=>by have:=(m.at_ K).1;dsimp only at this;omega))|(at_builtin;refine bR (F:=nV) (v:=.slice G (o.length+1) J) rfl (.tmp 31) (.tmp 36) 60 rfl pF z rfl f rfl rfl (by first|omega|(simp only[ap,fm,me];omega)) (da D d.size) ?_;intro v4 Y T M Z;obtain⟨A4,c4,rfl⟩:=T.form;simp only[ap,fm,me,ls] at T;have S:bJ (λb=>w.heap.size+1<=b) w0 Y:=d.trans M λb L e=>(f.at_ e).1));go_roundw
     case rel=>exact⟨k+1,true,o++[x]++[z],by omega,rfl,by go_num,T,by rw[P.out];exact E.out,S⟩
     simp[intOf];omega
    .have t1:decide (x.n<z.n)=false:=bv j;have E:=ab (arI g.out j);clear j;go_wp2
     go_quiet (fail)
     have m:aD nV 59 (wr.drewN nq) (w.heap.size+1) (.slice r o.length t) o:=s;go_wp2_with(at_builtin;refine bR (F:=nV) (v:=.slice r o.length t) rfl (.tmp 31) (.tmp 36) 60 rfl pF z rfl m rfl rfl (by first|omega|(simp only[ap,fm,me];omega)) (da D (a.drewN nq).size) ?_;intro R B f p q;obtain⟨G,J,rfl⟩:=f.form;simp only[ap,fm,me,ls] at f;skip);have d:bJ (λb=>w.heap.size+1<=b) w0 B:=(a.drewN nq).trans p λb L e=>(m.at_ e).1;go_roundw
     case rel=>exact⟨k+1,false,o++[z],by omega,rfl,by go_num,f,by rw[P.out];exact E.out,d⟩
     simp[intOf];omega
  .obtain rfl:k=xs.length:=by omega
   have l:=apb g.out;rw[gt] at l;have X:=ab l;clear l;have N:Below w.heap.size w wr:=C.trans (a.below C.size λi hi K=>by omega);cases b with
   |true=>
    have O:kF x xs=o:=by
     rcases X.out with⟨h,_⟩|⟨_,h⟩
     .cases h
     .exact h
    rw[O];go_wp2;go_ret;exact⟨_,rfl,s.base (by omega),N⟩
   |false=>
    have O:kF x xs=o++[x]:=by
     rcases X.out with⟨_,h⟩|⟨h,_⟩
     .exact h
     .cases h
    rw[O];go_wp2_with(at_builtin;refine bR (F:=nV) (v:=.slice r o.length t) rfl (.tmp 40) (.tmp 42) 60 rfl pF x rfl s rfl rfl (by first|omega|(simp only[ap,fm,me];omega)) (da D a.size) ?_;intro R B f p q;obtain⟨G,J,rfl⟩:=f.form;simp only[ap,fm,me,ls] at f;skip);have d:bJ (λb=>w.heap.size+1<=b) w0 B:=a.trans p λb L e=>(s.at_ e).1;go_ret;exact⟨.slice G (o.length+1) J,rfl,by have:=f.base (base':=w.heap.size) (by omega);simpa using this,C.trans (d.below C.size λi hi K=>by omega)⟩
def iP(key:Int)(s:ByteArray):It:=⟨bm key (bs s),qO (fj (bs s))⟩
def fV(key:Int)(l:List ByteArray):List It:=l.foldl (λa s=>kF (iP key s) a) []
def nj(key:Int)(l:List ByteArray)(s:ByteArray):fV key (l++[s])=kF (iP key s) (fV key l):=by
 unfold fV;rw[sI];rfl
def pK(key:Int)(l:List ByteArray):(fV key l).length=l.length:=by
 induction l using mU with
 |h0=>rfl
 |h1 l s a=>rw[nj,aeW,a,ap];rfl
def acF{l:List ByteArray}:x∈fV key l↔∃s∈l,x=iP key s:=by
 induction l using mU with
 |h0=>simp[fV]
 |h1 l s b=>
  rw[nj,ajg,b];constructor
  .rintro(h|⟨t,a,h⟩)
   .exact⟨s,by simp,h⟩
   .exact⟨t,by simp[a],h⟩
  .rintro⟨t,a,h⟩;rcases jt.1 a with a|a
   .exact .inr ⟨t,a,h⟩
   .rw[gE.1 a] at h;exact .inl h
def ac9(key:Int)(a:aQ (bs s)):nV.good (iP key s):=by
 have b:=lH (key:=key) (l:=bs s);show cA (bm key (bs s))/\(qO (fj (bs s))).size<=maxLen;refine⟨by unfold cA;omega, ?_⟩;rw[<-aK,ahq,aex a];have:=(mr (n:=(bs s).length)).1;unfold maxLen;omega
def aeX{l:List ByteArray}(h:∀s∈l,aQ (bs s)):∀x∈fV key l,nV.good x:=λx b=>by
 obtain⟨s,a,rfl⟩:=acF.1 b;exact ac9 key (h s a)
def aAi(no:Int)(w:World)(ys:List It)(e:Ending)(w':World):Prop:=∃v,e=.returned (.agg #[.int .i64 no,v])/\aD nV 59 w' w.heap.size v ys/\Below w.heap.size w w'
def alr(no key:Int)(hk:1<=key/\key<=99)(xs:List ByteArray)(H:∀s∈xs,aQ (bs s))(hl:xs.length<=100)(v:Value)(w:World)(lo hi:Nat)(bG:hi<=w.heap.size)(h:cH w lo hi xs [v]) :
  Calls (ah β) 68 #[.int .i64 no,.int .i64 key,v] w (aAi no w (fV key xs)):=by
 replace H:=ab H;obtain⟨A,c,rfl⟩:=h.form;go_enter yM,ntmps68;go_wp2;generalize hG:((w.alloc (.cells #[.int .i64 0,.slice none 0 0] 62)).alloc (.cells #[] 59)).alloc (.cells #[.int .i64 no,.slice (some ⟨w.heap.size+1,0,none⟩) 0 0] 62)=w0 at *;obtain⟨aM,jU,i,S,W,k1,U,Z,d,b,o⟩:=az1 hG;clear hG;have o0:aD nV 59 w0 (w.heap.size+1) (.slice (some ⟨w.heap.size+1,0,none⟩) 0 0) []:=aD.aaM ⟨_,rfl,am _,k1⟩;go_loopw [8] (λii wr=>∃(k:Nat) (R:Value),k<=xs.length/\ii=.int .i64 k/\aD nV 59 wr (w.heap.size+1) R (fV key (xs.take k))/\bW wr w.heap.size 62 #[.int .i64 0,.slice none 0 0]/\bW wr (w.heap.size+1+1) 62 #[.int .i64 no,R]/\Below w.heap.size w wr) (λii _=>xs.length-(intOf ii).toNat)
 case atStart=>exact⟨0,_,fa _,rfl,o0,i,d,aM⟩
 case round=>
  clear o0 i k1 d S U b W Z o;obtain⟨k,R,a2,rfl,n,i,d,j⟩:=hrel;obtain⟨M,T,rfl⟩:=n.form;have h1:=cH.aw.below h j bG;have S:=i.cell;have W:=i.frozen;have b:=d.cell;have o:=d.frozen;have r:Hid (∀x∈fV key (xs.take k),nV.good x):=ab (aeX λs hs=>H.out s (pr hs));have E:(fV key (xs.take k)).length<=100:=by rw[pK,fi];omega
  by_cases V:k<xs.length
  .obtain⟨s,m⟩:=aq V;obtain⟨b1,a5,rfl,_,_,N,q⟩:=iO h1 m;have z:=H.out s (be m);have l:fV key (xs.take (k+1))=kF (iP key s) (fV key (xs.take k)):=by rw[mu m,nj]
   have HST:=ab l;clear l m;have O:=ab (ac9 key z);have X:=ab (λw=>mV (β:=β) key s hk z w);have a0:=ab (λw=>agb (β:=β) s N w);have D:iP key s=⟨bm key (bs s),qO (fj (bs s))⟩:=rfl;have a4:=ab D;have P:=ab (ahq s);clear z D;have F:=n.deep r.out (w.heap.size+1) |>.sl (am _)
   have I:wr.cell? ⟨w.heap.size+1+1,1,none⟩=some (.slice M (fV key (xs.take k)).length T):=b 1;have B:=ab (λg hg=>n.at_ (g:=g) hg);have a3:w.heap.size+1+1<wr.heap.size:=d.lt;revert HST;revert E;revert I;revert F;revert r;revert B;revert n;revert b;revert d;generalize fV key (xs.take k)=L;intro d b n B r F I E HST;go_wp2;have aJ:=aj I;have aL:=aj q;refine bB 15 [0,1,2,3,4,5,6,8,9,10,11] [7,12,13,14] (h:= ?_);simp only[pick,List.map,pa,pb];repeat(go_big_quiet_step (fail))
   refine iS ?_;clear aJ aL;apply Exists.intro;apply kQ (.int .i64 (bm key (bs s)))
   .intro y f J a;replace a:=ab a;clear f;go_wp2;refine(X.out y.to).mono ?_;rintro e wy ⟨rfl,rfl⟩;go_wp2;exact a.out _ (ff _ _)
   apply kQ (.string (qO (fj (bs s))))
   .intro y f J a;replace a:=ab a;clear f;go_wp2;refine(a0.out y.to).mono ?_;rintro e wy ⟨⟨t,rfl,ht⟩,rfl⟩;have Q:t=qO (fj (bs s)):=jb (ht.trans P.out.symm);subst Q;go_wp2;exact a.out _ (ff _ _)
   apply kQ (.agg #[.int .i64 (bm key (bs s)),.string (qO (fj (bs s)))])
   .intro y f J a;replace a:=ab a;clear f;go_wp2;exact a.out _ (ff _ _)
   apply bN (λv w'=>aD nV 59 w' wr.heap.size v (kF (iP key s) L))
   .rfl
   .exact λv x y h a1=>h.below a1
   .intro y f J a;replace a:=ab a;clear f;have r1:=gK.aw.below F y.ok (am _);go_wp2;refine(apc (iP key s) O.out L _ y.to _ _ y.ok.size r1 (by omega)).mono ?_;rintro e wy ⟨vy,rfl,oy,K⟩;go_wp2;exact a.out _ _ K (oy.base y.ok.size)
   intro a6;refine dD ?_;intro w2 u xx kR f;dsimp only[iZ] at f;try rw[kR] at f
   clear kR xx;obtain⟨A5,c5,rfl⟩:=f.1.form;have o5:=f.1;clear f F;simp only[List.drop];replace i:=av i u;replace S:=i.cell;replace W:=i.frozen;replace d:=av d u;replace b:=d.cell;replace o:=d.frozen;replace j:=ae j u;go_wp2;have C:=d.bZ 1 (.slice A5 (kF (iP key s) L).length c5);simp only[db,fd,ga] at C;go_roundw
   case rel=>exact⟨k+1,_,by omega,by go_num,by rw[HST.out];exact(o5.bZ _ (by dsimp only;omega)).base (by omega),iM i _ (by dsimp only;omega),C,j.setCell (by dsimp only;omega) _⟩
   simp[intOf];omega
  .obtain rfl:k=xs.length:=by omega
   rw[gt] at n b d;obtain⟨L,G⟩:∃L,L=fV key xs:=⟨_,rfl⟩;rw[<-G] at n b d ⊢;replace G:=ab G;go_wp2;have k4:=(i.bZ 0 (.int .i64 no)).bZ 1 (.slice M L.length T);simp only[db,fd,ga] at k4;have Y:=k4.cell;exact ph (v:=.agg #[.int .i64 no,.slice M L.length T]) (by simp[results,results68,go_sem,Y]) rfl ⟨_,rfl,by rw[<-G.out];exact aD.base (base:=w.heap.size+1) ((n.bZ (p:=⟨w.heap.size,0,none⟩) _ (by dsimp only;omega)).bZ (p:=⟨w.heap.size,1,none⟩) _ (by dsimp only;omega)) (by omega),(j.setCell (by simp) _).setCell (by simp) _⟩
end
section
variable {β:Bool}
open Go.RowKit
def eO(l:List Pk):Int:=((l.getLast?).map (·.no)).getD 0+1
def fJ(l:List Hd):Int:=l.foldl (λa h=>max a (h.s+1)) 1
def dU(s:dE):Int:=match s.sn.getLast? with|some x=>max (fJ s.lg) (x.no+1)|none=>fJ s.lg
def als{l:List Hd}{h:Hd}(a:l[k]?=some h):fJ (l.take (k+1))=max (fJ (l.take k)) (h.s+1):=by
 unfold fJ;rw[mu a,sI];rfl
def ajh{l:List Hd}{b:Int}(d:1<=b)(h:∀x∈l,x.s+1<=b):1<=fJ l/\fJ l<=b:=by
 induction l using mU with
 |h0=>exact⟨ue _,d⟩
 |h1 l x a=>
  have e:fJ (l++[x])=max (fJ l) (x.s+1):=by unfold fJ;rw[sI];rfl
  have:=a λy c=>h y (by simp[c]);have:=h x (by simp);rw[e];omega
def ayg(m x:Int):(if m<x then x else m)=max m x:=by rw[Int.max_def];split<;>split<;>omega
def vH{l:List Z}(h:0<l.length):∃x,l[l.length-1]?=some x/\l.getLast?=some x:=by
 obtain⟨x,a⟩:=aq (show l.length-1<l.length by omega);exact⟨x,a,by rw[List.getLast?_eq_getElem?,a]⟩
def alu(b:Int)(s:dE):Prop:=(∀p∈s.pk,p.no<=b)/\(∀x∈s.sn,x.no<=b)/\∀h∈s.lg,h.s<=b
def aji(s:dE)(u:alu 1000000 s)(va vb vc:Value)(w:World)(lo hi:Nat)(h:oA w lo hi s va vb vc)(Z:hi<=w.heap.size) :
  Calls (ah β) 65 #[.agg #[va,vb,vc]] w λe w'=>e=.returned (.tuple #[.int .i64 (eO s.pk),.int .i64 (dU s)])/\Below w.heap.size w w':=by
 obtain⟨O,K,V⟩:=h;obtain⟨A,a,rfl⟩:=cR.form O;obtain⟨B,b,rfl⟩:=cR.form K;obtain⟨C,c,rfl⟩:=cR.form V;obtain⟨_,a7,a5⟩:=O.len_;obtain⟨_,an,a6⟩:=K.len_;obtain⟨_,af,a4⟩:=V.len_;unfold maxLen at a5 a6 a4;have r:∀p∈s.pk,cA p.no:=λp i=>by
  obtain⟨P,v,_,hg,_⟩:=O.aqZ p i;exact hg
 have q:∀p∈s.sn,cA p.no:=λp i=>by
  obtain⟨P,v,_,hg,_⟩:=K.aqZ p i;exact hg
 replace u:=ab u;replace r:=ab r;replace q:=ab q;go_enter yP,ntmps65;rcases oE s.pk.length with t|t
 case' inl=>
  have t1:=bv (show ¬(0<s.pk.length) by omega);have i:eO s.pk=1:=by rw[pi.1 t];rfl
  have HP:=ab i;have HZ:=ab t;clear t i;go_wp2
 case' inr=>
  have t1:=de (show 0<s.pk.length by omega);obtain⟨z,f,E⟩:=vH t;have a9:=u.out.1 z (be f);have a0:=r.out z (be f);unfold cA at a0;have i:eO s.pk=z.no+1:=by unfold eO;rw[E];rfl
  have HP:=ab i;replace f:=ab f;clear i E;obtain⟨b4,W,P,D,_,_,_,⟨v4,rfl,R⟩,n⟩:=(iJ.loc.below O (aB w (.cells #[.slice A s.pk.length a,.slice B s.sn.length b,.slice C s.lg.length c] 27)) Z).at_ f.out;subst D;obtain⟨m4,F⟩:∃m,m=s.pk.length-1:=⟨_,rfl⟩;rw[<-F] at n;have e4:(s.pk.length:Int)-1=((m4:Nat):Int):=by omega
  have ad:m4<s.pk.length:=by omega
  have I:=n 0 _ rfl;rw[tM] at I;clear n R F t f;go_wp2;clear e4 I;generalize some (⟨b4,W,none⟩:Addr)=A at *
 all_goals
  generalize hG:w.alloc (.cells #[.slice A s.pk.length a,.slice B s.sn.length b,.slice C s.lg.length c] 27)=w0 at *;obtain⟨L,jU,k0,dV,gz⟩:=iB hG;clear hG;have a3:=oB.loc.below V L Z
  go_loop [5,6] (λss ii=>∃k:Nat,k<=s.lg.length/\ii=.int .i64 k/\ss=.int .i64 (fJ (s.lg.take k))) (λ_ ii=>s.lg.length-(intOf ii).toNat)
  case atStart=>exact⟨0,fa _,rfl,rfl⟩
  case round=>
   obtain⟨k,aa,rfl,rfl⟩:=hrel;by_cases X:k<s.lg.length
   .obtain⟨x,M⟩:=aq X;have nQ:=u.out.2.2 x (be M);obtain⟨Y,o,P,D,_,_,_,⟨rfl,g⟩,d⟩:=a3.at_ M;subst D;have a1:cA x.s:=g.2;unfold cA at a1;have Q:w0.cell? ⟨Y,o+k*2+1,none⟩=some (.int .i64 x.s):=by simpa using d 1 _ rfl
    have J:=ajh (l:=s.lg.take k) (b:=1000001) (by omega) λy j=>by have:=u.out.2.2 y (pr j);omega
    have eC:=als M;have U:=ab eC;clear eC M d g;revert U J;generalize fJ (s.lg.take k)=m;intro J U;go_wp2
    go_round
    case rel=>exact⟨k+1,by omega,by go_num,by rw[U.out,ayg]⟩
    simp[intOf];omega
   .obtain rfl:k=s.lg.length:=by omega
    rw[gt];have T:=iK.loc.below K L Z;rcases oE s.sn.length with j|j
    .have t2:=bv (show ¬(0<s.sn.length) by omega);have H:dU s=fJ s.lg:=by unfold dU;rw[pi.1 j];rfl
     have S:=ab H;have HY:=ab j;clear H j;go_wp2;go_ret2;exact⟨by rw[HP.out,S.out];rfl,L⟩
    .have t2:=de (show 0<s.sn.length by omega);obtain⟨y,N,G⟩:=vH j;have a8:=u.out.2.1 y (be N);have a2:=q.out y (be N);unfold cA at a2;have H:dU s=max (fJ s.lg) (y.no+1):=by unfold dU;rw[G]
     obtain⟨Y,o,P,D,_,_,_,⟨v5,rfl,g⟩,d⟩:=T.at_ N;subst D;obtain⟨m,J⟩:∃m,m=s.sn.length-1:=⟨_,rfl⟩;rw[<-J] at d;have e1:(s.sn.length:Int)-1=((m:Nat):Int):=by omega
     have al:m<s.sn.length:=by omega
     have Q:w0.cell? ⟨Y,o+m*2,none⟩=some (.int .i64 y.no):=by simpa using d 0 _ rfl
     have S:=ab H;clear H G N d g J j;go_wp2;all_goals
      go_ret2;exact⟨by rw[HP.out,S.out];first|(rw[Int.max_eq_right (by omega)];rfl)|(rw[Int.max_eq_left (by omega)];rfl),L⟩
end
section
variable {β:Bool}
open Go.RowKit
def fc(key:Int)(no:Int)(l:List ByteArray):List Pk:=
 if h:l=[] then[] else⟨no,fV key (l.take 4)⟩::fc key (no+1) (l.drop 4)
termination_by l.length
decreasing_by
 have:0<l.length:=List.length_pos_iff.2 h;rw[pX];omega
def ik(key no:Int):fc key no []=[]:=by rw[fc];rfl
def lM(key no:Int){l:List ByteArray}(h:0<l.length):fc key no l=⟨no,fV key (l.take 4)⟩::fc key (no+1) (l.drop 4):=by
 rw[fc,dif_neg (by rintro rfl;simp at h)]
open Classical in
noncomputable def nk(l:List Pk):List Sp:=if ∀s∈dh l,spP s then dY (dh l) [] else[]
def anF(l:List Pk):IOf l (nk l):=by
 unfold nk;by_cases h:∀s∈dh l,spP s
 .rw[dj h];exact .inl ⟨h,rfl⟩
 .rw[bd h];exact .inr ⟨h,rfl⟩
noncomputable def acG(key:Int)(s:dE)(t:List Nd):List Pk:=fc key (eO s.pk) (aaa key (nk s.pk) t)
def aeY(key:Int)(s:dE)(t:List Nd):Prop:=(s.pk++acG key s t).length<=20/\eO s.pk+(acG key s t).length-1<=99/\dU s<=20/\s.lg.length<9
noncomputable def aaQ(key:Int)(s:dE)(by_:Int)(t:List Nd):dE:=⟨s.pk++acG key s t,s.sn++[jJ (dU s) key t],s.lg++[⟨by_,dU s⟩]⟩
structure afH (w wr:World) (va vb vc:Value) (gm:Nat) (vp vs vl:Value) (pk:List Pk) (sn:List Sn) (lg:List Hd) (H:Nat):Prop where
 k0:bW wr w.heap.size 27 #[va,vb,vc]
 k1:bW wr (w.heap.size+1) 27 #[.slice none 0 0,.slice none 0 0,.slice none 0 0]
 m:bW wr gm 27 #[vp,vs,vl]
 op:fT wr w.heap.size H pk [vp]
 os:gO wr w.heap.size H sn [vs]
 ol:fU wr w.heap.size H lg [vl]
 bl:Below w.heap.size w wr
 gm1:w.heap.size+1<gm
 gm2:gm<wr.heap.size
 hH:H<=wr.heap.size
def afH.below{wr : World}{e c : Value}{b:List Sn}{d:List Hd}(h:afH w wr X W V Y v e c R b d U)(a:Below wr.heap.size wr w'):afH w w' X W V Y v e c R b d U:=
 ⟨av h.k0 a,av h.k1 a,av h.m a,fT.aw.below h.op a h.hH,gO.aw.below h.os a h.hH,fU.aw.below h.ol a h.hH,ae h.bl a,h.gm1,aE h.gm2 a.size,da h.hH a.size⟩
def afH.up{wr : World}{e c : Value}{b:List Sn}{d:List Hd}{H' : Nat}(h:afH w wr X W V Y v e c R b d U)(a:U<=H')(f:H'<=wr.heap.size):afH w wr X W V Y v e c R b d H':=
 ⟨h.k0,h.k1,h.m,fT.aw.wide h.op (am _) a,gO.aw.wide h.os (am _) a,fU.aw.wide h.ol (am _) a,h.bl,h.gm1,h.gm2,f⟩
def aAj:Value->Nat
 |.slice _ n _=>n
 |_=>0
def arJ(key:Int)(s:dE)(by_:Int)(t:List Nd)(w:World)(e:Ending)(w':World):Prop:=
 ∃c b a q r,e=.returned (.tuple #[.agg #[c,b,a],.bool q])/\gq w' w.heap.size w'.heap.size r c b a/\((q=true/\aeY key s t/\r=aaQ key s by_ t)\/(q=false/\¬aeY key s t/\r=s))/\Below w.heap.size w w'
def ajj (key:Int) (hk:1<=key/\key<=99) (s:dE) (r:Int) (bo:cA r) (t:List Nd) (ht:∀x∈t,dw x.b=true) (hl:t.length<=10) (hs:alu 1000000 s) (eb:(dh s.pk).length<=10000) (bL:aeq s<=1000000)
  (va vb vc vt:Value) (w:World) (lo hi bb ly:Nat) (h:gq w lo hi s va vb vc) (bG:hi<=w.heap.size) (h1:eF w bb ly t [vt]) (cW:ly<=w.heap.size) :
  Calls (ah β) 37 #[.int .i64 key,.agg #[va,vb,vc],.int .i64 r,vt] w (arJ key s r t w):=by
 replace ht:=ab ht;have HS:=ab hs;have HK:=ab hk;replace bo:=ab bo;clear hs;obtain⟨A,a,rfl⟩:=h.pk.form;obtain⟨B,b,rfl⟩:=h.sn.form;obtain⟨C,c,rfl⟩:=h.lg.form;obtain⟨D,d,rfl⟩:=h1.form;have ea:s.pk.length<=1000000:=by
  have h1:=jh (f:=bPk) (l:=s.pk);unfold aeq at bL;omega
 have eo:s.sn.length<=1000000:=by
  have h1:=jh (f:=bSn) (l:=s.sn);unfold aeq at bL;omega
 have ee:s.lg.length<=1000000:=by unfold aeq at bL;omega
 go_enter zl,ntmps37;go_wp2;generalize hG:(w.alloc (.cells #[.slice A s.pk.length a,.slice B s.sn.length b,.slice C s.lg.length c] 27)).alloc (.cells #[.slice none 0 0,.slice none 0 0,.slice none 0 0] 27)=w0 at *;obtain⟨aM,jU,k0,dV,gz,k1,bT,bP⟩:=ahB hG;clear hG;have cB:=h.below aM bG;refine(ac8 s _ _ _ w0 lo hi cB.l (by omega) (by omega)).mono ?_;rintro e w1 ⟨vp,vs,vl,rfl,oc,b1⟩;obtain⟨Ap,cp,rfl⟩:=oc.pk.form;obtain⟨As,cs,rfl⟩:=oc.sn.form;obtain⟨Al,cl,rfl⟩:=oc.lg.form;replace k0:=av k0 b1;replace dV:=k0.cell;replace gz:=k0.frozen;replace k1:=av k1 b1;replace bT:=k1.cell;replace bP:=k1.frozen;replace aM:=ae aM b1;have c4:=ab oc;have z1:=b1.size;clear oc cB;have ax:=aB w1 (.cells #[.slice Ap s.pk.length cp,.slice As s.sn.length cs,.slice Al s.lg.length cl] 27);have di:=(av k0 ax).cell;go_wp2;clear ax di;generalize hG:w1.alloc (.cells #[.slice Ap s.pk.length cp,.slice As s.sn.length cs,.slice Al s.lg.length cl] 27)=w2 at *;obtain⟨jB,er,m0,mO,dd⟩:=iB hG;clear hG;replace k0:=av k0 jB;replace dV:=k0.cell;replace gz:=k0.frozen;replace k1:=av k1 jB;replace bT:=k1.cell;replace bP:=k1.frozen;have b0:=c4.out.below jB (am _);have P:afH w w2 (.slice A s.pk.length a) (.slice B s.sn.length b) (.slice C s.lg.length c) w1.heap.size (.slice Ap s.pk.length cp) (.slice As s.sn.length cs) (.slice Al s.lg.length cl) s.pk s.sn s.lg w1.heap.size:=
  ⟨k0,k1,m0,fT.aw.wide b0.pk (by omega) (am _),gO.aw.wide b0.sn (by omega) (am _),fU.aw.wide b0.lg (by omega) (am _),ae aM jB,by omega,by omega,jB.size⟩
 obtain⟨u,cn⟩:∃u,u=w1.heap.size:=⟨_,rfl⟩;rw[<-cn] at P ⊢;have E:=ab P;have bY:=h.below (ae aM jB) bG;have HST:=ab bY;clear cn P b0 c4 k0 k1 m0 dV bT mO gz bP dd aM jB b1;refine(aji s HS.out _ _ _ w2 lo hi bY.l (by have:=E.out.bl.size;omega)).mono ?_;rintro e w3 ⟨rfl,b3⟩;have ay:=E.out.below b3;have cV:=ab ay;have c0:=HST.out.below b3 (by have:=E.out.bl.size;omega);have c3:=ab c0;have dV:=ay.k0.cell;have z3:=ay.bl.size;clear ay E HST bY b3;go_wp2;refine(adB s.pk _ w3 lo hi (by omega) (fT.t c0.pk) (by omega) (nk s.pk) (anF _)).mono ?_;rintro e w4 ⟨vi,rfl,oi,b4⟩;clear c0;have c1:=(anF s.pk).ix;have cb:=((oi.deep (auI c1) 0).sl (fa _)).1;have aP:=cV.out.below b4;have cc:=ab aP;have cC:=eF.aw.wide (eF.aw.below h1 aP.bl cW) (fa bb) (show ly<=w4.heap.size by have:=aP.bl.size;omega);obtain⟨Ai,ci,rfl⟩:=oi.form;clear aP cV dV oi c1 b4;have aY:Hid (aeY key s t↔((s.pk++fc key (eO s.pk) (aaa key (nk s.pk) t)).length<=20/\eO s.pk+(fc key (eO s.pk) (aaa key (nk s.pk) t)).length-1<=99/\dU s<=20/\s.lg.length<9)):=ab Iff.rfl;have aL:Hid (aaQ key s r t=⟨s.pk++fc key (eO s.pk) (aaa key (nk s.pk) t),s.sn++[jJ (dU s) key t],s.lg++[⟨r,dU s⟩]⟩):=ab rfl;have d3 : -9223372036854775807<=eO s.pk/\eO s.pk<=1000001:=by
  rcases oE s.pk.length with hz|hz
  .rw[pi.1 hz];show _<=(1:Int)/\(1:Int)<=_;omega
  .obtain⟨z,cd,ds⟩:=vH hz;have e6:=HS.out.1 z (be cd);obtain⟨es,v,_,hg,_⟩:=(c3.out.l).pk.aqZ z (be cd);unfold cA at hg;unfold eO;rw[ds];show _<=z.no+1/\z.no+1<=_;omega
 have d2 : -9223372036854775807<=dU s/\dU s<=1000001:=by
  have hm:=ajh (l:=s.lg) (b:=1000001) (by omega) λx hx=>by have:=HS.out.2.2 x hx;omega
  unfold dU;cases d8:s.sn.getLast? with
  |none=>show _<=fJ s.lg/\fJ s.lg<=_;omega
  |some x=>
   have:=HS.out.2.1 x (vR d8);show _<=max (fJ s.lg) (x.no+1)/\max (fJ s.lg) (x.no+1)<=_;omega
 clear c3;have cG:(aaa key (nk s.pk) t).length<=400:=by
  have a1:=abJ (key:=key) (ix:=nk s.pk) (oO t) [];have a2:=acD (t:=t) ht.out;show(nh key (nk s.pk) [] (oO t)).length<=_;simp only[me,ls] at a1;omega
 have a6:=kW (key:=key) (ix:=nk s.pk) ht.out;have ad:=ab (alh (β:=β) key HK.out t ht.out (by omega) (nk s.pk) _ _ w4 0 w4.heap.size (am _) cC cb);clear cC cb;revert a6 cG aL aY ad;generalize aaa key (nk s.pk) t=pieces;revert d3;generalize eO s.pk=n0;revert d2;generalize dU s=s0;intro d2 d3 aY aL cG a6 ad;go_wp2;refine ad.out.mono ?_;rintro e w5 ⟨vq,rfl,oq,b5⟩;clear ad;have cS:=(oq.deep (λx hx=>kX (a6 x hx)) 0).sl (fa _);have bx:=cc.out.below b5;have c2:=bx.up (H':=w5.heap.size) bx.hH (am _);obtain⟨Aq,cq,rfl⟩:=oq.form;have an:=ab (And.intro cS (And.intro a6 c2));clear cc cS a6 bx c2 oq b5;go_wp2;go_loopw [11,13] (λnn pp wr=>∃(no:Int) (j:List ByteArray) (n:List Pk) (vp:Value),nn=.int .i64 no/\s.pk++fc key n0 pieces=n++fc key no j/\no=n0+((n.length:Int)-s.pk.length)/\n.length+j.length<=s.pk.length+pieces.length/\s.pk.length<=n.length/\w5.heap.size<=wr.heap.size/\cH wr 0 w5.heap.size j [pp]/\(∀x∈j,aQ (bs x))/\afH w wr (.slice A s.pk.length a) (.slice B s.sn.length b) (.slice C s.lg.length c) u vp (.slice As s.sn.length cs) (.slice Al s.lg.length cl) n s.sn s.lg wr.heap.size) (λ_ pp _=>aAj pp)
 case atStart=>exact⟨n0,pieces,s.pk,_,rfl,rfl,by omega,am _,am _,am _,an.out.1,an.out.2.1,an.out.2.2⟩
 case round=>
  clear an;obtain⟨no,j,n,ei,rfl,ct,c6,d6,ex,dR,hr,hp,P⟩:=hrel;obtain⟨Ar,cr,rfl⟩:=hr.form;obtain⟨Q,N,rfl⟩:=P.op.form;have bf:=ab ct;have bO:=ab c6;have en : -9223372036854775807<=no/\no<=9000000:=by omega
  have HR:=ab hr;have HP:=ab hp;have E:=ab P;have ew:=hr.len_.2.1;have dI:=hr.len_.2.2;unfold maxLen at dI;clear ct c6 hr hp P;by_cases fN:0<j.length
  .have t1:decide (0<j.length)=true:=de fN;have mO:=E.out.m.cell 0;by_cases h4:j.length<=4
   case' pos=>
    have t2:=de (show(j.length:Int)<=4 by omega);have g2:((j.length:Nat):Int)<=(cr:Int):=by omega
    have q1:=am j.length;have q2:j.take j.length=j.take 4:=by rw[qb (am _),qb h4]
    have q3:j.drop j.length=j.drop 4:=by rw[rh (am _),rh h4]
   case' neg=>
    have t2:=bv (show ¬((j.length:Int)<=4) by omega);have g2:((4:Nat):Int)<=(cr:Int):=by omega
    have q1:4<=j.length:=by omega
    have q2:=@rfl _ (j.take 4);have q3:=@rfl _ (j.drop 4)
   all_goals
    have bt:∀x∈j.take 4,aQ (bs x):=λx hx=>HP.out x (pr hx);have ch:∀x∈j.drop 4,aQ (bs x):=λx hx=>HP.out x (tv hx);have bw:=HR.out.arj q1;rw[q2] at bw;have bz:=HR.out.ari q1;rw[q3] at bz;have X:=lM key no fN;have ck:(j.take 4).length<=4:=by rw[fi];omega
    have c7:=aeX (key:=key) bt;have d4:(fV key (j.take 4)).length<=4:=by rw[pK];exact ck
    have bu:w5.heap.size<=wr.heap.size:=dR;have bp:cA no:=by unfold cA;omega
    have ce:=λ(y:World) (hy:Below wr.heap.size wr y)=>alr (β:=β) no key HK.out (j.take 4) bt (by omega) _ y 0 w5.heap.size (da bu hy.size) (cH.aw.below bw hy bu)
    have af:=ab ce;have cx:=ab bz;have HST:=ab X;have bS:=ab c7;have e0:=ab ch;have dr:Hid ((j.drop 4).length+1<=j.length):=ab (by rw[pX];omega);clear ce bz X c7 bw q2 q3 ck bt ch;revert d4;revert bS;revert HST;revert af;generalize fV key (j.take 4)=L;intro af HST bS d4;go_wp2;have aJ:=aj mO;refine bB 9 [0,1,2,3,4,5,6] [7,8] (h:= ?_);simp only[pick,List.map,pa,pb];repeat(go_big_quiet_step (fail))
    refine iS ?_;clear aJ;apply Exists.intro;apply bN (λv w'=>∃A c,v=.agg #[.int .i64 no,.slice A L.length c]/\aD nV 59 w' wr.heap.size (.slice A L.length c) L)
    .rfl
    .exact λv x y ⟨A,c,e,h⟩ hle=>⟨A,c,e,h.below hle⟩
    .intro x S Qx q;replace q:=ab q;clear S;go_wp2;refine(af.out x.to x.ok).mono ?_;rintro e wy ⟨vy,rfl,oy,br⟩;obtain⟨Ay,cy,rfl⟩:=oy.form;go_wp2;exact q.out _ _ br ⟨_,_,rfl,oy.base x.ok.size⟩
    intro u7;apply bN (λv w'=>∃g A c,v=.slice (some ⟨g,0,none⟩) 1 1/\bW w' g 62 #[.int .i64 no,.slice A L.length c]/\aD nV 59 w' wr.heap.size (.slice A L.length c) L)
    .rfl
    .exact λv x y ⟨g,A,c,e,hk,h⟩ hle=>⟨g,A,c,e,av hk hle,h.below hle⟩
    .intro x S Qx q;replace q:=ab q;obtain⟨A5,c5,rfl,ho⟩:=S.1 (by kernel_rfl);go_wp2;have ba:=aB x.to (.cells #[.int .i64 no,.slice A5 L.length c5] 62);exact q.out _ _ ba ⟨_,_,_,rfl,bW.new _ _ _,ho.below ba⟩
    intro u8;refine dD ?_;intro w6 ni xx kR S;dsimp only[iZ] at S;try rw[kR] at S
    clear kR xx;obtain⟨⟨g8,A8,c8,rfl,a7,o8⟩, -⟩:=S;simp only[List.drop];have z6:=ni.size;have R:=E.out.below ni;have co:=cH.aw.below cx.out ni bu;have a9:Hid (OPk w6 wr.heap.size w6.heap.size ⟨no,L⟩ [.int .i64 no,.slice A8 L.length c8]):=ab ⟨_,rfl,bp,o8.acE bS.out (by omega) λg hg=>(o8.at_ hg).2⟩;have aU:=ab a7;have k:=ab R;have dB:=ab co;have zb:=R.bl.size;clear E ni o8 a7 R co cx af mO HR;go_wp2_with(at_builtin;refine lL ?_);refine⟨?_,trivial⟩;refine kY OPk.aw (by decide) (v:=.slice Q n.length N) rfl (.tmp 35) (.tmp 42) 23 rfl adS ⟨no,L⟩ rfl k.out.op rfl aU.out rfl (by simp[Value.oneCell']) (show wr.heap.size<=w6.heap.size by omega) a9.out (am _) (by omega) (by omega) ?_;intro v9 Y o9 G c9;obtain⟨K,J,rfl⟩:=o9.form;rw[ap,nf] at o9;rw[ap,nf];have m:=k.out.op;have z9:=G.size;have bk:=k.out.gm1;have e2:=k.out.gm2;have o:=dy m G k.out.m (by decide);have dW:Y.cell? ⟨u,0,none⟩=some (.slice Q n.length N):=o.cell 0;have e3:=o.frozen 0;have lz:=o.bZ 0 (.slice K (n.length+1) J);simp only[db,fd,ga] at lz;have Z:afH w (Y.setCell ⟨u,0,none⟩ (.slice K (n.length+1) J)) _ _ _ u (.slice K (n.length+1) J) (.slice As s.sn.length cs) (.slice Al s.lg.length cl) (n++[⟨no,L⟩]) s.sn s.lg (Y.setCell ⟨u,0,none⟩ (.slice K (n.length+1) J)).heap.size:=
     ⟨iM (dy m G k.out.k0 (by decide)) (p:=⟨u,0,none⟩) _ (by dsimp only;omega),iM (dy m G k.out.k1 (by decide)) (p:=⟨u,0,none⟩) _ (by dsimp only;omega),lz,
      by simp only[eg];exact cN fT.aw o9 o (by decide) 0 _,
      by simp only[eg];exact gO.aw.wide (cN gO.aw (ji m G gO.aw k.out.os (by decide)) o (by decide) 0 _) (am _) (by omega),
      by simp only[eg];exact fU.aw.wide (cN fU.aw (ji m G fU.aw k.out.ol (by decide)) o (by decide) 0 _) (am _) (by omega),
      (k.out.bl.trans (G.below k.out.bl.size λi hi hs=>by have:=m.ob hs;omega)).setCell (by dsimp only;omega) _,bk,by simp only[eg];omega,am _⟩
    have d0:cH (Y.setCell ⟨u,0,none⟩ (.slice K (n.length+1) J)) 0 w5.heap.size (j.drop 4) _:=cN cH.aw (ji m G cH.aw dB.out (by decide)) o (by decide) 0 _;have a0:=ab Z;have d7:=ab d0;have dp:Hid (w5.heap.size<=(Y.setCell ⟨u,0,none⟩ (.slice K (n.length+1) J)).heap.size):=ab (by simp only[eg];omega);clear Z d0 lz m o;go_wp2;go_roundw
    case rel=>exact⟨no+1,j.drop 4,n++[⟨no,L⟩],_,rfl,by rw[bf.out,HST.out,ub];rfl,by have:=bO.out;rw[ap,nf];omega,by have:=dr.out;rw[ap,nf];omega,by rw[ap,nf];omega,dp.out,by have:=d7.out;first|(simpa only[tC,uB] using this)|(simp only[bd (show ¬cr=4 by omega),Addr.add] at this;simpa using this),e0.out,a0.out⟩
    simp[aAj];omega
  .have hz:j=[]:=pi.1 (by omega);subst hz;have iC:s.pk++fc key n0 pieces=n:=by rw[bf.out,ik,tI]
   have a5:aeY key s t↔(n.length<=20/\no-1<=99/\s0<=20/\s.lg.length<9):=by
    refine aY.out.trans ?_;rw[iC];have e:(n.length:Int)=s.pk.length+(fc key n0 pieces).length:=by rw[<-iC,ap];omega
    have:=bO.out;constructor
    .rintro⟨a1,a2,a3,a4⟩;exact⟨a1,by omega,a3,a4⟩
    .rintro⟨a1,a2,a3,a4⟩;exact⟨a1,by omega,a3,a4⟩
   have cv:aaQ key s r t=⟨n,s.sn++[jJ s0 key t],s.lg++[⟨r,s0⟩]⟩:=by rw[aL.out,iC]
   have ao:=ab a5;have e1:=ab cv;have eC:n.length<=2000000:=by omega
   clear iC a5 cv aY aL bf bO HR HP d6;have cm:=E.out.m.cell;have dV:=E.out.k0.cell;have bp:cA (no-1):=by unfold cA;omega
   unfold cA at bp;rcases(by omega:(n.length<=20/\no-1<=99/\s0<=20/\s.lg.length<9)\/¬n.length<=20\/(n.length<=20/\¬no-1<=99)\/(n.length<=20/\no-1<=99/\¬s0<=20)\/(n.length<=20/\no-1<=99/\s0<=20/\¬s.lg.length<9)) with hc|hc|hc|hc|hc
   .have t3:=bv (show ¬((20:Int)<(n.length:Int)) by omega);have t4:=bv (show ¬(99<no-1) by omega);have t5:=bv (show ¬(20<s0) by omega);have t6:=bv (show ¬((9:Int)<=(s.lg.length:Int)) by omega);have HY:=ab (ao.out.2 hc);clear hc;clear ao;go_wp2;have cw:=cm 1;have HC:=ab (λ(y:World) (hy:Below wr.heap.size wr y)=>ao8 (β:=β) s0 key HK.out (by unfold cA;omega) t ht.out (by omega) _ y bb ly (by have:=hy.size;have:=E.out.bl.size;omega) (eF.aw.below h1 (ae E.out.bl hy) cW));have aJ:=aj cw;refine bB 7 [0,1,2,3,4] [5,6] (h:= ?_);simp only[pick,List.map,pa,pb];repeat(go_big_quiet_step (fail))
    refine iS ?_;clear aJ;apply Exists.intro;apply bN (λv w'=>∃A c,v=.agg #[.int .i64 s0,.slice A (jJ s0 key t).all.length c]/\gM w' wr.heap.size w'.heap.size (jJ s0 key t).all [.slice A (jJ s0 key t).all.length c])
    .rfl
    .exact λv x y ⟨A,c,e,h⟩ hle=>⟨A,c,e,gM.aw.wide (gM.aw.below h hle (am _)) (am _) hle.size⟩
    .intro x S Qx q;replace q:=ab q;clear S;go_wp2;refine(HC.out x.to x.ok).mono ?_;rintro e wy ⟨vy,rfl,oy,br⟩;obtain⟨Ay,cy,rfl⟩:=oy.form;go_wp2;exact q.out _ _ br ⟨_,_,rfl,gM.aw.wide oy x.ok.size (am _)⟩
    intro u5;apply bN (λv w'=>∃g A c,v=.slice (some ⟨g,0,none⟩) 1 1/\bW w' g 37 #[.int .i64 s0,.slice A (jJ s0 key t).all.length c]/\gM w' wr.heap.size w'.heap.size (jJ s0 key t).all [.slice A (jJ s0 key t).all.length c])
    .rfl
    .exact λv x y ⟨g,A,c,e,hk,h⟩ hle=>⟨g,A,c,e,av hk hle,gM.aw.wide (gM.aw.below h hle (am _)) (am _) hle.size⟩
    .intro x S Qx q;replace q:=ab q;obtain⟨A5,c5,rfl,ho⟩:=S.1 (by kernel_rfl);go_wp2;have ba:=aB x.to (.cells #[.int .i64 s0,.slice A5 (jJ s0 key t).all.length c5] 37);exact q.out _ _ ba ⟨_,_,_,rfl,bW.new _ _ _,gM.aw.wide (gM.aw.below ho ba (am _)) (am _) ba.size⟩
    intro u6;refine dD ?_;intro w6 ni xx kR S;dsimp only[iZ] at S;try rw[kR] at S
    clear kR xx;obtain⟨⟨g8,A8,c8,rfl,a7,o8⟩, -⟩:=S;simp only[List.drop];have z6:=ni.size;have R:=E.out.below ni;have a9:Hid (OSn w6 wr.heap.size w6.heap.size (jJ s0 key t) [.int .i64 s0,.slice A8 (jJ s0 key t).all.length c8]):=ab ⟨_,rfl,by show cA s0;unfold cA;omega,o8⟩;have aU:=ab a7;have k:=ab R;have zb:=R.bl.size;clear E ni o8 a7 R cm cw dV HC;go_wp2_with(at_builtin;refine lL ?_);refine⟨?_,trivial⟩;refine kY OSn.aw (by decide) (v:=.slice As s.sn.length cs) rfl (.tmp 72) (.tmp 77) 24 rfl anD (jJ s0 key t) rfl k.out.os rfl aU.out rfl (by simp[Value.oneCell']) (show wr.heap.size<=w6.heap.size by omega) a9.out (am _) (by omega) (by omega) ?_;intro v9 Y o9 G c9;obtain⟨K,J,rfl⟩:=o9.form;rw[ap,nf] at o9;rw[ap,nf];have m:=k.out.os;have z9:=G.size;have bk:=k.out.gm1;have e2:=k.out.gm2;have o:=dy m G k.out.m (by decide);have dW:Y.cell? ⟨u,1,none⟩=some (.slice As s.sn.length cs):=o.cell 1;have e3:=o.frozen 1;have lz:=o.bZ 1 (.slice K (s.sn.length+1) J);simp only[db,fd,ga] at lz;have Z:afH w (Y.setCell ⟨u,1,none⟩ (.slice K (s.sn.length+1) J)) (.slice A s.pk.length a) (.slice B s.sn.length b) (.slice C s.lg.length c) u (.slice Q n.length N) (.slice K (s.sn.length+1) J) (.slice Al s.lg.length cl) n (s.sn++[jJ s0 key t]) s.lg (Y.setCell ⟨u,1,none⟩ (.slice K (s.sn.length+1) J)).heap.size:=
     ⟨iM (dy m G k.out.k0 (by decide)) (p:=⟨u,1,none⟩) _ (by dsimp only;omega),iM (dy m G k.out.k1 (by decide)) (p:=⟨u,1,none⟩) _ (by dsimp only;omega),lz,
      by simp only[eg];exact fT.aw.wide (cN fT.aw (ji m G fT.aw k.out.op (by decide)) o (by decide) 1 _) (am _) (by omega),
      by simp only[eg];exact cN gO.aw o9 o (by decide) 1 _,
      by simp only[eg];exact fU.aw.wide (cN fU.aw (ji m G fU.aw k.out.ol (by decide)) o (by decide) 1 _) (am _) (by omega),
      (k.out.bl.trans (G.below k.out.bl.size λi hi hs=>by have:=m.ob hs;omega)).setCell (by dsimp only;omega) _,bk,by simp only[eg];omega,am _⟩
    have a0:=ab Z;clear Z m o;have d1:=lz.cell;clear lz o9 G c9 k a9 aU;go_wp2_with(at_builtin;refine lL ?_);refine⟨?_,trivial⟩;obtain⟨V,bF⟩:∃V,V=Y.setCell ⟨u,1,none⟩ (.slice K (s.sn.length+1) J):=⟨_,rfl⟩;have bi:V.heap.size=Y.heap.size:=by rw[bF];simp only[eg]
    have e5:w6.heap.size<=V.heap.size:=by rw[bi];exact z9
    rw[<-bF] at a0 d1 ⊢;clear bF;generalize hG:V.alloc (.cells #[.int .i64 r,.int .i64 s0] 78)=w11 at *;obtain⟨al,ec,q0,d9,d5⟩:=iB hG;clear hG;rw[bi] at q0;clear bi;have F:=a0.out.below al;have m:=F.ol;refine kY (cg.aw FHd) (by decide) (v:=.slice Al s.lg.length cl) rfl (.tmp 81) (.tmp 85) 25 rfl anB (⟨r,s0⟩:Hd) rfl m rfl q0 rfl (by simp[Value.oneCell']) (show V.heap.size<=w11.heap.size from al.size) ⟨rfl,bo.out,by show cA s0;unfold cA;omega⟩ (am _) (by omega) (by omega) ?_;intro ez a8 W M dQ;obtain⟨I,H,rfl⟩:=W.form;rw[ap,nf] at W;rw[ap,nf];have O:=dy m M F.m (by decide);have U:=dy m M F.k1 (by decide);have ey:=O.cell;have em:=O.frozen;have eM:=U.cell;have ev:=U.frozen;have b6:=ji m M fT.aw F.op (by decide);have b2:=ji m M gO.aw F.os (by decide);have aa:Below w.heap.size w a8:=F.bl.trans (M.below F.bl.size λi hi hs=>by have:=m.ob hs;omega);have ej:=M.size;have eS:=al.size;have HF:=ab (And.intro b6 (And.intro b2 (And.intro W (And.intro aa (And.intro O U)))));clear b6 b2 W aa O U m F a0 d1 al q0 d9 d5 M dQ;go_wp2;obtain⟨b6,b2,W,aa,O,U⟩:=HF.out;have el:=O.bZ 2 (.slice I (s.lg.length+1) H);have b8:=iM U (p:=⟨u,2,none⟩) (.slice I (s.lg.length+1) H) (by dsimp only;omega);have k4:=((b8.bZ 0 (.slice Q n.length N)).bZ 1 (.slice K (s.sn.length+1) J)).bZ 2 (.slice I (s.lg.length+1) H);simp only[db,fd,ga] at k4;have bn:=k4.cell;have bl:∀{β:Type} {D:gF β} {T:List TypeId} {y:β} {cs:List Value},eE D T->27∉T->D a8 w.heap.size a8.heap.size y cs->D ((((a8.setCell ⟨u,2,none⟩ (.slice I (s.lg.length+1) H)).setCell ⟨w.heap.size+1,0,none⟩ (.slice Q n.length N)).setCell ⟨w.heap.size+1,1,none⟩ (.slice K (s.sn.length+1) J)).setCell ⟨w.heap.size+1,2,none⟩ (.slice I (s.lg.length+1) H)) w.heap.size ((((a8.setCell ⟨u,2,none⟩ (.slice I (s.lg.length+1) H)).setCell ⟨w.heap.size+1,0,none⟩ (.slice Q n.length N)).setCell ⟨w.heap.size+1,1,none⟩ (.slice K (s.sn.length+1) J)).setCell ⟨w.heap.size+1,2,none⟩ (.slice I (s.lg.length+1) H)).heap.size y cs:=λ{_ _ _ _ _} hD hT hy=>by
     simp only[eg];exact cN hD (cN hD (cN hD (cN hD hy O hT 2 _) b8 hT 0 _) (b8.bZ 0 _) hT 1 _) ((b8.bZ 0 _).bZ 1 _) hT 2 _
    refine ph (v:=.tuple #[.agg #[.slice Q n.length N,.slice K (s.sn.length+1) J,.slice I (s.lg.length+1) H],.bool true]) (by simp[results,results37,go_sem,bn]) rfl ⟨_,_,_,true,aaQ key s r t,rfl, ?_,.inl ⟨rfl,HY.out,rfl⟩,(((aa.setCell (by dsimp only;omega) _).setCell (by simp) _).setCell (by simp) _).setCell (by simp) _⟩;rw[e1.out];exact⟨bl fT.aw (by decide) (fT.aw.wide b6 (am _) (by omega)),bl gO.aw (by decide) (gO.aw.wide b2 (am _) (by omega)),bl fU.aw (by decide) W⟩
   all_goals
    have HN:Hid (¬aeY key s t):=ab λh=>by have:=ao.out.1 h;omega
    first|have t3:=de (show(20:Int)<(n.length:Int) by omega)|have t3:=bv (show ¬((20:Int)<(n.length:Int)) by omega)
    first|have t4:=de (show 99<no-1 by omega)|(try have t4:=bv (show ¬(99<no-1) by omega))
    first|have t5:=de (show 20<s0 by omega)|(try have t5:=bv (show ¬(20<s0) by omega))
    try have t6:=de (show(9:Int)<=(s.lg.length:Int) by omega)
    clear hc;clear ao;go_wp2;have cY:=h.below E.out.bl bG;refine(ac8 s _ _ _ wr lo hi cY.l (by have:=E.out.bl.size;omega) (by omega)).mono ?_;rintro e w7 ⟨v1,v2,v3,rfl,oc,b7⟩;obtain⟨A1,cz,rfl⟩:=oc.pk.form;obtain⟨A2,ca,rfl⟩:=oc.sn.form;obtain⟨A3,cO,rfl⟩:=oc.lg.form;have kr:=av E.out.k1 b7;have ek:=kr.cell;have e9:=kr.frozen;have z7:=E.out.bl.size;have e4:=ae E.out.bl b7;clear cm dV cY;go_wp2;have k4:=((kr.bZ 0 (.slice A1 s.pk.length cz)).bZ 1 (.slice A2 s.sn.length ca)).bZ 2 (.slice A3 s.lg.length cO);simp only[db,fd,ga] at k4;have bn:=k4.cell;refine ph (v:=.tuple #[.agg #[.slice A1 s.pk.length cz,.slice A2 s.sn.length ca,.slice A3 s.lg.length cO],.bool false]) (by simp[results,results37,go_sem,bn]) rfl ⟨_,_,_,false,s,rfl, ?_,.inr ⟨rfl,HN.out,rfl⟩,((e4.setCell (by simp) _).setCell (by simp) _).setCell (by simp) _⟩;simp only[eg];have e7:=E.out.k1.lt;exact oc.go (λb eV e8=>by
     have b9:b≠w.heap.size+1:=by omega
     rw[qs _ _ _ _ b9,qs _ _ _ _ b9,qs _ _ _ _ b9]) (by omega) (am _)
end
section
variable {β:Bool}
open Go.RowKit
inductive dT:dE->Prop
 |nil:dT ⟨[],[],[]⟩
 |save {s:dE} {b:Int} {t:List Nd}:dT s->b=1\/b=2->kg t->aeY 7 s t->dT (aaQ 7 s b t)
structure WfS (s:dE):Prop where
 pl:s.pk.length<=20
 pn:∀p∈s.pk,(1<=p.no/\p.no<=99)/\p.its.length<=4/\∀x∈p.its,x.b.size<=8
 sl:s.sn.length=s.lg.length
 sn:∀x∈s.sn,(1<=x.no/\x.no<=20)/\x.all.length<=6/\∀y∈x.all,y.p.size<=3/\y.ns.length<=40
 ll:s.lg.length<=9
 lg:∀h∈s.lg,(1<=h.b/\h.b<=2)/\1<=h.s/\h.s<=20
def jk(key:Int):∀(n:Nat) (no:Int) (l:List ByteArray),l.length<=n->∀p∈fc key no l,no<=p.no/\p.no<no+(fc key no l).length/\∃c:List ByteArray,p.its=fV key c/\1<=c.length/\c.length<=4/\∀x∈c,x∈l
 |0,no,l,h,p,a=>by rw[pi.1 (by omega:l.length=0),ik] at a;cases a
 |n+1,no,l,h,p,a=>by
  rcases oE l.length with d|d
  .rw[pi.1 d,ik] at a;cases a
  .rw[lM key no d] at a ⊢;rw[fm];rcases mc.1 a with rfl|a
   .exact⟨ue _,by show no<_;omega,l.take 4,rfl,by rw[fi];omega,by rw[fi];omega,λx b=>pr b⟩
   .obtain⟨k,j,c,e,g,i,f⟩:=jk key n (no+1) (l.drop 4) (by rw[pX];omega) p a;exact⟨by omega,by omega,c,e,g,i,λx b=>tv (f x b)⟩
def alA{l:List Pk}(h:∀p∈l,1<=p.no):1<=eO l:=by
 unfold eO;cases a:l.getLast? with
 |none=>show(1:Int)<=0+1;omega
 |some p=>have:=h p (vR a);show(1:Int)<=p.no+1;omega
def ada:∀(l:List Hd) (a:Int),1<=a->1<=l.foldl (λa h=>max a (h.s+1)) a
 |[],a,ha=>ha
 |x::l,a,ha=>ada l (max a (x.s+1)) (by omega)
def alB(s:dE):1<=dU s:=by
 have a:1<=fJ s.lg:=ada s.lg 1 (by omega);unfold dU;cases s.sn.getLast? with
 |none=>exact a
 |some x=>show 1<=max (fJ s.lg) (x.no+1);omega
def ajl(h:aQ (bs s)):(iP key s).b.size<=8:=by
 show(qO (fj (bs s))).size<=8;rw[<-aK,ahq,aex h];exact mr.1
def pM{t:List Nd}(h:kg t):∀x∈t,dw x.b=true:=λx a=>(h.1 x a).2
def WfS.saved{s:dE}{b:Int}{t:List Nd}(h:WfS s)(D:b=1\/b=2)(j:kg t)(A:aeY 7 s t):WfS (aaQ 7 s b t):=by
 obtain⟨r,F,n,E⟩:=A;have i:=alB s;refine⟨r,λp d=> ?_, ?_,λx a=> ?_, ?_,λy g=> ?_⟩
 .rcases jt.1 d with d|d
  .exact h.pn p d
  .obtain⟨k,o,c,m,v,w,B⟩:=jk 7 _ _ _ (am _) p d;have C:=alA (l:=s.pk) λp d=>(h.pn p d).1.1;refine⟨⟨by omega, ?_⟩,by rw[m,pK];exact w,λx a=> ?_⟩
   .have e:(acG 7 s t).length=(fc 7 (eO s.pk) (aaa 7 (nk s.pk) t)).length:=rfl;omega
   .rw[m] at a;obtain⟨q,u,rfl⟩:=acF.1 a;exact ajl (kW (pM j) q (B q u))
 .show(s.sn++[_]).length=(s.lg++[_]).length;rw[ap,ap,h.sl];rfl
 .rcases jt.1 a with a|a
  .exact h.sn x a
  .rw[gE.1 a];refine⟨⟨i,n⟩,by show(t.map (fI 7)).length<=6;rw[pe];exact j.2.1,λy g=> ?_⟩;obtain⟨f,z,rfl⟩:=mx.1 g;have k:=j.1 f z;have o:=kU k.1;have m:=abH f.b;have v:=(fD k.2).1;exact⟨by show f.p.size<=3;omega,by show((fO f.b).map _).length<=40;rw[pe];omega⟩
 .show(s.lg++[_]).length<=9;rw[ap,nf];omega
 .rcases jt.1 g with g|g
  .exact h.lg y g
  .rw[gE.1 g];exact⟨by show 1<=b/\b<=2;omega,i,n⟩
def dT.wf{s:dE}(h:dT s):WfS s:=by
 induction h with
 |nil=>exact⟨fa _,λp a=>(by cases a),rfl,λp a=>(by cases a),fa _,λp a=>(by cases a)⟩
 |save _ e d c b=>exact b.saved e d c
def iQ{a:Type}{f:a->Nat}{b:Nat}:∀{l:List a},(∀x∈l,f x<=b)->dS f l<=l.length*(b+1)
 |[],_=>mt (uA _).symm
 |x::l,h=>by
  have g:=h x (by simp);have d:=iQ (f:=f) (b:=b) (l:=l) λy c=>h y (by simp[c]);have e:dS f (x::l)=dS f l+1+f x:=by unfold dS;simp only[fm,qN,ui];omega
  rw[e,fm,rH];omega
def WfS.small{s:dE}(h:WfS s):alu 1000000 s:=⟨λp a=>by have:=(h.pn p a).1;omega,λx c=>by have:=(h.sn x c).1;omega,λy b=>by have:=(h.lg y b).2;omega⟩
def ajm:∀l:List Pk,(∀p∈l,p.its.length<=4)->(dh l).length<=l.length*4
 |[],_=>fa _
 |p::l,hl=>by
  have b:=ajm l λq a=>hl q (by simp[a]);have d:=hl p (by simp);show(oL p++dh l).length<=_;have c:(oL p).length=p.its.length:=pe _;rw[ap,fm,rH];omega
def WfS.dh{s:dE}(h:WfS s):(dh s.pk).length<=10000:=by
 have b:=ajm s.pk λp a=>(h.pn p a).2.1;have:=h.pl;omega
def WfS.axI{s:dE}(h:WfS s):aeq s<=10000:=by
 have e:dS bPk s.pk<=s.pk.length*(36+1):=iQ λp b=>by
  have c:dS bIt p.its<=p.its.length*(8+1):=iQ λx a=>(h.pn p b).2.2 x a;have:=(h.pn p b).2.1;show dS bIt p.its<=36;omega
 have f:dS bSn s.sn<=s.sn.length*(264+1):=iQ λx a=>by
  have c:dS bLs x.all<=x.all.length*(43+1):=iQ λy d=>by
   have:=(h.sn x a).2.2 y d;show y.p.size+y.ns.length<=43;omega
  have:=(h.sn x a).2.1;show dS bLs x.all<=264;omega
 have:=h.pl;have:=h.sl;have:=h.ll;unfold aeq;omega
end
section
variable {β:Bool}
open Go.RowKit
def lN(l:List Int)(g p lo hi:Nat)(w:World)(u:Rd w lo hi g l p)(x:p<=100000) :
  Calls (ah β) 39 #[.pointer (some ⟨g,0,none⟩)] w (ao0 w lo hi g l p):=by
 go_enter zj,ntmps39;go_wp2;refine(cF _ _ _ _ _ _ 40 u (by omega)).mono ?_;rintro e a ⟨m,rfl,⟨_,v⟩,q,o⟩;clear v;by_cases r:m=0
 .have s:(m ==0)=true:=mp.2 r;clear r;go_wp2;have rl:cH (a.alloc (.cells #[.string ⟨#[]⟩,.string ⟨#[102]⟩,.string ⟨#[97,47]⟩,.string ⟨#[97,98]⟩,.string ⟨#[97,47,98,47,99]⟩,.string ⟨#[47,97]⟩] 9)) a.heap.size (a.alloc (.cells #[.string ⟨#[]⟩,.string ⟨#[102]⟩,.string ⟨#[97,47]⟩,.string ⟨#[97,98]⟩,.string ⟨#[97,47,98,47,99]⟩,.string ⟨#[47,97]⟩] 9)).heap.size [⟨#[]⟩,⟨#[102]⟩,⟨#[97,47]⟩,⟨#[97,98]⟩,⟨#[97,47,98,47,99]⟩,⟨#[47,97]⟩] [.slice (some ⟨a.heap.size,0,none⟩) 6 6]:=
   (aD.deep (F:=gS) (adR (F:=gS) (bW.new a 9 #[.string ⟨#[]⟩,.string ⟨#[102]⟩,.string ⟨#[97,47]⟩,.string ⟨#[97,98]⟩,.string ⟨#[97,47,98,47,99]⟩,.string ⟨#[47,97]⟩]) rfl (am _) rfl (by simp[maxLen])) (aaO (by decide)) a.heap.size).sl (am _)
  have n:=(q).alloc (.cells #[.string ⟨#[]⟩,.string ⟨#[102]⟩,.string ⟨#[97,47]⟩,.string ⟨#[97,98]⟩,.string ⟨#[97,47,98,47,99]⟩,.string ⟨#[47,97]⟩] 9);have k:=(o).alloc (.cells #[.string ⟨#[]⟩,.string ⟨#[102]⟩,.string ⟨#[97,47]⟩,.string ⟨#[97,98]⟩,.string ⟨#[97,47,98,47,99]⟩,.string ⟨#[47,97]⟩] 9);generalize (a).alloc (.cells #[.string ⟨#[]⟩,.string ⟨#[102]⟩,.string ⟨#[97,47]⟩,.string ⟨#[97,98]⟩,.string ⟨#[97,47,98,47,99]⟩,.string ⟨#[47,97]⟩] 9)=w3 at *;refine(alb _ (by simp) _ _ _ _ _ _ _ _ w3 n (by omega) rl).mono ?_;rintro e t ⟨j,b,rfl,d,c⟩;have f:(j).size<=9:=ahK (by decide) j b;replace k:=(k).trans c λi _ e=>e;clear b rl;go_wp2;go_ret;exact⟨j,_,rfl,f,d,by omega,k⟩
 .have s:(m ==0)=false:=dq.2 r;clear r;go_wp2;have rl:cH (a.alloc (.cells #[.string ⟨#[97]⟩,.string ⟨#[98]⟩,.string ⟨#[99,47,97]⟩,.string ⟨#[99,47,98]⟩,.string ⟨#[100,47,97]⟩,.string ⟨#[101]⟩,.string ⟨#[97,47,98]⟩,.string ⟨#[100]⟩] 9)) a.heap.size (a.alloc (.cells #[.string ⟨#[97]⟩,.string ⟨#[98]⟩,.string ⟨#[99,47,97]⟩,.string ⟨#[99,47,98]⟩,.string ⟨#[100,47,97]⟩,.string ⟨#[101]⟩,.string ⟨#[97,47,98]⟩,.string ⟨#[100]⟩] 9)).heap.size [⟨#[97]⟩,⟨#[98]⟩,⟨#[99,47,97]⟩,⟨#[99,47,98]⟩,⟨#[100,47,97]⟩,⟨#[101]⟩,⟨#[97,47,98]⟩,⟨#[100]⟩] [.slice (some ⟨a.heap.size,0,none⟩) 8 8]:=
   (aD.deep (F:=gS) (adR (F:=gS) (bW.new a 9 #[.string ⟨#[97]⟩,.string ⟨#[98]⟩,.string ⟨#[99,47,97]⟩,.string ⟨#[99,47,98]⟩,.string ⟨#[100,47,97]⟩,.string ⟨#[101]⟩,.string ⟨#[97,47,98]⟩,.string ⟨#[100]⟩]) rfl (am _) rfl (by simp[maxLen])) (aaO (by decide)) a.heap.size).sl (am _)
  have n:=(q).alloc (.cells #[.string ⟨#[97]⟩,.string ⟨#[98]⟩,.string ⟨#[99,47,97]⟩,.string ⟨#[99,47,98]⟩,.string ⟨#[100,47,97]⟩,.string ⟨#[101]⟩,.string ⟨#[97,47,98]⟩,.string ⟨#[100]⟩] 9);have k:=(o).alloc (.cells #[.string ⟨#[97]⟩,.string ⟨#[98]⟩,.string ⟨#[99,47,97]⟩,.string ⟨#[99,47,98]⟩,.string ⟨#[100,47,97]⟩,.string ⟨#[101]⟩,.string ⟨#[97,47,98]⟩,.string ⟨#[100]⟩] 9);generalize (a).alloc (.cells #[.string ⟨#[97]⟩,.string ⟨#[98]⟩,.string ⟨#[99,47,97]⟩,.string ⟨#[99,47,98]⟩,.string ⟨#[100,47,97]⟩,.string ⟨#[101]⟩,.string ⟨#[97,47,98]⟩,.string ⟨#[100]⟩] 9)=w3 at *;refine(alb _ (by simp) _ _ _ _ _ _ _ _ w3 n (by omega) rl).mono ?_;rintro e t ⟨j,b,rfl,d,c⟩;have f:(j).size<=9:=ahK (by decide) j b;replace k:=(k).trans c λi _ e=>e;clear b rl;go_wp2;go_ret;exact⟨j,_,rfl,f,d,by omega,k⟩
def arN(w:World)(lo hi g:Nat)(l:List Int)(p:Nat)(e:Ending)(w':World):Prop:=∃s q,e=.returned (.string s)/\s.size<=1000/\Rd w' lo hi g l q/\q<=p+30/\bJ (λb=>b=g) w w'
def abP(a b:ByteArray):(a++b).size=a.size+b.size:=by rw[<-aK,gh,ap,aK,aK]
def arO(w:World)(n:Int):∃t:ByteArray,t.size=1/\Sem.run (ah β) (convert 22 9 (.slice (some ⟨w.heap.size,0,none⟩) 1 1)) (w.alloc (.cells #[.int .u8 n] 5))=.ok (.string t) (w.alloc (.cells #[.int .u8 n] 5)):=by
 refine⟨([n].foldl (λr n=>r.push (UInt8.ofNat n.toNat)) ByteArray.empty),rfl, ?_⟩;rw[run_convert_bytes_string _ _ _ 5 _ _ _ wA qU5 qU9];refine run_bytesToString _ _ 1 1 [n] ?_;have c:=(bW.new w 5 #[.int .u8 n]).cell 0;refine run_loadCells_list (a:=⟨w.heap.size,0,none⟩) (cs:=[.int .u8 n]) (w:=w.alloc (.cells #[.int .u8 n] 5)) (P:=(ah β)) (λj v b=> ?_)
 match j,b with
 |0,b=>
  cases b;exact c
def adb(l:List Int)(g p lo hi:Nat)(w:World)(hr:Rd w lo hi g l p)(hp:p<=100000) :
  Calls (ah β) 40 #[.pointer (some ⟨g,0,none⟩)] w (arN w lo hi g l p):=by
 go_enter zh,ntmps40;go_wp2;refine(cF _ _ _ _ _ _ 5 hr (by omega)).mono ?_;rintro e w2 ⟨m,rfl,⟨_,hm⟩,Q,S⟩;have af:=hm (by omega);obtain⟨mm,rfl⟩:=qi (show 0<=m by omega);clear hm;go_wp2;go_loopw [3,4] (λtt H wr=>∃(j q:Nat) (x:ByteArray),j<=4/\H=.int .i64 j/\tt=.string x/\x.size+9*j<=36/\Rd wr lo hi g l q/\q+j<=p+5/\bJ (λb=>b=g) w wr) (λ_ H _=>(intOf H).toNat)
 case atStart=>exact⟨mm,_,⟨#[]⟩,by omega,rfl,rfl,by show 0+_<=_;omega,Q,by omega,S⟩
 case round=>
  clear Q S;obtain⟨j,q,x,hj,rfl,rfl,hx,rd,U⟩:=hrel;obtain⟨an,U⟩:=U;by_cases h0:j=0
  .subst h0;go_wp2;refine(cF _ _ _ _ _ _ 4 rd (by omega)).mono ?_;rintro e w3 ⟨m2,rfl,⟨_,a6⟩,r,A⟩;clear a6;have G:=U.trans A λi _ e=>e;have a3:x.size<=60:=by omega
   have a9:x.size<=36:=by omega
   clear rd A hx;by_cases W:m2=0
   .have t1:(m2 ==0)=true:=mp.2 W;clear W;go_wp2;refine(cF _ _ _ _ _ _ 12 r (by omega)).mono ?_;rintro e w5 ⟨m5,rfl,⟨_,N⟩,K,R⟩;have a8:=N (by omega);obtain⟨n5,rfl⟩:=qi (show 0<=m5 by omega);have T:=G.trans R λi _ e=>e;clear N R G r;go_wp2;go_loopw [3,5] (λtt H wr=>∃(j V:Nat) (y:ByteArray),j<=11/\H=.int .i64 j/\tt=.string y/\y.size+j<=47/\Rd wr lo hi g l V/\V+j<=p+18/\bJ (λb=>b=g) w wr) (λ_ H _=>(intOf H).toNat)
    case atStart=>exact⟨n5,_,x,by omega,rfl,rfl,by omega,K,by omega,T⟩
    case round=>
     clear K T;obtain⟨j,V,y,f,rfl,rfl,hy,E,ax,C⟩:=hrel;by_cases O:j=0
     .subst O;have a2:y.size<=60:=by omega
      clear hy;have a7:V<=p+20:=by omega
      by_cases a5:40<(y).size
      case' pos=>
       have t4:=de (show(40:Int)<((y).size:Int) by omega);have g2:(40:Int)<=((y).size:Int):=by omega
       obtain⟨z,n,o⟩:∃z,z=(y).extract 0 40/\z.size=40:=⟨_,rfl,by rw[aeM _ (by omega)]⟩;have P:=ab n;go_wp2;rw[<-P.out];clear n P
      case' neg=>
       have t4:=bv (show ¬((40:Int)<((y).size:Int)) by omega);go_wp2;have o:=a2;obtain⟨z,n⟩:∃z,z=y:=⟨_,rfl⟩;rw[<-n] at o ⊢;clear n
      all_goals
       refine(cF _ _ _ _ _ _ 60 E (by omega)).mono ?_;rintro e X ⟨d,rfl,⟨_,D⟩,a,s⟩;have c:=(C).trans s λi _ e=>e;clear D s;by_cases k:d=0
       .have t5:(d ==0)=true:=mp.2 k;clear k;go_wp2;go_ret;exact⟨_,_,rfl,by rw[abP];have:(⟨#[65]⟩:ByteArray).size=1:=rfl;omega,a,by omega,c⟩
       .have t5:(d ==0)=false:=dq.2 k;by_cases u:d=1
        .have t6:(d ==1)=true:=mp.2 u;clear k u;go_wp2;refine(aeF ⟨#[97,98,99,100,101]⟩ 9 (by decide) (by decide) (by decide) X).mono ?_;rintro e w5 ⟨⟨t,rfl,ht⟩,rfl⟩;go_wp2;go_ret;exact⟨t,_,rfl,by omega,a,by omega,c⟩
        .have t6:(d ==1)=false:=dq.2 u;clear k u;go_wp2;go_ret;exact⟨_,_,rfl,by omega,a,by omega,c⟩
     .have t7:=de (show(0:Int)<(j:Int) by omega);obtain⟨B,I⟩:∃y,y=j-1:=⟨_,rfl⟩;have e7:(j:Int)-1=((B:Nat):Int):=by omega
      have fN:0<(j:Int):=by omega
      have f:j=B+1:=by omega
      clear I O;have v:=ab f;clear f;go_wp2;refine(cF _ _ _ _ _ _ 26 E (by omega)).mono ?_;rintro e w7 ⟨m7,rfl,⟨_,L⟩,Y,M⟩;have ao:=L (by omega);have a1:=C.trans M λi _ e=>e;clear L M C E;have a4:=Y.alloc (.cells #[.int .u8 (97+m7)] 5);have a0:=a1.alloc (.cells #[.int .u8 (97+m7)] 5);obtain⟨t,ht,ad⟩:=arO (β:=β) w7 (97+m7);go_wp2;go_roundw
      case rel=>exact⟨B,_,y++t,by have:=v.out;omega,rfl,rfl,by rw[abP,ht];have:=v.out;omega,a4,by have:=v.out;omega,a0⟩
      simp[intOf];have:=v.out;omega
   .have t1:(m2 ==0)=false:=dq.2 W;clear W;have a7:q+1<=p+20:=by omega
    by_cases a5:40<(x).size
    case' pos=>
     have t4:=de (show(40:Int)<((x).size:Int) by omega);have g2:(40:Int)<=((x).size:Int):=by omega
     obtain⟨z,n,o⟩:∃z,z=(x).extract 0 40/\z.size=40:=⟨_,rfl,by rw[aeM _ (by omega)]⟩;have P:=ab n;go_wp2;rw[<-P.out];clear n P
    case' neg=>
     have t4:=bv (show ¬((40:Int)<((x).size:Int)) by omega);go_wp2;have o:=a3;obtain⟨z,n⟩:∃z,z=x:=⟨_,rfl⟩;rw[<-n] at o ⊢;clear n
    all_goals
     refine(cF _ _ _ _ _ _ 60 r (by omega)).mono ?_;rintro e X ⟨d,rfl,⟨_,D⟩,a,s⟩;have c:=(G).trans s λi _ e=>e;clear D s;by_cases k:d=0
     .have t5:(d ==0)=true:=mp.2 k;clear k;go_wp2;go_ret;exact⟨_,_,rfl,by rw[abP];have:(⟨#[65]⟩:ByteArray).size=1:=rfl;omega,a,by omega,c⟩
     .have t5:(d ==0)=false:=dq.2 k;by_cases u:d=1
      .have t6:(d ==1)=true:=mp.2 u;clear k u;go_wp2;refine(aeF ⟨#[97,98,99,100,101]⟩ 9 (by decide) (by decide) (by decide) X).mono ?_;rintro e w5 ⟨⟨t,rfl,ht⟩,rfl⟩;go_wp2;go_ret;exact⟨t,_,rfl,by omega,a,by omega,c⟩
      .have t6:(d ==1)=false:=dq.2 u;clear k u;go_wp2;go_ret;exact⟨_,_,rfl,by omega,a,by omega,c⟩
  .have t1:=de (show(0:Int)<(j:Int) by omega);have al:x.size<=36:=by omega
   obtain⟨B,I⟩:∃y,y=j-1:=⟨_,rfl⟩;have u:(j:Int)-1=((B:Nat):Int):=by omega
   have fN:0<(j:Int):=by omega
   have f:j=B+1:=by omega
   clear I h0;have v:=ab f;clear f;go_wp2;have rl:cH (wr.alloc (.cells #[.string ⟨#[97,98,99]⟩,.string ⟨#[104,101,108,108,111]⟩,.string ⟨#[119,111,114,108,100]⟩,.string ⟨#[97,97,97,97]⟩,.string ⟨#[107,101,101,112]⟩,.string ⟨#[122,122]⟩,.string ⟨#[98,97,99,107,117,112]⟩,.string ⟨#[113]⟩] 9)) wr.heap.size (wr.alloc (.cells #[.string ⟨#[97,98,99]⟩,.string ⟨#[104,101,108,108,111]⟩,.string ⟨#[119,111,114,108,100]⟩,.string ⟨#[97,97,97,97]⟩,.string ⟨#[107,101,101,112]⟩,.string ⟨#[122,122]⟩,.string ⟨#[98,97,99,107,117,112]⟩,.string ⟨#[113]⟩] 9)).heap.size [⟨#[97,98,99]⟩,⟨#[104,101,108,108,111]⟩,⟨#[119,111,114,108,100]⟩,⟨#[97,97,97,97]⟩,⟨#[107,101,101,112]⟩,⟨#[122,122]⟩,⟨#[98,97,99,107,117,112]⟩,⟨#[113]⟩] [.slice (some ⟨wr.heap.size,0,none⟩) 8 8]:=
    (aD.deep (F:=gS) (adR (F:=gS) (bW.new wr 9 #[.string ⟨#[97,98,99]⟩,.string ⟨#[104,101,108,108,111]⟩,.string ⟨#[119,111,114,108,100]⟩,.string ⟨#[97,97,97,97]⟩,.string ⟨#[107,101,101,112]⟩,.string ⟨#[122,122]⟩,.string ⟨#[98,97,99,107,117,112]⟩,.string ⟨#[113]⟩]) rfl (am _) rfl (by simp[maxLen])) (aaO (by decide)) wr.heap.size).sl (am _)
   have r:=(rd).alloc (.cells #[.string ⟨#[97,98,99]⟩,.string ⟨#[104,101,108,108,111]⟩,.string ⟨#[119,111,114,108,100]⟩,.string ⟨#[97,97,97,97]⟩,.string ⟨#[107,101,101,112]⟩,.string ⟨#[122,122]⟩,.string ⟨#[98,97,99,107,117,112]⟩,.string ⟨#[113]⟩] 9);have kV:=(U).alloc (.cells #[.string ⟨#[97,98,99]⟩,.string ⟨#[104,101,108,108,111]⟩,.string ⟨#[119,111,114,108,100]⟩,.string ⟨#[97,97,97,97]⟩,.string ⟨#[107,101,101,112]⟩,.string ⟨#[122,122]⟩,.string ⟨#[98,97,99,107,117,112]⟩,.string ⟨#[113]⟩] 9);generalize (wr).alloc (.cells #[.string ⟨#[97,98,99]⟩,.string ⟨#[104,101,108,108,111]⟩,.string ⟨#[119,111,114,108,100]⟩,.string ⟨#[97,97,97,97]⟩,.string ⟨#[107,101,101,112]⟩,.string ⟨#[122,122]⟩,.string ⟨#[98,97,99,107,117,112]⟩,.string ⟨#[113]⟩] 9)=w3 at *;refine(alb _ (by simp) _ _ _ _ _ _ _ _ w3 r (by omega) rl).mono ?_;rintro e v3 ⟨s3,J,rfl,Z,A⟩;have aa:(s3).size<=9:=ahK (by decide) s3 J;replace kV:=(kV).trans A λi _ e=>e;clear J rl;go_wp2;go_roundw
   case rel=>exact⟨B,_,x++s3,by have:=v.out;omega,rfl,rfl,by rw[abP];have:=v.out;omega,Z,by have:=v.out;omega,kV⟩
   simp[intOf];have:=v.out;omega
end
section
variable {β:Bool}
open Go.RowKit
def ape(w:World)(lo hi g:Nat)(l:List Int)(p:Nat)(e:Ending)(w':World):Prop:=∃v a q,e=.returned v/\aD jT 50 w' w.heap.size v a/\(∀y∈a,jT.good y)/\a.length<=7/\Rd w' lo hi g l q/\q<=p+300/\bJ (λb=>b=g) w w'
def ajn(l:List Int)(g p lo hi:Nat)(w:World)(hr:Rd w lo hi g l p)(hp:p<=50000) :
  Calls (ah β) 63 #[.pointer (some ⟨g,0,none⟩)] w (ape w lo hi g l p):=by
 have ao:=hr.lt;go_enter yR,ntmps63;go_wp2;have U:=hr.alloc (.cells #[] 50);have E:=(bJ.refl (λb=>b=g) w).alloc (.cells #[] 50);have I:aD jT 50 (w.alloc (.cells #[] 50)) w.heap.size (.slice (some ⟨w.heap.size,0,none⟩) 0 0) []:=(eD.new w 50 (am _)).own 2;generalize w.alloc (.cells #[] 50)=w0 at *;refine(cF _ _ _ _ _ _ 6 U (by omega)).mono ?_;rintro e w1 ⟨m,rfl,⟨_,hm⟩,a1,H⟩;have ax:=hm (by omega);obtain⟨mm,rfl⟩:=qi (show 0<=m by omega);have X:=I.eY H λb x e=>by have:=(I.at_ x).1;omega
 replace E:=E.trans H λi _ e=>e;clear hm U H I;go_wp2;go_loopw [3,4] (λtt jj wr=>∃(j q:Nat) (o:List Nd),j<=5/\jj=.int .i64 j/\aD jT 50 wr w.heap.size tt o/\kg o/\Rd wr lo hi g l q/\q+40*j<=p+201/\bJ (λb=>b=g) w wr) (λ_ jj _=>(intOf jj).toNat)
 case atStart=>exact⟨mm,_,[],by omega,rfl,X,kg.nil,a1,by omega,E⟩
 case round=>
  clear X a1 E;obtain⟨j,q,o,hj,rfl,K,L,rd,hq,R⟩:=hrel;obtain⟨A,c,rfl⟩:=K.form;replace L:=ab L;have an:=R.size;by_cases h0:j=0
  .subst h0;have B:=ab (pH L.out);have ad:o.length<=6:=L.out.2.1;go_wp2;refine(cF _ _ _ _ _ _ 40 rd (by omega)).mono ?_;rintro e N ⟨O,rfl,⟨_,a8⟩,a,n⟩;have r:=K.eY n λb x e=>by have:=(K.at_ x).1;omega
   have d:=R.trans n λi _ e=>e;clear a8 rd K n R;by_cases Q:O=0
   .have t5:(O ==0)=true:=mp.2 Q;clear Q;go_wp2;refine(lN l g (q+1) lo hi N a (by omega)).mono ?_;rintro e w3 ⟨s,q3,rfl,a7,C,a6,z⟩;have k:=r.eY z λb x e=>by have:=(r.at_ x).1;omega
    have P:=d.trans z λi _ e=>e;have J:=P.size;clear a r d;go_wp2_with(at_builtin;refine bR (F:=jT) (v:=.slice A o.length c) rfl (.tmp 29) (.tmp 33) 30 rfl lJ ⟨s,⟨#[97]⟩⟩ rfl k rfl rfl (by omega) J ?_;intro va wa oa Z af;obtain⟨Aa,ca,rfl⟩:=oa.form;simp only[ap,fm,me,ls] at oa);go_ret;refine⟨_,o++[⟨s,⟨#[97]⟩⟩],q3,rfl,by simpa using oa,λy M=> ?_,by simp;omega,C.eY Z λb x e=> ?_,by omega,P.trans Z λb x e=> ?_⟩
    .rcases jt.1 M with M|M
     .exact B.out y M
     .rw[gE.1 M];exact⟨by show s.size<=maxLen;unfold maxLen;omega,by show(⟨#[97]⟩:ByteArray).size<=maxLen;decide⟩
    .have:=(k.at_ e).1;have:=C.hi_;omega
    .have:=(k.at_ e).1;omega
   .have t5:(O ==0)=false:=dq.2 Q;by_cases Y:O=1
    .have t6:(O ==1)=true:=mp.2 Y;clear Q Y;by_cases a0:o.length=0
     .have t7:=bv (show ¬(0<o.length) by omega);clear a0;go_wp2;go_ret;exact⟨_,o,q+1,rfl,r,B.out,by omega,a,by omega,d⟩
     .have t7:=de (show 0<o.length by omega);have fN:0<o.length:=by omega
      obtain⟨y0,dI⟩:=aq fN;obtain⟨W,c',e⟩:=aD.some_ r fN;simp only[pv] at e;obtain⟨rfl, -,rfl⟩:=e;have al:=(r.at_ rfl).1;have H:N.cell? ⟨W,1,none⟩=some (.string y0.b):=by
       have:=aD.cell r (j:=1) dI rfl;simpa using this
      have ay:=aD.frozen r rfl 1;have D:=aD.put r (j:=1) (u:=.string ⟨#[65]⟩) (y:=⟨y0.p,⟨#[65]⟩⟩) dI (by decide) rfl;rw[uA,ls] at D;have HP:=ab D;have G:bJ (λb=>b=W) N (N.setCell ⟨W,1,none⟩ (.string ⟨#[65]⟩)):=(bJ.refl (λb=>b=W) N).setCell (p:=⟨W,1,none⟩) (.inl rfl) _;replace G:=ab G;replace dI:=ab dI;clear D a0;go_wp2;go_ret;refine⟨_,o.set 0 ⟨y0.p,⟨#[65]⟩⟩,q+1,rfl,HP.out,λy M=> ?_,by rw[qK];omega,a.eY G.out λb x e=> ?_,by omega,d.trans G.out λb x e=> ?_⟩
      .rcases sK M with h1|rfl
       .exact B.out y h1
       .exact⟨(B.out y0 (be dI.out)).1,by show(⟨#[65]⟩:ByteArray).size<=maxLen;decide⟩
      .have:=a.hi_;omega
      .omega
    .have t6:(O ==1)=false:=dq.2 Y;clear Q Y;go_wp2;go_ret;exact⟨_,o,q+1,rfl,r,B.out,by omega,a,by omega,d⟩
  .have fN:0<(j:Int):=by omega
   obtain⟨j',aa⟩:∃y,y=j-1:=⟨_,rfl⟩;have Y:(j:Int)-1=((j':Nat):Int):=by omega
   have f:j=j'+1:=by omega
   replace f:=ab f;clear aa h0;go_wp2;refine(lN l g q lo hi wr rd (by omega)).mono ?_;rintro e N ⟨s,q2,rfl,a7,a,aJ,n⟩;have r:=K.eY n λb x e=>by have:=(K.at_ x).1;omega
   have d:=R.trans n λi _ e=>e;clear rd K n R;go_wp2;refine(adb l g q2 lo hi N a (by omega)).mono ?_;rintro e w3 ⟨t,q3,rfl,ht,C,a6,z⟩;have k:=r.eY z λb x e=>by have:=(r.at_ x).1;omega
   have P:=d.trans z λi _ e=>e;have r3:=(k.deep (pH L.out) w.heap.size).sl (am _);clear a r z d;go_wp2;refine(ac6 o s t (by unfold maxLen;omega) (by unfold maxLen;omega) _ w3 w.heap.size w3.heap.size r3 (am _) (by have:=L.out.2.1;omega)).mono ?_;rintro e w4 ⟨v4,zs,a5,rfl,o4,a2,b4⟩;have J:=P.size;have a9:=o4.base J;have a3:=k.below b4;have V:=C.eY (bJ.bh (S:=λ_=>False) b4) λ_ _ h=>h;have T:=P.trans (bJ.bh (S:=λ_=>False) b4) λ_ _ h=>h.elim;have a4:=ab a2;obtain⟨A4,c4,rfl⟩:=o4.form;clear a2 C P k o4 r3;cases a5
   .go_wp2;go_roundw
    case rel=>exact⟨j',q3,o,by have:=f.out;omega,rfl,a3,L.out,V,by have:=f.out;omega,T⟩
    simp[intOf];have:=f.out;omega
   .go_wp2;go_roundw
    case rel=>exact⟨j',q3,zs,by have:=f.out;omega,rfl,a9,a4.out,V,by have:=f.out;omega,T⟩
    simp[intOf];have:=f.out;omega
def arP(w:World)(lo hi g:Nat)(l:List Int)(p:Nat)(e:Ending)(w':World):Prop:=∃v a q,e=.returned v/\aD jT 50 w' w.heap.size v a/\kg a/\Rd w' lo hi g l q/\q<=p+300/\bJ (λb=>b=g) w w'
def ajo(l:List Int)(g p lo hi:Nat)(w:World)(y:Rd w lo hi g l p)(x:p<=50000) :
  Calls (ah β) 36 #[.pointer (some ⟨g,0,none⟩)] w (arP w lo hi g l p):=by
 go_enter zm,ntmps36;go_wp2;refine(ajn l g p lo hi w y x).mono ?_;rintro e m ⟨C,r,q,rfl,k,f,u,j,n,b⟩;obtain⟨A,c,rfl⟩:=k.form;have B:=b.size;have s:=(k.deep f w.heap.size).sl (am _);clear f;go_wp2;refine(aaP r _ m w.heap.size m.heap.size s (am _)).mono ?_;rintro e z ⟨⟨rfl,o⟩|rfl,i⟩
 .have t:=ab o;have v:=k.below i;have d:=j.eY (bJ.bh (S:=λ_=>False) i) λ_ _ h=>h;have a:=b.trans (bJ.bh (S:=λ_=>False) i) λ_ _ h=>h.elim;clear o;go_wp2;go_ret;exact⟨_,r,q,rfl,v,t.out,d,n,a⟩
 .have d:=j.eY (bJ.bh (S:=λ_=>False) i) λ_ _ h=>h;have a:=b.trans (bJ.bh (S:=λ_=>False) i) λ_ _ h=>h.elim;go_wp2;go_ret;exact⟨_,[⟨⟨#[97]⟩,⟨#[104,101,108,108,111]⟩⟩],q,rfl,adR (F:=jT) (bW.new z 50 #[.string ⟨#[97]⟩,.string ⟨#[104,101,108,108,111]⟩]) rfl a.size rfl (by simp[maxLen]),kg.one ⟨by decide,by decide⟩,d.alloc _,n,a.alloc _⟩
end
end Go.Proofs.YtepfjblhjlefiaaGreatDoor