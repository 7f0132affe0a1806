/- A part. -/
import Derived.Test.YtblbaiejjagdoaaGreatDoorG8
import Derived.Shelf.Sort.Plain
import Derived.Shelf.Slices.CompactI
import Derived.Shelf.Slices.In.SortNone
import Derived.Sort.OwnSortedInts
import Derived.Lib.RowBridge
set_option maxRecDepth 100000
set_option maxHeartbeats 8000000
set_option linter.all false
open Go Go.RowKit Go.Proofs.Tryz Go.Proofs.YtblbaiejjagdoaaGreatDoor
variable {x:Sn} {Y X k:Nat} {key n:Int} {W V U v:Value} {w w':World} {Z l:List Int}
namespace Go.Proofs.YtblbaiejjagdoaaGreatDoor
def tZ:=@Go.Lib.compact_length_le
section
open Go.RowKit
def aib(key:Int)(d:1<=key/\key<=99)(l:List Pk)(nm:Int)(v:Value)(w:World)(x t:Nat)(B:t<=w.heap.size)(h:eE w x t l [v]) :
  Calls (ah true) 106 #[.int .i64 key,v,.int .i64 nm] w λe n=>e=.returned (.tuple #[.string (bP key (bV l) nm).1,.bool (bP key (bV l) nm).2])/\Below w.heap.size w n:=by
 obtain⟨A,c,rfl⟩:=h.form;obtain⟨_,M,H⟩:=h.len_;unfold maxLen at H;go_enter yV,ntmps106;go_wp2;go_loopw [8] (λi wr=>∃k:Nat,k<=l.length/\i=.int .i64 k/\bP key (bV l) nm=bP key (bV (l.drop k)) nm/\Below w.heap.size w wr) (λi _=>l.length-(intOf i).toNat)
 case atStart=>exact⟨0,du _,rfl,rfl,db _ _⟩
 case round=>
  obtain⟨k,L,rfl,f,a⟩:=hrel;replace f:=ab f;have O:=a.size;by_cases q:k<l.length
  .obtain⟨p,s⟩:=aq q;have C:=eE.aK.below h a B;obtain⟨K,J,N,P,rfl, -, -,F,D,z,y⟩:=aaq C s;have m:bP key (bV (l.drop k)) nm=if(eQ key (pkd p).2 nm).2=true then((eQ key (pkd p).2 nm).1,true) else bP key (bV (l.drop (k+1))) nm:=by
    obtain⟨E,I⟩:=jt.1 s;rw[uG E,I];rfl
   have HD:=ab (f.out.trans m);clear m s f;have HG:=λn (u:Below wr.heap.size wr n)=>adJ (β:=true) key d p nm _ n x t (by have:=u.size;omega) (iB.aK.below y u (by omega));replace HG:=ab HG;have r:=ab (HG.out wr (db _ _));clear HG;go_wp2;refine r.out.mono ?_;rintro e Q ⟨rfl,G⟩;have j:=ae a G;cases o:(eQ key (pkd p).2 nm).2
   .have b:=HD.out.trans (bd (by rw[o];exact pG));have g:=ab b;clear b o;go_wp2;go_roundw
    case rel=>exact⟨k+1,by omega,by go_num,g.out,j⟩
    simp[intOf];omega
   .have b:=HD.out.trans (dl o);have g:=ab b;clear b o;go_wp2;go_ret2;rw[g.out];exact⟨rfl,j⟩
  .obtain rfl:k=l.length:=by omega
   have b:bP key (bV l) nm=(⟨#[]⟩,false):=by rw[f.out,List.drop_length];rfl
   have g:=ab b;clear b;go_wp2;go_ret2;rw[g.out];exact⟨rfl,a⟩
def iU.aeQ{o:Option (List Nd)}(h:o=none)(a:Below w.heap.size w w'):iU o w (.returned (.tuple #[.slice (some ⟨w'.heap.size,0,none⟩) 0 0,.bool false])) (w'.alloc (.cells #[] 143)):=by
 subst h;exact⟨_,rfl,aS.aeQ (ajB.new w' _ a.size),λy b=>(by cases b),a.alloc a.size _⟩
def apH{l:List gz}{j:Nat}(h:Z[j]?=some n):fB key l (Z.take (j+1))=fB key l (Z.take j)++[(bP key l n).1]:=by
 unfold fB;rw[gn h,oR];rfl
theorem afp (key:Int) (O:1<=key/\key<=99) (l:List Pk) (x:Sn) (vl vn:Value) (lo I:Nat) (w:World) (aM:I<=w.heap.size) (hl:eE w lo I l [vl])
  (K:bA w lo I x.all [vn]) (a2:∀y∈x.all,y.ns.length<=2147483647) (bo:x.all.length<=1099511627) :
  Calls (ah true) 67 #[.int .i64 key,.agg #[.int .i64 x.no,vn],vl] w (iU (dD key (bV l) x.all) w):=by
 have HK:=ab O;clear O;obtain⟨B,d,rfl⟩:=K.form;obtain⟨-,hd,b6⟩:=K.len_;obtain⟨A,c,rfl⟩:=hl.form;unfold maxLen at b6;have bf:=ab a2;clear a2;go_enter xl,ntmps67;go_wp2;generalize hG:(w.alloc (.cells #[.int .i64 x.no,.slice B x.all.length d] 48)).alloc (.cells #[] 143)=w0 at *;obtain⟨av,dK,k0,cy,dg,k1,gY,jq⟩:=nh hG;clear hG;have o0:aS FNd 143 w0 w.heap.size (.slice (some ⟨w.heap.size+1,0,none⟩) 0 0) []:=aS.aeQ ⟨_,rfl,by omega,k1⟩;refine(jT (β:=true) key w0 true (by simp only[qj];exact HK.out)).mono ?_;rintro e w1 ⟨rfl,rfl⟩;go_wp2;go_loopw [8,9] (λoo ii wr=>∃k:Nat,k<=x.all.length/\ii=.int .i64 k/\(∀y∈x.all.take k,(gb key (bV l) y).isSome=true)/\aS FNd 143 wr w.heap.size oo (dm key (bV l) (x.all.take k))/\(∀y∈dm key (bV l) (x.all.take k),FNd.good y)/\(dm key (bV l) (x.all.take k)).length=k/\gi wr w.heap.size 48 #[.int .i64 x.no,.slice B x.all.length d]/\(∀b,oo.ownBlock=some b->w.heap.size<b)/\Below w.heap.size w wr) (λ_ ii _=>x.all.length-(intOf ii).toNat)
 case atStart=>exact⟨0,du _,rfl,λy hy=>(by cases hy),o0,λy hy=>(by cases hy),rfl,k0,(by intro b e;cases e;exact uL _),av⟩
 case round=>
  clear k0 cy dg av o0 k1 gY jq dK;obtain⟨k,hk,rfl,D,ho,a5,a7,k0,aa,R⟩:=hrel;have Q:=ab D;have L:=ab a5;have X:=ab a7;clear D a5 a7;have br:=R.size;have cy:=k0.cell;by_cases aR:k<x.all.length
  .obtain⟨y,cM⟩:=aq aR;have ay:bA wr lo I x.all [.slice B x.all.length d]:=bA.loc.below K R aM;obtain⟨b,ad,A',c',rfl,bx,V,b1,W,a4,a2⟩:=aaY ay cM;have HY:=ab cM;have bg:=bf.out y (be cM);clear cM;obtain⟨J,ba⟩:∃J,J=wr:=⟨_,rfl⟩;subst ba;go_wp2;generalize hG:J.alloc (.cells #[] 9)=wa at *;obtain⟨eF,aO,m0,bb,aW⟩:=fA hG;clear hG;have p0:aS ni 9 wa J.heap.size (.slice (some ⟨J.heap.size,0,none⟩) 0 0) []:=aS.aeQ ⟨_,rfl,am _,m0⟩;go_loopw [10,11] (λpp kk wi=>∃j:Nat,j<=y.ns.length/\kk=.int .i64 j/\(∀n∈y.ns.take j,(bP key (bV l) n).2=true)/\aS ni 9 wi J.heap.size pp (fB key (bV l) (y.ns.take j))/\Below J.heap.size J wi) (λ_ kk _=>y.ns.length-(intOf kk).toNat)
   case atStart=>exact⟨0,du _,rfl,λn K=>(by cases K),p0,eF⟩
   case round=>
    clear m0 bb aW eF aO p0;obtain⟨j,hj,rfl,N,o2,p⟩:=hrel;have fQ:=ab N;clear N;have H:=ae R p;have zr:=H.size;have zi:=p.size;have oZ:=ar k0 p;have bp:=oZ.cell;clear W a4 cy;have b5:bA wr lo I x.all [.slice (some ⟨b,ad,none⟩) x.all.length d]:=bA.loc.below K H aM;obtain⟨b',a6,A2,c2,e2, -, -, -,W,a4,bi⟩:=aaY b5 HY.out;simp only[lw,pM,qh] at e2;obtain⟨rfl,rfl⟩:=e2;have bn:(k:Int)<(x.all.length:Int):=by omega
    by_cases b4:j<y.ns.length
    .obtain⟨n,a0⟩:=aq b4;obtain⟨m,bl,rfl, -, -,bt,bk⟩:=bi.ints_at a0;have a1:=ab a0;clear a0;have b8:=ab (λ(w':World) (hy:Below wr.heap.size wr w')=>aib key HK.out l n _ w' lo I (by have:=hy.size;omega) (eE.aK.below (eE.aK.below hl H aM) hy (by omega)));go_wp2;refine(b8.out _ (db _ _)).mono ?_;rintro e M ⟨rfl,m⟩;have a3:=ae p m;have o:=ae R a3;have C:=ar oZ m;have ao:=C.cell;cases hf:(bP key (bV l) n).2
     .have g:dD key (bV l) x.all=none:=ab5 (be HY.out) (ab4 λhh=>by
       have:=hh.1 n (be a1.out);rw[hf] at this;cases this)
      have t:=ab g;clear g hf;go_wp2;go_ret2;exact iU.aeQ t.out o
     .have af:∀z∈y.ns.take (j+1),(bP key (bV l) z).2=true:=λz a=>by
       rw[gn a1.out] at a;rcases gt.1 a with a|a
       .exact fQ.out z a
       .rw[ga.1 a];exact hf
      have b7:=ab af;have Y:=ab (apH (key:=key) (l:=bV l) a1.out);have r:(fB key (bV l) (y.ns.take j)).length=j:=by unfold fB;rw[pF,lc];omega
      have S:=ab r;have f:=o2.below m;clear af hf r;revert f Y S;generalize fB key (bV l) (y.ns.take j)=G;intro Y S f;obtain⟨Ao,co,rfl⟩:=f.form;have u:=a3.size;go_wp2_with(at_builtin;refine ku (F:=ni) (v:=.slice Ao G.length co) rfl (.tmp 58) (.tmp 60) 163 rfl abY (bP key (bV l) n).1 rfl f rfl rfl (by rw[S.out];omega) u ?_;intro va w4 oa E T;obtain⟨Aa,ca,rfl⟩:=oa.form);go_roundw
      case rel=>exact⟨j+1,by omega,by go_num,b7.out,by rw[Y.out];simp only[ge,mp,pT,ph] at oa;exact oa,a3.trans (E.below u λi I hx=>by have:=(f.at_ hx).1;omega)⟩
      case measure=>simp[intOf];omega
    .obtain rfl:j=y.ns.length:=by omega
     rw[dk] at fQ o2;have Z:∀s∈fB key (bV l) y.ns,aZ (bs s):=λs hs=>by
      obtain⟨n,K,rfl⟩:=lP.1 hs;exact(iT (fQ.out n K)).1
     have a9:∀s∈fB key (bV l) y.ns,s.size<=maxLen:=λs hs=>by have:=(dE (Z s hs)).2;unfold maxLen;omega
     have t2:=aeY.sl (aS.deep o2 a9 J.heap.size) (am _);have r:(fB key (bV l) y.ns).length<=2147483647:=by unfold fB;rw[pF];exact bg
     have ax:=ab (λ(M:World) (m:Below wr.heap.size wr M)=>amz (β:=true) (fB key (bV l) y.ns) Z r _ M _ _ (fY.aK.below t2 m (am _)) m.size);have b9:=ab (show ajX key (bV l) y.ns from fQ.out);obtain⟨A4,c4,rfl⟩:=o2.form;clear Z a9 t2 r o2 fQ;go_wp2;refine(ax.out _ (db _ _)).mono ?_;rintro e M ⟨rfl,m⟩;have o:=ae H m;have C:=ar oZ m;cases hj:(eR (fB key (bV l) y.ns)).2
     .have g:dD key (bV l) x.all=none:=ab5 (be HY.out) (ab4 λhh=>by rw[hj] at hh;cases hh.2);have t:=ab g;clear g hj;go_wp2;go_ret2;exact iU.aeQ t.out o
     .have P:=agR (x:=y) b9.out hj;have aH:(eR (fB key (bV l) y.ns)).1.size<=maxLen:=by have:=afj (l:=fB key (bV l) y.ns);unfold maxLen;omega
      generalize (eR (fB key (bV l) y.ns)).1=tx at *;have an:=adr HY.out P;have al:∀z∈x.all.take (k+1),(gb key (bV l) z).isSome=true:=λz a=>by
       rw[gn HY.out] at a;rcases gt.1 a with a|a
       .exact Q.out z a
       .rw[ga.1 a,P];rfl
      have HN:=ab an;have aT:=ab al;clear an al P hj;have f:=ho.below (ae p m);obtain⟨Ao,co,rfl⟩:=f.form;have u:=o.size;have ao:=C.cell;have bj:bA M lo I x.all [.slice (some ⟨b,ad,none⟩) x.all.length d]:=bA.loc.below K o aM;obtain⟨b',a6,A5,c5,e2, -, -, -,bw,bq, -⟩:=aaY bj HY.out;simp only[lw,pM,qh] at e2;obtain⟨rfl,rfl⟩:=e2;clear W a4;go_wp2_with(at_builtin;refine ku (F:=FNd) (v:=.slice Ao (dm key (bV l) (x.all.take k)).length co) rfl (.tmp 70) (.tmp 79) 106 rfl anM (⟨y.p,tx⟩:Nd) rfl f rfl rfl (by rw[X.out];omega) u ?_;intro va w4 oa E T;obtain⟨Aa,ca,rfl⟩:=oa.form;simp only[ge,mp,pT,ph] at oa T);go_roundw
      case rel=>
       have aD:=o.trans (E.below u λi I hx=>by have:=(f.at_ hx).1;omega);refine⟨k+1,by omega,by go_num,aT.out,by rw[HN.out];exact oa, ?_,by rw[HN.out,ge,X.out];rfl,kW C E (λe=>by have:=aa _ e;omega),(λb R=>(T b R).elim (aa b) λh=>by have:=C.lt;omega),aD⟩;rw[HN.out];intro z a;rcases gt.1 a with a|a
       .exact L.out z a
       .rw[ga.1 a];exact⟨b1,aH⟩
      case measure=>simp[intOf];omega
  .obtain rfl:k=x.all.length:=by omega
   rw[dk] at Q L X ho;have t3:=aeY.sl (aS.deep ho L.out w.heap.size) (am _);obtain⟨q,hq⟩:∃q:Bool,q=true↔agA (dm key (bV l) x.all):=dG _;have HT:=λM (m:Below wr.heap.size wr M)=>apg (β:=true) (dm key (bV l) x.all) u8 M _ _ (nj.aK.below t3 m (am _)) m.size q hq;have b0:=ab HT;have HQ:=ab hq;clear HT hq t3;go_wp2;refine(b0.out _ (db _ _)).mono ?_;rintro e w2 ⟨rfl,b2⟩;have V:=ae R b2;cases q with
   |false=>
    have g:dD key (bV l) x.all=none:=by
     unfold dD;rw[bd];rintro⟨-,hh⟩;have:=HQ.out.2 (acI.1 hh);cases this
    have t:=ab g;clear g;go_wp2;go_ret2;exact iU.aeQ t.out V
   |true=>
    have a8:dD key (bV l) x.all=some (dm key (bV l) x.all):=by
     unfold dD;rw[dl ⟨Q.out,acI.2 (HQ.out.1 rfl)⟩]
    have U:=ab a8;clear a8;have b3:=ho.below b2;clear ho;go_wp2;go_ret2;refine⟨u8,by rw[U.out];rfl,by rw[U.out];exact b3,by rw[U.out];exact L.out,V⟩
def afq (key:Int) (l:List Pk) (x:Sn) (g i:Value) (k b:Nat) (w:World) (q:b<=w.heap.size) (m:eE w k b l [g])
  (o:bA w k b x.all [i]) (f:∀y∈x.all,y.ns.length<=2147483647) (j:x.all.length<=1099511627) :
  Calls (ah true) 67 #[.int .i64 key,.agg #[.int .i64 x.no,i],g] w (iU (afl key (bV l) x.all) w):=by
 by_cases a:1<=key/\key<=99
 .rw[show afl key (bV l) x.all=dD key (bV l) x.all from dl a];exact afp key a l x g i k b w q m o f j
 .rw[show afl key (bV l) x.all=none from bd a];obtain⟨B,d,rfl⟩:=o.form;obtain⟨A,c,rfl⟩:=m.form;replace a:=ab a;go_enter xl,ntmps67;go_wp2;generalize n:(w.alloc (.cells #[.int .i64 x.no,.slice B x.all.length d] 48)).alloc (.cells #[] 143)=w0 at *;obtain⟨s,v,D,z,E,p,C,F⟩:=nh n;clear n;refine(jT (β:=true) key w0 false (by simp only[fd,qO];exact a.out)).mono ?_;rintro e u ⟨rfl,rfl⟩;have t:aS FNd 143 w0 w.heap.size (.slice (some ⟨w.heap.size+1,0,none⟩) 0 0) []:=aS.aeQ ⟨_,rfl,by omega,p⟩;go_wp2;go_ret2;exact⟨_,rfl,t,λy r=>(by cases r),s⟩
end
section
variable {β:Bool}
open Go.RowKit
def ab7(key:Int)(t:1<=key/\key<=99)(p:Pk)(v:Value)(w:World)(lo hi:Nat)(aM:hi<=w.heap.size)(h:iB w lo hi p.its [v])(b:Bool)(D:b=true↔abX key p) :
  Calls (ah β) 72 #[.int .i64 key,.agg #[.int .i64 p.no,v]] w λe w'=>e=.returned (.bool b)/\Below w.heap.size w w':=by
 replace D:=ab D;obtain⟨A,c,rfl⟩:=h.form;obtain⟨_,hc,hx⟩:=h.len_;unfold maxLen at hx;go_enter zm,ntmps72;go_wp2;generalize G:w.alloc (.cells #[.int .i64 p.no,.slice A p.its.length c] 56)=w0 at *;obtain⟨P,dK,k0,cy,dg⟩:=fA G;clear G;have h0:=iB.aK.below h P aM;have z0:=P.size;go_loopw [12] (λi wr=>∃k:Nat,k<=p.its.length/\i=.int .i64 k/\adH key (p.its.take k)/\Below w0.heap.size w0 wr) (λi _=>p.its.length-(intOf i).toNat)
 case atStart=>exact⟨0,du _,rfl,ajP key,db _ _⟩
 case round=>
  obtain⟨k,hk,rfl,O,n⟩:=hrel;replace O:=ab O;have Q:=ar k0 n;clear k0 cy dg;have zr:=n.size;by_cases X:k<p.its.length
  .obtain⟨x,B⟩:=aq X;have Y:=iB.aK.below h0 n (by omega);obtain⟨K,a0,rfl,_,_,F,cn,cb⟩:=ada Y B;replace B:=ab B;have HS:=ab F.2;have r:=mN (key:=key) (x:=x);replace r:=ab r;go_wp2;generalize G:wr.alloc (.cells #[.int .i64 x.n,.string x.b] 83)=wa at *;obtain⟨R,a1,U,J,Z⟩:=fA G;clear G;refine(anE key (x.n,x.b) t HS.out wa).mono ?_;rintro e w1 ⟨rfl,K⟩;have H1:=iB.aK.below Y (ae R K) (by omega);have k1:=ar Q (ae R K);replace U:=ar U K;replace J:=U.cell;replace Z:=U.frozen;have f:=ae n (ae R K);have E:=k1.cell 1;have s:=J 0;obtain⟨q,a⟩:∃q,q=(dC key (x.n,x.b)).2:=⟨_,rfl⟩;rw[<-a] at r ⊢;generalize (dC key (x.n,x.b)).1=pc;clear a Q k1 cn cb R F Y;cases q with
   |false=>
    have L:b=false:=by
     rw[<-bv,D.out];intro T;have:=r.out.1 (T.2.2.2.1 x (be B.out));cases this
    have C:=ab L;clear L;go_wp2;have u:=ag E;have z:=ag s;refine az (by kernel_rfl) (by kernel_rfl) ?_;repeat(go_big_quiet_step (fail))
    refine ff ?_;intro V g;have a:=aF g;clear g u z;go_wp2;go_ret;exact⟨ak C.out.symm,ae P (ae f a)⟩
   |true=>
    have d:=r.out.2 rfl;have o:=ab d;clear d;rcases mu k with I|I
    .subst I;have N:=ajO B.out o.out;have HK:=ab N;clear N;go_wp2;have u:=ag E;have z:=ag s;refine az (by kernel_rfl) (by kernel_rfl) ?_;repeat(go_big_quiet_step (fail))
     refine ff ?_;intro V g;have a:=aF g;clear g u z;go_wp2;go_roundw
     case rel=>first|exact⟨1,by omega,by go_num,HK.out,ae f a⟩|((repeat apply Exists.intro);refine⟨?_,rfl⟩;exact⟨1,by omega,by go_num,HK.out,ae f a⟩)
     simp[intOf];omega
    .obtain⟨j,rfl⟩:∃j,k=j+1:=⟨k-1,by omega⟩;have e1:((j+1:Nat):Int)-1=(j:Int):=by omega
     obtain⟨y,H⟩:=aq (l:=p.its) (k:=j) (by omega);obtain⟨b2,gX,M,_,_,a2,oL,a3⟩:=ada H1 H;simp only[lw,pM,qh] at M;obtain⟨rfl,rfl⟩:=M;replace H:=ab H;by_cases S:y.n<x.n
     .have u1:=da (show ¬(x.n<=y.n) by omega);have N:=anJ O.out H.out B.out o.out S;have HK:=ab N;clear N S;go_wp2;have u:=ag E;have z:=ag s;have W:=ag oL;refine az (by kernel_rfl) (by kernel_rfl) ?_;repeat(go_big_quiet_step (fail))
      refine ff ?_;intro V g;have a:=aF g;clear g u z W;go_wp2;go_roundw
      case rel=>first|exact⟨j+1+1,by omega,by go_num,HK.out,ae f a⟩|((repeat apply Exists.intro);refine⟨?_,rfl⟩;exact⟨j+1+1,by omega,by go_num,HK.out,ae f a⟩)
      simp[intOf];omega
     .have u1:=dq (show x.n<=y.n by omega);have L:b=false:=by
       rw[<-bv,D.out];exact λT=>anK H.out B.out S ⟨T.2.2.2.1,T.2.2.2.2⟩
      have C:=ab L;clear L S;go_wp2;have u:=ag E;have z:=ag s;have W:=ag oL;refine az (by kernel_rfl) (by kernel_rfl) ?_;repeat(go_big_quiet_step (fail))
      refine ff ?_;intro V g;have a:=aF g;clear g u z W;go_wp2;go_ret;exact⟨ak C.out.symm,ae P (ae f a)⟩
  .obtain rfl:k=p.its.length:=by omega
   have f0:=Q.cell 0;have E:=Q.cell 1;have d:=O.out;rw[dk] at d;have o:=ab d;clear d O;go_wp2;refine(abJ (β:=β) key wr true (by simp;omega)).mono ?_;rintro e w1 ⟨rfl,rfl⟩;have fin:∀q:Bool,(q=true↔(1<=p.no/\p.no<=99)/\1<=(p.its.length:Int)/\(p.its.length:Int)<=4)->b=q:=λq a=>by
    rw[oi,D.out,a];exact⟨λh=>⟨h.1,by have:=h.2.2.1;omega⟩,λh=>⟨h.1,t,by have:=h.2;omega,o.out.1,o.out.2⟩⟩
   replace fin:=ab fin;have m:=ae P n;by_cases t1:1<=p.no
   .by_cases t2:p.no<=99
    .by_cases t3:1<=(p.its.length:Int)
     .by_cases t4:(p.its.length:Int)<=4
      .go_wp2;go_ret;exact⟨ak (fin.out _ (by simp;omega)).symm,m⟩
      .go_wp2;go_ret;exact⟨ak (fin.out _ (by simp;omega)).symm,m⟩
     .go_wp2;go_ret;exact⟨ak (fin.out _ (by simp;omega)).symm,m⟩
    .go_wp2;go_ret;exact⟨ak (fin.out _ (by simp;omega)).symm,m⟩
   .go_wp2;go_ret;exact⟨ak (fin.out _ (by simp;omega)).symm,m⟩
end
section
open Go.RowKit
def xd:Tryz.pinned.checked.prog.mainIs=some (true, "8720c8034a1f78e76f1a60cca0f6fbcbfb914b9970f33341c2d8743d42a0a2ef".toList):=by kernel_rfl
def xF:false=Tryz.pinned.checked.prog.looks []:=by kernel_rfl
end
section
open Go.Shelf Go.RowKit
variable {β:Bool}
def agW:(ah β).follows .mixedOrders=true:=by cases β<;>kernel_rfl
def adK:Go.Shelf.Ren:=⟨fun|189=>31|125=>63|257=>62|128=>100|129=>101|294=>91|295=>92|296=>93|297=>94|298=>95|299=>96|216=>97|300=>98|301=>99|328=>129|329=>130|330=>131|331=>132|332=>133|215=>134|343=>169|n=>n,fun|28=>27|3=>3|46=>111|0=>0|51=>155|53=>157|4=>4|183=>147|182=>146|131=>152|5=>5|9=>9|218=>187|222=>191|228=>231|229=>175|n=>n,fun|n=>n⟩
def ads:Go.Proofs.Lays.n189 (ah β) adK:={
 mixed:=agW
 f125:=qF63.trans (fa some (by kernel_rfl))
 f128:=qF100.trans (fa some (by kernel_rfl))
 f129:=qF101.trans (fa some (by kernel_rfl))
 f189:=qF31.trans (fa some (by kernel_rfl))
 f215:=qF134.trans (fa some (by kernel_rfl))
 f216:=qF97.trans (fa some (by kernel_rfl))
 f257:=qF62.trans (fa some (by kernel_rfl))
 f294:=qF91.trans (fa some (by kernel_rfl))
 f295:=qF92.trans (fa some (by kernel_rfl))
 f296:=qF93.trans (fa some (by kernel_rfl))
 f297:=qF94.trans (fa some (by kernel_rfl))
 f298:=qF95.trans (fa some (by kernel_rfl))
 f299:=qF96.trans (fa some (by kernel_rfl))
 f300:=qF98.trans (fa some (by kernel_rfl))
 f301:=qF99.trans (fa some (by kernel_rfl))
 f328:=qF129.trans (fa some (by kernel_rfl))
 f329:=qF130.trans (fa some (by kernel_rfl))
 f330:=qF131.trans (fa some (by kernel_rfl))
 f331:=qF132.trans (fa some (by kernel_rfl))
 f332:=qF133.trans (fa some (by kernel_rfl))
 f343:=qF169.trans (fa some (by kernel_rfl))
 t0:=qU0
 a0:=λw=>(cB _ w).trans (Tryz.isAgg0 w)
 z0:=λw=>(bQ _ w).trans (Tryz.sizeOf0 w)
 v0:=λw=>(aU _ w).trans (uR w)
 t3:=qU3
 a3:=λw=>(cB _ w).trans (Tryz.isAgg3 w)
 z3:=λw=>(bQ _ w).trans (Tryz.sizeOf3 w)
 v3:=λw=>(aU _ w).trans (uQ w)
 t4:=qU4
 a4:=λw=>(cB _ w).trans (Tryz.isAgg4 w)
 z4:=λw=>(bQ _ w).trans (Tryz.sizeOf4 w)
 v4:=λw=>(aU _ w).trans (uc w)
 t5:=qU5
 a5:=λw=>(cB _ w).trans (Tryz.isAgg5 w)
 z5:=λw=>(bQ _ w).trans (Tryz.sizeOf5 w)
 v5:=λw=>(aU _ w).trans (Tryz.zeroValue5 w)
 t9:=qU9
 a9:=λw=>(cB _ w).trans (Tryz.isAgg9 w)
 z9:=λw=>(bQ _ w).trans (Tryz.sizeOf9 w)
 v9:=λw=>(aU _ w).trans (Tryz.zeroValue9 w)
 t28:=vO
 a28:=λw=>(cB _ w).trans (Tryz.isAgg27 w)
 z28:=λw=>(bQ _ w).trans (Tryz.sizeOf27 w)
 v28:=λw=>(aU _ w).trans (Tryz.zeroValue27 w)
 t46:=xT
 a46:=λw=>(cB _ w).trans (Tryz.isAgg111 w)
 z46:=λw=>(bQ _ w).trans (Tryz.sizeOf111 w)
 v46:=λw=>(aU _ w).trans (Tryz.zeroValue111 w)
 t51:=xP
 a51:=λw=>(cB _ w).trans (Tryz.isAgg155 w)
 z51:=λw=>(bQ _ w).trans (Tryz.sizeOf155 w)
 v51:=λw=>(aU _ w).trans (Tryz.zeroValue155 w)
 t53:=xO
 a53:=λw=>(cB _ w).trans (Tryz.isAgg157 w)
 z53:=λw=>(bQ _ w).trans (Tryz.sizeOf157 w)
 v53:=λw=>(aU _ w).trans (Tryz.zeroValue157 w)
 t131:=xQ
 a131:=λw=>(cB _ w).trans (Tryz.isAgg152 w)
 z131:=λw=>(bQ _ w).trans (Tryz.sizeOf152 w)
 v131:=λw=>(aU _ w).trans (Tryz.zeroValue152 w)
 t182:=xS
 a182:=λw=>(cB _ w).trans (Tryz.isAgg146 w)
 z182:=λw=>(bQ _ w).trans (Tryz.sizeOf146 w)
 v182:=λw=>(aU _ w).trans (Tryz.zeroValue146 w)
 t183:=xR
 a183:=λw=>(cB _ w).trans (Tryz.isAgg147 w)
 z183:=λw=>(bQ _ w).trans (Tryz.sizeOf147 w)
 v183:=λw=>(aU _ w).trans (Tryz.zeroValue147 w)
 t218:=xL
 a218:=λw=>(cB _ w).trans (Tryz.isAgg187 w)
 z218:=λw=>(bQ _ w).trans (Tryz.sizeOf187 w)
 v218:=λw=>(aU _ w).trans (Tryz.zeroValue187 w)
 t222:=xK
 a222:=λw=>(cB _ w).trans (Tryz.isAgg191 w)
 z222:=λw=>(bQ _ w).trans (Tryz.sizeOf191 w)
 v222:=λw=>(aU _ w).trans (Tryz.zeroValue191 w)
 t228:=xI
 a228:=λw=>(cB _ w).trans (Tryz.isAgg231 w)
 z228:=λw=>(bQ _ w).trans (Tryz.sizeOf231 w)
 v228:=λw=>(aU _ w).trans (Tryz.zeroValue231 w)
 t229:=xM
 a229:=λw=>(cB _ w).trans (Tryz.isAgg175 w)
 z229:=λw=>(bQ _ w).trans (Tryz.sizeOf175 w)
 v229:=λw=>(aU _ w).trans (Tryz.zeroValue175 w)}
open Go.Sort Go.RowKit in
def pE(a b cap:Nat)(d:List Int)(w:World)(j:Holds (Value.int .i64) w a b d.toArray)(c:a<w.heap.size)(f:d.length<4611686018427387904) :
  Calls (ah β) 31 #[.slice (some ⟨a,b,none⟩) d.length cap] w λe g=>
   e=.returned (.tuple #[])/\∃n i,g=grow (putRow (Value.int .i64) (Sort.ahead w n) a b (d.mergeSort λx y=>decide (x<=y)).toArray) i:=Any.slices_Sort_int ads a b cap d w j c f
def ab8:Go.Shelf.Ren:=⟨fun|20=>32|n=>n,fun|22=>27|3=>3|4=>4|0=>0|n=>n,fun|n=>n⟩
def aaw:Go.Proofs.Lays2.n20 (ah β) ab8:={
 mixed:=agW
 f20:=qF32.trans (fa some (by kernel_rfl))
 t0:=qU0
 a0:=λw=>(cB _ w).trans (Tryz.isAgg0 w)
 z0:=λw=>(bQ _ w).trans (Tryz.sizeOf0 w)
 v0:=λw=>(aU _ w).trans (uR w)
 t3:=qU3
 a3:=λw=>(cB _ w).trans (Tryz.isAgg3 w)
 z3:=λw=>(bQ _ w).trans (Tryz.sizeOf3 w)
 v3:=λw=>(aU _ w).trans (uQ w)
 t4:=qU4
 a4:=λw=>(cB _ w).trans (Tryz.isAgg4 w)
 z4:=λw=>(bQ _ w).trans (Tryz.sizeOf4 w)
 v4:=λw=>(aU _ w).trans (uc w)
 t22:=vO
 a22:=λw=>(cB _ w).trans (Tryz.isAgg27 w)
 z22:=λw=>(bQ _ w).trans (Tryz.sizeOf27 w)
 v22:=λw=>(aU _ w).trans (Tryz.zeroValue27 w)
 i3:=by first|kernel_rfl|(cases β<;>kernel_rfl)}
open Go.RowKit Go.Lib Go.Sort in
def mP(b a cap:Nat)(c:List Int)(w:World)(i:Holds (Value.int .i64) w b a c.toArray)(f:c.length<=9223372036854775807)(d:c.length<=cap) :
  Calls (ah β) 32 #[.slice (some ⟨b,a,none⟩) c.length cap] w λe g=>e=.returned (.slice (some ⟨b,a,none⟩) (Lib.compact c).length cap)/\∃q,g=putRow (Value.int .i64) (Sort.ahead w q) b a (Lib.compact c++List.replicate (c.length-(Lib.compact c).length) 0).toArray:=Any.slices_Compact_int aaw b a cap c w i f d
open Go.RowKit Go.Lib Go.Sort in
def jE(a:Option Addr)(cap:Nat)(w:World) :
  Calls (ah β) 32 #[.slice a 0 cap] w λe b=>e=.returned (.slice a 0 cap)/\b=w:=Any.slices_Compact_int_empty aaw a cap w
open Go.RowKit Go.Sort in
def lJ(p:Option Addr)(cap:Nat)(w:World) :
  Calls (ah β) 31 #[.slice p 0 cap] w λe a=>e=.returned (.tuple #[])/\a=w:=Any.slices_Sort_int_none ads p cap w
end
section
variable {β:Bool}
open Go.RowKit
def eH(l:List Int):List Int:=l.mergeSort λx y=>decide (x<=y)
def iV(l:List Int):(eH l).length=l.length:=List.length_mergeSort l
def acO{x:Int}:x∈eH l↔x∈l:=List.mem_mergeSort
def akd{base:Nat}(p:aS fW 3 w base v l)(q:l.length<4611686018427387904) :
  Calls (ah β) 31 #[v] w λe c=>e=.returned (.tuple #[])/\aS fW 3 c base v (eH l)/\gq (λb=>v.ownBlock=some b) w c:=by
 obtain⟨A,⟨rfl,x⟩|⟨g,cap,d,rfl,u,j,z,r,t,m⟩⟩:=p
 .obtain rfl:=pI.1 x;refine(lJ none 0 w).mono ?_;rintro e c ⟨rfl,rfl⟩;refine⟨rfl, ?_,gq.refl _ _⟩;rw[show eH []=[] from pI.1 (iV [])];exact aS.nil _ _ _
 .have o:dB fW l=l.map (Value.int .i64):=jR l;rw[o] at m;have f:d.toList.take l.length=l.map (Value.int .i64):=by rw[<-m];show _=List.take (l.length*1) _;rw[sO]
  refine(pE g 0 cap l w (holds_of_blockI j f) (de.1 j).1 q).mono ?_;rintro e c ⟨rfl,n,os,rfl⟩;have a:=grownBy_sortedI (w:=w) (g:=g) (n:=n) (os:=os) (eH l).toArray;refine⟨rfl, ?_,a.os,a.tape,a.output,a.size,λk y i=>a.block k y λe=>i (by cases e;rfl)⟩;have s:=ownsRow_sortedI (w:=w) (base:=base) (g:=g) (cap:=cap) (n:=n) (os:=os) (ss:=l) (ts:=eH l) (iV l) u j z r t;unfold aS;rw[jR,iV];exact s
def adt{base:Nat}(E:aS fW 3 w base v l)(F:l.length<=9223372036854775807) :
  Calls (ah β) 32 #[v] w λe d=>∃p,e=.returned p/\aS fW 3 d base p (Lib.compact l)/\gq (λb=>v.ownBlock=some b) w d:=by
 obtain⟨L,⟨rfl,I⟩|⟨g,cap,j,rfl,t,s,x,A,H,u⟩⟩:=E
 .obtain rfl:=pI.1 I;refine(jE none 0 w).mono ?_;rintro e d ⟨rfl,rfl⟩;refine⟨_,rfl, ?_,gq.refl _ _⟩;rw[show Lib.compact ([]:List Int)=[] from pI.1 (Nat.le_zero.1 (tZ []))];exact aS.nil _ _ _
 .have D:dB fW l=l.map (Value.int .i64):=jR l;rw[D] at u;have f:j.toList.take l.length=l.map (Value.int .i64):=by rw[<-u];show _=List.take (l.length*1) _;rw[sO]
  have G:=tZ l;refine(mP g 0 cap l w (holds_of_blockI s f) F x).mono ?_;rintro e d ⟨rfl,q,rfl⟩;have z:Sort.putRow (Value.int .i64) (Sort.ahead w q) g 0 (Lib.compact l++List.replicate (l.length-(Lib.compact l).length) 0).toArray=Sort.grow (Sort.putRow (Value.int .i64) (Sort.ahead w q) g 0 (Lib.compact l++List.replicate (l.length-(Lib.compact l).length) 0).toArray) #[]:=by rw[Sort.grow_empty]
  rw[z];have a:=grownBy_sortedI (w:=w) (g:=g) (n:=q) (os:=#[]) (Lib.compact l++List.replicate (l.length-(Lib.compact l).length) 0).toArray;refine⟨_,rfl, ?_,a.os,a.tape,a.output,a.size,λk B i=>a.block k B λe=>i (by cases e;rfl)⟩;obtain⟨-,⟨m, -⟩|⟨M,r,c,m, -,o,K,J,C,y⟩⟩:=ownsRow_sortedI (w:=w) (base:=base) (g:=g) (cap:=cap) (n:=q) (os:=#[]) (ss:=l) (ts:=Lib.compact l++List.replicate (l.length-(Lib.compact l).length) 0) (by simp;omega) t s x A H
  .cases m
  .cases m;unfold aS;rw[jR];refine⟨by rw[pF];exact(sO _).symm,.inr ⟨g,cap,c,rfl,t,o,by omega,J,C, ?_⟩⟩;show List.take ((Lib.compact l).length*1) _=_;rw[sO] at y ⊢;have:=fa (List.take (Lib.compact l).length) y;rw[uY,qy G,oR,List.take_left' (by rw[pF])] at this;exact this
end
section
variable {β:Bool}
open Go.RowKit
def apJ(l:List Int):(eH l).Pairwise λa b=>a<=b:=by
 have h:=List.pairwise_mergeSort (le:=λx y:Int=>decide (x<=y)) (λa b c e d=>by simp at *;omega) (λa b=>by simp;omega) l;exact h.imp λh=>by simpa using h
def amA(l:List Int):(eH l).Perm l:=List.mergeSort_perm _ _
def aic :(Lib.compact (eH l)).length=l.length↔l.Nodup:=by
 rw[<-(amA l).nodup_iff,<-iV l];have c:=apJ l;generalize eH l=z at c;constructor
 .intro h;have g:∀j,j<z.length->Lib.keeps z.toArray j=true:=λj a=>by
   unfold Lib.compact Lib.compactUpTo at h;rw[pF] at h;have d:((List.range z.length).filter (Lib.keeps z.toArray)).length=(List.range z.length).length:=by rw[h,List.length_range]
   exact List.length_filter_eq_length_iff.1 d j (pm.2 a)
  refine pv.2 λi j m a n=> ?_;have f:=g j a;unfold Lib.keeps at f;have b:¬j=0:=by omega
  have k:z[j]≠z[j-1]:=by
   intro e;simp[b,getElem!_pos,a,show j-1<z.length by omega,e] at f
  have d:=pv.1 c (j-1) j (by omega) a (by omega);have o:z[i]<=z[j-1]:=by
   by_cases e:i=j-1
   .subst e;exact uq _
   .exact pv.1 c i (j-1) m (by omega) (by omega)
  omega
 .intro h;rw[Lib.compact_all z λj a=> ?_];unfold Lib.keeps;by_cases b:j=0
  .simp[b]
  .have:=pv.1 h (j-1) j (by omega) a (by omega);simp[b,getElem!_pos,a,show j-1<z.length by omega];omega
end
section
open Go.RowKit
def iW{α:Type}(P:α->Prop)(f:α->Int)(l:List α):Prop:=(∀x∈l,P x)/\l.Pairwise λa b=>f a<f b
section
variable {α:Type} {P:α->Prop} {f:α->Int} {xs:List α} {x y:α} {j k:Nat}
def mQ:iW P f []:=⟨λx h=>(by cases h),List.Pairwise.nil⟩
def afr:iW P f (xs++[x])↔iW P f xs/\P x/\∀y∈xs,f y<f x:=by
 unfold iW;rw[rV];constructor
 .intro⟨d,e,_,g⟩;exact⟨⟨λy c=>d y (by simp[c]),e⟩,d x (by simp),λy c=>g y c x (by simp)⟩
 .intro⟨⟨d,e⟩,g,j⟩;refine⟨λy c=> ?_,e,su _ _,λa i b k=> ?_⟩
  .rcases gt.1 c with c|c
   .exact d y c
   .rw[ga.1 c];exact g
  .rw[ga.1 k];exact j a i
def mf(b:xs[0]?=some x)(h:P x):iW P f (xs.take 1):=by
 rw[gn b];exact afr.2 ⟨mQ,h,λy a=>(by cases a)⟩
def pd(c:iW P f (xs.take (j+1)))(d:xs[j]?=some y)(e:xs[j+1]?=some x)(h:P x)(b:f y<f x):iW P f (xs.take (j+1+1)):=by
 rw[gn e];refine afr.2 ⟨c,h,λz a=> ?_⟩;rw[gn d] at a c;rcases gt.1 a with a|a
 .have:=(afr.1 c).2.2 z a;omega
 .rw[ga.1 a];exact b
def axK(a:xs[k]?=some x)(h:¬P x):¬iW P f xs:=λb=>h (b.1 x (be a))
def pg(b:xs[j]?=some y)(c:xs[j+1]?=some x)(h:¬f y<f x):¬iW P f xs:=λd=>by
 have a:=pv.1 d.2 j (j+1) (aI b) (aI c) (by omega);rw[(jt.1 b).2,(jt.1 c).2] at a;exact h a
end
def anW(key:Int)(l:List Pk):Prop:=iW (abX key) Pk.no l/\l.length<=20/\(aP l).Nodup
def ake(key:Int)(pk:List Pk)(x:Sn):Prop:=(1<=x.no/\x.no<=20)/\(dD key (bV pk) x.all).isSome=true
def asI(key:Int)(pk:List Pk)(l:List Sn):Prop:=iW (ake key pk) Sn.no l
def agX(key:Int)(s:ib):Prop:=anW key s.pk/\asI key s.pk s.sn
structure Swp where
 s:ib
 ms:List Int
 lf:List Int
noncomputable def dn(acc l:List Int):List Int:=l.foldl lq acc
def adu(acc l:List Int)(x:Int):dn acc (l++[x])=lq (dn acc l) x:=by unfold dn;rw[sS];rfl
def aa0{y:Int}:∀{l acc:List Int},y∈dn acc l↔y∈acc\/y∈l
 |[],acc=>by simp[dn]
 |x::l,acc=>by
  show y∈dn (lq acc x) l↔_;rw[aa0,agT,lE,or_assoc]
def iX:∀{l acc:List Int},(dn acc l).length<=acc.length+l.length
 |[],acc=>by simp[dn]
 |x::l,acc=>by
  show(dn (lq acc x) l).length<=_;have a:=iX (l:=l) (acc:=lq acc x);have b:=apB acc x;rw[mp];omega
noncomputable def gJ(x:Sn):List Int:=dn [] (df x)
def amB{y:Int} :y∈gJ x↔y∈df x:=by unfold gJ;rw[aa0];simp
noncomputable def iv(l:List Sn):List Int:=l.foldl (λacc x=>dn acc (gJ x)) []
def akf{l:List Sn}(h:l[k]?=some x):iv (l.take (k+1))=dn (iv (l.take k)) (gJ x):=by
 unfold iv;rw[gn h,sS];rfl
def agY{y:Int}:∀{l:List Sn} {acc:List Int},y∈l.foldl (λacc x=>dn acc (gJ x)) acc↔y∈acc\/∃x∈l,y∈df x
 |[],acc=>by simp
 |x::l,acc=>by
  rw[sG,agY,aa0,amB,or_assoc];simp
def afs{y:Int}{l:List Sn}:y∈iv l↔∃x∈l,y∈df x:=by unfold iv;rw[agY];simp
def axL(pk:List Pk)(lf:List Int):Prop:=iW (λn=>∃p∈pk,p.no=n) id lf
def amC(l:List Sn)(mk:List Int):Prop:=∀x∈l,∀n∈df x,n∈mk
def aft{l:List Sn} :amC l Z↔∀n∈iv l,n∈Z:=
 ⟨λh n a=>by obtain⟨x,b,c⟩:=afs.1 a;exact h x b n c,λh x b n a=>h n (afs.2 ⟨x,b,a⟩)⟩
def asJ(key:Int)(w:Swp):Prop:=((1<=key/\key<=99)/\agX key w.s/\aav w.s.lg)/\amC w.s.sn w.ms/\axL w.s.pk w.lf
end
section
variable {β:Bool}
open Go.RowKit
def aid(d:Array Int):∀m,n∈Lib.compactUpTo d m↔∃j,j<m/\(d[j]!)=n:=by
 intro m
 induction m with
 |zero=>simp[Lib.compactUpTo]
 |succ m g=>
  rw[Lib.compactUpTo_succ,gt,g];constructor
  .rintro(⟨j,f,e⟩|h)
   .exact⟨j,by omega,e⟩
   .split at h
    .exact⟨m,by omega,(ga.1 h).symm⟩
    .cases h
  .rintro⟨j,f,e⟩;by_cases c:j<m
   .exact .inl ⟨j,c,e⟩
   .obtain rfl:j=m:=by omega
    by_cases a:Lib.keeps d j=true
    .exact .inr (by rw[dl a,e];exact ga.2 rfl)
    .have b:¬j=0:=λb=>a (by subst b;simp[Lib.keeps]);have i:(d[j]!)=(d[j-1]!):=Decidable.byContradiction λh=>a (Lib.keeps_pos h);exact .inl ⟨j-1,by omega,by rw[<-i,e]⟩
def ow  :n∈Lib.compact l↔n∈l:=by
 unfold Lib.compact;rw[aid,uf];constructor
 .rintro⟨j,a,e⟩;exact⟨j,a,by simpa[getElem!_pos,a] using e⟩
 .rintro⟨j,a,e⟩;exact⟨j,a,by simpa[getElem!_pos,a] using e⟩
def acP(y:Ls):Nat:=y.ns.length
def fL(l:List Ls):List Int:=l.flatMap λy=>y.ns
def ab9{l:List Ls}{x:Ls}(h:l[k]?=some x):fL (l.take (k+1))=fL (l.take k)++x.ns:=by
 unfold fL;rw[gn h,qI];simp
def oy(l:List Ls):∀j,(fL (l.take j)).length=kY acP l j:=λj=>by
 unfold fL kY;generalize l.take j=m
 induction m with
 |nil=>rfl
 |cons x m a=>rw[List.flatMap_cons,ge,a,pK,rD];rfl
def akg(x:Sn)(v:Value)(w:World)(lo o:Nat)(Y:o<=w.heap.size)(h:bA w lo o x.all [v])(hl:fK acP x.all<=100000000) :
  Calls (ah β) 11 #[.agg #[.int .i64 x.no,v]] w (anV w (Lib.compact (eH (df x)))):=by
 obtain⟨A,c,rfl⟩:=h.form;obtain⟨_,hc,hx⟩:=h.len_;unfold maxLen at hx;go_enter zU,ntmps11;go_wp2;generalize R:w.alloc (.cells #[.int .i64 x.no,.slice A x.all.length c] 48)=wa at *;obtain⟨Q,a2,Z,J,M⟩:=fA R;clear R;go_loopw [3,9] (λU N wr=>∃k:Nat,k<=x.all.length/\N=.int .i64 k/\aS fW 3 wr w.heap.size U (fL (x.all.take k))/\Below w.heap.size w wr) (λU N _=>x.all.length-(intOf N).toNat)
 case atStart=>exact⟨0,du _,rfl,aS.nil _ _ _,Q⟩
 case round=>
  clear Z J M Q;obtain⟨k,hk,rfl,d,a⟩:=hrel;obtain⟨Ao,co,rfl⟩:=d.form;have b:=oy x.all k;have z:=kx (n:=acP) (l:=x.all) (j:=k);by_cases H:k<x.all.length
  .obtain⟨p,t⟩:=aq H;have s:=kv (n:=acP) t;have E:=kx (n:=acP) (l:=x.all) (j:=k+1);have y:acP p=p.ns.length:=rfl;rw[y] at s;have f:=ab9 t;have HST:=ab f;clear f;obtain⟨b1,a1,S,T,rfl, -, -, -,a0,X,V⟩:=aaY (bA.loc.below h a Y) t;have g:(fL (x.all.take k)).length+p.ns.length<=100000000:=by omega
   replace t:=ab t;clear s E y b z;revert d;revert HST;revert g;generalize fL (x.all.take k)=L;intro g HST d;have G:=ab g;clear g;have C:=aJ wr (.cells #[.string p.p,.slice S p.ns.length T] 75);replace d:=d.below C;have I:=ab (jB.loc.below V C (by have:=a.size;omega));replace a:=ae a C;have r:=ab d;clear d;clear C;go_wp2_with(at_builtin;refine agS (F:=fW) (v:=.slice Ao L.length co) rfl (.tmp 13) (.tmp 15) 27 rfl lX rfl r.out rfl I.out (by have:=a.size;omega) (by have:=G.out;omega) a.size ?_;intro v8 w8 K D W;obtain⟨A8,c8,rfl⟩:=K.form;simp only[ge] at K);go_roundw
   case rel=>exact⟨k+1,by omega,by go_num,by rw[HST.out];exact K,a.trans (D.below a.size λi o u=>by have:=(r.out.at_ u).1;omega)⟩
   simp[intOf];omega
  .obtain rfl:k=x.all.length:=by omega
   have e:fL (x.all.take x.all.length)=df x:=by rw[dk];rfl
   rw[acE] at b;rw[e] at d b ⊢;replace b:=ab b;clear z e;go_wp2;refine(akd d (by have:=b.out;omega)).mono ?_;rintro e w5 ⟨rfl,B,q⟩;obtain⟨S,T,O⟩:=B.form;replace a:=a.trans (q.below a.size λi o u=>by have:=(d.at_ u).1;omega);rw[iV] at O;cases O;clear d q;go_wp2;refine(adt B (by rw[iV];have:=b.out;omega)).mono ?_;rintro e w6 ⟨v6,rfl,P,m⟩;obtain⟨A6,c6,rfl⟩:=P.form;replace a:=a.trans (m.below a.size λi o u=>by have:=(B.at_ u).1;omega);clear B m;go_wp2;go_ret;exact⟨_,rfl,P,a⟩
end
section
variable {β:Bool}
open Go.RowKit
def ky.frm{s:ib}(h:ky w Y X s W V U):∃A a B b C c,W=.slice A s.pk.length a/\V=.slice B s.sn.length b/\U=.slice C s.lg.length c:=by
 obtain⟨A,a,rfl⟩:=aY.form h.pk;obtain⟨B,b,rfl⟩:=aY.form h.sn;obtain⟨C,c,rfl⟩:=aY.form h.lg;exact⟨A,a,B,b,C,c,rfl,rfl,rfl⟩
def aca(x:Sn)(v:Value)(w:World)(lo R:Nat)(Z:R<=w.heap.size)(h:bA w lo R x.all [v])(hl:fK acP x.all<=1048576) :
  Calls (ah β) 36 #[.agg #[.int .i64 x.no,v]] w (am0 bz 1 w (gJ x)):=by
 obtain⟨A,c,rfl⟩:=h.form;obtain⟨_,hc,hx⟩:=h.len_;unfold maxLen at hx;go_enter zK,ntmps36;go_wp2;generalize S:(w.alloc (.cells #[.int .i64 x.no,.slice A x.all.length c] 48)).alloc (.cells #[] 3)=w0 at *;obtain⟨M,dK,W,cy,dg,k1,gY,jq⟩:=nh S;clear S;have o0:aY bz 1 w0 w.heap.size w0.heap.size [] [.slice (some ⟨w.heap.size+1,0,none⟩) 0 0]:=⟨_,0,rfl,am _,by unfold maxLen;omega,λhp=>absurd hp (sB 0)⟩;have T:=bA.loc.below h M Z;go_loopw [3,4] (λK Q wr=>∃k:Nat,k<=x.all.length/\Q=.int .i64 k/\aY bz 1 wr w.heap.size wr.heap.size (dn [] (fL (x.all.take k))) [K]/\Below w0.heap.size w0 wr) (λ_ Q _=>x.all.length-(intOf Q).toNat)
 case atStart=>exact⟨0,du _,rfl,o0,db _ _⟩
 case round=>
  obtain⟨k,hk,rfl,a,f⟩:=hrel;obtain⟨Ao,co,rfl⟩:=a.form;have B:=ar W f;have g:=B.cell;have zr:=f.size;have z0:=M.size;by_cases H:k<x.all.length
  .obtain⟨y,r⟩:=aq H;have X:=bA.loc.below T f (by omega);obtain⟨b1,a1,A5,c5,rfl, -, -, -,q,u,b⟩:=aaY X r;have V:=ab9 r;have I:=oy x.all k;have s:=kv (n:=acP) r;have N:=kx (n:=acP) (l:=x.all) (j:=k+1);have t:acP y=y.ns.length:=rfl;rw[t] at s;have z:(fL (x.all.take k)).length+y.ns.length<=1048576:=by omega
   have HY:=ab r;have G:=ab V;have p:=ab z;have a2:y.ns.length<=1048576:=by omega
   clear r V I s N t z;revert G p a;generalize fL (x.all.take k)=L;intro a G p;have f0:=g 0;have E:=g 1;go_wp2;go_loopw [3,5] (λK J C=>∃m:Nat,m<=y.ns.length/\J=.int .i64 m/\aY bz 1 C w.heap.size C.heap.size (dn [] (L++y.ns.take m)) [K]/\Below w0.heap.size w0 C) (λ_ J _=>y.ns.length-(intOf J).toNat)
   case atStart=>exact⟨0,du _,rfl,by rw[List.take_zero,sI];exact a,f⟩
   case round=>
    clear a B g f0 E q u b X;obtain⟨m,hm,rfl,a,d⟩:=hrel;obtain⟨Ai,ci,rfl⟩:=a.form;have B:=ar W d;have E:=B.cell 1;have zi:=d.size;obtain⟨b2,gX,A6,c6,U, -, -, -,q,u,b⟩:=aaY (bA.loc.below T d (by omega)) HY.out;simp only[lw,pM,qh] at U;obtain⟨rfl,rfl⟩:=U;by_cases O:m<y.ns.length
    .obtain⟨n,i⟩:=aq O;have P:dJ n:=b.afB n (be i);obtain⟨b3,a0,rfl, -, -, -,Y⟩:=b.ints_at i;have F:L++y.ns.take (m+1)=(L++y.ns.take m)++[n]:=by rw[gn i,rz]
     have o:=iX (acc:=[]) (l:=L++y.ns.take m);rw[ge,lc,pT] at o;have D:(dn [] (L++y.ns.take m)).length<=1048576:=by have:=p.out;omega
     replace F:=ab F;have HO:=ab a;clear o b i;go_wp2;refine(afm _ n _ _ _ _ HO.out (am _) P D).mono ?_;rintro e w5 ⟨v5,rfl,o5,b5⟩;go_wp2;go_roundw
     case rel=>
      refine⟨m+1,by omega,by go_num, ?_,ae d b5⟩;rw[F.out,adu];exact(aY.loc bz.loc).wide o5 (by omega) (am _)
     case measure=>simp[intOf];omega
    .obtain rfl:m=y.ns.length:=by omega
     rw[dk] at a;rw[dk];have HO:=ab a;clear a b;go_wp2;go_roundw
     case rel=>exact⟨k+1,by omega,by go_num,by rw[G.out];exact HO.out,d⟩
     simp[intOf];omega
  .obtain rfl:k=x.all.length:=by omega
   rw[dk] at a ⊢;have e:gJ x=dn [] (fL x.all):=rfl;rw[e];have E:=g 1;go_wp2;go_ret;exact⟨_,rfl,a,ae M f⟩
def nNs(x:Sn):Nat:=fK acP x.all
def agZ(x:Sn):(df x).length=nNs x:=by
 have:=oy x.all x.all.length;rw[dk,acE] at this;exact this
def afu:∀{l:List Sn} {acc:List Int},(l.foldl (λacc x=>dn acc (gJ x)) acc).length<=acc.length+fK nNs l
 |[],acc=>by simp[fK]
 |x::l,acc=>by
  have c:=afu (l:=l) (acc:=dn acc (gJ x));have b:=iX (acc:=acc) (l:=gJ x);have d:(gJ x).length<=nNs x:=by
   have h:=iX (acc:=[]) (l:=df x);rw[agZ,pT] at h;have e:gJ x=dn [] (df x):=rfl;rw[e];omega
  have a:fK nNs (x::l)=nNs x+fK nNs l:=by unfold fK;rw[pK,rD]
  rw[sG,a];omega
def amD(l:List Sn):(iv l).length<=fK nNs l:=by
 have:=afu (l:=l) (acc:=[]);rw[pT] at this;unfold iv;omega
def asK{l:List Sn}(h:l[k]?=some x):kY nNs l k+nNs x<=fK nNs l:=by
 have a:=kv (n:=nNs) h;have b:=kx (n:=nNs) (l:=l) (j:=k+1);omega
def apK(l:List Sn)(k:Nat):(iv (l.take k)).length<=kY nNs l k:=by
 have:=amD (l.take k);unfold kY;unfold fK at this;exact this
def aie(s:ib)(Y vb vc:Value)(w:World)(lo Z:Nat)(aM:Z<=w.heap.size)(h:ky w lo Z s Y vb vc)(hl:fK nNs s.sn<=1048576) :
  Calls (ah β) 14 #[.agg #[Y,vb,vc]] w (am0 bz 1 w (iv s.sn)):=by
 obtain⟨A,a,B,b,C,c,rfl,rfl,rfl⟩:=h.frm;obtain⟨_,hc,hx⟩:=aY.len_ h.sn;unfold maxLen at hx;go_enter zT,ntmps14;go_wp2;generalize hG:(w.alloc (.cells #[.slice A s.pk.length a,.slice B s.sn.length b,.slice C s.lg.length c] 36)).alloc (.cells #[] 3)=w0 at *;obtain⟨R,dK,k0,cy,dg,k1,gY,jq⟩:=nh hG;clear hG;have o0:aY bz 1 w0 w.heap.size w0.heap.size [] [.slice (some ⟨w.heap.size+1,0,none⟩) 0 0]:=⟨_,0,rfl,am _,by unfold maxLen;omega,λhp=>absurd hp (sB 0)⟩;have h0:=h.below R aM;go_loopw [3,4] (λQ W wr=>∃k:Nat,k<=s.sn.length/\W=.int .i64 k/\aY bz 1 wr w.heap.size wr.heap.size (iv (s.sn.take k)) [Q]/\Below w0.heap.size w0 wr) (λ_ W _=>s.sn.length-(intOf W).toNat)
 case atStart=>exact⟨0,du _,rfl,o0,db _ _⟩
 case round=>
  obtain⟨k,hk,rfl,d,g⟩:=hrel;obtain⟨Ao,co,rfl⟩:=d.form;have y:=ar k0 g;have X:=y.cell 1;have zr:=g.size;have z0:=R.size;by_cases M:k<s.sn.length
  .obtain⟨x,E⟩:=aq M;have h1:=h0.below g (by omega);obtain⟨b1,a2,A5,c5,rfl, -, -, -,H,V,u⟩:=acN h1.sn E;have hT:=akf E;have S:=asK E;have I:=apK s.sn k;have dT:nNs x<=1048576:=by omega
   have v:(iv (s.sn.take k)).length+nNs x<=1048576:=by omega
   have O:(gJ x).length<=nNs x:=by
    have h:=iX (acc:=[]) (l:=df x);rw[agZ,pT] at h;have e:gJ x=dn [] (df x):=rfl;rw[e];omega
   have z:=ab hT;have o:=ab v;clear E hT S I v;revert z o d;generalize iv (s.sn.take k)=L;intro d z o;go_wp2;refine(aca x _ wr _ _ (by omega) u dT).mono ?_;rintro e w5 ⟨v5,rfl,K,D⟩;obtain⟨A6,c6,rfl⟩:=K.form;have r:=(aY.loc bz.loc).below d D (am _);have q:=(aY.loc bz.loc).wide r (am _) D.size;have t:=ae g D;obtain⟨N,F⟩:∃N,N=gJ x:=⟨_,rfl⟩;rw[<-F] at O K ⊢;have HN:=ab F;rw[<-F] at z;have z5:=D.size;clear F y X H V u h1 d r;go_wp2;go_loopw [3,6] (λQ P G=>∃m:Nat,m<=N.length/\P=.int .i64 m/\aY bz 1 G w.heap.size G.heap.size (dn L (N.take m)) [Q]/\Below w5.heap.size w5 G) (λ_ P _=>N.length-(intOf P).toNat)
   case atStart=>exact⟨0,du _,rfl,q,db _ _⟩
   case round=>
    clear q;obtain⟨m,hm,rfl,d,f⟩:=hrel;obtain⟨Ai,ci,rfl⟩:=d.form;have y:=ar k0 (ae t f);have X:=y.cell 1;have zi:=f.size;have on:=(aY.loc bz.loc).below K f (am _);by_cases T:m<N.length
    .obtain⟨n,i⟩:=aq T;have U:dJ n:=on.afB n (be i);obtain⟨b3,a1,rfl, -, -, -,a0⟩:=on.ints_at i;have p:dn L (N.take (m+1))=lq (dn L (N.take m)) n:=by rw[gn i,adu]
     have j:=iX (acc:=L) (l:=N.take m);rw[lc] at j;have J:(dn L (N.take m)).length<=1048576:=by have:=o.out;omega
     replace p:=ab p;have HO:=ab d;clear j on i;go_wp2;refine(afm _ n _ _ _ _ HO.out (am _) U J).mono ?_;rintro e w7 ⟨v7,rfl,o7,b7⟩;go_wp2;go_roundw
     case rel=>
      refine⟨m+1,by omega,by go_num, ?_,ae f b7⟩;rw[p.out];exact(aY.loc bz.loc).wide o7 (by omega) (am _)
     case measure=>simp[intOf];omega
    .obtain rfl:m=N.length:=by omega
     rw[dk] at d;rw[dk];have HO:=ab d;clear d on;go_wp2;go_roundw
     case rel=>exact⟨k+1,by omega,by go_num,by rw[z.out];exact HO.out,ae t f⟩
     simp[intOf];omega
  .obtain rfl:k=s.sn.length:=by omega
   rw[dk] at d ⊢;go_wp2;go_ret;exact⟨_,rfl,d,ae R g⟩
end
section
variable {β:Bool}
open Go.RowKit
structure aaa (w:World) (lo hi:Nat) (q:Swp) (va vb vc vm vl:Value):Prop where
 s:ky w lo hi q.s va vb vc
 ms:aY bz 1 w lo hi q.ms [vm]
 lf:aY bz 1 w lo hi q.lf [vl]
def aaa.below{B : Nat}{q:Swp}{c : Value}(h:aaa w Y X q W V U v c)(b:Below B w w')(a:X<=B):aaa w' Y X q W V U v c:=⟨h.s.below b a,(aY.loc bz.loc).below h.ms b a,(aY.loc bz.loc).below h.lf b a⟩
def aaa.go{px hi' : Nat}{q:Swp}{e : Value}(c:∀b,Y<=b->b<X->w'.heap[b]?=w.heap[b]?)(d:px<=Y)(a:X<=hi')(h:aaa w Y X q W V U v e):aaa w' px hi' q W V U v e:=
 ⟨⟨cK.loc.go c d a h.s.pk,cZ.loc.go c d a h.s.sn,dU.loc.go c d a h.s.lg⟩,(aY.loc bz.loc).go c d a h.ms,(aY.loc bz.loc).go c d a h.lf⟩
def afT(q:Swp):Nat:=adG q.s+q.ms.length+q.lf.length
def akh(q:Swp)(O L R T P:Value)(w:World)(G o:Nat)(h:aaa w G o q O L R T P)(k:o<=w.heap.size) :
  Calls (ah β) 5 #[.agg #[O,L,R,T,P],.int .i64 1048576] w λe U=>(∃z:Int,e=.returned (.int .i64 z)/\(z=-1\/0<=z/\z<=1048576/\afT q<=1048576))/\Below w.heap.size w U:=by
 obtain⟨v,Q,N⟩:=h;obtain⟨A,a,B,b,C,c,rfl,rfl,rfl⟩:=v.frm;obtain⟨D,d,rfl⟩:=aY.form Q;obtain⟨E,m,rfl⟩:=aY.form N;obtain⟨_,hd,H⟩:=Q.len_;obtain⟨_,Z,I⟩:=N.len_;unfold maxLen at H I;by_cases F:(1048576:Int)-((adG q.s:Nat):Int)<0
 .have HS:=ab (bF F);clear F;go_enter qF5,ntmps5;go_wp2;generalize i:w.alloc (.cells #[.slice A q.s.pk.length a,.slice B q.s.sn.length b,.slice C q.s.lg.length c,.slice D q.ms.length d,.slice E q.lf.length m] 29)=w0 at *;obtain⟨f,K,g,s,u⟩:=fA i;clear i;refine(nX q.s _ _ _ 1048576 _ G o (v.below f k) (ap k f.size) (by omega) (by omega)).mono ?_;rintro e J ⟨rfl,j⟩;rw[HS.out];go_wp2;go_ret;exact⟨⟨-1,rfl,.inl rfl⟩,ae f j⟩
 obtain⟨y,n⟩:∃y:Int,y=1048576-((adG q.s:Nat):Int):=⟨_,rfl⟩;have HS:=ab (show jC 1048576 (adG q.s)=y by rw[n];exact cP (by omega));have X:0<=y/\y<=1048576:=by omega
 by_cases t:y-(q.ms.length:Int)<0
 .clear F n;go_enter qF5,ntmps5;go_wp2;generalize i:w.alloc (.cells #[.slice A q.s.pk.length a,.slice B q.s.sn.length b,.slice C q.s.lg.length c,.slice D q.ms.length d,.slice E q.lf.length m] 29)=w0 at *;obtain⟨f,K,g,s,u⟩:=fA i;clear i;refine(nX q.s _ _ _ 1048576 _ G o (v.below f k) (ap k f.size) (by omega) (by omega)).mono ?_;rintro e J ⟨rfl,j⟩;rw[HS.out];replace g:=ar g j;replace s:=g.cell;replace u:=g.frozen;replace f:=ae f j;go_wp2;refine(iP q.ms.length d D y _ (by omega) (by omega) (by omega) (-1) (.inl ⟨t,rfl⟩)).mono ?_;rintro e Y ⟨rfl,rfl⟩;clear t;go_wp2;go_ret;exact⟨⟨-1,rfl,.inl rfl⟩,f⟩
 obtain⟨x,p⟩:∃x:Int,x=y-(q.ms.length:Int):=⟨_,rfl⟩;have W:0<=x/\x<=1048576:=by omega
 by_cases r:x-(q.lf.length:Int)<0;all_goals
  replace p:=ab p;replace n:=ab n;replace t:=ab t;replace r:=ab r;clear F;go_enter qF5,ntmps5;go_wp2;generalize i:w.alloc (.cells #[.slice A q.s.pk.length a,.slice B q.s.sn.length b,.slice C q.s.lg.length c,.slice D q.ms.length d,.slice E q.lf.length m] 29)=w0 at *;obtain⟨f,K,g,s,u⟩:=fA i;clear i;refine(nX q.s _ _ _ 1048576 _ G o (v.below f k) (ap k f.size) (by omega) (by omega)).mono ?_;rintro e J ⟨rfl,j⟩;rw[HS.out];replace g:=ar g j;replace s:=g.cell;replace u:=g.frozen;replace f:=ae f j;go_wp2;refine(iP q.ms.length d D y _ (by omega) (by omega) (by omega) x (.inr ⟨by have:=p.out;omega,p.out⟩)).mono ?_;rintro e Y ⟨rfl,rfl⟩;go_wp2
 .refine(iP q.lf.length m E x _ (by omega) (by omega) (by omega) (-1) (.inl ⟨r.out,rfl⟩)).mono ?_;rintro e V ⟨rfl,rfl⟩;go_wp2;go_ret;exact⟨⟨-1,rfl,.inl rfl⟩,f⟩
 .obtain⟨z,M⟩:∃z:Int,z=x-(q.lf.length:Int):=⟨_,rfl⟩;have S:=ab M;have l:0<=z/\z<=1048576:=by have:=r.out;omega
  clear M;refine(iP q.lf.length m E x _ (by omega) (by omega) (by omega) z (.inr ⟨by have:=r.out;omega,S.out⟩)).mono ?_;rintro e V ⟨rfl,rfl⟩;go_wp2;go_ret;exact⟨⟨z,rfl,.inr ⟨l.1,l.2,by have:=p.out;have:=n.out;have:=S.out;unfold afT;omega⟩⟩,f⟩
def axM(w:World)(q:Swp)(e:Ending)(w':World):Prop:=∃c b a f d,e=.returned (.agg #[c,b,a,f,d])/\aaT w' w.heap.size w'.heap.size q.s c b a/\aY bz 1 w' w.heap.size w'.heap.size q.ms [f]/\aY bz 1 w' w.heap.size w'.heap.size q.lf [d]/\Below w.heap.size w w'
def oz(q:Swp)(va vb vc vm vl:Value)(w:World)(V t:Nat)(h:aaa w V t q va vb vc vm vl)(H:t<=w.heap.size)(hl:afT q<=1048576) :
  Calls (ah β) 7 #[.agg #[va,vb,vc,vm,vl]] w (axM w q):=by
 obtain⟨hs,hm,hf⟩:=h;obtain⟨A,a,B,b,C,c,rfl,rfl,rfl⟩:=hs.frm;obtain⟨D,d,rfl⟩:=aY.form hm;obtain⟨E,e',rfl⟩:=aY.form hf;unfold afT at hl;go_enter qF7,ntmps7;go_wp2;generalize hG:((w.alloc (.cells #[.slice A q.s.pk.length a,.slice B q.s.sn.length b,.slice C q.s.lg.length c,.slice D q.ms.length d,.slice E q.lf.length e'] 29)).alloc (.cells #[.slice none 0 0,.slice none 0 0,.slice none 0 0,.slice none 0 0,.slice none 0 0] 38)).alloc (.cells #[.slice none 0 0,.slice none 0 0,.slice none 0 0,.slice none 0 0,.slice none 0 0] 38)=w0 at *;obtain⟨s,dK,j,L,N,g,G,T,f,m,k⟩:=arP hG;clear hG;refine(ajM q.s _ _ _ _ V t (hs.below s H) (ap H s.size) (by omega)).mono ?_;rintro e w1 ⟨v1,v2,v3,rfl,o1,P⟩;replace j:=ar j P;replace L:=j.cell;replace N:=j.frozen;replace g:=ar g P;replace G:=g.cell;replace T:=g.frozen;replace f:=ar f P;replace m:=f.cell;replace k:=f.frozen;obtain⟨⟨A1,a1,rfl⟩,⟨B1,F,rfl⟩,C1,c1,rfl⟩:=o1.form;have z1:=P.size;have z0:=s.size;replace s:=ae s P;have I:=apl w1 (w.heap.size+1+1) (.slice A1 q.s.pk.length a1) (.slice B1 q.s.sn.length F) (.slice C1 q.s.lg.length c1);have Q:=o1.chg I λb h1 h2=>⟨by omega,by omega⟩;have U:=kW j I (by omega);have K:=kW g I (by omega);have z:=((f.aer 0 (.slice A1 q.s.pk.length a1)).aer 1 (.slice B1 q.s.sn.length F)).aer 2 (.slice C1 q.s.lg.length c1);simp only[oS,pO,pV] at z;have S:=s.trans (I.below s.size λi t e=>by have e':i=w.heap.size+1+1:=e;omega);have X:=I.size;have n:=ab (And.intro Q (And.intro U (And.intro K (And.intro z (And.intro S X)))));clear o1 I Q U K z S X;go_wp2;clear j g f L G m N T k s;revert n;generalize ((w1.setCell ⟨w.heap.size+1+1,0,none⟩ (.slice A1 q.s.pk.length a1)).setCell ⟨w.heap.size+1+1,1,none⟩ (.slice B1 q.s.sn.length F)).setCell ⟨w.heap.size+1+1,2,none⟩ (.slice C1 q.s.lg.length c1)=w2;intro n;obtain⟨Q,j,g,f,o,X⟩:=n.out;clear n;refine(aeX q.ms _ w2 V t ((aY.loc bz.loc).below hm o H) (ap H o.size) (by omega)).mono ?_;rintro e W ⟨v4,rfl,o4,J⟩;replace j:=ar j J;replace L:=j.cell;replace N:=j.frozen;replace g:=ar g J;replace G:=g.cell;replace T:=g.frozen;replace f:=ar f J;replace m:=f.cell;replace k:=f.frozen;obtain⟨A4,a4,rfl⟩:=o4.form;have z4:=J.size;have z2:=o.size;replace o:=ae o J;have o3:=Q.below J X;have u:gq (λi=>i=w.heap.size+1+1) W (W.setCell ⟨w.heap.size+1+1,3,none⟩ (.slice A4 q.ms.length a4)):=(gq.refl (λi=>i=w.heap.size+1+1) W).setCell (p:=⟨w.heap.size+1+1,3,none⟩) (.inl rfl) _;have U:=kW j u (by omega);have K:=kW g u (by omega);have z:=f.aer 3 (.slice A4 q.ms.length a4);simp only[oS,pO,pV] at z;have M:=o3.chg u λb h1 h2=>⟨by omega,by omega⟩;have O:=(aY.loc bz.loc).chg o4 u λb h1 h2=>⟨by omega,by omega⟩;have R:=o.trans (u.below o.size λi t e=>by have e':i=w.heap.size+1+1:=e;omega);have x:=u.size;have n:=ab (And.intro M (And.intro U (And.intro K (And.intro z (And.intro R (And.intro O x))))));clear Q o3 o4 u U K z M O R x;go_wp2;clear j g f L G m N T k o;revert n;generalize W.setCell ⟨w.heap.size+1+1,3,none⟩ (.slice A4 q.ms.length a4)=w4;intro n;obtain⟨M,j,g,f,l,O,x⟩:=n.out;clear n;refine(aeX q.lf _ w4 V t ((aY.loc bz.loc).below hf l H) (ap H l.size) (by omega)).mono ?_;rintro e w5 ⟨v6,rfl,Y,r⟩;replace j:=ar j r;replace L:=j.cell;replace N:=j.frozen;replace g:=ar g r;replace G:=g.cell;replace T:=g.frozen;replace f:=ar f r;replace m:=f.cell;replace k:=f.frozen;obtain⟨A6,a6,rfl⟩:=Y.form;have z6:=r.size;have o7:=ab (M.below r (by omega));have m7:=ab ((aY.loc bz.loc).below O r (by omega));have O6:=ab Y;have HB:=ab (ae l r);have a0:=l.size;clear M O Y l r;go_wp2;have y:∀(u0 u1 u2 u3 u4 u5:Value) (b:Nat),w0.heap.size<=b->((((((w5.setCell ⟨w.heap.size+1+1,4,none⟩ u0).setCell ⟨w.heap.size+1,0,none⟩ u1).setCell ⟨w.heap.size+1,1,none⟩ u2).setCell ⟨w.heap.size+1,2,none⟩ u3).setCell ⟨w.heap.size+1,3,none⟩ u4).setCell ⟨w.heap.size+1,4,none⟩ u5).heap[b]?=w5.heap[b]?:=λu0 u1 u2 u3 u4 u5 b Z=>by
  rw[mc _ _ _ _ (by dsimp only;omega),mc _ _ _ _ (by dsimp only;omega),mc _ _ _ _ (by dsimp only;omega),mc _ _ _ _ (by dsimp only;omega),mc _ _ _ _ (by dsimp only;omega),mc _ _ _ _ (by dsimp only;omega)]
 exact pN (v:=.agg #[_,_,_,_,_]) (by simp[results,results7,go_sem,G]) rfl ⟨_,_,_,_,_,rfl,
  o7.out.go (λb Z _=>y _ _ _ _ _ _ b (by omega)) (by omega) (by simp only[gE];omega),
  (aY.loc bz.loc).go (λb Z _=>y _ _ _ _ _ _ b (by omega)) (by omega) (by simp only[gE];omega) m7.out,
  (aY.loc bz.loc).go (λb Z _=>y _ _ _ _ _ _ b (by omega)) (by omega) (by simp only[gE];exact am _) O6.out,
  ((((((HB.out.setCell (by dsimp only;omega) _).setCell (by dsimp only;omega) _).setCell (by dsimp only;omega) _).setCell (by dsimp only;omega) _).setCell (by dsimp only;omega) _).setCell (by dsimp only;omega) _)⟩
def aif(q:Swp)(F N S T G J L x K P:Value)(w:World)(r m g l:Nat)(hs:aaa w r m q F N S T G)(W:aaa w g l q J L x K P)(o:m<=w.heap.size)(p:l<=w.heap.size) :
  Calls (ah β) 9 #[.agg #[F,N,S,T,G],.agg #[J,L,x,K,P]] w λe w'=>e=.returned (.bool true)/\Below w.heap.size w w':=by
 obtain⟨O,u,H⟩:=hs;obtain⟨A,a,B,b,C,c,rfl,rfl,rfl⟩:=O.frm;obtain⟨D,d,rfl⟩:=aY.form u;obtain⟨E,e',rfl⟩:=aY.form H;obtain⟨Q,M,U⟩:=W;obtain⟨A2,a2,B2,k,C2,c2,rfl,rfl,rfl⟩:=Q.frm;obtain⟨D2,V,rfl⟩:=aY.form M;obtain⟨Z,e2,rfl⟩:=aY.form U;go_enter qF9,ntmps9;go_wp2;generalize I:(w.alloc (.cells #[.slice A q.s.pk.length a,.slice B q.s.sn.length b,.slice C q.s.lg.length c,.slice D q.ms.length d,.slice E q.lf.length e'] 38)).alloc (.cells #[.slice A2 q.s.pk.length a2,.slice B2 q.s.sn.length k,.slice C2 q.s.lg.length c2,.slice D2 q.ms.length V,.slice Z q.lf.length e2] 38)=w0 at *;obtain⟨f,dK,j,v,z,i,y,R⟩:=nh I;clear I;refine(ajN q.s q.s _ _ _ _ _ _ w0 r m g l (O.below f o) (Q.below f p) (ap o f.size) (ap p f.size) true (by simp)).mono ?_;rintro e s ⟨rfl,t⟩;replace j:=ar j t;replace v:=j.cell;replace z:=j.frozen;replace i:=ar i t;replace y:=i.cell;replace R:=i.frozen;replace f:=ae f t;go_wp2;refine(mE q.ms q.ms _ _ _ r m g l ((aY.loc bz.loc).below u f o) ((aY.loc bz.loc).below M f p)).mono ?_;rintro e w2 ⟨rfl,Y,rfl⟩;rw[dq (rfl:q.ms=q.ms)];have k:=sN (db s.heap.size s) Y;replace j:=ar j k;replace v:=j.cell;replace z:=j.frozen;replace i:=ar i k;replace y:=i.cell;replace R:=i.frozen;replace f:=ae f k;go_wp2;refine(mE q.lf q.lf _ _ _ r m g l ((aY.loc bz.loc).below H f o) ((aY.loc bz.loc).below U f p)).mono ?_;rintro e w3 ⟨rfl,n,rfl⟩;rw[dq (rfl:q.lf=q.lf)];have X:=sN (db s.heap.size s) n;have b4:=sN k n;go_wp2;go_ret;exact⟨rfl,by first|exact ae f X|exact sN f n|(have:=sN f n;simpa using this)⟩
end
section
open Go.RowKit Go.ChangeShapes Go.WideShapes Go.ChangeAt
def aih(w:World)(lo hi:Nat)(q:Swp)(v:Value):Prop:=∃c b a e d,v=.agg #[c,b,a,e,d]/\aaa w lo hi q c b a e d
def xf{W:World}{b0:Nat}(a:Value.okWide prog W .any b0 29 v):ClV (dx W) v:=apa underlying29 (by kernel_rfl) a
def vS {H:Type} {enc:TypeId×Value->H} {g0:Nat} (J:abF w (dx w) g0 w') {base:Nat} {g:Bool} {b0:Nat} {M:Reach} {d:DataW H} {p:List MemPlace}
  (R:Value.okWide prog w M b0 29 v) (h:DataW.Trod enc prog w base (λ_=>true) g 29 v d p) (j:∀x∈p,x.block<w.heap.size):∃q:Swp,aih w' 0 w'.heap.size q v:=by
 obtain⟨y,rfl,N⟩:=okWide_struct underlying29 R;have G:cG enc prog w w' g0 27 (aY bz 1):=eL J underlying27 (by kernel_rfl) (by decide) (gF underlying3);have T:cG enc prog w w' g0 29 (R3 (R3 cK 1 cZ 1 dU) 3 (aY bz 1) 1 (aY bz 1)):=nQ 3 1 1 underlying29 (by kernel_rfl) rfl (by kernel_rfl) rfl (by kernel_rfl) rfl (by kernel_rfl) (ahU J) G G;obtain⟨⟨⟨n,k,l⟩,o,r⟩,U,L,O,s,_,_,⟨X,W,Y,m,_,_,S,K,V⟩,Q,P⟩:=T.arg h j;obtain⟨A,a,z⟩:=S;obtain⟨B,b,I⟩:=K;obtain⟨C,c,t⟩:=V;obtain⟨D,e,u⟩:=Q;obtain⟨E,f,F⟩:=P;refine⟨⟨⟨n,k,l⟩,o,r⟩,.slice A n.length a,.slice B k.length b,.slice C l.length c,.slice D o.length e,.slice E r.length f, ?_,⟨⟨A,a,rfl,z.2⟩,⟨B,b,rfl,I.2⟩,⟨C,c,rfl,t.2⟩⟩,⟨D,e,rfl,u.2⟩,⟨E,f,rfl,F.2⟩⟩;have i:y.toList=U++(L++O):=s;rw[m,z.1,I.1,t.1,u.1,F.1] at i;have:y=#[.slice A n.length a,.slice B k.length b,.slice C l.length c,.slice D o.length e,.slice E r.length f]:=by
  apply tX.1;rw[i];rfl
 rw[this]
end
section
open Go.RowKit
def acb{a:List It}{x:It}(h:a[k]?=some x):bI (a.take (k+1))=bI (a.take k)++[x.n]:=by
 rw[gn h];unfold bI;rw[oR];rfl
def amE(h:l.Nodup)(f:n∉l):(l++[n]).Nodup:=by
 rw[qW];exact⟨h,sF.2 ⟨by simp,List.nodup_nil⟩,λa c b d e=>f (by rw[ga.1 d] at e;exact e▸c)⟩
def au8{l:List Pk}{i : Nat}{p:Pk}{x:It}(c:l[i]?=some p)(g:p.its[k]?=some x)(h:x.n∈aP (l.take i)++bI (p.its.take k)):¬(aP l).Nodup:=by
 intro b;have d:l=l.take (i+1)++l.drop (i+1):=(pJ _ _).symm;have f:aP l=aP (l.take (i+1))++aP (l.drop (i+1)):=by
  conv=>lhs;rw[d]
  exact qI
 rw[f,qW] at b;have a:=b.1;rw[lI c] at a;have e:bI p.its=bI (p.its.take (k+1))++bI (p.its.drop (k+1)):=by
  unfold bI;rw[<-oR,pJ]
 rw[e,acb g,<-rz,<-rz,qW,qW] at a;exact a.1.2.2 x.n h x.n (ga.2 rfl) rfl
def amF (key:Int) (s:ib) (x:Sn) (l o t r:Value) (k g:Nat) (w:World) (n:g<=w.heap.size) (p:eE w k g s.pk [l]) (h:ky w k g s l o t)
  (m:bA w k g x.all [r]) (f:∀y∈x.all,y.ns.length<=2147483647) (i:x.all.length<=1099511627) :
  Calls (ah true) 40 #[.int .i64 key,.agg #[l,o,t],.agg #[.int .i64 x.no,r]] w λe z=>e=.returned (.bool (afl key (bV s.pk) x.all).isSome)/\Below w.heap.size w z:=by
 obtain⟨A,a,rfl⟩:=aY.form h.pk;obtain⟨B,b,rfl⟩:=aY.form h.sn;obtain⟨C,c,rfl⟩:=aY.form h.lg;obtain⟨D,d,rfl⟩:=m.form;go_enter zH,ntmps40;go_wp2;generalize q:(w.alloc (.cells #[.slice A s.pk.length a,.slice B s.sn.length b,.slice C s.lg.length c] 36)).alloc (.cells #[.int .i64 x.no,.slice D x.all.length d] 48)=w0 at *;obtain⟨j,G,J,H,K,F,I,L⟩:=nh q;clear q;have M:=j.size;have E:=ab (afq key s.pk x _ _ k g w0 (by omega) (eE.aK.below p j n) (bA.loc.below m j n) f i);clear f i m p h;go_wp2;refine E.out.mono ?_;rintro e N ⟨u,rfl, -, -,v⟩;go_wp2;go_ret;exact⟨rfl,ae j v⟩
def adv(key:Int)(pk:List Pk)(x:Sn):Prop:=(1<=x.no/\x.no<=20)/\(afl key (bV pk) x.all).isSome=true
def ag0(b:1<=key/\key<=99)(a:List Pk)(x:Sn):adv key a x↔ake key a x:=by
 unfold adv ake afl;rw[dl b]
def au9{s:ib}:((1<=key/\key<=99)/\agX key s/\aav s.lg)↔(1<=key/\key<=99)/\anW key s.pk/\iW (adv key s.pk) Sn.no s.sn/\aav s.lg:=
 ⟨λ⟨a,⟨b,c⟩,d⟩=>⟨a,b,⟨λx e=>(ag0 a _ x).2 (c.1 x e),c.2⟩,d⟩,λ⟨a,b,c,d⟩=>⟨a,⟨b,⟨λx e=>(ag0 a _ x).1 (c.1 x e),c.2⟩⟩,d⟩⟩
def adL(key:Int)(s:ib)(ad:fK pkN s.pk<=100000000)(al:∀x∈s.sn,x.all.length<=1099511627/\∀y∈x.all,y.ns.length<=2147483647)(va vb vc:Value)(lo hi:Nat)(w:World)(aM:hi<=w.heap.size)(hp:eE w lo hi s.pk [va])(h:ky w lo hi s va vb vc)(r:Bool)(X:r=true↔(1<=key/\key<=99)/\agX key s/\aav s.lg) :
  Calls (ah true) 16 #[.int .i64 key,.agg #[va,vb,vc]] w λe w'=>e=.returned (.bool r)/\Below w.heap.size w w':=by
 replace X:=X.trans au9;obtain⟨A,a,rfl⟩:=aY.form h.pk;obtain⟨B,b,rfl⟩:=aY.form h.sn;obtain⟨C,c,rfl⟩:=aY.form h.lg;have bf:=ab h;obtain⟨h1,h2,h3⟩:=h;obtain⟨-,ha,bZ⟩:=aY.len_ h1;obtain⟨-,hb,bS⟩:=aY.len_ h2;unfold maxLen at bZ bS;have aW:∀z∈aP s.pk,dJ z:=λz T=>by
  obtain⟨p,bp,T⟩:=pb.1 T;obtain⟨k,hk⟩:=qp.1 bp;obtain⟨_,_,_,_,_,_,_,_,_,_,np⟩:=aaq hp hk;obtain⟨it,ax,rfl⟩:=lP.1 T;exact((aY.good np.1) it ax).1
 replace aW:=ab aW;clear h1 h2 h3;replace X:=ab X;replace al:=ab al;replace ad:=ab ad;go_enter zR,ntmps16;go_wp2;generalize hG:(w.alloc (.cells #[.slice A s.pk.length a,.slice B s.sn.length b,.slice C s.lg.length c] 36)).alloc (.cells #[] 3)=w0 at *;obtain⟨av,dK,g,K,dg,k1,gY,jq⟩:=nh hG;clear hG;have o0:aS fW 3 w0 w.heap.size (.slice (some ⟨w.heap.size+1,0,none⟩) 0 0) []:=aS.aeQ ⟨_,rfl,by omega,k1⟩;go_loopw [5,6] (λoo i wr=>∃k:Nat,k<=s.pk.length/\i=.int .i64 k/\aS fW 3 wr w.heap.size oo (aP (s.pk.take k))/\gi wr w.heap.size 36 #[.slice A s.pk.length a,.slice B s.sn.length b,.slice C s.lg.length c]/\(∀b,oo.ownBlock=some b->w.heap.size<b)/\(iW (abX key) Pk.no (s.pk.take k)/\(aP (s.pk.take k)).Nodup)/\Below w.heap.size w wr) (λ_ i _=>s.pk.length-(intOf i).toNat)
 case atStart=>exact⟨0,du _,rfl,o0,g,(by intro b e;cases e;exact uL _),⟨mQ,List.nodup_nil⟩,av⟩
 case round=>
  clear g K dg av o0 k1 gY jq dK;obtain⟨k,hk,rfl,G,g,f,S,H⟩:=hrel;obtain⟨Ao,co,rfl⟩:=G.form;have HN:=ab S;clear S;have zr:=H.size;have K:=g.cell;by_cases an:k<s.pk.length
  .obtain⟨p,iH⟩:=aq an;have kL:=eE.aK.below hp H aM;obtain⟨b1,ba,A5,c5,rfl, -, -,c1,R,Q,np⟩:=aaq kL iH;have bX:=mO s.pk k;have b7:=kv (n:=pkN) iH;have bk:=kx (n:=pkN) (l:=s.pk) (j:=k+1);have bj:pkN p=p.its.length:=rfl;have bw:=ad.out;rw[bj] at b7;have N:(aP (s.pk.take k)).length+p.its.length<=100000000:=by omega
   have hT:=lI iH;have t:∀(m:Nat) (x:It),p.its[m]?=some x->x.n∈aP (s.pk.take k)++bI (p.its.take m)->r=false:=λm x hx hm=>by
    rw[<-bv,X.out];exact λI=>au8 iH hx hm I.2.1.2.2
   have a0:∀z∈aP (s.pk.take k)++bI p.its,dJ z:=λz T=>aW.out z (by
    rw[<-hT] at T;obtain⟨p',bn,T⟩:=pb.1 T;exact pb.2 ⟨p',qf bn,T⟩)
   replace iH:=ab iH;clear bX b7 bk bj bw;have af:=HN.out.1;have a4:=HN.out.2;replace af:=ab af;clear HN;have H9:=And.intro G (And.intro f (And.intro N (And.intro hT (And.intro t (And.intro a0 a4)))));clear G f N hT t a0 a4;revert H9;generalize aP (s.pk.take k)=L;rintro⟨G,f,N,hT,t,a0,a4⟩;have HLEN:=ab N;have HT:=ab hT;have bD:=ab t;have br:=ab a0;have bt:=ab a4;clear N hT t a0 a4;obtain⟨q,J⟩:=dG (abX key p);have HQ:=ab J;clear J;have dt:∀x:dA wr,Calls (ah true) 38 #[.int .i64 key,.agg #[.int .i64 p.no,.slice A5 p.its.length c5]] x.to λe w'=>e=.returned (.bool q)/\Below x.to.heap.size x.to w':=λx=>ae4 key p _ x.to lo hi (by have:=x.ok.size;omega) (iB.aK.below np x.ok (by omega)) q HQ.out;replace dt:=ab dt;have Z:wr.cell? ⟨w.heap.size,0,none⟩=some (.slice (some ⟨b1,ba,none⟩) s.pk.length a):=K 0;cases q with
   |false=>
    have o:r=false:=by
     rw[<-bv,X.out];exact λI=>axK iH.out (λh=>by have:=HQ.out.2 h;cases this) I.2.1.1
    have P:=ab o;clear o;go_wp2;have aD:=ag Z;have aH:=ag R;have aO:=ag Q;refine az (by kernel_rfl) (by kernel_rfl) ?_;repeat(go_big_quiet_step (first|(go_at_call 38;refine aL (dt.out _))))
    refine ff ?_;intro wq O;have J:=aF O;clear O aD aH aO;go_wp2;go_ret;exact⟨ak P.out.symm,ae H J⟩
   |true=>
   have ay:(∃j y,k=j+1/\s.pk[j]?=some y/\¬y.no<p.no)\/k=0\/∃j y,k=j+1/\s.pk[j]?=some y/\y.no<p.no:=by
    rcases mu k with h|h
    .exact .inr (.inl h)
    .obtain⟨j,rfl⟩:∃j,k=j+1:=⟨k-1,by omega⟩;obtain⟨y,hy⟩:=aq (l:=s.pk) (k:=j) (by omega);by_cases hc:y.no<p.no
     .exact .inr (.inr ⟨j,y,rfl,hy,hc⟩)
     .exact .inl ⟨j,y,rfl,hy,hc⟩
   rcases ay with⟨j,y,rfl,W,lh⟩|rfl|⟨j,y,rfl,W,lh⟩
   case' inl|inr.inr=>
    have e1:((j+1:Nat):Int)-1=(j:Int):=by omega
    obtain⟨b3,bo,A7,c7,a3, -, -, -,oL, -, -⟩:=aaq kL W;simp only[lw,pM,qh] at a3;obtain⟨rfl,rfl⟩:=a3
   case' inl=>
    have u3:=dq (show p.no<=y.no by omega);have o:r=false:=by
     rw[<-bv,X.out];exact λI=>pg W iH.out lh I.2.1.1
    have P:=ab o;clear o lh W;go_wp2;have aD:=ag Z;have aH:=ag R;have aO:=ag Q;have bG:=ag oL;refine az (by kernel_rfl) (by kernel_rfl) ?_;repeat(go_big_quiet_step (first|(go_at_call 38;refine aL (dt.out _))))
    refine ff ?_;intro wq O;have J:=aF O;clear O aD aH aO bG;go_wp2;go_ret;exact⟨ak P.out.symm,ae H J⟩
   case' inr.inr=>
    have u3:=da (show ¬(p.no<=y.no) by omega);have bg:iW (abX key) Pk.no (s.pk.take (j+1+1)):=pd af.out W iH.out (HQ.out.1 rfl) lh;clear lh W
   case' inr.inl=>
    simp only[sj,ru] at R Q;have oL:=R;have bg:iW (abX key) Pk.no (s.pk.take (0+1)):=mf iH.out (HQ.out.1 rfl)
   all_goals
    have HK:=ab bg;clear bg;go_wp2;have aD:=ag Z;have aH:=ag R;have aO:=ag Q;have bG:=ag oL;refine az (by kernel_rfl) (by kernel_rfl) ?_;repeat(go_big_quiet_step (first|(go_at_call 38;refine aL (dt.out _))))
    refine ff ?_;intro wq O;have J:=aF O;clear O aD aH aO bG;replace g:=ar g J;replace K:=g.cell;replace dg:=g.frozen;replace G:=G.below J;replace H:=ae H J;clear dt Z R Q oL np kL J;go_wp2;go_loopw [5,7] (λoo i wx=>∃m:Nat,m<=p.its.length/\i=.int .i64 m/\aS fW 3 wx w.heap.size oo (L++bI (p.its.take m))/\gi wx w.heap.size 36 #[.slice (some ⟨b1,ba,none⟩) s.pk.length a,.slice B s.sn.length b,.slice C s.lg.length c]/\(∀b,oo.ownBlock=some b->w.heap.size<b)/\(L++bI (p.its.take m)).Nodup/\Below w.heap.size w wx) (λ_ i _=>p.its.length-(intOf i).toNat)
    case atStart=>exact⟨0,du _,rfl,by rw[show bI (p.its.take 0)=[] from rfl,sI];exact G,g,f,by rw[show bI (p.its.take 0)=[] from rfl,sI];exact bt.out,H⟩
    case round=>
     clear g K dg H G f zr;obtain⟨m,hm,rfl,G,g,f,S,E⟩:=hrel;obtain⟨Ax,cx,rfl⟩:=G.form;have zx:=E.size;have K:=g.cell;have V:=eE.aK.below hp E aM;obtain⟨b2,gX,A6,c6,e6, -, -, -,R,Q,np⟩:=aaq V iH.out;simp only[lw,pM,qh] at e6;obtain⟨rfl,rfl⟩:=e6;try simp only[sj,ru] at Q
     have c3:p.its.length<=100000000:=by have:=HLEN.out;omega
     by_cases bT:m<p.its.length
     .obtain⟨x,bq⟩:=aq bT;obtain⟨b3,bo,rfl, -, -,bl,cn, -⟩:=ada np bq;have t:=bD.out m x bq;have b0:∀z∈L++bI (p.its.take m),dJ z:=λz T=>br.out z (by
       rcases gt.1 T with T|T
       .exact gt.2 (.inl T)
       .obtain⟨it,ax,rfl⟩:=lP.1 T;exact gt.2 (.inr (lP.2 ⟨it,qf ax,rfl⟩)))
      have a5:=(arR.2 G).sl b0 (am _);have a2:L++bI (p.its.take (m+1))=(L++bI (p.its.take m))++[x.n]:=by rw[acb bq,rz]
      have a6:(L++bI (p.its.take m)).length<=100000000:=by
       have:=HLEN.out;rw[ge,lj,lc];omega
      clear b0 bl bq;have H9:=And.intro G (And.intro f (And.intro S (And.intro t (And.intro a5 (And.intro a2 a6)))));clear G f S t a5 a2 a6;revert H9;generalize L++bI (p.its.take m)=M;rintro⟨G,f,S,t,a5,a2,a6⟩;have HM:=ab a6;have HST:=ab a2;have HO:=ab G;have bi:=ab a5;clear a6 a2 G a5 V np;have Z:=K 0;by_cases Y:x.n∈M
      .have o:=t Y;have P:=ab o;clear o t;go_wp2;refine(oU M x.n _ _ _ _ _ _ bi.out).mono ?_;rintro e w5 ⟨rfl,rfl⟩;rw[dq Y];clear Y S;go_wp2;go_ret;exact⟨ak P.out.symm,E⟩
      .have c0:=ab (amE S Y);clear S t;go_wp2;refine(oU M x.n _ _ _ _ _ _ bi.out).mono ?_;rintro e w5 ⟨rfl,rfl⟩;rw[da Y];clear Y;go_wp2_with(at_builtin;refine ku (F:=fW) (v:=.slice Ax M.length cx) rfl (.tmp 68) (.tmp 79) 27 rfl lX x.n rfl HO.out rfl rfl (by have:=HM.out;omega) E.size ?_;intro v8 w8 o8 b4 b8;obtain⟨A8,c8,rfl⟩:=o8.form;simp only[ge,mp,pT,ph] at o8 b8);go_roundw
       case rel=>exact⟨m+1,by omega,by go_num,by rw[HST.out];exact o8,kW g b4 (λe=>by have:=f _ e;omega),(λb hb=>(b8 b hb).elim (f b) λh=>by have:=g.lt;omega),by rw[HST.out];exact c0.out,E.trans (b4.below E.size λi hi hs=>by have:=(HO.out.at_ hs).1;omega)⟩
       simp[intOf];omega
     .obtain rfl:m=p.its.length:=by omega
      rw[dk] at f;rw[dk,<-HT.out] at G S;have bO:=ab S;clear S;rw[HT.out] at G;rw[dk];clear V np;have HO:=ab G;clear G;go_wp2;go_roundw
      case rel=>exact⟨_,by omega,by go_num,by rw[HT.out];exact HO.out,g,f,⟨HK.out,bO.out⟩,E⟩
      simp[intOf];omega
  .obtain rfl:k=s.pk.length:=by omega
   have a1:=HN.out;rw[dk] at a1;replace a1:=ab a1;clear HN G f;generalize (aP (s.pk.take s.pk.length)).length=nn;go_wp2;go_loopw [8] (λi wx=>∃m:Nat,m<=s.sn.length/\i=.int .i64 m/\iW (adv key s.pk) Sn.no (s.sn.take m)/\gi wx w.heap.size 36 #[.slice A s.pk.length a,.slice B s.sn.length b,.slice C s.lg.length c]/\Below w.heap.size w wx) (λi _=>s.sn.length-(intOf i).toNat)
   case atStart=>exact⟨0,du _,rfl,mQ,g,H⟩
   case round=>
    clear g K H zr;obtain⟨k,hk,rfl,S,g,E⟩:=hrel;have HN:=ab S;clear S;have zx:=E.size;have K:=g.cell;by_cases an:k<s.sn.length
    .obtain⟨x,bq⟩:=aq an;have V:=eE.aK.below hp E aM;have U:=bf.out.below E aM;obtain⟨bb,bR,D,d,rfl, -, -,c2,a7,aa,b5⟩:=acN U.sn bq;have aR:=al.out x (be bq);have HX:=ab bq;clear bq;obtain⟨q1,iL⟩:=dG (1<=x.no/\x.no<=20);obtain⟨q2,u⟩:∃q,q=(afl key (bV s.pk) x.all).isSome:=⟨_,rfl⟩;have a8:∀y:dA wr,Calls (ah true) 39 #[.int .i64 x.no,.int .i64 1,.int .i64 20] y.to λe w'=>e=.returned (.bool q1)/\Below y.to.heap.size y.to w':=λy=>(ahN x.no 1 20 y.to q1 iL).mono λe w' ⟨h,hw⟩=>⟨h,by rw[<-hw];exact db _ _⟩;replace a8:=ab a8;have b9:∀y:dA wr,Calls (ah true) 40 #[.int .i64 key,.agg #[.slice A s.pk.length a,.slice (some ⟨bb,bR,none⟩) s.sn.length b,.slice C s.lg.length c],.agg #[.int .i64 x.no,.slice D x.all.length d]] y.to λe w'=>e=.returned (.bool q2)/\Below y.to.heap.size y.to w':=λy=>by
      rw[u];have:=y.ok.size;exact amF key s x _ _ _ _ lo hi y.to (by omega) (eE.aK.below V y.ok (by omega)) (U.below y.ok (by omega)) (bA.loc.below b5 y.ok (by omega)) aR.2 aR.1
     have bx:=ab b9;have Z:=K 0;have f1:=K 1;have f2:=K 2;replace iL:=ab iL;replace u:=ab u;clear b9 aR b5 V;cases q1 with
     |false=>
      have o:r=false:=by
       rw[<-bv,X.out];exact λI=>by have:=iL.out.2 (I.2.2.1.1 x (be HX.out)).1;cases this
      have P:=ab o;clear o U;go_wp2;have aD:=ag Z;have aH:=ag f1;have aO:=ag f2;have bG:=ag a7;have nY:=ag aa;refine az (by kernel_rfl) (by kernel_rfl) ?_;repeat(go_big_quiet_step (first|(go_at_call 39;refine aL (a8.out _))))
      refine ff ?_;intro wq O;have J:=aF O;clear O aD aH aO bG nY;go_wp2;go_ret;exact⟨ak P.out.symm,ae E J⟩
     |true=>
      have ay:(∃j y,k=j+1/\s.sn[j]?=some y/\¬y.no<x.no)\/k=0\/∃j y,k=j+1/\s.sn[j]?=some y/\y.no<x.no:=by
       rcases mu k with h|h
       .exact .inr (.inl h)
       .obtain⟨j,rfl⟩:∃j,k=j+1:=⟨k-1,by omega⟩;obtain⟨y,hy⟩:=aq (l:=s.sn) (k:=j) (by omega);by_cases hc:y.no<x.no
        .exact .inr (.inr ⟨j,y,rfl,hy,hc⟩)
        .exact .inl ⟨j,y,rfl,hy,hc⟩
      rcases ay with⟨j,y,rfl,W,lh⟩|rfl|⟨j,y,rfl,W,lh⟩
      case' inl|inr.inr=>
       have e1:((j+1:Nat):Int)-1=(j:Int):=by omega
       obtain⟨b2,gX,D2,d2,a3, -, -, -,oL, -, -⟩:=acN U.sn W;simp only[lw,pM,qh] at a3;obtain⟨rfl,rfl⟩:=a3
      case' inl=>
       have u3:=dq (show x.no<=y.no by omega);have o:r=false:=by
        rw[<-bv,X.out];exact λI=>pg W HX.out lh I.2.2.1
       have P:=ab o;clear o lh W U;go_wp2;have aD:=ag Z;have aH:=ag f1;have aO:=ag f2;have bG:=ag a7;have nY:=ag aa;have aT:=ag oL;refine az (by kernel_rfl) (by kernel_rfl) ?_;repeat(go_big_quiet_step (first|(go_at_call 39;refine aL (a8.out _))))
       refine ff ?_;intro wq O;have J:=aF O;clear O aD aH aO bG nY aT;go_wp2;go_ret;exact⟨ak P.out.symm,ae E J⟩
      case' inr.inr=>
       have u3:=da (show ¬(x.no<=y.no) by omega);have bg:adv key s.pk x->iW (adv key s.pk) Sn.no (s.sn.take (j+1+1)):=λhx=>pd HN.out W HX.out hx lh;clear lh W
      case' inr.inl=>
       simp only[sj,ru] at a7 aa;have oL:=a7;have bg:adv key s.pk x->iW (adv key s.pk) Sn.no (s.sn.take (0+1)):=λhx=>mf HX.out hx
      all_goals
       have HK:=ab bg;clear bg U;go_wp2;have aD:=ag Z;have aH:=ag f1;have aO:=ag f2;have bG:=ag a7;have nY:=ag aa;have aT:=ag oL;refine az (by kernel_rfl) (by kernel_rfl) ?_;repeat(go_big_quiet_step (first|(go_at_call 39;refine aL (a8.out _))|(go_at_call 40;refine aL (bx.out _))))
       refine ff ?_;intro wq O;have J:=aF O;clear O aD aH aO bG nY aT;replace g:=ar g J;replace K:=g.cell;replace dg:=g.frozen;replace E:=ae E J;cases q2
       .have o:r=false:=by
         rw[<-bv,X.out];exact λI=>by have:=(I.2.2.1.1 x (be HX.out)).2;rw[<-u.out] at this;cases this
        have P:=ab o;clear o;go_wp2;go_ret;exact⟨ak P.out.symm,E⟩
       .have ao:=HK.out ⟨iL.out.1 (by trivial),u.out.symm⟩;replace ao:=ab ao;clear HK;go_wp2;go_roundw
        case rel=>exact⟨_,by omega,by go_num,ao.out,g,E⟩
        simp[intOf];omega
    .obtain rfl:k=s.sn.length:=by omega
     have a9:=HN.out;rw[dk] at a9;replace a9:=ab a9;clear HN;obtain⟨q1,iL⟩:=dG (1<=key/\key<=99);replace iL:=ab iL;have Z:=K 0;have f2:=K 2;go_wp2;refine(jT (β:=true) key _ q1 iL.out).mono ?_;rintro e w5 ⟨rfl,rfl⟩;cases q1
     .have o:r=false:=by
       rw[<-bv,X.out];exact λI=>by have:=iL.out.2 I.1;cases this
      have P:=ab o;clear o;go_wp2;go_ret;exact⟨ak P.out.symm,E⟩
     .obtain⟨q2,u⟩:=dG (aav s.lg);replace u:=ab u;have bL:=ab (bf.out.below E aM).lg;go_wp2;refine(afS s.lg _ _ lo hi bL.out (by omega) q2 u.out).mono ?_;rintro e w6 ⟨rfl,b6⟩;replace g:=ar g b6;replace K:=g.cell;replace dg:=g.frozen;replace E:=ae E b6;clear Z f2;have Z:=K 0;cases q2
      .have o:r=false:=by
        rw[<-bv,X.out];exact λI=>by have:=u.out.2 I.2.2.2;cases this
       have P:=ab o;clear o;go_wp2;go_ret;exact⟨ak P.out.symm,E⟩
      .have o:r=decide ((s.pk.length:Int)<=20):=by
        rw[oi,X.out,decide_eq_true_iff];exact⟨λI=>by have:=I.2.1.2.1;omega,λI=>⟨iL.out.1 (by trivial),⟨a1.out.1,by omega,a1.out.2⟩,a9.out,u.out.1 (by trivial)⟩⟩
       have P:=ab o;clear o;go_wp2;go_ret;exact⟨ak P.out.symm,E⟩
def kJ(l:List Pk)(n:Int):Bool:=l.any λp=>p.no ==n
def afv{l:List Pk}{p:Pk}(n:Int)(h:l[k]?=some p):kJ (l.take (k+1)) n=(kJ (l.take k) n||(p.no ==n)):=by
 unfold kJ;rw[gn h,List.any_append];simp
def mg{l:List Pk} :kJ l n=true↔∃p∈l,p.no=n:=by
 unfold kJ;simp only[tW,mx]
def adM(key:Int)(q:Swp)(F:fK pkN q.s.pk<=100000000)(X:∀x∈q.s.sn,x.all.length<=1099511627/\∀y∈x.all,y.ns.length<=2147483647)(a8:fK nNs q.s.sn<=1048576)(va vb vc vm vl:Value)(lo hi:Nat)(w:World)(W:hi<=w.heap.size)(hp:eE w lo hi q.s.pk [va])(h:aaa w lo hi q va vb vc vm vl)(r:Bool)(hr:r=true↔asJ key q) :
  Calls (ah true) 6 #[.int .i64 key,.agg #[va,vb,vc,vm,vl]] w λe w'=>e=.returned (.bool r)/\Below w.heap.size w w':=by
 obtain⟨hs,hm,hf⟩:=h;obtain⟨A,a,B,b,C,c,rfl,rfl,rfl⟩:=hs.frm;obtain⟨D,d,rfl⟩:=aY.form hm;obtain⟨E,e',rfl⟩:=aY.form hf;obtain⟨-,hd,av⟩:=hm.len_;obtain⟨-,aT,an⟩:=hf.len_;obtain⟨-,ha,ao⟩:=aY.len_ hs.pk;unfold maxLen at av an ao;replace hr:=ab hr;replace F:=ab F;replace X:=ab X;go_enter qF6,ntmps6;go_wp2;generalize hG:w.alloc (.cells #[.slice A q.s.pk.length a,.slice B q.s.sn.length b,.slice C q.s.lg.length c,.slice D q.ms.length d,.slice E q.lf.length e'] 38)=w0 at *;obtain⟨R,dK,k0,cy,dg⟩:=fA hG;clear hG;refine(aie q.s _ _ _ w0 lo hi (by have:=R.size;omega) (hs.below R W) a8).mono ?_;rintro e w1 ⟨v1,rfl,o1,b1⟩;replace k0:=ar k0 b1;replace cy:=k0.cell;replace dg:=k0.frozen;replace R:=ae R b1;obtain⟨A1,a1,rfl⟩:=o1.form;obtain⟨-,a9,ay⟩:=o1.len_;unfold maxLen at ay;obtain⟨N,hN⟩:∃N,N=iv q.s.sn:=⟨_,rfl⟩;rw[<-hN] at o1 a9 ⊢;replace hN:=ab hN;have a7:=k0;clear k0 cy dg a8 b1;go_wp2;go_loopw [6] (λii wr=>∃i:Nat,i<=N.length/\ii=.int .i64 i/\(∀n∈N.take i,n∈q.ms)/\Below w1.heap.size w1 wr) (λii _=>N.length-(intOf ii).toNat)
 case atStart=>exact⟨0,du _,rfl,λn hn=>(by cases hn),db _ _⟩
 case round=>
  obtain⟨i,aa,rfl,s,g⟩:=hrel;replace s:=ab s;have oZ:=ar a7 g;have zr:=g.size;by_cases a0:i<N.length
  .obtain⟨n,u⟩:=aq a0;obtain⟨b2,gX,rfl, -, -, -,F⟩:=((aY.loc bz.loc).below o1 g (am _)).ints_at u;have S:=(aY.loc bz.loc).below hm (ae R g) W;have f3:=oZ.cell 3;by_cases J:n∈q.ms
   .have dT:∀m∈N.take (i+1),m∈q.ms:=λm a6=>by
     rw[gn u] at a6;rcases gt.1 a6 with h|h
     .exact s.out m h
     .rw[ga.1 h];exact J
    replace dT:=ab dT;clear u;have dt:∀y:dA wr,Calls (ah true) 15 #[.slice D q.ms.length d,.int .i64 n] y.to λe w'=>e=.returned (.bool true)/\Below y.to.heap.size y.to w':=λy=>(oU q.ms n _ _ _ y.to lo hi ((aY.loc bz.loc).below S y.ok (by have:=R.size;omega))).mono λe w' ⟨h,hw⟩=>⟨by rw[h,dq J],by rw[<-hw];exact db _ _⟩;have eX:=ab dt;clear dt J S;go_wp2;have v:=ag f3;have H:=ag F;refine az (by kernel_rfl) (by kernel_rfl) ?_;repeat(go_big_quiet_step (first|(go_at_call 15;refine aL (eX.out _))))
    refine ff ?_;intro wq o;have I:=aF o;clear o v H;replace g:=ae g I;go_wp2;go_roundw
    case rel=>exact⟨i+1,by omega,by go_num,dT.out,g⟩
    simp[intOf];omega
   .have T:r=false:=by
     rw[<-bv,hr.out];exact λQ=>J (aft.1 Q.2.1 n (by rw[<-hN.out];exact be u))
    have iC:=ab T;clear T u;have dt:∀y:dA wr,Calls (ah true) 15 #[.slice D q.ms.length d,.int .i64 n] y.to λe w'=>e=.returned (.bool false)/\Below y.to.heap.size y.to w':=λy=>(oU q.ms n _ _ _ y.to lo hi ((aY.loc bz.loc).below S y.ok (by have:=R.size;omega))).mono λe w' ⟨h,hw⟩=>⟨by rw[h,da J],by rw[<-hw];exact db _ _⟩;have eX:=ab dt;clear dt J S;go_wp2;have v:=ag f3;have H:=ag F;refine az (by kernel_rfl) (by kernel_rfl) ?_;repeat(go_big_quiet_step (first|(go_at_call 15;refine aL (eX.out _))))
    refine ff ?_;intro wq o;have I:=aF o;clear o v H;replace g:=ae g I;go_wp2;go_ret;exact⟨ak iC.out.symm,ae R g⟩
  .obtain rfl:i=N.length:=by omega
   have V:=s.out;rw[dk,hN.out] at V;have ax:=ab (aft.2 V);clear V s;have al:=ae R g;clear o1 a7;go_wp2;go_loopw [7] (λii wx=>∃i:Nat,i<=q.lf.length/\ii=.int .i64 i/\iW (λn=>∃p∈q.s.pk,p.no=n) id (q.lf.take i)/\Below wr.heap.size wr wx) (λii _=>q.lf.length-(intOf ii).toNat)
   case atStart=>exact⟨0,du _,rfl,mQ,db _ _⟩
   case round=>
    obtain⟨i,aa,rfl,hn,kI⟩:=hrel;have HA:=ab hn;clear hn;have L:=ar oZ kI;have x4:=L.cell 4;have K:=ae al kI;have zx:=kI.size;by_cases a0:i<q.lf.length
    .obtain⟨n,u⟩:=aq a0;have M:=ab u;clear u;go_wp2;go_loopw [8,9] (λtt kk wi=>∃k:Nat,k<=q.s.pk.length/\kk=.int .i64 k/\tt=.bool (kJ (q.s.pk.take k) n)/\Below wr.heap.size wr wi) (λ_ kk _=>q.s.pk.length-(intOf kk).toNat)
     case atStart=>exact⟨0,du _,rfl,rfl,db _ _⟩
     case round=>
      clear x4;obtain⟨k,hk,rfl,rfl,G⟩:=hrel;have a3:=ar L G;have f0:=a3.cell 0;have f4:=a3.cell 4;have O:=ae K G;obtain⟨b5,aR,hE, -, -, -,iI⟩:=((aY.loc bz.loc).below hf O W).ints_at M.out;subst hE;by_cases ad:k<q.s.pk.length
      .obtain⟨p,iH⟩:=aq ad;obtain⟨b6,aD,A6,c6,rfl, -, -, -,a4, -, -⟩:=aaq (eE.aK.below hp O W) iH;have HST:=ab (afv n iH);clear iH;revert HST;generalize kJ (q.s.pk.take k) n=tq;intro HST;cases tq
       .obtain⟨eq,aM⟩:∃z,z=(p.no ==n):=⟨_,rfl⟩;go_wp2;have v:=ag f0;have H:=ag f4;have aO:=ag a4;have bG:=ag iI;refine az (by kernel_rfl) (by kernel_rfl) ?_;repeat(go_big_quiet_step (fail))
        refine ff ?_;intro wq o;have I:=aF o;clear o v H aO bG;go_wp2;go_roundw
        case rel=>exact⟨k+1,by omega,by go_num,by rw[HST.out];rfl,ae G I⟩
        simp[intOf];omega
       .go_wp2;have v:=ag f0;have H:=ag f4;have aO:=ag a4;have bG:=ag iI;refine az (by kernel_rfl) (by kernel_rfl) ?_;repeat(go_big_quiet_step (fail))
        refine ff ?_;intro wq o;have I:=aF o;clear o v H aO bG;go_wp2;go_roundw
        case rel=>exact⟨k+1,by omega,by go_num,by rw[HST.out];rfl,ae G I⟩
        simp[intOf];omega
      .obtain rfl:k=q.s.pk.length:=by omega
       rw[dk];obtain⟨t,U⟩:∃t,t=kJ q.s.pk n:=⟨_,rfl⟩;rw[<-U];have HT:=ab U;clear U;have zi:=G.size;cases t with
       |false=>
        have T:r=false:=by
         rw[<-bv,hr.out];exact λQ=>by
          have:=mg.2 (Q.2.2.1 n (be M.out));rw[<-HT.out] at this;cases this
        have iC:=ab T;clear T;go_wp2;have v:=ag f4;have H:=ag iI;refine az (by kernel_rfl) (by kernel_rfl) ?_;repeat(go_big_quiet_step (fail))
        refine ff ?_;intro wq o;have I:=aF o;clear o v H;go_wp2;go_ret;exact⟨ak iC.out.symm,ae O I⟩
       |true=>
       have af:(∃j y,i=j+1/\q.lf[j]?=some y/\¬y<n)\/i=0\/∃j y,i=j+1/\q.lf[j]?=some y/\y<n:=by
        rcases mu i with h|h
        .exact .inr (.inl h)
        .obtain⟨j,rfl⟩:∃j,i=j+1:=⟨i-1,by omega⟩;obtain⟨y,hy⟩:=aq (l:=q.lf) (k:=j) (by omega);by_cases hc:y<n
         .exact .inr (.inr ⟨j,y,rfl,hy,hc⟩)
         .exact .inl ⟨j,y,rfl,hy,hc⟩
       have a2:=(aY.loc bz.loc).below hf O W;have hP:=mg.1 HT.out.symm;rcases af with⟨j,y,rfl,cM,lh⟩|rfl|⟨j,y,rfl,cM,lh⟩
       case' inl|inr.inr=>
        have e1:((j+1:Nat):Int)-1=(j:Int):=by omega
        obtain⟨b7,aH,a5, -, -, -,oL⟩:=a2.ints_at cM;simp only[lw,pM,qh] at a5;obtain⟨rfl,rfl⟩:=a5
       case' inl=>
        have u3:=dq (show n<=y by omega);have T:r=false:=by
         rw[<-bv,hr.out];exact λQ=>pg (f:=id) cM M.out lh Q.2.2
        have iC:=ab T;clear T lh cM a2;go_wp2;have v:=ag f4;have H:=ag iI;have aO:=ag oL;refine az (by kernel_rfl) (by kernel_rfl) ?_;repeat(go_big_quiet_step (fail))
        refine ff ?_;intro wq o;have I:=aF o;clear o v H aO;go_wp2;go_ret;exact⟨ak iC.out.symm,ae O I⟩
       case' inr.inr=>
        have u3:=da (show ¬(n<=y) by omega);have bg:=pd (P:=λn=>∃p∈q.s.pk,p.no=n) (f:=id) HA.out cM M.out hP lh;clear lh cM
       case' inr.inl=>
        have oL:=iI;have bg:=mf (P:=λn=>∃p∈q.s.pk,p.no=n) (f:=id) M.out hP
       all_goals
        have HK:=ab bg;clear bg a2 hP;go_wp2;have v:=ag f4;have H:=ag iI;have aO:=ag oL;refine az (by kernel_rfl) (by kernel_rfl) ?_;repeat(go_big_quiet_step (fail))
        refine ff ?_;intro wq o;have I:=aF o;clear o v H aO;go_wp2;go_roundw
        case rel=>exact⟨_,by omega,by go_num,HK.out,ae (ae kI G) I⟩
        simp[intOf];omega
    .obtain rfl:i=q.lf.length:=by omega
     have Z:=HA.out;rw[dk] at Z;obtain⟨t,U⟩:=dG ((1<=key/\key<=99)/\agX key q.s/\aav q.s.lg);have HT:=ab U;have Y:r=t:=by
      rw[oi,hr.out,U];exact⟨λQ=>Q.1,λQ=>⟨Q,ax.out,Z⟩⟩
     replace Y:=ab Y;clear U Z HA;have f0:=L.cell 0;have f1:=L.cell 1;have f2:=L.cell 2;go_wp2;refine(adL key q.s F.out X.out _ _ _ lo hi _ (by have:=K.size;omega) (eE.aK.below hp K W) (hs.below K W) t HT.out).mono ?_;rintro e w9 ⟨rfl,b9⟩;go_wp2;go_ret;exact⟨ak Y.out.symm,ae K b9⟩
end
section
variable {β:Bool}
open Go.RowKit
def ag1(key:Int)(n:1<=key/\key<=99)(l:List Pk)(B C:Option Addr)(nb b nc c':Nat)(v:Value)(w:World)(O z:Nat)(h:eE w O z l [v])(aM:z<=w.heap.size)(hl:fK pkN l<=100000000)(r:Bool)(hr:r=true↔anW key l) :
  Calls (ah β) 48 #[.agg #[v,.slice B nb b,.slice C nc c'],.int .i64 key] w λe w'=>e=.returned (.bool r)/\Below w.heap.size w w':=by
 replace hr:=ab hr;obtain⟨A,c,rfl⟩:=h.form;obtain⟨_,hc,hx⟩:=h.len_;unfold maxLen at hx;go_enter zA,ntmps48;go_wp2;generalize hG:w.alloc (.cells #[.slice A l.length c,.slice B nb b,.slice C nc c'] 92)=w0 at *;obtain⟨V,dK,k0,cy,dg⟩:=fA hG;clear hG;have h0:=eE.aK.below h V aM;have z0:=V.size;go_loopw [11] (λi wr=>∃k:Nat,k<=l.length/\i=.int .i64 k/\iW (abX key) Pk.no (l.take k)/\Below w0.heap.size w0 wr) (λi _=>l.length-(intOf i).toNat)
 case atStart=>exact⟨0,du _,rfl,mQ,db _ _⟩
 case round=>
  obtain⟨k,hk,rfl,hn,d⟩:=hrel;have HN:=ab hn;clear hn;have oZ:=ar k0 d;clear k0 cy dg;have zr:=d.size;by_cases a7:k<l.length
  .obtain⟨p,Q⟩:=aq a7;have U:=eE.aK.below h0 d (by omega);obtain⟨b1,ay,A5,c5,rfl, -, -,ao,a6,a5,np⟩:=aaq U Q;replace Q:=ab Q;have HH:=ab aM;obtain⟨q,o⟩:=dG (abX key p);have HQ:=ab o;clear o;go_wp2;generalize hG:wr.alloc (.cells #[.int .i64 p.no,.slice A5 p.its.length c5] 56)=wa at *;obtain⟨X,af,m0,a4,al⟩:=fA hG;clear hG;have ha:=eE.aK.below U X (by omega);have HI:=ab (iB.aK.below np X (by omega));have ka:=ar oZ X;have u:=ae d X;have za:=X.size;have K:Hid (z<=wa.heap.size):=ab (by omega);have Y:=ka.cell 0;have I:=a4 0;have H:=a4 1;clear oZ np a6 a5 U X;cases q with
   |false=>
    have L:r=false:=by
     rw[<-bv,hr.out];intro hp;have:=HQ.out.2 (hp.1.1 p (be Q.out));cases this
    have iC:=ab L;clear L;go_wp2;have G:=ag Y;have N:=ag I;have R:=ag H;refine az (by kernel_rfl) (by kernel_rfl) ?_;repeat(go_big_quiet_step (first|(go_at_call 72;refine aL (ab7 (β:=β) key n p _ _ O z (ap K.out (dA.ok _).size) (iB.aK.below HI.out (dA.ok _) K.out) _ HQ.out))))
    refine ff ?_;intro wq m;have o:=aF m;clear m G N R;go_wp2;go_ret;exact⟨ak iC.out.symm,ae V (ae u o)⟩
   |true=>
    have t:=HQ.out.1 rfl;have g:=ab t;clear t;rcases mu k with a3|a3
    .subst a3;have bg:=mf (f:=Pk.no) Q.out g.out;have HK:=ab bg;clear bg;go_wp2;have G:=ag Y;have N:=ag I;have R:=ag H;refine az (by kernel_rfl) (by kernel_rfl) ?_;repeat(go_big_quiet_step (first|(go_at_call 72;refine aL (ab7 (β:=β) key n p _ _ O z (ap K.out (dA.ok _).size) (iB.aK.below HI.out (dA.ok _) K.out) true ⟨λ_=>g.out,λ_=>rfl⟩))))
     refine ff ?_;intro wq m;have o:=aF m;clear m G N R;go_wp2;go_roundw
     case rel=>first|exact⟨1,by omega,by go_num,HK.out,ae u o⟩|((repeat apply Exists.intro);refine⟨?_,rfl⟩;exact⟨1,by omega,by go_num,HK.out,ae u o⟩)
     simp[intOf];omega
    .obtain⟨j,rfl⟩:∃j,k=j+1:=⟨k-1,by omega⟩;have e1:((j+1:Nat):Int)-1=(j:Int):=by omega
     obtain⟨y,cM⟩:=aq (l:=l) (k:=j) (by omega);obtain⟨b2,gX,A7,c7,a1, -, -,aH,oL, -, -⟩:=aaq ha cM;simp only[lw,pM,qh] at a1;obtain⟨rfl,rfl⟩:=a1;replace cM:=ab cM;by_cases lh:y.no<p.no
     .have u1:=da (show ¬(p.no<=y.no) by omega);have bg:=pd HN.out cM.out Q.out g.out lh;have HK:=ab bg;clear bg lh;go_wp2;have G:=ag Y;have N:=ag I;have R:=ag H;have bG:=ag oL;refine az (by kernel_rfl) (by kernel_rfl) ?_;repeat(go_big_quiet_step (first|(go_at_call 72;refine aL (ab7 (β:=β) key n p _ _ O z (ap K.out (dA.ok _).size) (iB.aK.below HI.out (dA.ok _) K.out) true ⟨λ_=>g.out,λ_=>rfl⟩))))
      refine ff ?_;intro wq m;have o:=aF m;clear m G N R bG;go_wp2;go_roundw
      case rel=>first|exact⟨j+1+1,by omega,by go_num,HK.out,ae u o⟩|((repeat apply Exists.intro);refine⟨?_,rfl⟩;exact⟨j+1+1,by omega,by go_num,HK.out,ae u o⟩)
      simp[intOf];omega
     .have u1:=dq (show p.no<=y.no by omega);have L:r=false:=by
       rw[<-bv,hr.out];exact λhp=>pg cM.out Q.out lh hp.1
      have iC:=ab L;clear L lh;go_wp2;have G:=ag Y;have N:=ag I;have R:=ag H;have bG:=ag oL;refine az (by kernel_rfl) (by kernel_rfl) ?_;repeat(go_big_quiet_step (first|(go_at_call 72;refine aL (ab7 (β:=β) key n p _ _ O z (ap K.out (dA.ok _).size) (iB.aK.below HI.out (dA.ok _) K.out) true ⟨λ_=>g.out,λ_=>rfl⟩))))
      refine ff ?_;intro wq m;have o:=aF m;clear m G N R bG;go_wp2;go_ret;exact⟨ak iC.out.symm,ae V (ae u o)⟩
  .obtain rfl:k=l.length:=by omega
   have t:=HN.out;rw[dk] at t;have g:=ab t;clear t HN;have Y:=oZ.cell 0;have U:=eE.aK.below h0 d (by omega);go_wp2;refine(na l _ _ O z (by omega) U hl).mono ?_;rintro e w1 ⟨v1,rfl,o1,b1⟩;have hn:(aP l).length=fK pkN l:=by
    have:=mO l l.length;rw[dk,acE] at this;exact this
   go_wp2;refine(akd o1 (by omega)).mono ?_;rintro e w2 ⟨rfl,o2,a2⟩;have hS:∀b,v1.ownBlock=some b->wr.heap.size<=b:=λb hb=>(o1.at_ hb).1;have F:Below wr.heap.size wr w2:=b1.trans (a2.below b1.size λi z e=>by have:=hS i e;omega);have z2:=F.size;have k2:=ar oZ F;have h2:=eE.aK.below U F (by omega);have f2:=k2.cell 0;obtain⟨A2,c2,rfl⟩:=o2.form;have a8:=iV (aP l);have iI:=tZ (eH (aP l));have a0:=ae V (ae d F);have HC:=ab (aic (l:=aP l));have ad:Hid ((eH (aP l)).length<=9223372036854775807):=ab (by omega);have a9:=ab o2;have aa:Hid ((aP l).length<=100000000):=ab (by omega);clear oZ Y U o1 b1 a2 o2 hn V d F h0 h k2;obtain⟨M,hM⟩:∃M,M=Lib.compact (eH (aP l)):=⟨_,rfl⟩;rw[<-hM] at HC iI;replace hM:=ab hM;have an:Hid (M.length<=100000000):=ab (by have:=aa.out;omega);clear a8 iI;by_cases E:(l.length:Int)<=20
   case' neg=>
    have u1:decide ((l.length:Int)<=20)=false:=da E;have L:r=false:=by
     rw[<-bv,hr.out];exact λhp=>E (by have:=hp.2.1;omega)
    have iC:=ab L;clear L E;go_wp2;have G:=ag f2;refine az (by kernel_rfl) (by kernel_rfl) ?_;repeat(go_big_quiet_step (fail))
    refine ff ?_;intro wq m;have o:=aF m;clear m G;go_wp2;go_ret;exact⟨ak iC.out.symm,ae a0 o⟩
   have u1:decide ((l.length:Int)<=20)=true:=dq E;have u2:((M.length:Int) ==((aP l).length:Int))=r:=by
    have h3:r=true↔M.length=(aP l).length:=by
     rw[hr.out,HC.out];exact⟨λh=>h.2.2,λh=>⟨g.out,by omega,h⟩⟩
    rw[oi,h3,mx];omega
   clear E;have U2:=ab u2;clear u2;go_wp2;have aD:=alG (s:=6) (ty:=3) (S:=λb=>(Value.slice A2 (eH (aP l)).length c2).ownBlock=some b) (pre:=[]) f2 (λe=>by have:=hS _ e;dsimp only at this;omega);refine alH 6 3 (λb=>(Value.slice A2 (eH (aP l)).length c2).ownBlock=some b) [] 15 [0,1,2,3,4,5,8,9] [6,7,10,11,12,13,14] (by kernel_rfl) (by kernel_rfl) (by kernel_rfl) ?_;simp only[pick,List.map,qG,qH];repeat(go_big_quiet_step (fail))
   refine ff ?_;apply Exists.intro;apply axt (λv x=>x.done=true/\aS fW 3 x.to wr.heap.size v M)
   .rfl
   .rfl
   .exact λj hj=>(by cases hj)
   .exact λv x y ⟨hd,ho⟩ hle=>⟨(hle.from_ hd).1,ho.below (hle.from_ hd).2⟩
   .intro x _ D W a;replace a:=ab a;have Z:=x.till D;have ox:=a9.out.below Z;go_wp2;refine(adt ox ad.out).mono ?_;rintro e wy ⟨v5,rfl,J,c5⟩;rw[<-hM.out] at J;go_wp2;exact a.out _ _ (c5.mono λb hb e=>.inl e) ⟨rfl,J⟩
   intro ax;simp only[Act.put,oS,pO,pV];apply aeZ (.int .i64 M.length)
   .intro x P _ W a;replace a:=ab a;obtain⟨D,J⟩:=P.1 (by kernel_rfl);obtain⟨A5,c5,rfl⟩:=J.form;go_wp2;exact a.out _ (db _ _)
   simp only[Act.put,oS,pO,pV];apply axs (λv x=>x.done=true/\aS fW 3 x.to wr.heap.size v (aP l))
   .rfl
   .exact λv x y ⟨hd,ho⟩ hle=>⟨(hle.from_ hd).1,ho.below (hle.from_ hd).2⟩
   .intro x P _ W a;replace a:=ab a;obtain⟨D, -⟩:=P.1 (by kernel_rfl);have Z:Below wr.heap.size w2 x.to:=(x.ok.mono (T:=λb=>(Value.slice A2 (eH (aP l)).length c2).ownBlock=some b) λb _ h=>h.2).below z2 λi z e=>by have:=hS i e;omega
    have h3:=eE.aK.below h2 Z (by omega);have zx:=x.ok.size;go_wp2;refine(na l _ _ O z (by omega) h3 hl).mono ?_;rintro e wy ⟨v5,rfl,J,b5⟩;go_wp2;exact a.out _ _ b5 ⟨D,J.base (by omega)⟩
   intro av;simp only[Act.put,oS,pO,pV];apply aeZ (.int .i64 (aP l).length)
   .intro x P _ W a;replace a:=ab a;obtain⟨D,J⟩:=P.1 (by kernel_rfl);obtain⟨A5,c5,rfl⟩:=J.form;go_wp2;exact a.out _ (db _ _)
   simp only[Act.put,oS,pO,pV];apply aeZ (.bool r)
   .intro x _ _ W a;replace a:=ab a;have u2:=U2.out;go_wp2;exact a.out _ (db _ _)
   simp only[Act.put,oS,pO,pV];apply aeZ (.bool r)
   .intro x _ _ W a;replace a:=ab a;go_wp2;exact a.out _ (db _ _)
   simp only[Act.put,oS,pO,pV];apply aeZ (.bool r)
   .intro x _ _ W a;replace a:=ab a;go_wp2;exact a.out _ (db _ _)
   simp only[Act.put,oS,pO,pV];refine axu λx P=> ?_;have Z:Below wr.heap.size w2 x.to:=(x.ok.mono (T:=λb=>(Value.slice A2 (eH (aP l)).length c2).ownBlock=some b) λb _ h=>h.2).below z2 λi z e=>by have:=hS i e;omega
   have mX:=a0.trans (Z.mono (by omega));clear P Z;simp only[List.drop];go_wp2;go_ret;exact⟨rfl,mX⟩
end
section
open Go.RowKit
def apL(key:Int)(o:1<=key/\key<=99)(c:List Pk)(l:List Sn)(C:Option Addr)(nc c':Nat)(v1 v2:Value)(w:World)(lo hi:Nat)(hg:Glo w)(h1:cK w lo hi c [v1])(h2:cZ w lo hi l [v2])(aM:hi<=w.heap.size)(V:∀p∈c,1<=p.its.length)(J:∀x∈l,x.all.length<=1099511627/\∀y∈x.all,y.ns.length<=2147483647)(r:Bool)(P:r=true↔asI key c l) :
  Calls (ah true) 49 #[.agg #[v1,v2,.slice C nc c'],.int .i64 key] w λe w'=>e=.returned (.bool r)/\Below w.heap.size w w':=by
 replace P:=ab P;replace o:=ab o;replace J:=ab J;obtain⟨A,a,rfl⟩:=aY.form h1;obtain⟨B,b,rfl⟩:=aY.form h2;have lD:∀p∈bV c,1<=p.2.length/\dJ p.1:=λp z=>⟨by
  obtain⟨q,g,rfl⟩:=lP.1 z;have:=V q g;unfold pkd;simpa using this,h1.afB p z⟩
 obtain⟨-,ha,Q⟩:=aY.len_ h1;obtain⟨-,hb,aa⟩:=aY.len_ h2;replace Q:=ab Q;replace lD:=ab lD;clear V;unfold maxLen at aa;go_enter zy,ntmps49;go_wp2;generalize X:w.alloc (.cells #[.slice A c.length a,.slice B l.length b,.slice C nc c'] 92)=w0 at *;obtain⟨E,dK,k0,cy,dg⟩:=fA X;clear X;have a6:=cK.loc.below h1 E aM;have a8:=cZ.loc.below h2 E aM;have a2:=hg.below E;have z0:=E.size;clear h1 h2 hg;go_loopw [12] (λi wr=>∃k:Nat,k<=l.length/\i=.int .i64 k/\iW (ake key c) Sn.no (l.take k)/\Below w0.heap.size w0 wr) (λi _=>l.length-(intOf i).toNat)
 case atStart=>exact⟨0,du _,rfl,mQ,db _ _⟩
 case round=>
  obtain⟨k,hk,rfl,hn,m⟩:=hrel;replace hn:=ab hn;have oZ:=ar k0 m;clear k0 cy dg;have zr:=m.size;by_cases a4:k<l.length
  .obtain⟨x,bq⟩:=aq a4;have R:=cZ.loc.below a8 m (by omega);obtain⟨bb,ax,D,d,rfl,_,_,ay,ad,af,a3⟩:=acN R bq;have U:=ab bq;have a1:=ab (J.out x (be bq));clear bq;go_wp2;generalize X:wr.alloc (.cells #[.int .i64 x.no,.slice D x.all.length d] 48)=wa at *;obtain⟨eF,ao,m0,t,a7⟩:=fA X;clear X;have al:=cZ.loc.below R eF (by omega);have S:=ar oZ eF;have G:=ae m eF;have za:=eF.size;have f0:=S.cell 0;have f1:=S.cell 1;have v:=t 0;have av:=t 1;clear oZ ad af R;by_cases g1:1<=x.no
   case' neg=>
    have u1:=dq (show x.no<1 by omega);have f:r=false:=by
     rw[<-bv,P.out];exact λz=>g1 (z.1 x (be U.out)).1.1
    have F:=ab f;clear f g1;go_wp2;have I:=ag f1;have K:=ag v;refine az (by kernel_rfl) (by kernel_rfl) ?_;repeat(go_big_quiet_step (fail))
    refine ff ?_;intro wq n;have g:=aF n;clear n I K;go_wp2;go_ret;exact⟨ak F.out.symm,ae E (ae G g)⟩
   have u1:=da (show ¬(x.no<1) by omega);by_cases g2:x.no<=20
   case' neg=>
    have u2:=dq (show 20<x.no by omega);have f:r=false:=by
     rw[<-bv,P.out];exact λz=>g2 (z.1 x (be U.out)).1.2
    have F:=ab f;clear f g1 g2;go_wp2;have I:=ag f1;have K:=ag v;refine az (by kernel_rfl) (by kernel_rfl) ?_;repeat(go_big_quiet_step (fail))
    refine ff ?_;intro wq n;have g:=aF n;clear n I K;go_wp2;go_ret;exact⟨ak F.out.symm,ae E (ae G g)⟩
   have u2:=da (show ¬(20<x.no) by omega);have a5:=ab (And.intro g1 g2);clear g1 g2;have a9:(∃j y,k=j+1/\l[j]?=some y/\¬y.no<x.no)\/k=0\/∃j y,k=j+1/\l[j]?=some y/\y.no<x.no:=by
    rcases mu k with h|h
    .exact .inr (.inl h)
    .obtain⟨j,rfl⟩:∃j,k=j+1:=⟨k-1,by omega⟩;obtain⟨y,hy⟩:=aq (l:=l) (k:=j) (by omega);by_cases hc:y.no<x.no
     .exact .inr (.inr ⟨j,y,rfl,hy,hc⟩)
     .exact .inl ⟨j,y,rfl,hy,hc⟩
   rcases a9 with⟨j,y,rfl,T,W⟩|rfl|⟨j,y,rfl,T,W⟩
   case' inl|inr.inr=>
    have e1:((j+1:Nat):Int)-1=(j:Int):=by omega
    obtain⟨b2,gX,D2,d2,Y, -, -, -,oL, -, -⟩:=acN al T;simp only[lw,pM,qh] at Y;obtain⟨rfl,rfl⟩:=Y
   case' inl=>
    have u3:=dq (show x.no<=y.no by omega);have f:r=false:=by
     rw[<-bv,P.out];exact λz=>pg T U.out W z
    have F:=ab f;clear f W T;go_wp2;have I:=ag f1;have K:=ag v;have aO:=ag oL;refine az (by kernel_rfl) (by kernel_rfl) ?_;repeat(go_big_quiet_step (fail))
    refine ff ?_;intro wq n;have g:=aF n;clear n I K aO;go_wp2;go_ret;exact⟨ak F.out.symm,ae E (ae G g)⟩
   case' inr.inr=>
    have u3:=da (show ¬(x.no<=y.no) by omega);have bg:ake key c x->iW (ake key c) Sn.no (l.take (j+1+1)):=λhx=>pd hn.out T U.out hx W;clear W T
   case' inr.inl=>
    have oL:=v;have bg:ake key c x->iW (ake key c) Sn.no (l.take (0+1)):=λhx=>mf U.out hx
   all_goals
    have HK:=ab bg;clear bg;go_wp2;have I:=ag f1;have K:=ag v;have aO:=ag oL;refine az (by kernel_rfl) (by kernel_rfl) ?_;repeat(go_big_quiet_step (fail))
    refine ff ?_;intro wq n;have g:=aF n;clear n I K aO;replace S:=ar S g;replace Z:=S.cell;replace aR:=S.frozen;replace m0:=ar m0 g;replace t:=m0.cell;replace a7:=m0.frozen;have O:=ae G g;have aT:=Z 0;have aH:=Z 1;have aD:=t 0;have an:=t 1;have zq:=g.size;have iH:=(cK.loc.below a6 O (by omega)).pkl (by omega);have H:=bA.loc.below a3 (ae eF g) (by omega);have N:(bV c).length=c.length:=pF _;have HT:=amr key o.out (bV c) A a x _ lo hi wq (a2.below O) (by omega) iH (by rw[N];exact ha) Q.out lD.out H a1.out.2 a1.out.1;rw[N] at HT;replace HT:=ab HT;clear iH H N oL;go_wp2;refine HT.out.mono ?_;rintro e w5 ⟨u,rfl, -, -,b5⟩;have a0:=ae O b5;obtain⟨q,s⟩:∃q,q=(dD key (bV c) x.all).isSome:=⟨_,rfl⟩;rw[<-s];replace s:=ab s;clear HT;cases q
    .have f:r=false:=by
      rw[<-bv,P.out];intro z;have:=(z.1 x (be U.out)).2;rw[<-s.out] at this;cases this
     have F:=ab f;clear f;go_wp2;go_ret;exact⟨ak F.out.symm,ae E a0⟩
    .have L:=HK.out ⟨a5.out,s.out.symm⟩;replace L:=ab L;clear HK;go_wp2;go_roundw
     case rel=>exact⟨_,by omega,by go_num,L.out,a0⟩
     simp[intOf];omega
  .obtain rfl:k=l.length:=by omega
   have M:=hn.out;rw[dk] at M;have f:r=true:=P.out.2 M;have F:=ab f;clear M hn f;go_wp2;go_ret;exact⟨ak F.out.symm,ae E m⟩
def apM(key:Int)(s:ib)(j:fK pkN s.pk<=100000000)(n:∀x∈s.sn,x.all.length<=1099511627/\∀y∈x.all,y.ns.length<=2147483647)(P V Y:Value)(t o:Nat)(w:World)(hg:Glo w)(E:o<=w.heap.size)(L:eE w t o s.pk [P])(h:ky w t o s P V Y)(r:Bool)(v:r=true↔(1<=key/\key<=99)/\agX key s/\aav s.lg) :
  Calls (ah true) 19 #[.int .i64 key,.agg #[P,V,Y]] w λe w'=>e=.returned (.bool r)/\Below w.heap.size w w':=by
 obtain⟨W,S,T⟩:=h;obtain⟨A,a,rfl⟩:=aY.form W;obtain⟨B,b,rfl⟩:=aY.form S;obtain⟨C,c,rfl⟩:=aY.form T;replace v:=ab v;replace n:=ab n;replace j:=ab j;go_enter zP,ntmps19;go_wp2;generalize G:w.alloc (.cells #[.slice A s.pk.length a,.slice B s.sn.length b,.slice C s.lg.length c] 36)=w0 at *;obtain⟨J,dK,f,z,K⟩:=fA G;clear G;refine(aj9 _ _ _ ⟨_,_,_,rfl⟩ ⟨_,_,_,rfl⟩ ⟨_,_,_,rfl⟩ w0).mono ?_;rintro e w1 ⟨rfl,Q⟩;replace f:=ar f Q;replace z:=f.cell;replace K:=f.frozen;replace J:=ae J Q;go_wp2;by_cases d:1<=key/\key<=99
 case' neg=>
  have m:r=false:=by
   rw[<-bv,v.out];exact λh=>d h.1
  have F:=ab m;clear m;refine(abJ (β:=true) key _ false (by simp only[fd,qO];exact d)).mono ?_;clear d;rintro e N ⟨rfl,rfl⟩;go_wp2;go_ret;exact⟨ak F.out.symm,ae J (aJ _ _)⟩
 replace d:=ab d;refine(abJ (β:=true) key _ true (by simp only[qj];exact d.out)).mono ?_;rintro e N ⟨rfl,rfl⟩;go_wp2;generalize G:w1.alloc (.cells #[.slice A s.pk.length a,.slice B s.sn.length b,.slice C s.lg.length c] 92)=N at *;obtain⟨O,a0,M,k,R⟩:=fA G;clear G;replace f:=ar f O;replace z:=f.cell;replace K:=f.frozen;have g:=ae J O;have z2:=g.size;clear J O Q;by_cases u:anW key s.pk
 case' neg=>
  have m:r=false:=by
   rw[<-bv,v.out];exact λh=>u h.2.1.1
  have F:=ab m;clear m;refine(ag1 (β:=true) key d.out s.pk B C _ b _ c _ N t o (eE.aK.below L g E) (by omega) j.out false (by simp[u])).mono ?_;clear u;rintro e U ⟨rfl,D⟩;go_wp2;go_ret;exact⟨ak F.out.symm,ae g D⟩
 have I:=ab u;refine(ag1 (β:=true) key d.out s.pk B C _ b _ c _ N t o (eE.aK.below L g E) (by omega) j.out true (by simp[u])).mono ?_;clear u;rintro e U ⟨rfl,D⟩;replace f:=ar f D;replace z:=f.cell;replace K:=f.frozen;replace M:=ar M D;replace k:=M.cell;replace R:=M.frozen;have i:=ae g D;have z3:=i.size;have a3:=k 0;have a2:=k 1;have a1:=k 2;go_wp2;obtain⟨q,H⟩:=dG (asI key s.pk s.sn);refine(apL key d.out s.pk s.sn C _ c _ _ U t o (hg.below i) (cK.loc.below W i E) (cZ.loc.below S i E) (by omega) (λp L=>(I.out.1.1 p L).2.2.1.1) n.out q H).mono ?_;rintro e Z ⟨rfl,X⟩;replace f:=ar f X;replace z:=f.cell;replace K:=f.frozen;have l:=ae i X;have z4:=l.size;replace H:=ab H;have f02:=z 2;cases q
 .have m:r=false:=by
   rw[<-bv,v.out];intro h;have:=H.out.2 h.2.1.2;cases this
  have F:=ab m;clear m;go_wp2;go_ret;exact⟨ak F.out.symm,l⟩
 .go_wp2;refine(akb s.lg _ Z t o (dU.loc.below T l E) (by omega) r (by
   rw[v.out];exact⟨λh=>h.2.2,λh=>⟨d.out,⟨I.out,H.out.1 (by trivial)⟩,h⟩⟩)).mono ?_
  rintro e w5 ⟨rfl,b5⟩;cases r<;>(go_wp2;go_ret;exact⟨rfl,ae l b5⟩)
end
section
open Go.RowKit Go.Maps
def axO(n:Int)(i:dJ n)(g b m:Nat)(a:List Int)(w:World)(f:gi w g 61 #[.map (some b)])(c:afo w b m a) :
  Calls (ah true) 23 #[.int .i64 n,.pointer (some ⟨g,0,none⟩)] w λe d=>e=.returned (.bool (!decide (n∈a)))/\w=d:=by
 have k:=f.cell 0;have j:=asE c xi ((aU _ w).trans (uc w)) n i;go_enter xC,ntmps23;go_wp2;go_ret;exact⟨rfl,rfl⟩
def axP(p:Pk)(D:Option Addr)(c:Nat)(n:Int)(g:Nat)(w:World)(d:gi w g 3 #[.int .i64 n]) :
  Calls (ah true) 25 #[.agg #[.int .i64 p.no,.slice D p.its.length c],.pointer (some ⟨g,0,none⟩)] w λe b=>e=.returned (.bool (p.no ==n))/\Below w.heap.size w b:=by
 have f:=(ar d (aJ w (.cells #[.int .i64 p.no,.slice D p.its.length c] 56))).cell 0;have a:=aJ w (.cells #[.int .i64 p.no,.slice D p.its.length c] 56);go_enter xB,ntmps25;go_wp2;go_ret;exact⟨rfl,a⟩
def ava:ajD (β:=true) 25:=arT xB (by kernel_rfl) rfl
def avb:ajD (β:=true) 23:=arT xC (by kernel_rfl) rfl
def aii(xs:List Pk)(v:Value)(n:Int)(g:Nat)(w:World)(J B:Nat)(h:eE w J B xs [v])(E:B<=w.heap.size)(I:gi w g 3 #[.int .i64 n]) :
  Calls (ah true) 52 #[v,.func (.func 25) #[] #[.pointer (some ⟨g,0,none⟩)]] w λe z=>∃j:Int,e=.returned (.int .i64 j)/\(j=-1/\kJ xs n=false\/0<=j/\kJ xs n=true)/\Below w.heap.size w z:=by
 obtain⟨A,c,rfl⟩:=lZ.form h;obtain⟨_,L,H⟩:=h.len_;unfold maxLen at H;go_enter zv,ntmps52;go_wp2;go_loopw [8] (λy wr=>∃k:Nat,k<=xs.length/\y=.int .i64 k/\kJ (xs.take k) n=false/\Below w.heap.size w wr) (λy _=>xs.length-(intOf y).toNat)
 case atStart=>exact⟨0,du _,rfl,rfl,db _ _⟩
 case round=>
  obtain⟨k,K,rfl,o,f⟩:=hrel;replace o:=ab o;by_cases s:k<xs.length
  .obtain⟨p,l⟩:=aq s;obtain⟨b,G,D,d,rfl, -, -, -,t,x, -⟩:=aaq (eE.aK.below h f E) l;have HST:=ab (afv n l);replace l:=ab l;have F:=ava (#[.agg #[.int .i64 p.no,.slice D p.its.length d]]++#[.pointer (some ⟨g,0,none⟩)]) wr;go_wp2;refine(axP p D d n g wr (ar I f)).mono ?_;rintro e z ⟨rfl,C⟩;have r:=ae f C;clear F t x;obtain⟨q,m⟩:∃q,q=(p.no ==n):=⟨_,rfl⟩;rw[<-m];replace m:=ab m;cases q
   .have u:kJ (xs.take (k+1)) n=false:=by rw[HST.out,o.out,<-m.out];rfl
    replace u:=ab u;go_wp2;go_roundw
    case rel=>exact⟨k+1,by omega,by go_num,u.out,r⟩
    simp[intOf];omega
   .have i:kJ xs n=true:=mg.2 ⟨p,be l.out,by simpa using m.out.symm⟩;replace i:=ab i;go_wp2;go_ret;exact⟨k,rfl,.inr ⟨by omega,i.out⟩,r⟩
  .obtain rfl:k=xs.length:=by omega
   have a:=o.out;rw[dk] at a;replace a:=ab a;clear o;go_wp2;go_ret;exact⟨-1,rfl,.inl ⟨rfl,a.out⟩,f⟩
def adN(xs:List Pk)(v:Value)(n:Int)(g:Nat)(w:World)(k d:Nat)(h:eE w k d xs [v])(m:d<=w.heap.size)(o:gi w g 3 #[.int .i64 n]) :
  Calls (ah true) 24 #[v,.func (.func 25) #[] #[.pointer (some ⟨g,0,none⟩)]] w λe l=>e=.returned (.bool (kJ xs n))/\Below w.heap.size w l:=by
 obtain⟨A,c,rfl⟩:=lZ.form h;go_enter zL,ntmps24;go_wp2;refine(aii xs _ n g w k d h m o).mono ?_;rintro e p ⟨j,rfl,f,i⟩;rcases f with⟨rfl,a⟩|⟨f,b⟩
 .replace a:=ab a;go_wp2;go_ret;exact⟨ak a.out.symm,i⟩
 .have q:decide (0<=j)=true:=dq f;replace b:=ab b;go_wp2;go_ret;exact⟨ak b.out.symm,i⟩
def aij(x:Sn)(v:Value)(w:World)(f b:Nat)(d:b<=w.heap.size)(h:bA w f b x.all [v])(i:fK acP x.all<=100000000) :
  Calls (ah true) 22 #[.agg #[.int .i64 x.no,v]] w (anV w (Lib.compact (eH (df x)))):=by
 go_enter zM,ntmps22;go_wp2;generalize c:w.alloc (.cells #[.int .i64 x.no,v] 48)=w0 at *;obtain⟨a,m,o,n,p⟩:=fA c;clear c;refine(akg (β:=true) x v w0 f b (ap d a.size) (bA.loc.below h a d) i).mono ?_;rintro e l ⟨j,rfl,k,g⟩;go_wp2;go_ret;exact⟨j,rfl,k.base a.size,ae a g⟩
def avc{cs:List Value}(h:bA w Y X x.all cs):∀n∈df x,dJ n:=λn d=>by
 obtain⟨y,b,a⟩:=pb.1 d;obtain⟨g,v, -, -,c⟩:=h.atk y b;obtain⟨f, -,e⟩:=c.atk n a;exact e
def apN(h:((Lib.compact (eH (df x))).any λn=>!decide (n∈Z))=false):∀n∈df x,n∈Z:=λn a=>by
 rw[List.any_eq_false] at h;have:=h n (ow.2 (acO.2 a));simpa using this
def apO(h:((Lib.compact (eH (df x))).any λn=>!decide (n∈Z))=true):¬ ∀n∈df x,n∈Z:=λb=>by
 obtain⟨n,c,a⟩:=tW.1 h;have:=b n (acO.1 (ow.1 c));simp[this] at a
def afU(key:Int)(q:Swp)(a0:fK pkN q.s.pk<=100000000)(a1:∀x∈q.s.sn,x.all.length<=1099511627/\∀y∈x.all,y.ns.length<=2147483647)(a9:fK nNs q.s.sn<=1048576)(bp:q.ms.length<=1048576)(va vb vc vm vl:Value)(lo V:Nat)(w:World)(hg:Glo w)(M:V<=w.heap.size)(hp:eE w lo V q.s.pk [va])(h:aaa w lo V q va vb vc vm vl)(r:Bool)(hr:r=true↔asJ key q) :
  Calls (ah true) 8 #[.int .i64 key,.agg #[va,vb,vc,vm,vl]] w λe w'=>e=.returned (.bool r)/\Below w.heap.size w w':=by
 obtain⟨hs,hm,hf⟩:=h;obtain⟨A,a,B,b,C,c,rfl,rfl,rfl⟩:=hs.frm;obtain⟨D,d,rfl⟩:=aY.form hm;obtain⟨E,e',rfl⟩:=aY.form hf;obtain⟨-,bL,b6⟩:=aY.len_ hs.sn;obtain⟨-,bD,b9⟩:=hf.len_;unfold maxLen at b6 b9;replace hr:=ab hr;replace a0:=ab a0;replace a1:=ab a1;replace a9:=ab a9;have bx:=@run_makeMap (ah true);go_enter qF8,ntmps8;go_wp2;generalize T:w.alloc (.cells #[.slice A q.s.pk.length a,.slice B q.s.sn.length b,.slice C q.s.lg.length c,.slice D q.ms.length d,.slice E q.lf.length e'] 38)=w0 at *;obtain⟨L,dK,z,cy,dg⟩:=fA T;clear T;obtain⟨t,Y⟩:=dG ((1<=key/\key<=99)/\agX key q.s/\aav q.s.lg);refine(apM key q.s a0.out a1.out _ _ _ lo V w0 (hg.below L) (ap M L.size) (eE.aK.below hp L M) (hs.below L M) t Y).mono ?_;rintro e m ⟨rfl,b1⟩;have HT:=ab Y;clear Y;replace z:=ar z b1;replace cy:=z.cell;replace dg:=z.frozen;replace L:=ae L b1;cases t
 .have v:r=false:=by
   rw[<-bv,hr.out];intro hh;have:=HT.out.2 hh.1;cases this
  have N:=ab v;clear v;go_wp2;go_ret;exact⟨ak N.out.symm,L⟩
 have af:afo (m.alloc (.map #[] 0)) m.heap.size 0 []:=World.ownsMap_made m (ah true) 3 (plainElem (H:=Unit) (ah true) 4);have R:=aJ (m.alloc (.map #[] 0)) (.cells #[.map (some m.heap.size)] 61);have av:=af.below R;have G:=gi.new (m.alloc (.map #[] 0)) 61 #[.map (some m.heap.size)];rw[pa] at G;have F:=jK (aJ m (.map #[] 0)) (.cells #[.map (some m.heap.size)] 61);have z2:m.heap.size+2<=((m.alloc (.map #[] 0)).alloc (.cells #[.map (some m.heap.size)] 61)).heap.size:=by simp
 have k3:=ar z F;have z1:=L.size;have br:=b1.size;have H9:=ab (And.intro av (And.intro G (And.intro F (And.intro z2 k3))));have q3:=k3.cell 3;have q1:=G.cell 0;clear af av G R F z2 k3 z cy dg;go_wp2;clear q3 q1;revert H9;generalize ((m.alloc (.map #[] 0)).alloc (.cells #[.map (some m.heap.size)] 61))=w2;intro H9;obtain⟨own,G,F,z2,z⟩:=H9.out;clear H9;have oA:=ae L F;clear F L b1;have an:=(aY.loc bz.loc).below hm oA M;refine(amt [] q.ms m.heap.size 0 _ w2 lo V (λg h1 h2=>by omega) (ap M oA.size) an own (by omega)).mono ?_;rintro e w3 ⟨rfl,a6,I⟩;replace z:=kW z I (by omega);replace G:=kW G I (by omega);have zc:=I.size;have a3:=oA.trans (I.below oA.size λi V e=>by have e':i=m.heap.size:=e;omega);replace a6:=ab a6;clear own I an;have cy:=z.cell;have dg:=z.frozen;have gY:=G.cell;have jq:=G.frozen;have z3:=a3.size;go_wp2;go_loopw [24] (λii wr=>∃k:Nat,k<=q.s.sn.length/\ii=.int .i64 k/\(∀x∈q.s.sn.take k,∀n∈df x,n∈q.ms)/\Below w3.heap.size w3 wr) (λii _=>q.s.sn.length-(intOf ii).toNat)
 case atStart=>exact⟨0,du _,rfl,λn W=>(by cases W),db _ _⟩
 case round=>
  obtain⟨k,hk,rfl,o,J⟩:=hrel;replace o:=ab o;have oZ:=ar z J;have b0:=ar G J;have zr:=J.size;have a8:=ae a3 J;by_cases a5:k<q.s.sn.length
  .obtain⟨x,bq⟩:=aq a5;obtain⟨bb,bo,A5,c5,hE, -, -,bt,ba,bk,aa⟩:=acN (cZ.loc.below hs.sn a8 M) bq;subst hE;have dT:nNs x<=100000000:=by have:=asK bq;have:=a9.out;omega
   replace bq:=ab bq;replace dT:=ab dT;clear z G cy dg gY jq;go_wp2;generalize T:wr.alloc (.cells #[.int .i64 x.no,.slice A5 x.all.length c5] 48)=wa at *;obtain⟨O,aW,m0,aM,b3⟩:=fA T;clear T;have za:=O.size;have ay:=ab (bA.loc.below aa O (by have:=a8.size;omega));clear aa ba bk;refine(aij x _ wa lo V (by omega) ay.out dT.out).mono ?_;rintro e w8 ⟨v8,rfl,o8,b8⟩;obtain⟨A8,c8,rfl⟩:=o8.form;have X:∀n∈Lib.compact (eH (df x)),dJ n:=λn W=>avc ay.out n (acO.1 (ow.1 W));have hR:aY bz 1 w8 wa.heap.size w8.heap.size (Lib.compact (eH (df x))) [.slice A8 (Lib.compact (eH (df x))).length c8]:=o8.sl X (am _);have a2:=ae J (ae O b8);have aT:=a6.out.below a2;have aR:=ar b0 (ae O b8);have dt:∀n∈Lib.compact (eH (df x)),Calls (ah true) 23 (#[.int .i64 n]++#[.pointer (some ⟨m.heap.size+1,0,none⟩)]) w8 λe w'=>e=.returned (.bool (!decide (n∈q.ms)))/\w8=w':=λn W=>axO n (X n W) _ _ _ _ _ aR aT;have eX:=ab dt;have N:=ab hR;clear dt hR aT aR X o8;obtain⟨u,hu⟩:∃u,u=(Lib.compact (eH (df x))).any λn=>!decide (n∈q.ms):=⟨_,rfl⟩;replace hu:=ab hu;go_wp2;refine(acB (β:=true) 23 #[.pointer (some ⟨m.heap.size+1,0,none⟩)] (λn=>!decide (n∈q.ms)) _ _ _ _ _ _ _ N.out avb eX.out).mono ?_;rintro e w9 ⟨rfl,rfl⟩;rw[<-hu.out];cases u
   .have bg:∀x∈q.s.sn.take (k+1),∀n∈df x,n∈q.ms:=λy hy=>by
     rw[gn bq.out] at hy;rcases gt.1 hy with h|h
     .exact o.out y h
     .rw[ga.1 h];exact apN hu.out.symm
    have bi:=ab bg;clear bg;go_wp2;go_roundw
    case rel=>exact⟨k+1,by omega,by go_num,bi.out,a2⟩
    simp[intOf];omega
   .have v:r=false:=by
     rw[<-bv,hr.out];exact λhh=>apO hu.out.symm (hh.2.1 x (be bq.out))
    have b2:=ab v;clear v;go_wp2;go_ret;exact⟨ak b2.out.symm,ae a3 a2⟩
  .obtain rfl:k=q.s.sn.length:=by omega
   have Z:=o.out;rw[dk] at Z;have bj:Hid (amC q.s.sn q.ms):=ab Z;clear Z o z G cy dg gY jq;have f0:=oZ.cell 0;have f4:=oZ.cell 4;go_wp2;go_loopw [36] (λii wx=>∃i:Nat,i<=q.lf.length/\ii=.int .i64 i/\iW (λn=>∃p∈q.s.pk,p.no=n) id (q.lf.take i)/\Below wr.heap.size wr wx) (λii _=>q.lf.length-(intOf ii).toNat)
   case atStart=>exact⟨0,du _,rfl,mQ,db _ _⟩
   case round=>
    obtain⟨i,bl,rfl,W,kI⟩:=hrel;have HA:=ab W;clear W f0 f4;have bf:=ar oZ kI;have a7:=ae a8 kI;have zx:=kI.size;by_cases a5:i<q.lf.length
    .obtain⟨n,s⟩:=aq a5;replace s:=ab s;obtain⟨b5,bw,hE, -, -, -,iI⟩:=((aY.loc bz.loc).below hf a7 M).ints_at s.out;subst hE;go_wp2;generalize T:wr.alloc (.cells #[.int .i64 n] 3)=wa at *;obtain⟨O,aW,m0,aM,b3⟩:=fA T;clear T;have za:=O.size;have ax:=ar bf O;have f0:=ax.cell 0;have f4:=ax.cell 4;have K:=ae a7 O;have R:=ae kI O;have S:=aM 0;have z6:=K.size;obtain⟨t,Y⟩:∃t,t=kJ q.s.pk n:=⟨_,rfl⟩;have dt:∀y:dA wa,Calls (ah true) 24 #[.slice A q.s.pk.length a,.func (.func 25) #[] #[.pointer (some ⟨wr.heap.size,0,none⟩)]] y.to λe w'=>e=.returned (.bool t)/\Below y.to.heap.size y.to w':=λy=>by
      rw[Y];exact adN q.s.pk _ n _ y.to lo V (eE.aK.below (eE.aK.below hp K M) y.ok (by omega)) (by have:=y.ok.size;omega) (ar m0 y.ok)
     have eX:=ab dt;have ad:=ab Y;have Q:=(aY.loc bz.loc).below hf K M;have ao:=Q.ints_at s.out;clear dt Y iI;have b4:(∃j y,i=j+1/\q.lf[j]?=some y/\¬y<n)\/i=0\/∃j y,i=j+1/\q.lf[j]?=some y/\y<n:=by
      rcases mu i with h|h
      .exact .inr (.inl h)
      .obtain⟨j,rfl⟩:∃j,i=j+1:=⟨i-1,by omega⟩;obtain⟨y,hy⟩:=aq (l:=q.lf) (k:=j) (by omega);by_cases hc:y<n
       .exact .inr (.inr ⟨j,y,rfl,hy,hc⟩)
       .exact .inl ⟨j,y,rfl,hy,hc⟩
     rcases b4 with⟨j,y,rfl,cM,lh⟩|rfl|⟨j,y,rfl,cM,lh⟩
     case' inl|inr.inr=>
      have e1:((j+1:Nat):Int)-1=(j:Int):=by omega
      obtain⟨b7,bn,al, -, -, -,oL⟩:=Q.ints_at cM;simp only[lw,pM,qh] at al;obtain⟨rfl,rfl⟩:=al
     case' inl=>
      have u3:=dq (show n<=y by omega);have v:r=false:=by
       rw[<-bv,hr.out];exact λhh=>pg (f:=id) cM s.out lh hh.2.2
      have N:=ab v;clear v lh cM Q ao;go_wp2;have aD:=ag f0;have aH:=ag f4;have aO:=ag S;have bG:=ag oL;refine az (by kernel_rfl) (by kernel_rfl) ?_;repeat(go_big_quiet_step (fail))
      refine ff ?_;intro wq U;have hq:=aF U;clear U aD aH aO bG;go_wp2;go_ret;exact⟨ak N.out.symm,ae K hq⟩
     case' inr.inr=>
      have u3:=da (show ¬(n<=y) by omega);have bg:(∃p∈q.s.pk,p.no=n)->iW (λn=>∃p∈q.s.pk,p.no=n) id (q.lf.take (j+1+1)):=λhP=>pd (P:=λn=>∃p∈q.s.pk,p.no=n) (f:=id) HA.out cM s.out hP lh;clear lh cM
     case' inr.inl=>
      have oL:=S;have bg:(∃p∈q.s.pk,p.no=n)->iW (λn=>∃p∈q.s.pk,p.no=n) id (q.lf.take (0+1)):=λhP=>mf (P:=λn=>∃p∈q.s.pk,p.no=n) (f:=id) s.out hP
     all_goals
      have HK:=ab bg;clear bg Q ao;cases t
      .have v:r=false:=by
        rw[<-bv,hr.out];intro hh;have:=mg.2 (hh.2.2.1 n (be s.out));rw[<-ad.out] at this;cases this
       have N:=ab v;clear v;go_wp2;have aD:=ag f0;have aH:=ag f4;have aO:=ag S;have bG:=ag oL;refine az (by kernel_rfl) (by kernel_rfl) ?_;repeat(go_big_quiet_step (first|(go_at_call 24;refine aL (eX.out _))))
       refine ff ?_;intro wq U;have hq:=aF U;clear U aD aH aO bG;go_wp2;go_ret;exact⟨ak N.out.symm,ae K hq⟩
      .have hP:=mg.1 ad.out.symm;have HP:=ab hP;clear hP;go_wp2;have aD:=ag f0;have aH:=ag f4;have aO:=ag S;have bG:=ag oL;refine az (by kernel_rfl) (by kernel_rfl) ?_;repeat(go_big_quiet_step (first|(go_at_call 24;refine aL (eX.out _))))
       refine ff ?_;intro wq U;have hq:=aF U;clear U aD aH aO bG;go_wp2;go_roundw
       case rel=>exact⟨_,by omega,by go_num,HK.out HP.out,ae R hq⟩
       simp[intOf];omega
    .obtain rfl:i=q.lf.length:=by omega
     have a4:=HA.out;rw[dk] at a4;have v:r=true:=hr.out.2 ⟨HT.out.1 (by trivial),bj.out,a4⟩;have N:=ab v;clear v a4 HA;go_wp2;go_ret;exact⟨ak N.out.symm,a7⟩
end
end Go.Proofs.YtblbaiejjagdoaaGreatDoor
namespace Go.Proofs.YtblbaiejjagdoaaGreatDoor.lawew
open Go.RowKit Go.ChangeShapes Go.WideShapes Go.ChangeAt
def akj{a:Type}{f:a->Nat}{l:List a}{x:a}(h:x∈l):f x<=aX f l:=by
 unfold aX;have:f x<=(l.map f).sum:=by
  induction l with
  |nil=>cases h
  |cons y l b=>
   rw[pK,rD];rcases lE.1 h with rfl|h
   .omega
   .have:=b h;omega
 omega
def amG{a:Type}{f g:a->Nat}:∀{l:List a},(∀x∈l,f x<=g x)->fK f l<=aX g l
 |[],_=>by unfold fK aX;simp
 |x::l,h=>by
  have d:=amG (l:=l) λy b=>h y (qk _ b);have c:=h x (by simp);unfold fK aX at *;simp only[pK,rD,mp] at *;omega
def asN{q:Swp}(h:afT q<=1048576):∀x∈q.s.sn,x.all.length<=1099511627/\∀y∈x.all,y.ns.length<=2147483647:=λx c=>by
 unfold afT adG at h;have e:=akj (f:=bSn) c;have d:x.all.length<=bSn x:=by unfold bSn aX;omega
 refine⟨by omega,λy a=> ?_⟩;have b:oX y<=bSn x:=by unfold bSn;exact akj a
 unfold oX at b;omega
def akk{q:Swp}(h:afT q<=1048576):fK nNs q.s.sn<=1048576:=by
 unfold afT adG at h;have a:fK nNs q.s.sn<=aX bSn q.s.sn:=amG λx _=>by
  unfold nNs bSn;exact amG λy _=>by unfold acP oX;omega
 omega
def xc(a:w'.heap=w.heap){q:Swp}(h:aih w Y X q v):aih w' Y X q v:=by
 obtain⟨i,g,f,k,j,e,⟨b,c,d⟩⟩:=h;exact⟨i,g,f,k,j,e,⟨cK.loc.go (λ_ _ _=>by rw[a]) (am _) (am _) b.pk,cZ.loc.go (λ_ _ _=>by rw[a]) (am _) (am _) b.sn,dU.loc.go (λ_ _ _=>by rw[a]) (am _) (am _) b.lg⟩,(aY.loc bz.loc).go (λ_ _ _=>by rw[a]) (am _) (am _) c,(aY.loc bz.loc).go (λ_ _ _=>by rw[a]) (am _) (am _) d⟩
def walk(key:Int)(_:dJ key)(q:Swp)(hg:Glo w)(s:aih w 0 w.heap.size q v)(w':World)(hw:w'=w:=by rfl) :
  Calls (ah true) 3 #[.int .i64 key,v] w' λe w'=>e=.returned (.bool true)/\Below w.heap.size w w':=by
 subst hw;obtain⟨t,H,N,O,u,rfl,h⟩:=s;obtain⟨A,a,B,b,C,c,rfl,rfl,rfl⟩:=h.s.frm;obtain⟨D,d,rfl⟩:=aY.form h.ms;obtain⟨E,e',rfl⟩:=aY.form h.lf;go_enter qF3,ntmps3;go_wp2;generalize F:w'.alloc (.cells #[.slice A q.s.pk.length a,.slice B q.s.sn.length b,.slice C q.s.lg.length c,.slice D q.ms.length d,.slice E q.lf.length e'] 29)=w0 at *;obtain⟨f,dK,g,l,p⟩:=fA F;clear F;refine(akh (β:=true) q _ _ _ _ _ w0 0 w'.heap.size (h.below f (am _)) f.size).mono ?_;rintro e w1 ⟨⟨z,rfl,hz⟩,b1⟩;replace g:=ar g b1;replace l:=g.cell;replace p:=g.frozen;replace f:=ae f b1;rcases hz with rfl|⟨ao,aR,o⟩
 .go_wp2;go_ret;exact⟨rfl,f⟩
 have M:fK pkN q.s.pk<=100000000:=by
  have h1:=asy q.s.pk;unfold afT adG at o;omega
 have HB:=ab o;have HC:=ab M;have I:=ab (asN o);have L:=ab (akk o);have n:q.ms.length<=1048576:=by unfold afT at o;omega
 replace n:=ab n;clear o M;obtain⟨r,s⟩:=dG (asJ key q);replace s:=ab s;go_wp2;refine(oz (β:=true) q _ _ _ _ _ _ 0 w'.heap.size (h.below f (am _)) f.size HB.out).mono ?_;rintro e w2 ⟨v1,v2,v3,v4,v5,rfl,Q,m1,l1,b2⟩;obtain⟨⟨A1,a1,rfl⟩,⟨B1,ax,rfl⟩,C1,c1,rfl⟩:=Q.form;obtain⟨D1,d1,rfl⟩:=aY.form m1;obtain⟨E1,e1,rfl⟩:=aY.form l1;replace g:=ar g b2;replace l:=g.cell;replace p:=g.frozen;replace f:=ae f b2;go_wp2;refine(adM key q HC.out I.out L.out _ _ _ _ _ _ _ _ (am _) (mF.t Q.pk) ⟨Q.l,m1,l1⟩ r s.out).mono ?_;rintro e w3 ⟨rfl,b3⟩;replace g:=ar g b3;replace l:=g.cell;replace p:=g.frozen;replace f:=ae f b3;clear Q m1 l1;go_wp2;refine(oz (β:=true) q _ _ _ _ _ _ 0 w'.heap.size (h.below f (am _)) f.size HB.out).mono ?_;rintro e K ⟨Y,U,X,v9,ay,rfl,P,m2,l2,b4⟩;obtain⟨⟨A2,a2,rfl⟩,⟨B2,Z,rfl⟩,C2,c2,rfl⟩:=P.form;obtain⟨D2,d2,rfl⟩:=aY.form m2;obtain⟨E2,e2,rfl⟩:=aY.form l2;replace g:=ar g b4;replace l:=g.cell;replace p:=g.frozen;replace f:=ae f b4;go_wp2;generalize F:K.alloc (.cells #[.slice A2 q.s.pk.length a2,.slice B2 q.s.sn.length Z,.slice C2 q.s.lg.length c2,.slice D2 q.ms.length d2,.slice E2 q.lf.length e2] 38)=w5 at *;obtain⟨j,aM,R,k,a3⟩:=fA F;clear F;replace g:=ar g j;replace l:=g.cell;replace p:=g.frozen;replace f:=ae f j;have q3:aaa K w3.heap.size K.heap.size q _ _ _ _ _:=⟨P.l,m2,l2⟩;have q4:=q3.below j (am _);refine(afU key q HC.out I.out L.out n.out _ _ _ _ _ _ _ w5 (hg.below f) j.size (eE.aK.below (mF.t P.pk) j (am _)) q4 r s.out).mono ?_;rintro e w6 ⟨rfl,G⟩;replace g:=ar g G;replace l:=g.cell;replace p:=g.frozen;replace R:=ar R G;replace k:=R.cell;replace a3:=R.frozen;replace f:=ae f G;have av:K.heap.size<=w6.heap.size:=ap j.size G.size;have a5:=ab (q4.below G j.size);clear q3 q4 P m2 l2;have an:(r !=r)=false:=by simp
 go_wp2;have fk:=l 0;have jq:=l 1;have a8:=l 2;have a0:=l 3;have al:=l 4;have fm:=k 0;have V:=k 1;have af:=k 2;have W:=k 3;have a7:=k 4;have aD:=ag fk;have aH:=ag jq;have aO:=ag a8;have bG:=ag a0;have nY:=ag al;have a9:=ag fm;have ad:=ag V;have S:=ag af;have aa:=ag W;have a6:=ag a7;refine fI 5 [0,1] [2,3,4] (h:= ?_);simp only[pick,List.map,qG,qH];repeat(go_big_quiet_step (fail))
 refine ff ?_;clear aD aH aO bG nY a9 ad S aa a6;apply Exists.intro;apply ajz (λv w'=>∃t H N O u,v=.agg #[t,H,N,O,u]/\aaa w' w6.heap.size w'.heap.size q t H N O u)
 .rfl
 .exact λv x y ⟨t,H,N,O,u,e,h⟩ hle=>⟨t,H,N,O,u,e,(h.below hle (am _)).go (λ_ _ _=>rfl) (am _) hle.size⟩
 .intro x _ Qx i;replace i:=ab i;go_wp2;have kI:=ae f x.ok;refine(oz q _ _ _ _ _ _ 0 w'.heap.size (h.below kI (am _)) kI.size HB.out).mono ?_;rintro e wy ⟨v5,Y,U,X,v9,rfl,T,m5,l5,m⟩;go_wp2;exact i.out _ _ m ⟨v5,Y,U,X,v9,rfl,aaa.go (λ_ _ _=>rfl) x.ok.size (am _) ⟨T.l,m5,l5⟩⟩
 intro vr;apply ajA (.bool true)
 .intro x J Qx i;replace i:=ab i;obtain⟨v5,Y,U,X,v9,rfl,T⟩:=J.1 (by kernel_rfl);go_wp2;have o4:=a5.out.below x.ok (by omega);refine(aif q _ _ _ _ _ _ _ _ _ _ _ _ K.heap.size _ _ o4 T (by have:=x.ok.size;omega) (am _)).mono ?_;rintro e wy ⟨rfl,m⟩;go_wp2;exact i.out _ m
 apply ajA (.bool false)
 .intro x J Qx i;replace i:=ab i;go_wp2;exact i.out _ (db _ _)
 refine kr ?_;intro w2 a4 x hx J;dsimp only[acz] at J;rw[hx] at J;clear hx x;replace f:=ae f a4;simp only[List.drop];go_wp2;go_ret;exact⟨rfl,f⟩
end Go.Proofs.YtblbaiejjagdoaaGreatDoor.lawew