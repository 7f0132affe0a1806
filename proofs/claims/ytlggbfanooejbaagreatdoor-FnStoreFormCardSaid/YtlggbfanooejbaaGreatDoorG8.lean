/- A part. -/
import Derived.Test.YtlggbfanooejbaaGreatDoorG7
import Derived.HandedShaped
import Derived.Carry
import Derived.Conc.Holds
import Derived.OpenVars
import Derived.LaidMore
import Derived.Lay
import Derived.SevenTiedAt
import Derived.Test.YtlggbfanooejbaaGreatDoorTie
import Derived.Test.YtlggbfanooejbaaGreatDoorCards
import Derived.Conc.WgGenN3
import Derived.Orders
set_option maxRecDepth 100000
set_option maxHeartbeats 8000000
set_option linter.all false
open Go Go.Conc Go.ConcN Go.RowKit Go.Proofs.Tryz Go.Proofs.YtlggbfanooejbaaGreatDoor
variable {Rr S:aq} {x:Ls} {X C b c hi i j k lo m n:Nat} {key:Int} {ρ:Ren} {main:Bool} {v:Value} {w w' w0:World} {f:FuncId} {t:TypeId} {P:Program} {l:List ig} {xs:List Ls} {U:Nat→Bool} {Rg:Nat→Prop} {g:Goroutine} {s:ByteArray} {z:Nat × Nat} {listed:Array Bool} {u:Option Nat} {Y T a cs y:Array Value} {A:Option Addr} {p:List MemPlace} {o:Option (List Nd)} {V St:Goroutine→World→Prop} {R:List Frame→World→Prop} {W:List (ByteArray × Bool)} {Z:Int→List ig→Int→ByteArray × Bool}
namespace Go.Proofs.YtlggbfanooejbaaGreatDoor
def fb:=@Go.Conc.stepG_region_end
def kw:=@Go.Conc.stepG_seq
def rG:=@Go.Conc.stepG_skip
def su:=@Go.Conc.stepG_ret'
def tW:=@Array.getElem?_replicate
def uG:=@Go.Conc.stepG_markAt
def uK:=@List.mem_iff_getElem
def uR:=@Go.Conc.stepG_mark0
def vj:=@Go.MakeChecks.laidMetH_plain
def vE:=@Go.Proofs.Tryz.zeroValue4
def vF:=@Go.Proofs.Tryz.zeroValue3
def vG:=@Go.Proofs.Tryz.zeroValue0
def vU:=@Bool.and_assoc
def vZ:=@List.getElem?_append
def wj:=@Go.Claim7.new_of_sixth
def wm:=@Array.getElem?_ofFn
section
open Go.RowKit
def ahu(a:agh key l x.ns)(b:(fJ (fO key l x.ns)).2=true):et key l x=some ⟨x.p,(fJ (fO key l x.ns)).1⟩:=by unfold et;rw[dj ⟨a,b⟩]
def pA(h:¬(agh key l x.ns/\(fJ (fO key l x.ns)).2=true)):et key l x=none:=by unfold et;rw[bv h]
def pz(b:x∈xs)(h:et key l x=none):dx key l xs=none:=by
 unfold dx;rw[bv];rintro⟨a, -⟩;have:=a x b;rw[h] at this;cases this
def af2{l:List ByteArray}:(fJ l).1.size<=40:=by
 unfold fJ;split
 .rename_i h;exact(fM h.1).1
 .exact fa _
def adP{y:Nd}(a:xs[k]?=some x)(h:et key l x=some y):df key l (xs.take (k+1))=df key l (xs.take k)++[y]:=by
 unfold df;rw[mp a,List.filterMap_append];simp[h]
def afy.itl{a:List It}(h:afy w lo hi a [.slice A n c])(o:hi<=w.heap.size):ItL w A (a.map λx=>(x.n,x.b)):=λi x e=>by
 rw[qz] at e;obtain⟨y,g,rfl⟩:=iS.1 e;obtain⟨b,d,m,rfl,p,l, -,⟨rfl,j,k⟩,f⟩:=h.at_ g;exact⟨b,d,rfl,by omega,by simpa using f 0 _ rfl,f 1 _ rfl,j,k⟩
def kF.pkl{l:List Pk}(h:kF w lo hi l [.slice A n c])(k:hi<=w.heap.size):PkL w A (aX l):=λi x e=>by
 unfold aX at e;rw[qz] at e;obtain⟨y,j,rfl⟩:=iS.1 e;obtain⟨b,a,q,rfl,s,p, -,⟨v,rfl,r,f⟩,g⟩:=h.at_ j;obtain⟨B,d,rfl⟩:=f.form;obtain⟨-,o,m⟩:=f.len_;refine⟨b,a,B,d,rfl,by omega,by have:=g 0 _ rfl;rw[rO] at this;exact this, ?_, ?_,m,f.itl k⟩
 .have:=g 1 _ rfl;rw[show(pkd y).2.length=y.its.length from pZ _];exact this
 .rw[show(pkd y).2.length=y.its.length from pZ _];exact o
def ae1(h:fB w lo hi xs [.slice A n c])(i:xs[k]?=some x) :
  ∃b a A' d,A=some ⟨b,a,none⟩/\lo<=b/\b<hi/\x.p.size<=maxLen/\w.cell? ⟨b,a+k*2,none⟩=some (.string x.p)/\w.cell? ⟨b,a+k*2+1,none⟩=some (.slice A' x.ns.length d)/\cB pC 1 w lo hi x.ns [.slice A' x.ns.length d]:=by
 obtain⟨b,a,m,rfl,j,g,l,⟨v,rfl,f,hi⟩,e⟩:=h.at_ i;obtain⟨A',d,rfl⟩:=hi.form;exact⟨b,a,A',d,rfl,j,g,f,by simpa using e 0 _ rfl,e 1 _ rfl,hi⟩
def jC(o:Option (List Nd))(w:World)(e:Ending)(w':World):Prop:=∃v,e=.returned (.tuple #[v,.bool o.isSome])/\aD nz 122 w' w.heap.size v (o.getD [])/\(∀y∈o.getD [],nz.good y)/\Below w.heap.size w w'
def jC.no(h:o=none)(a:Below w.heap.size w w'):jC o w (.returned (.tuple #[.slice none 0 0,.bool false])) w':=by
 subst h;exact⟨_,rfl,aD.nil _ _ _,λy b=>(by cases b),a⟩
theorem alp (key:Int) (C:1<=key/\key<=99) (l:List ig) (A:Option Addr) (c:Nat) (x:Sn) (vn:Value) (lo hi:Nat) (w:World) (hg:Glo w) (bE:hi<=w.heap.size) (hl:PkL w A l) (al:l.length<=c) (hc:c<=maxLen) (iu:∀p∈l,1<=p.2.length/\bX p.1)
  (hn:fB w lo hi x.all [vn]) (o:∀y∈x.all,y.ns.length<=2147483647) (b1:x.all.length<=1099511627) :
  Calls (ai true) 43 #[.int .i64 key,.agg #[.int .i64 x.no,vn],.slice A l.length c] w (jC (dx key l x.all) w):=by
 have HK:=ab C;clear C;obtain⟨B,d,rfl⟩:=hn.form;obtain⟨-,hd,a0⟩:=hn.len_;have HD:=ab a0;unfold maxLen at a0;have an:=ab iu;have aQ:=ab o;clear iu o;go_enter zF,ntmps43;go_wp2;refine(abR (β:=true) key _ true (by simp only[sO];exact HK.out)).mono ?_;rintro e w1 ⟨rfl,rfl⟩;go_wp2;have aP:=aC w (.cells #[.int .i64 x.no,.slice B x.all.length d] 35);generalize w.alloc (.cells #[.int .i64 x.no,.slice B x.all.length d] 35)=w0 at *;have b4:=aP.size;go_loopw [8,20] (λoo ii wr=>∃k:Nat,k<=x.all.length/\ii=.int .i64 k/\(∀y∈x.all.take k,(et key l y).isSome=true)/\aD nz 122 wr w.heap.size oo (df key l (x.all.take k))/\(∀y∈df key l (x.all.take k),nz.good y)/\(df key l (x.all.take k)).length=k/\Below w.heap.size w wr) (λ_ ii _=>x.all.length-(intOf ii).toNat)
 case atStart=>exact⟨0,fa _,rfl,λy hy=>(by cases hy),aD.nil _ _ _,λy hy=>(by cases hy),rfl,aP⟩
 case round=>
  obtain⟨k,hk,rfl,m,V,R,U,hb⟩:=hrel;have E:=ab m;have u:=ab R;have I:=ab U;clear m R U aP;have ay:=hb.size;by_cases a9:k<x.all.length
  .obtain⟨y,dM⟩:=ak a9;have T:fB wr lo hi x.all [.slice B x.all.length d]:=fB.loc.below hn hb bE;obtain⟨b,b3,A',c',rfl,b5,H,af,ao,b0,o⟩:=ae1 T dM;have HY:=ab dM;have a2:=aQ.out y (aE dM);clear dM;go_wp2;have ba:=aC wr (.cells #[.string y.p,.slice A' y.ns.length c'] 68);have kb:=cg.new wr 68 #[.string y.p,.slice A' y.ns.length c'];generalize wr.alloc (.cells #[.string y.p,.slice A' y.ns.length c'] 68)=wa at *;have t:=ae hb ba;have aV:=t.size;obtain⟨⟨g0,e0⟩,g1,e1⟩:=hg.below t;have HF:=ana key HK.out l A c y.ns _ lo hi wa g0 g1 (db bE aV) (hl.below t) al hc an.out (ae2.loc.below o ba (db bE ay)) a2 e0 e1;refine HF.mono ?_;clear HF e0 e1 T ao b0 o;rintro e w2 ⟨v2,q,rfl,Q,S,M⟩;have Z:=ae t M;have N:=ab Q;clear Q;have aG:=ar kb M;cases q with
   |false=>
    have a:dx key l x.all=none:=pz (aE HY.out) (pA λP=>by have:=N.out.2 P.1;cases this);have g:=ab a;clear a S;go_wp2;go_ret2;exact jC.no g.out Z
   |true=>
    have j:=N.out.1 rfl;have K:∀s∈fO key l y.ns,aR (bs s):=λs hs=>by
     obtain⟨n,hn,rfl⟩:=mc.1 hs;exact(jB (j n hn)).1
    have Y:∀s∈fO key l y.ns,s.size<=maxLen:=λs hs=>by have:=(dT (K s hs)).2;unfold maxLen;omega
    have o2:aD ib 9 w2 wa.heap.size v2 (fO key l y.ns):=S rfl;have t2:=afn.sl (aD.deep o2 Y wa.heap.size) (am _);have X:(fO key l y.ns).length<=2147483647:=by unfold fO;rw[pZ];exact a2
    have HC:=λO (r:Below w2.heap.size w2 O)=>aqm (β:=true) (fO key l y.ns) K X v2 O _ _ (cH.az.below t2 r (am _)) r.size;have a5:=ab HC;have aK:=ab (show agh key l y.ns from j);clear HC j K Y o2 t2 X S N;go_wp2;refine(a5.out _ (fm _ _)).mono ?_;rintro e O ⟨rfl,r⟩;have J:=ae Z r;have ax:=ar aG r;have cp:=ax.cell 0;cases hj:(fJ (fO key l y.ns)).2
    .have a:dx key l x.all=none:=pz (aE HY.out) (pA λP=>by rw[hj] at P;cases P.2);have g:=ab a;clear a hj;go_wp2;go_ret2;exact jC.no g.out J
    .have D:=ahu (x:=y) aK.out hj;have a7:(fJ (fO key l y.ns)).1.size<=maxLen:=by have:=af2 (l:=fO key l y.ns);unfold maxLen;omega
     generalize (fJ (fO key l y.ns)).1=tx at *;have a4:=adP HY.out D;have a3:∀z∈x.all.take (k+1),(et key l z).isSome=true:=λz f=>by
      rw[mp HY.out] at f;rcases io.1 f with f|f
      .exact E.out z f
      .rw[ge.1 f,D];rfl
     have HN:=ab a4;have aa:=ab a3;clear a4 a3 D hj;have L:=(V.below (ae ba (M.trans (r.mono M.size)))).below (fm _ _);obtain⟨Ao,co,rfl⟩:=L.form;have a1:=J.size;go_wp2_with(at_builtin;refine bM (F:=nz) (v:=.slice Ao (df key l (x.all.take k)).length co) rfl (.tmp 41) (.tmp 46) 83 rfl mj (⟨y.p,tx⟩:Nd) rfl L rfl rfl (by rw[I.out];omega) a1 ?_;intro va w4 oa a8 b2;obtain⟨Aa,ca,rfl⟩:=oa.form);go_roundw
     case rel=>
      have a6:=J.trans (a8.below a1 λi hi hx=>by have:=(L.at_ hx).1;omega);refine⟨k+1,by omega,by go_num,aa.out,by rw[HN.out];simp only[ap,fi,lP,lm] at oa;exact oa, ?_,by rw[HN.out,ap,I.out];rfl,a6⟩;rw[HN.out];intro z f;rcases io.1 f with f|f
      .exact u.out z f
      .rw[ge.1 f];exact⟨af,a7⟩
     case measure=>simp[intOf];omega
  .obtain rfl:k=x.all.length:=by omega
   rw[ga] at E u I V;have t3:=afn.sl (aD.deep V u.out w.heap.size) (am _);obtain⟨q,Q⟩:∃q:Bool,q=true↔aeZ (df key l x.all):=by
    by_cases hx:aeZ (df key l x.all)
    .exact⟨true,by simp[hx]⟩
    .exact⟨false,by simp[hx]⟩
   have HT:=λO (r:Below wr.heap.size wr O)=>atd (β:=true) (df key l x.all) u8 O _ _ (fG.az.below t3 r (am _)) r.size q Q;have ad:=ab HT;have N:=ab Q;clear HT Q t3;go_wp2;refine(ad.out _ (fm _ _)).mono ?_;rintro e w2 ⟨rfl,M⟩;have H:=ae hb M;cases q with
   |false=>
    have a:dx key l x.all=none:=by
     unfold dx;rw[bv];rintro⟨-,P⟩;have:=N.out.2 P;cases this
    have g:=ab a;clear a;go_wp2;go_ret2;exact jC.no g.out H
   |true=>
    have W:dx key l x.all=some (df key l x.all):=by
     unfold dx;rw[dj ⟨E.out,N.out.1 rfl⟩]
    have G:=ab W;clear W;have S:=V.below M;clear V;go_wp2;go_ret2;refine⟨u8,by rw[G.out];rfl,by rw[G.out];exact S,by rw[G.out];exact u.out,H⟩
noncomputable def aeR(key:Int)(l:List ig)(xs:List Ls):Option (List Nd):=if 1<=key/\key<=99 then dx key l xs else none
end
section
variable {β:Bool}
open Go.RowKit
def akG(x:Hd)(w:World)(b:Bool)(f:b=true↔oN x):Calls (ai β) 49 #[.agg #[.int .i64 x.b,.int .i64 x.s]] w λe k=>e=.returned (.bool b)/\Below w.heap.size w k:=by
 obtain⟨p,a⟩:=ed (1<=x.b/\x.b<=2);obtain⟨q,c⟩:=ed (1<=x.s/\x.s<=20);have j:b=(p&&q):=by
  rw[qc,f,fk,a,c];rfl
 subst j;replace a:=ab a;replace c:=ab c;clear f;go_enter zB,ntmps49;go_wp2;generalize g:w.alloc (.cells #[.int .i64 x.b,.int .i64 x.s] 88)=w0 at *;obtain⟨d,o,n,l,m⟩:=gU g;clear g;refine(aad x.b 1 2 _ p a.out).mono ?_;rintro e i ⟨rfl,rfl⟩;cases p
 .go_wp2;go_ret;exact⟨rfl,d⟩
 .go_wp2;refine(aad x.s 1 20 _ q c.out).mono ?_;rintro e i ⟨rfl,rfl⟩;cases q<;>(go_wp2;go_ret;exact⟨rfl,d⟩)
def agf(xs:List Hd)(v:Value)(w:World)(lo hi:Nat)(h:mW w lo hi xs [v])(I:hi<=w.heap.size)(r:Bool)(o:r=true↔ld xs) :
  Calls (ai β) 28 #[v] w λe D=>e=.returned (.bool r)/\Below w.heap.size w D:=by
 obtain⟨A,c,rfl⟩:=cB.form h;obtain⟨_,L,z⟩:=h.len_;unfold maxLen at z;replace o:=ab o;go_enter zJ,ntmps28;go_wp2;go_loopw [3] (λC wr=>∃k:Nat,k<=xs.length/\C=.int .i64 k/\(∀x∈xs.take k,oN x)/\Below w.heap.size w wr) (λC _=>xs.length-(intOf C).toNat)
 case atStart=>exact⟨0,fa _,rfl,λx z=>(by cases z),fm _ _⟩
 case round=>
  obtain⟨k,K,rfl,m,g⟩:=hrel;replace m:=ab m;by_cases p:k<xs.length
  .obtain⟨x,j⟩:=ak p;obtain⟨b,l,M,G,_,J,_,⟨rfl,F⟩,f⟩:=(mW.loc.below h g I).at_ j;subst G;have s:wr.cell? ⟨b,l+k*2,none⟩=some (.int .i64 x.b):=by simpa using f 0 _ rfl
   have B:wr.cell? ⟨b,l+k*2+1,none⟩=some (.int .i64 x.s):=by simpa using f 1 _ rfl
   replace j:=ab j;clear f;go_wp2;obtain⟨q,i⟩:=ed (oN x);refine(akG x wr q i).mono ?_;rintro e D ⟨rfl,H⟩;have n:=ae g H;clear s B;cases q
   .have d:r=false:=by
     rw[<-gc,o.out];exact λh=>by have:=i.2 (h.2 x (aE j.out));cases this
    replace d:=ab d;clear i;go_wp2;go_ret;exact⟨av d.out.symm,n⟩
   .have t:∀y∈xs.take (k+1),oN y:=λy E=>by
     rw[mp j.out] at E;rcases io.1 E with h|h
     .exact m.out y h
     .rw[ge.1 h];exact i.1 rfl
    replace t:=ab t;clear i;go_wp2;go_roundw
    case rel=>exact⟨k+1,by omega,by go_num,t.out,n⟩
    simp[intOf];omega
  .obtain rfl:k=xs.length:=by omega
   have a:=m.out;rw[ga] at a;have u:r=decide ((xs.length:Int)<=9):=by
    rw[qc,o.out,decide_eq_true_iff];exact⟨λh=>by have:=h.1;omega,λh=>⟨by omega,a⟩⟩
   replace u:=ab u;clear a m;go_wp2;go_ret;exact⟨av u.out.symm,g⟩
end
section
variable {β:Bool}
open Go.RowKit
def aqo :(eD s).2=true↔cX (bs s)=some (bs (eD s).1):=by
 unfold eD cX;rw[aco];by_cases h:aR (tl (bs s))/\fE (tl (bs s))=bs s
 .rw[dj h,dj h];simp only[sO];rw[aco]
 .rw[bv h,bv h];simp
def anb{x:It}{t:ByteArray}(h:fS key x)(d:cX (bs x.b)=some (bs t)):dR key (x.n,x.b)=(t,true):=by
 have a:=nZ.1 h;unfold dR at a ⊢;split at a
 .rename_i b;have c:=aqo.1 b.1;rw[dj b];have e:(eD (x.n,x.b).2).1=t:=jm (ef (c.symm.trans d));rw[e]
 .cases a
def aqp{x:It}(h:¬fS key x):dR key (x.n,x.b)=(⟨#[]⟩,false):=by
 rw[nZ] at h;unfold dR at h ⊢;split at h
 .exact absurd rfl h
 .rename_i a;rw[bv a]
def anc{nm : Int}{p:Pk}{x:It}(d:p.its[k]?=some x)(f:x.n=nm)(c:∀y∈p.its.take k,y.n≠nm):eh key (pkd p).2 nm=dR key (x.n,x.b):=by
 have b:(pkd p).2[k]?=some (x.n,x.b):=by rw[aiL,d];rfl
 refine aiK (k:=k) (adf (x:=(x.n,x.b)) (λy a=> ?_) b f) b;have e:(pkd p).2.take k=(p.its.take k).map λx=>(x.n,x.b):=by show(p.its.map _).take k=_;rw[List.map_take]
 rw[e] at a;obtain⟨z,g,rfl⟩:=mc.1 a;exact c z g
def aqq{nm : Int}{p:Pk}(b:∀y∈p.its,y.n≠nm):eh key (pkd p).2 nm=(⟨#[]⟩,false):=acQ (nD λy a=>by
 obtain⟨z,c,rfl⟩:=mc.1 a;exact b z c)
def av7{nm:Int}{l:List It}{x:It}(d:l[k]?=some x)(b:∀y∈l.take k,y.n≠nm)(c:x.n≠nm):∀y∈l.take (k+1),y.n≠nm:=λy a=>by
 rw[mp d] at a;rcases io.1 a with a|a
 .exact b y a
 .rw[ge.1 a];exact c
def aee(key:Int)(a:1<=key/\key<=99)(p:Pk)(nm:Int)(v:Value)(w:World)(lo hi:Nat)(I:hi<=w.heap.size)(h:fC w lo hi p.its [v]) :
  Calls (ai β) 122 #[.int .i64 key,.agg #[.int .i64 p.no,v],.int .i64 nm] w λe R=>e=.returned (.tuple #[.string (eh key (pkd p).2 nm).1,.bool (eh key (pkd p).2 nm).2])/\Below w.heap.size w R:=by
 obtain⟨A,c,rfl⟩:=h.form;obtain⟨_,z,P⟩:=h.len_;unfold maxLen at P;replace a:=ab a;go_enter yA,ntmps122;go_wp2;generalize n:w.alloc (.cells #[.int .i64 p.no,.slice A p.its.length c] 40)=w0 at *;obtain⟨m,jh,T,L,O⟩:=gU n;clear n;have S:=fC.az.below h m I;refine(kS (β:=β) key w0 true (by simp only[sO];exact a.out)).mono ?_;rintro e w1 ⟨rfl,rfl⟩;go_wp2;go_loopw [8] (λi wr=>∃k:Nat,k<=p.its.length/\i=.int .i64 k/\(∀y∈p.its.take k,y.n≠nm)/\Below w0.heap.size w0 wr) (λi _=>p.its.length-(intOf i).toNat)
 case atStart=>exact⟨0,fa _,rfl,λy Z=>(by cases Z),fm _ _⟩
 case round=>
  obtain⟨k,hk,rfl,u,d⟩:=hrel;replace u:=ab u;have J:=fC.az.below S d (db I m.size);have B:=ar T d;have oP:=B.cell;have W:=B.frozen;clear L O;by_cases C:k<p.its.length
  .obtain⟨x,l⟩:=ak C;obtain⟨b1,X,rfl,_,_,o,cn,cb⟩:=aaG J l;replace l:=ab l;by_cases j:x.n=nm
   .have M:(x.n ==nm)=true:=mt.2 j;have HG:=ab (anc (key:=key) l.out j u.out);obtain⟨q,r⟩:=ed (fS key x);replace r:=ab r;clear j;go_wp2;refine(adD (β:=β) key a.out x o.2 wr q r.out).mono ?_;rintro e w2 ⟨rfl,E⟩;have s:=ae m (ae d E);cases q
    .have z:=HG.out.trans (aqp λh=>by have:=r.out.2 h;cases this);have HC:=ab z;clear z;go_wp2;go_ret2;rw[HC.out];exact⟨rfl,s⟩
    .have K:=fC.az.below J E (by have:=d.size;have:=m.size;omega);obtain⟨a0,F,H,_,_, -,Y,U⟩:=aaG K l.out;simp only[jt,qd,qh] at H;obtain⟨rfl,rfl⟩:=H;have Q:=ar B E;have N:=Q.cell;have g:=r.out.1 rfl;replace g:=ab g;go_wp2;refine(adB (β:=β) x.b o.2 w2).mono ?_;rintro e w3 ⟨⟨t,b,rfl,G⟩,rfl⟩;have f:b=true/\cX (bs x.b)=some (bs t):=by
      rcases G with h|⟨-,h, -⟩
      .exact h
      .obtain⟨p,V, -⟩:=g.out;rw[V] at h;cases h
     obtain⟨rfl,f⟩:=f;have HC:=ab (HG.out.trans (anb g.out f));clear G f;go_wp2;go_ret2;rw[HC.out];exact⟨rfl,s⟩
   .have M:(x.n ==nm)=false:=du.2 j;have D:=ab (av7 l.out u.out j);clear j;go_wp2;go_roundw
    case rel=>exact⟨k+1,by omega,by go_num,D.out,d⟩
    simp[intOf];omega
  .obtain rfl:k=p.its.length:=by omega
   have n:=aqq (key:=key) (p:=p) (nm:=nm) (by have:=u.out;rwa [ga] at this);have HG:=ab n;clear n;go_wp2;go_ret2;rw[HG.out];exact⟨rfl,ae m d⟩
end
section
variable {β:Bool}
open Go.RowKit
def ane{l:List ByteArray}{x:ByteArray}(h:l[k]?=some x):dc (l.take (k+1))=dc (l.take k)++bs x:=by
 rw[mp h];unfold dc;rw[qC];simp
def av8{l:List ByteArray}{x:ByteArray}(h:l[k]?=some x):qU (dc (l.take k))++x=qU (dc (l.take (k+1))):=jm (by rw[gG,afd (lI _),afd (lI _),ane h])
def atj(l:List ByteArray):(qU (dc l)).size=(dc l).length:=by rw[<-aM,afd (lI l)]
def atk(l:List ByteArray)(k:Nat):(dc (l.take k)).length<=(dc l).length:=by
 have e:dc l=dc (l.take k)++dc (l.drop k):=by
  unfold dc;rw[<-qC,qZ]
 rw[e,ap];omega
def anf{l:List ByteArray}(h:40<(qU (dc (l.take k))).size):fJ l=(⟨#[]⟩,false):=af1 λb=>by
 have a:=(fM b.1).1;have c:=atk l k;rw[atj] at h a;omega
def ang(xs f:List ByteArray)(L O:Value)(w:World)(lo hi H I:Nat)(C:cH w lo hi xs [L])(J:cH w H I f [O])(D:hi<=w.heap.size)(E:I<=w.heap.size)(q:Bool)(j:q=true↔xs=f) :
  Calls (ai β) 123 #[L,O] w λe R=>e=.returned (.bool q)/\Below w.heap.size w R:=by
 have z:=ab j;clear j;obtain⟨A,c,rfl⟩:=C.form;obtain⟨B,d,rfl⟩:=J.form;obtain⟨_,hc,Y⟩:=C.len_;unfold maxLen at Y;go_enter yz,ntmps123;by_cases a:xs.length=f.length
 .have W:((xs.length:Int) !=f.length)=false:=by rw[bne_eq_false_iff_eq];omega
  replace a:=ab a;go_wp2;go_loopw [5] (λi wr=>∃k:Nat,k<=xs.length/\i=.int .i64 k/\xs.take k=f.take k/\Below w.heap.size w wr) (λi _=>xs.length-(intOf i).toNat)
  case atStart=>exact⟨0,fa _,rfl,rfl,fm _ _⟩
  case round=>
   obtain⟨k,hk,rfl,g,b⟩:=hrel;have P:=ab g;clear g;by_cases u:k<xs.length
   .obtain⟨x,r⟩:=ak u;obtain⟨y,o⟩:=ak (l:=f) (k:=k) (by have:=a.out;omega);obtain⟨Z,X,rfl,_,_,T,M⟩:=iV (cH.az.below C b D) r;obtain⟨b2,mV,rfl,_,_,U,N⟩:=iV (cH.az.below J b E) o;have V:(k:Int)<(f.length:Int):=by have:=a.out;omega
    replace r:=ab r;replace o:=ab o;by_cases g:x=y
    .have Q:=aiP g;have v:xs.take (k+1)=f.take (k+1):=by rw[mp r.out,mp o.out,P.out,g]
     replace v:=ab v;clear g;go_wp2;have F:=ag M;have G:=ag N;refine aB (by kernel_rfl) (by kernel_rfl) ?_;repeat(go_big_quiet_step (fail))
     refine gE ?_;intro S n;have j:=aN n;clear n F G;go_wp2;go_roundw
     case rel=>exact⟨k+1,by omega,by go_num,v.out,ae b j⟩
     simp[intOf];omega
    .have Q:=aa7 (s:=y) (t:=x) g;have p:q=false:=by
      rw[<-gc,z.out];rintro rfl;exact g (ef (r.out.symm.trans o.out))
     have m:=ab p;clear p g;go_wp2;have F:=ag M;have G:=ag N;refine aB (by kernel_rfl) (by kernel_rfl) ?_;repeat(go_big_quiet_step (fail))
     refine gE ?_;intro S n;have j:=aN n;clear n F G;go_wp2;go_ret;exact⟨av m.out.symm,ae b j⟩
   .obtain rfl:k=xs.length:=by omega
    have K:q=true:=by
     rw[z.out];have:=P.out
     rwa [ga,qj (by have:=a.out;omega)] at this
    have m:=ab K;clear K;go_wp2;go_ret;exact⟨av m.out.symm,b⟩
 .have W:((xs.length:Int) !=f.length)=true:=by rw[uI];omega
  have p:q=false:=by
   rw[<-gc,z.out];rintro rfl;exact a rfl
  have m:=ab p;clear p;replace a:=ab a;go_wp2;go_ret;exact⟨av m.out.symm,fm _ _⟩
def anh(l:List ByteArray)(t:∀s∈l,aR (bs s))(hl:l.length<=2147483647)(v:Value)(w:World)(lo hi:Nat)(h:cH w lo hi l [v])(F:hi<=w.heap.size) :
  Calls (ai β) 74 #[v] w λe H=>e=.returned (.tuple #[.string (fJ l).1,.bool (fJ l).2])/\Below w.heap.size w H:=by
 obtain⟨A,c,rfl⟩:=h.form;obtain⟨_,Y,E⟩:=h.len_;unfold maxLen at E;replace t:=ab t;go_enter zf,ntmps74;go_wp2;go_loopw [4,5] (λS i wr=>∃k:Nat,k<=l.length/\i=.int .i64 k/\S=.string (qU (dc (l.take k)))/\Below w.heap.size w wr) (λ_ i _=>l.length-(intOf i).toNat)
 case atStart=>exact⟨0,fa _,rfl,rfl,fm _ _⟩
 case round=>
  obtain⟨k,X,rfl,rfl,a⟩:=hrel;by_cases z:k<l.length
  .obtain⟨x,u⟩:=ak z;obtain⟨V,P,rfl,_,_,N,Z⟩:=iV (cH.az.below h a F) u;have oL:=(dT (t.out x (aE u))).2;have j:=av8 u;have HST:=ab j;have r:=λp=>anf (l:=l) (k:=k) p;have d:=ab r;clear j r u;revert HST d;generalize qU (dc (l.take k))=s;intro HST d;by_cases hs:s.size<=40
   .go_wp2;go_roundw
    case rel=>exact⟨k+1,by omega,by go_num,by rw[HST.out],a⟩
    simp[intOf];omega
   .have I:=ab (d.out (by omega));go_wp2;go_ret2;rw[I.out];exact⟨rfl,a⟩
  .obtain rfl:k=l.length:=by omega
   rw[ga];have o:=aoF l t.out;have b:(qU (dc l)).size<=maxLen:=by unfold maxLen;omega
   have D:=ab (λM J=>aht (l:=l) M J);have y:=ab (af1 (l:=l));revert D y b o;generalize qU (dc l)=s;intro o b D y;go_wp2;refine(jo (β:=β) s b _).mono ?_;rintro e w2 ⟨rfl,rfl⟩;by_cases f:dE s=true
   .rw[f];go_wp2;refine(ac4 (β:=β) s (by have:=(fM f).1;omega) _).mono ?_;rintro e W ⟨K,rfl,O,B⟩;have C:∀x∈fY s,x.size<=maxLen:=λx E=>by have:=(dT (ju (fM f).2 x E)).2;unfold maxLen;omega
    have G:=afn.sl (aD.deep O C wr.heap.size) (am _);have L:=B.size;have T:=a.size;have R:=cH.az.below h (ae a B) F;obtain⟨q,n⟩:=ed (fY s=l);replace n:=ab n;go_wp2;refine(ang (β:=β) (fY s) l K _ _ _ _ lo hi G R (am _) (by omega) q n.out).mono ?_;rintro e U ⟨rfl,Q⟩;have m:=ae a (ae B Q);cases q with
    |true=>
     have g:=D.out f (n.out.1 rfl);go_wp2;go_ret2;exact⟨by rw[g];rfl,m⟩
    |false=>
     have g:=y.out λp=>by have:=n.out.2 p.2;cases this
     go_wp2;go_ret2;exact⟨by rw[g];rfl,m⟩
   .have g:=y.out λp=>f p.1;rw[vh.2 f];go_wp2;go_ret2;exact⟨by rw[g];rfl,a⟩
end
section
open Go.RowKit
def aiS(key:Int)(d:1<=key/\key<=99)(l:List Pk)(nm:Int)(v:Value)(w:World)(lo hi:Nat)(D:hi<=w.heap.size)(h:dQ w lo hi l [v]) :
  Calls (ai true) 73 #[.int .i64 key,v,.int .i64 nm] w λe n=>e=.returned (.tuple #[.string (bB key (aX l) nm).1,.bool (bB key (aX l) nm).2])/\Below w.heap.size w n:=by
 obtain⟨A,c,rfl⟩:=h.form;obtain⟨_,J,E⟩:=h.len_;unfold maxLen at E;go_enter zg,ntmps73;go_wp2;go_loopw [8] (λi wr=>∃k:Nat,k<=l.length/\i=.int .i64 k/\bB key (aX l) nm=bB key (aX (l.drop k)) nm/\Below w.heap.size w wr) (λi _=>l.length-(intOf i).toNat)
 case atStart=>exact⟨0,fa _,rfl,rfl,fm _ _⟩
 case round=>
  obtain⟨k,I,rfl,f,a⟩:=hrel;replace f:=ab f;have M:=a.size;by_cases q:k<l.length
  .obtain⟨p,r⟩:=ak q;have y:=dQ.az.below h a D;obtain⟨H,x,K,N,rfl, -, -,F,z,L,u⟩:=lV y r;have m:bB key (aX (l.drop k)) nm=if(eh key (pkd p).2 nm).2=true then((eh key (pkd p).2 nm).1,true) else bB key (aX (l.drop (k+1))) nm:=by
    obtain⟨B,G⟩:=li.1 r;rw[rz B,G];rfl
   have HD:=ab (f.out.trans m);clear m r f;have HG:=λn (t:Below wr.heap.size wr n)=>aee (β:=true) key d p nm _ n lo hi (by have:=t.size;omega) (fC.az.below u t (by omega));replace HG:=ab HG;have s:=ab (HG.out wr (fm _ _));clear HG;go_wp2;refine s.out.mono ?_;rintro e O ⟨rfl,C⟩;have j:=ae a C;cases o:(eh key (pkd p).2 nm).2
   .have b:=HD.out.trans (bv (by rw[o];exact qp));have g:=ab b;clear b o;go_wp2;go_roundw
    case rel=>exact⟨k+1,by omega,by go_num,g.out,j⟩
    simp[intOf];omega
   .have b:=HD.out.trans (dj o);have g:=ab b;clear b o;go_wp2;go_ret2;rw[g.out];exact⟨rfl,j⟩
  .obtain rfl:k=l.length:=by omega
   have b:bB key (aX l) nm=(⟨#[]⟩,false):=by rw[f.out,vz];rfl
   have g:=ab b;clear b;go_wp2;go_ret2;rw[g.out];exact⟨rfl,a⟩
def jC.abJ(h:o=none)(a:Below w.heap.size w w'):jC o w (.returned (.tuple #[.slice (some ⟨w'.heap.size,0,none⟩) 0 0,.bool false])) (w'.alloc (.cells #[] 122)):=by
 subst h;exact⟨_,rfl,aD.abJ (dW.new w' _ a.size),λy b=>(by cases b),a.alloc a.size _⟩
def aqr{a:List Int}{n:Int}(h:a[j]?=some n):fO key l (a.take (j+1))=fO key l (a.take j)++[(bB key l n).1]:=by
 unfold fO;rw[mp h,qs];rfl
theorem af3 (key:Int) (N:1<=key/\key<=99) (l:List Pk) (x:Sn) (vl vn:Value) (lo hi:Nat) (w:World) (bE:hi<=w.heap.size) (hl:dQ w lo hi l [vl])
  (J:fB w lo hi x.all [vn]) (a2:∀y∈x.all,y.ns.length<=2147483647) (bo:x.all.length<=1099511627) :
  Calls (ai true) 48 #[.int .i64 key,.agg #[.int .i64 x.no,vn],vl] w (jC (dx key (aX l) x.all) w):=by
 have HK:=ab N;clear N;obtain⟨B,d,rfl⟩:=J.form;obtain⟨-,hd,b6⟩:=J.len_;obtain⟨A,c,rfl⟩:=hl.form;unfold maxLen at b6;have bb:=ab a2;clear a2;go_enter xu,ntmps48;go_wp2;generalize hG:(w.alloc (.cells #[.int .i64 x.no,.slice B x.all.length d] 35)).alloc (.cells #[] 122)=w0 at *;obtain⟨aP,jh,k0,dv,fg,k1,oP,b3⟩:=agc hG;clear hG;have o0:aD nz 122 w0 w.heap.size (.slice (some ⟨w.heap.size+1,0,none⟩) 0 0) []:=aD.abJ ⟨_,rfl,by omega,k1⟩;refine(kS (β:=true) key w0 true (by simp only[sO];exact HK.out)).mono ?_;rintro e w1 ⟨rfl,rfl⟩;go_wp2;go_loopw [8,9] (λoo ii wr=>∃k:Nat,k<=x.all.length/\ii=.int .i64 k/\(∀y∈x.all.take k,(et key (aX l) y).isSome=true)/\aD nz 122 wr w.heap.size oo (df key (aX l) (x.all.take k))/\(∀y∈df key (aX l) (x.all.take k),nz.good y)/\(df key (aX l) (x.all.take k)).length=k/\cg wr w.heap.size 35 #[.int .i64 x.no,.slice B x.all.length d]/\(∀b,oo.ownBlock=some b->w.heap.size<b)/\Below w.heap.size w wr) (λ_ ii _=>x.all.length-(intOf ii).toNat)
 case atStart=>exact⟨0,fa _,rfl,λy hy=>(by cases hy),o0,λy hy=>(by cases hy),rfl,k0,(by intro b e;cases e;exact vx _),aP⟩
 case round=>
  clear k0 dv fg aP o0 k1 oP b3 jh;obtain⟨k,hk,rfl,D,ho,a5,a7,k0,aa,Q⟩:=hrel;have P:=ab D;have K:=ab a5;have W:=ab a7;clear D a5 a7;have br:=Q.size;have dv:=k0.cell;by_cases aV:k<x.all.length
  .obtain⟨y,dM⟩:=ak aV;have ay:fB wr lo hi x.all [.slice B x.all.length d]:=fB.loc.below J Q bE;obtain⟨b,ad,A',c',rfl,bz,U,b5,V,a4,a2⟩:=ae1 ay dM;have HY:=ab dM;have bf:=bb.out y (aE dM);clear dM;obtain⟨I,ba⟩:∃I,I=wr:=⟨_,rfl⟩;subst ba;go_wp2;generalize hG:I.alloc (.cells #[] 9)=wa at *;obtain⟨fD,aQ,m0,jM,b1⟩:=gU hG;clear hG;have p0:aD ib 9 wa I.heap.size (.slice (some ⟨I.heap.size,0,none⟩) 0 0) []:=aD.abJ ⟨_,rfl,am _,m0⟩;go_loopw [10,11] (λpp kk wi=>∃j:Nat,j<=y.ns.length/\kk=.int .i64 j/\(∀n∈y.ns.take j,(bB key (aX l) n).2=true)/\aD ib 9 wi I.heap.size pp (fO key (aX l) (y.ns.take j))/\Below I.heap.size I wi) (λ_ kk _=>y.ns.length-(intOf kk).toNat)
   case atStart=>exact⟨0,fa _,rfl,λn J=>(by cases J),p0,fD⟩
   case round=>
    clear m0 jM b1 fD aQ p0;obtain⟨j,hj,rfl,M,o2,p⟩:=hrel;have jQ:=ab M;clear M;have H:=ae Q p;have zr:=H.size;have zi:=p.size;have a3:=ar k0 p;have bt:=a3.cell;clear V a4 dv;have bj:fB wr lo hi x.all [.slice (some ⟨b,ad,none⟩) x.all.length d]:=fB.loc.below J H bE;obtain⟨b',a6,A2,c2,e2, -, -, -,V,a4,bi⟩:=ae1 bj HY.out;simp only[jt,qd,qh] at e2;obtain⟨rfl,rfl⟩:=e2;have bn:(k:Int)<(x.all.length:Int):=by omega
    by_cases bc:j<y.ns.length
    .obtain⟨n,a0⟩:=ak bc;obtain⟨m,bp,rfl, -, -,bx,bl⟩:=bi.ints_at a0;have a1:=ab a0;clear a0;have b7:=ab (λ(w':World) (hy:Below wr.heap.size wr w')=>aiS key HK.out l n _ w' lo hi (by have:=hy.size;omega) (dQ.az.below (dQ.az.below hl H bE) hy (by omega)));go_wp2;refine(b7.out _ (fm _ _)).mono ?_;rintro e L ⟨rfl,m⟩;have Z:=ae p m;have o:=ae Q Z;have C:=ar a3 m;have ao:=C.cell;cases hf:(bB key (aX l) n).2
     .have g:dx key (aX l) x.all=none:=pz (aE HY.out) (pA λhh=>by
       have:=hh.1 n (aE a1.out);rw[hf] at this;cases this)
      have t:=ab g;clear g hf;go_wp2;go_ret2;exact jC.abJ t.out o
     .have af:∀z∈y.ns.take (j+1),(bB key (aX l) z).2=true:=λz a=>by
       rw[mp a1.out] at a;rcases io.1 a with a|a
       .exact jQ.out z a
       .rw[ge.1 a];exact hf
      have b8:=ab af;have X:=ab (aqr (key:=key) (l:=aX l) a1.out);have r:(fO key (aX l) (y.ns.take j)).length=j:=by unfold fO;rw[pZ,ff];omega
      have R:=ab r;have f:=o2.below m;clear af hf r;revert f X R;generalize fO key (aX l) (y.ns.take j)=G;intro X R f;obtain⟨Ao,co,rfl⟩:=f.form;have u:=Z.size;go_wp2_with(at_builtin;refine bM (F:=ib) (v:=.slice Ao G.length co) rfl (.tmp 58) (.tmp 60) 117 rfl pL (bB key (aX l) n).1 rfl f rfl rfl (by rw[R.out];omega) u ?_;intro va w4 oa E S;obtain⟨Aa,ca,rfl⟩:=oa.form);go_roundw
      case rel=>exact⟨j+1,by omega,by go_num,b8.out,by rw[X.out];simp only[ap,fi,lP,lm] at oa;exact oa,Z.trans (E.below u λi hi hx=>by have:=(f.at_ hx).1;omega)⟩
      case measure=>simp[intOf];omega
    .obtain rfl:j=y.ns.length:=by omega
     rw[ga] at jQ o2;have Y:∀s∈fO key (aX l) y.ns,aR (bs s):=λs hs=>by
      obtain⟨n,J,rfl⟩:=mc.1 hs;exact(jB (jQ.out n J)).1
     have a9:∀s∈fO key (aX l) y.ns,s.size<=maxLen:=λs hs=>by have:=(dT (Y s hs)).2;unfold maxLen;omega
     have t2:=afn.sl (aD.deep o2 a9 I.heap.size) (am _);have r:(fO key (aX l) y.ns).length<=2147483647:=by unfold fO;rw[pZ];exact bf
     have ax:=ab (λ(L:World) (m:Below wr.heap.size wr L)=>anh (β:=true) (fO key (aX l) y.ns) Y r _ L _ _ (cH.az.below t2 m (am _)) m.size);have b9:=ab (show agh key (aX l) y.ns from jQ.out);obtain⟨A4,c4,rfl⟩:=o2.form;clear Y a9 t2 r o2 jQ;go_wp2;refine(ax.out _ (fm _ _)).mono ?_;rintro e L ⟨rfl,m⟩;have o:=ae H m;have C:=ar a3 m;cases hj:(fJ (fO key (aX l) y.ns)).2
     .have g:dx key (aX l) x.all=none:=pz (aE HY.out) (pA λhh=>by rw[hj] at hh;cases hh.2);have t:=ab g;clear g hj;go_wp2;go_ret2;exact jC.abJ t.out o
     .have O:=ahu (x:=y) b9.out hj;have aK:(fJ (fO key (aX l) y.ns)).1.size<=maxLen:=by have:=af2 (l:=fO key (aX l) y.ns);unfold maxLen;omega
      generalize (fJ (fO key (aX l) y.ns)).1=tx at *;have an:=adP HY.out O;have al:∀z∈x.all.take (k+1),(et key (aX l) z).isSome=true:=λz a=>by
       rw[mp HY.out] at a;rcases io.1 a with a|a
       .exact P.out z a
       .rw[ge.1 a,O];rfl
      have HN:=ab an;have b0:=ab al;clear an al O hj;have f:=ho.below (ae p m);obtain⟨Ao,co,rfl⟩:=f.form;have u:=o.size;have ao:=C.cell;have bk:fB L lo hi x.all [.slice (some ⟨b,ad,none⟩) x.all.length d]:=fB.loc.below J o bE;obtain⟨b',a6,A5,c5,e2, -, -, -,bw,bq, -⟩:=ae1 bk HY.out;simp only[jt,qd,qh] at e2;obtain⟨rfl,rfl⟩:=e2;clear V a4;go_wp2_with(at_builtin;refine bM (F:=nz) (v:=.slice Ao (df key (aX l) (x.all.take k)).length co) rfl (.tmp 70) (.tmp 79) 83 rfl mj (⟨y.p,tx⟩:Nd) rfl f rfl rfl (by rw[W.out];omega) u ?_;intro va w4 oa E S;obtain⟨Aa,ca,rfl⟩:=oa.form;simp only[ap,fi,lP,lm] at oa S);go_roundw
      case rel=>
       have aG:=o.trans (E.below u λi hi hx=>by have:=(f.at_ hx).1;omega);refine⟨k+1,by omega,by go_num,b0.out,by rw[HN.out];exact oa, ?_,by rw[HN.out,ap,W.out];rfl,aY C E (λe=>by have:=aa _ e;omega),(λb Q=>(S b Q).elim (aa b) λh=>by have:=C.lt;omega),aG⟩;rw[HN.out];intro z a;rcases io.1 a with a|a
       .exact K.out z a
       .rw[ge.1 a];exact⟨b5,aK⟩
      case measure=>simp[intOf];omega
  .obtain rfl:k=x.all.length:=by omega
   rw[ga] at P K W ho;have t3:=afn.sl (aD.deep ho K.out w.heap.size) (am _);obtain⟨q,hq⟩:∃q:Bool,q=true↔ag6 (df key (aX l) x.all):=ed _;have HT:=λL (m:Below wr.heap.size wr L)=>ag7 (β:=true) (df key (aX l) x.all) u8 L _ _ (fG.az.below t3 m (am _)) m.size q hq;have b4:=ab HT;have HQ:=ab hq;clear HT hq t3;go_wp2;refine(b4.out _ (fm _ _)).mono ?_;rintro e w2 ⟨rfl,b2⟩;have U:=ae Q b2;cases q with
   |false=>
    have g:dx key (aX l) x.all=none:=by
     unfold dx;rw[bv];rintro⟨-,hh⟩;have:=HQ.out.2 (adg.1 hh);cases this
    have t:=ab g;clear g;go_wp2;go_ret2;exact jC.abJ t.out U
   |true=>
    have a8:dx key (aX l) x.all=some (df key (aX l) x.all):=by
     unfold dx;rw[dj ⟨P.out,adg.2 (HQ.out.1 rfl)⟩]
    have T:=ab a8;clear a8;have kO:=ho.below b2;clear ho;go_wp2;go_ret2;refine⟨u8,by rw[T.out];rfl,by rw[T.out];exact kO,by rw[T.out];exact K.out,U⟩
def aeS (key:Int) (l:List Pk) (x:Sn) (f g:Value) (lo hi:Nat) (w:World) (r:hi<=w.heap.size) (j:dQ w lo hi l [f])
  (m:fB w lo hi x.all [g]) (b:∀y∈x.all,y.ns.length<=2147483647) (i:x.all.length<=1099511627) :
  Calls (ai true) 48 #[.int .i64 key,.agg #[.int .i64 x.no,g],f] w (jC (aeR key (aX l) x.all) w):=by
 by_cases a:1<=key/\key<=99
 .rw[show aeR key (aX l) x.all=dx key (aX l) x.all from dj a];exact af3 key a l x f g lo hi w r j m b i
 .rw[show aeR key (aX l) x.all=none from bv a];obtain⟨B,d,rfl⟩:=m.form;obtain⟨A,c,rfl⟩:=j.form;replace a:=ab a;go_enter xu,ntmps48;go_wp2;generalize k:(w.alloc (.cells #[.int .i64 x.no,.slice B x.all.length d] 35)).alloc (.cells #[] 122)=w0 at *;obtain⟨o,C,v,u,D,n,z,p⟩:=agc k;clear k;refine(kS (β:=true) key w0 false (by simp only[jp,uC];exact a.out)).mono ?_;rintro e t ⟨rfl,rfl⟩;have s:aD nz 122 w0 w.heap.size (.slice (some ⟨w.heap.size+1,0,none⟩) 0 0) []:=aD.abJ ⟨_,rfl,by omega,n⟩;go_wp2;go_ret2;exact⟨_,rfl,s,λy q=>(by cases q),o⟩
def aeU{xs:List Sn}(h:lX w lo hi xs [.slice A n c]){x:Sn}(i:xs[k]?=some x) :
  ∃b a A' d,A=some ⟨b,a,none⟩/\lo<=b/\b<hi/\bX x.no/\w.cell? ⟨b,a+k*2,none⟩=some (.int .i64 x.no)/\w.cell? ⟨b,a+k*2+1,none⟩=some (.slice A' x.all.length d)/\fB w lo hi x.all [.slice A' x.all.length d]:=by
 obtain⟨b,a,m,rfl,j,g,l,⟨v,rfl,f,hi⟩,e⟩:=h.at_ i;obtain⟨A',d,rfl⟩:=hi.form;exact⟨b,a,A',d,rfl,j,g,f,by simpa using e 0 _ rfl,e 1 _ rfl,hi⟩
def kF.ao9{l:List Pk}(h:kF w lo hi l [v]):∀p∈aX l,bX p.1:=λp a=>by
 obtain⟨A,c,rfl⟩:=cB.form h;obtain⟨q,d,rfl⟩:=mc.1 a;obtain⟨i,hi⟩:=rb.1 d;obtain⟨_,_,_,_,_,_,_,⟨_,_,b,_⟩,_⟩:=cB.at_ h hi;exact b
end
section
variable {β:Bool}
open Go.RowKit
def abQ(key:Int)(u:1<=key/\key<=99)(p:Pk)(v:Value)(w:World)(lo hi:Nat)(bE:hi<=w.heap.size)(h:fC w lo hi p.its [v])(b:Bool)(F:b=true↔abK key p) :
  Calls (ai β) 41 #[.int .i64 key,.agg #[.int .i64 p.no,v]] w λe w'=>e=.returned (.bool b)/\Below w.heap.size w w':=by
 replace F:=ab F;obtain⟨A,c,rfl⟩:=h.form;obtain⟨_,hc,hx⟩:=h.len_;unfold maxLen at hx;go_enter zH,ntmps41;go_wp2;generalize J:w.alloc (.cells #[.int .i64 p.no,.slice A p.its.length c] 40)=w0 at *;obtain⟨E,jh,k0,dv,fg⟩:=gU J;clear J;have h0:=fC.az.below h E bE;have z0:=E.size;go_loopw [12] (λi wr=>∃k:Nat,k<=p.its.length/\i=.int .i64 k/\ad8 key (p.its.take k)/\Below w0.heap.size w0 wr) (λi _=>p.its.length-(intOf i).toNat)
 case atStart=>exact⟨0,fa _,rfl,ajK key,fm _ _⟩
 case round=>
  obtain⟨k,hk,rfl,Q,n⟩:=hrel;replace Q:=ab Q;have t:=ar k0 n;clear k0 dv fg;have zr:=n.size;by_cases X:k<p.its.length
  .obtain⟨x,D⟩:=ak X;have Y:=fC.az.below h0 n (by omega);obtain⟨M,a0,rfl,_,_,O,cn,cb⟩:=aaG Y D;replace D:=ab D;have HS:=ab O.2;have r:=nZ (key:=key) (x:=x);replace r:=ab r;go_wp2;generalize J:wr.alloc (.cells #[.int .i64 x.n,.string x.b] 64)=wa at *;obtain⟨S,a2,U,jM,Z⟩:=gU J;clear J;refine(aon key (x.n,x.b) u HS.out wa).mono ?_;rintro e w1 ⟨rfl,M⟩;have H1:=fC.az.below Y (ae S M) (by omega);have k1:=ar t (ae S M);replace U:=ar U M;replace jM:=U.cell;replace Z:=U.frozen;have d:=ae n (ae S M);have H:=k1.cell 1;have s:=jM 0;obtain⟨q,a⟩:∃q,q=(dR key (x.n,x.b)).2:=⟨_,rfl⟩;rw[<-a] at r ⊢;generalize (dR key (x.n,x.b)).1=pc;clear a t k1 cn cb S O Y;cases q with
   |false=>
    have L:b=false:=by
     rw[<-gc,F.out];intro T;have:=r.out.1 (T.2.2.2.1 x (aE D.out));cases this
    have C:=ab L;clear L;go_wp2;have z:=ag H;have B:=ag s;refine aB (by kernel_rfl) (by kernel_rfl) ?_;repeat(go_big_quiet_step (fail))
    refine gE ?_;intro V m;have a:=aN m;clear m z B;go_wp2;go_ret;exact⟨av C.out.symm,ae E (ae d a)⟩
   |true=>
    have f:=r.out.2 rfl;have o:=ab f;clear f;rcases nf k with K|K
    .subst K;have G:=ajJ D.out o.out;have HK:=ab G;clear G;go_wp2;have z:=ag H;have B:=ag s;refine aB (by kernel_rfl) (by kernel_rfl) ?_;repeat(go_big_quiet_step (fail))
     refine gE ?_;intro V m;have a:=aN m;clear m z B;go_wp2;go_roundw
     case rel=>first|exact⟨1,by omega,by go_num,HK.out,ae d a⟩|((repeat apply Exists.intro);refine⟨?_,rfl⟩;exact⟨1,by omega,by go_num,HK.out,ae d a⟩)
     simp[intOf];omega
    .obtain⟨j,rfl⟩:∃j,k=j+1:=⟨k-1,by omega⟩;have e1:((j+1:Nat):Int)-1=(j:Int):=by omega
     obtain⟨y,I⟩:=ak (l:=p.its) (k:=j) (by omega);obtain⟨b2,mV,N,_,_,a1,P,a3⟩:=aaG H1 I;simp only[jt,qd,qh] at N;obtain⟨rfl,rfl⟩:=N;replace I:=ab I;by_cases R:y.n<x.n
     .have u1:=da (show ¬(x.n<=y.n) by omega);have G:=an8 Q.out I.out D.out o.out R;have HK:=ab G;clear G R;go_wp2;have z:=ag H;have B:=ag s;have W:=ag P;refine aB (by kernel_rfl) (by kernel_rfl) ?_;repeat(go_big_quiet_step (fail))
      refine gE ?_;intro V m;have a:=aN m;clear m z B W;go_wp2;go_roundw
      case rel=>first|exact⟨j+1+1,by omega,by go_num,HK.out,ae d a⟩|((repeat apply Exists.intro);refine⟨?_,rfl⟩;exact⟨j+1+1,by omega,by go_num,HK.out,ae d a⟩)
      simp[intOf];omega
     .have u1:=de (show x.n<=y.n by omega);have L:b=false:=by
       rw[<-gc,F.out];exact λT=>an9 I.out D.out R ⟨T.2.2.2.1,T.2.2.2.2⟩
      have C:=ab L;clear L R;go_wp2;have z:=ag H;have B:=ag s;have W:=ag P;refine aB (by kernel_rfl) (by kernel_rfl) ?_;repeat(go_big_quiet_step (fail))
      refine gE ?_;intro V m;have a:=aN m;clear m z B W;go_wp2;go_ret;exact⟨av C.out.symm,ae E (ae d a)⟩
  .obtain rfl:k=p.its.length:=by omega
   have f0:=t.cell 0;have H:=t.cell 1;have f:=Q.out;rw[ga] at f;have o:=ab f;clear f Q;go_wp2;refine(abR (β:=β) key wr true (by simp;omega)).mono ?_;rintro e w1 ⟨rfl,rfl⟩;have fin:∀q:Bool,(q=true↔(1<=p.no/\p.no<=99)/\1<=(p.its.length:Int)/\(p.its.length:Int)<=4)->b=q:=λq a=>by
    rw[qc,F.out,a];exact⟨λh=>⟨h.1,by have:=h.2.2.1;omega⟩,λh=>⟨h.1,u,by have:=h.2;omega,o.out.1,o.out.2⟩⟩
   replace fin:=ab fin;have g:=ae E n;by_cases t1:1<=p.no
   .by_cases t2:p.no<=99
    .by_cases t3:1<=(p.its.length:Int)
     .by_cases t4:(p.its.length:Int)<=4
      .go_wp2;go_ret;exact⟨av (fin.out _ (by simp;omega)).symm,g⟩
      .go_wp2;go_ret;exact⟨av (fin.out _ (by simp;omega)).symm,g⟩
     .go_wp2;go_ret;exact⟨av (fin.out _ (by simp;omega)).symm,g⟩
    .go_wp2;go_ret;exact⟨av (fin.out _ (by simp;omega)).symm,g⟩
   .go_wp2;go_ret;exact⟨av (fin.out _ (by simp;omega)).symm,g⟩
end
section
variable {β:Bool}
open Go.RowKit
def atm(x:Hd)(w:World)(b:Bool)(f:b=true↔oN x):Calls (ai β) 46 #[.agg #[.int .i64 x.b,.int .i64 x.s]] w λe l=>e=.returned (.bool b)/\Below w.heap.size w l:=by
 have fin:∀q:Bool,(q=true↔(x.b=1\/x.b=2)/\1<=x.s/\x.s<=20)->q=b:=λq o=>by
  rw[qc,f,o];unfold oN;constructor
  .rintro⟨p,d,a⟩;exact⟨by omega,d,a⟩
  .rintro⟨p,d,a⟩;exact⟨by omega,d,a⟩
 replace fin:=ab fin;clear f;rcases(by omega:x.b=1\/x.b=2\/(x.b≠1/\x.b≠2)) with e|e|⟨e,g⟩<;>rcases(by omega:1<=x.s/\x.s<=20\/1<=x.s/\20<x.s\/x.s<1) with a|a|a
 all_goals
  first
   |have k:(x.b ==1)=true:=mt.2 e
   |have k:(x.b ==1)=false:=du.2 (by omega)
  first
   |have i:(x.b ==2)=true:=mt.2 e
   |have i:(x.b ==2)=false:=du.2 (by omega)
  first
   |have j:=de (show 1<=x.s by omega)
   |have j:=da (show ¬(1<=x.s) by omega)
  first
   |have m:=de (show x.s<=20 by omega)
   |have m:=da (show ¬(x.s<=20) by omega)
  have r:=ab e;have n:=ab a;clear e a;try(have c:=ab g;clear g)
  go_enter zD,ntmps46;go_wp2;go_ret;refine⟨av (fin.out _ ?_),by repeat(first|exact fm _ _|refine Below.alloc ?_ (by simp) _)⟩;have:=r.out;have:=n.out;try(have:=c.out)
  simp;try omega
def atn(x:Hd)(w:World)(b:Bool)(a:b=true↔oN x):Calls (ai β) 45 #[.agg #[.int .i64 x.b,.int .i64 x.s]] w λe d=>e=.returned (.bool (!b))/\Below w.heap.size w d:=by
 go_enter xv,ntmps45;go_wp2;refine(atm x _ b a).mono ?_;rintro e f ⟨rfl,c⟩;have a:=(aC w (.cells #[.int .i64 x.b,.int .i64 x.s] 88));go_wp2;go_ret;exact⟨rfl,ae a c⟩
def akH(xs:List Hd)(v:Value)(w:World)(lo hi:Nat)(h:mW w lo hi xs [v])(H:hi<=w.heap.size) :
  Calls (ai β) 70 #[v,.func (.func 45) #[] #[]] w λe B=>∃j:Int,e=.returned (.int .i64 j)/\(j=-1/\(∀x∈xs,oN x)\/0<=j/\¬ ∀x∈xs,oN x)/\Below w.heap.size w B:=by
 obtain⟨A,c,rfl⟩:=cB.form h;obtain⟨_,K,t⟩:=h.len_;unfold maxLen at t;go_enter zk,ntmps70;go_wp2;go_loopw [8] (λz wr=>∃k:Nat,k<=xs.length/\z=.int .i64 k/\(∀x∈xs.take k,oN x)/\Below w.heap.size w wr) (λz _=>xs.length-(intOf z).toNat)
 case atStart=>exact⟨0,fa _,rfl,λx t=>(by cases t),fm _ _⟩
 case round=>
  obtain⟨k,J,rfl,n,g⟩:=hrel;replace n:=ab n;by_cases p:k<xs.length
  .obtain⟨x,l⟩:=ak p;obtain⟨b,m,L,E,_,I,_,⟨rfl,D⟩,f⟩:=(mW.loc.below h g H).at_ l;subst E;have r:wr.cell? ⟨b,m+k*2,none⟩=some (.int .i64 x.b):=by simpa using f 0 _ rfl
   have u:wr.cell? ⟨b,m+k*2+1,none⟩=some (.int .i64 x.s):=by simpa using f 1 _ rfl
   replace l:=ab l;clear f;have G:=avP (β:=β) (#[.agg #[.int .i64 x.b,.int .i64 x.s]]++#[]) wr;go_wp2;obtain⟨q,i⟩:=ed (oN x);refine(atn x wr q i).mono ?_;rintro e B ⟨rfl,F⟩;have o:=ae g F;clear G r u;cases q
   .have d:¬ ∀x∈xs,oN x:=λh=>by have:=i.2 (h x (aE l.out));cases this
    replace d:=ab d;clear i;go_wp2;go_ret;exact⟨k,rfl,.inr ⟨by omega,d.out⟩,o⟩
   .have s:∀y∈xs.take (k+1),oN y:=λy C=>by
     rw[mp l.out] at C;rcases io.1 C with h|h
     .exact n.out y h
     .rw[ge.1 h];exact i.1 rfl
    replace s:=ab s;clear i;go_wp2;go_roundw
    case rel=>exact⟨k+1,by omega,by go_num,s.out,o⟩
    simp[intOf];omega
  .obtain rfl:k=xs.length:=by omega
   have a:=n.out;rw[ga] at a;replace a:=ab a;clear n;go_wp2;go_ret;exact⟨-1,rfl,.inl ⟨rfl,a.out⟩,g⟩
def af4(xs:List Hd)(v:Value)(w:World)(lo hi:Nat)(h:mW w lo hi xs [v])(m:hi<=w.heap.size)(b:Bool)(d:b=true↔∀x∈xs,oN x) :
  Calls (ai β) 44 #[v,.func (.func 45) #[] #[]] w λe l=>e=.returned (.bool (!b))/\Below w.heap.size w l:=by
 obtain⟨A,c,rfl⟩:=cB.form h;replace d:=ab d;go_enter zE,ntmps44;go_wp2;refine(akH xs _ w lo hi h m).mono ?_;rintro e n ⟨j,rfl,i,k⟩;rcases i with⟨rfl,a⟩|⟨i,f⟩
 .have g:b=true:=d.out.2 a;subst g;clear a d;go_wp2;go_ret;exact⟨rfl,k⟩
 .have g:b=false:=by rw[<-gc,d.out];exact f
  subst g;have o:decide (0<=j)=true:=de i;clear f d;go_wp2;go_ret;exact⟨rfl,k⟩
def ajc(xs:List Hd)(v:Value)(w:World)(lo hi:Nat)(h:mW w lo hi xs [v])(l:hi<=w.heap.size)(b:Bool)(a:b=true↔ld xs) :
  Calls (ai β) 22 #[v] w λe k=>e=.returned (.bool b)/\Below w.heap.size w k:=by
 obtain⟨A,c,rfl⟩:=cB.form h;obtain⟨_,p,m⟩:=h.len_;unfold maxLen at m;replace a:=ab a;by_cases g:(xs.length:Int)<=9
 .have n:decide ((xs.length:Int)<=9)=true:=de g;obtain⟨q,d⟩:=ed (∀x∈xs,oN x);have f:q=b:=by
   rw[qc,d,a.out];exact⟨λh=>⟨by omega,h⟩,λh=>h.2⟩
  subst f;replace d:=ab d;go_enter xy,ntmps22;go_wp2;refine(af4 xs _ w lo hi h l q d.out).mono ?_;rintro e o ⟨rfl,j⟩;cases q<;>(go_wp2;go_ret;exact⟨rfl,j⟩)
 .have n:decide ((xs.length:Int)<=9)=false:=da g;have i:b=false:=by rw[<-gc,a.out];exact λh=>g (by have:=h.1;omega)
  subst i;go_enter xy,ntmps22;go_wp2;go_ret;exact⟨rfl,fm _ _⟩
end
section
open Go.RowKit Go.ChangeShapes Go.WideShapes Go.ChangeAt
section
variable {H:Type} {enc:TypeId×Value->H} {P:Program}
def aaP(i:laidOutB P=true){W l:World}{e:Nat->Bool}:∀{g:List TypeId} {j:List Value} {k:List (DataW H)} {f:List MemPlace},
  (∀t∈g,P.readableRec t=true/\t<P.types.size)->DataW.TrodAll enc P W 0 (λ_=>true) true g j k f->(∀p∈f,W.sameAt l p)->(∀p∈f,e p.block=true)->
  DataW.TrodAll enc P l 0 e true g j k f
 |[],_,_,_,_,h,_,_=>by
  obtain⟨rfl,rfl,rfl⟩:=trodAll_nil h;exact trodAll_mk0
 |t::g,_,_,_,hr,h,hs,hsp=>by
  obtain⟨v,q,d,m,a,b,rfl,rfl,rfl,u,n⟩:=trodAll_cons h;obtain⟨o,s⟩:=hr t (by simp);refine trodAll_cons_mk (WideElems.Trod_stays i o s u (λp c=>hs p (by simp[c])) (λp c=>hsp p (by simp[c]))) ?_;exact aaP i (λt r=>hr t (by simp[r])) n (λp c=>hs p (by simp[c])) (λp c=>hsp p (by simp[c]))
def adQ{w:World}{base:Nat}{c:Nat->Bool}{e:Bool}:∀{f:List TypeId} {m:List Value} {g:List (DataW H)} {l:List MemPlace},DataW.TrodAll enc P w base c e f m g l->g.length=f.length
 |[],_,_,_,h=>by
  obtain⟨_,rfl,_⟩:=trodAll_nil h;rfl
 |t::f,_,_,_,h=>by
  obtain⟨v,k,d,i,a,b,rfl,rfl,rfl,n,j⟩:=trodAll_cons h;rw[fi,fi,adQ j]
end
def own:ownKnob prog.godebug=none:=by kernel_rfl
def xo:laidOutB prog=true:=by kernel_rfl
section
variable {H:Type} {enc:TypeId×Value->H} {P:Program}
def aqt {base:Nat}   {r:Reach} {e : TypeId} {k:IntKind} {d:DataW H} {E:gR Int} (C:P.underlying t=some (.slice e)) (S:P.underlying e=some (.int k)) (W:P.cellsOf e=1)
  (M:∀(w:World) (K l:Nat) (x:Int),(Lit.int k x).wf=true->E w K l x [.int k x])
  (T:Value.okWide P w r X t v) (h:DataW.Trod enc P w base U main t v d p) (q:∀x∈p,x.block<w.heap.size) :
  ∃Q:List Int,cB E 1 w 0 w.heap.size Q [v]:=by
 obtain⟨Z,len,cap,rfl⟩:=okWide_slice C T;obtain⟨I,O⟩:=h;rcases open_ints C S W O with⟨c,A⟩|⟨a,F,D,m,c,_,Y,R,G,A,g,y⟩
 .simp[Value.cells] at c;obtain⟨rfl,rfl,rfl⟩:=c;exact⟨[],none,0,rfl,am _,by unfold maxLen;omega,λh=>absurd h (by simp)⟩
 .simp[Value.cells] at c;obtain⟨rfl,rfl,rfl⟩:=c;have f:(m.take len).length=len:=by
   rw[ff,G];split<;>omega
  refine⟨m.take len,some a,cap,by rw[f],by omega,R,λN=> ?_⟩;rw[f] at N;have L:len<=m.length:=by rw[G];split<;>omega
  obtain⟨b,o,rfl,s⟩:=ints_at g (by omega);refine⟨b,o,rfl,fa _, ?_,λi x l=> ?_⟩
  .simp only[uU] at A;have B:MemPlace.cell b o∈p:=by
    rw[A.2];have:m.length=(m.length-1)+1:=by omega
    simp[MemPlace.row];omega
   exact q _ B
  .have n:i<len:=by have:=aI l;omega
   have J:m.getD i 0=x:=by
    rw[ta n] at l;rw[sQ,l];rfl
   refine⟨[.int k x],rfl,M _ _ _ _ (y x ?_),λj u z=> ?_⟩
   .rw[ta n] at l;exact aE l
   .have V:j=0:=by have:=aI z;simpa using this
    subst V;simp at z;subst z;have:=s i (by omega);rw[J] at this;simpa using this
end
def vD {H:Type} {enc:TypeId×Value->H} {base:Nat}   {r:Reach} {d:DataW H} 
  (b:Value.okWide prog w r X 22 v) (h:DataW.Trod enc prog w base U main 22 v d p) (a:∀x∈p,x.block<w.heap.size):∃c:List Int,cB iD 1 w 0 w.heap.size c [v]:=
 aqt underlying22 underlying5 (by kernel_rfl) (λ_ _ _ x e=>⟨rfl,by simp[Lit.wf,IntKind.min,IntKind.max,IntKind.signed,IntKind.bits] at e;exact⟨by omega,by omega⟩⟩) b h a
end
section
open Go.RowKit Go.ChangeShapes Go.WideShapes Go.ChangeAt Go.Conc
section
variable {H:Type} {enc:TypeId×Value->H} {P:Program}
def acD{w:World}{a:Nat->Bool}:∀{b:List String} {c:List (DataW H)} {i:List MemPlace},DataW.TrodVars enc P w a b c i->c.length=b.length
 |[],[],_,_=>rfl
 |[],_::_,_,h=>h.elim
 |_::_,[],_,h=>h.elim
 |n::b,d::c,i,h=>by
  obtain⟨g,t,o,f,p,q,r,k,l,m,j,e⟩:=h;rw[fi,fi,acD j]
theorem aqu {f:Func} {s:ChangeSpec} {b:Bool} {W u:World} {args:Array Value} {i gs:List (DataW H)} {a:List MemPlace} {o:TypeId}
  (r:laidOutB P=true) (w:∀t∈f.params.toList,P.readableRec t=true/\t<P.types.size) (e:f.resultTypes=#[o]) (n:P.underlying o=some .bool) (m:varsRowed P s.vars=true)
  (c:s.fn H (i++gs)={results:=[.lit (.bool true)],args:=i,vars:=gs})
  (k:DataW.Whole enc P f.params.toList s.vars b W args.toList i gs a) (j:Below W.heap.size W u) :
  s.post enc P f b true false false W args (.bool true) u:=by
 have d:∀p∈a,p.block<W.heap.size:=λp v=>by simpa using k.lt p v
 have l:=k;obtain⟨p,q,B,A,rfl,z,y⟩:=k;refine⟨i,gs,p++q,[],p,q,l, ?_, ?_, ?_,World.keptBut_mono (λx g=>g.elim) (j.frame λ_=>False),λh=>by cases h⟩
 .rw[c,e];exact trodAll_mk1 (shut_bool n _)
 .rw[c];exact aaP r w B (λx g=>j.same (d x (by simp[g]))) (λx g=>by simpa using d x (by simp[g]))
 .rw[c];exact j.trodVars r m A
end
def wV (i:Looks) {p:Pinned} {s:OpenSpec} {c:OpenClaim} (l:List (List PathCond)) (kinds:List LaidKind) (a:Bool) (b:Bool×String) (d:Bool)
  (z:c.holds p s) (n:∀D∈l,(c.withDomain D).holds p s) (w:c.wfByText s=true) (k:∀D∈l,(c.withDomain D).wfByText s=true)
  (m:c.laidByTextAt i p kinds a)
  (e:c.start=.entering) (g:c.noBlocks=false/\c.again=false) (u:p.checked.prog.mainIs=some (b.1,b.2.toList)) (y:(!b.1&&b.2.isEmpty&&!d)=false)
  (o:∀f fn,p.checked.prog.funcNamed c.func=some f->p.checked.prog.funcs[f]?=some fn->d=p.checked.prog.looks []/\∀(j:Nat) t,fn.params[j]?=some t->p.checked.prog.wantsStandIn t=false)
  (x:true=c.goesBy p.checked.prog) :
  Claim7.holds p (.plain s) {stood:={row:=c,standIns:=[],harness:=b,looks:=d},kinds:=[],alts:=l,goes:=true,laidByText:=true,laidKinds:=kinds,laidTests:=a,laidLooks:=i}:=by
 have v:∀r:OpenClaim,Claim7.isSixth {stood:={row:=r,standIns:=[],harness:=b,looks:=d},kinds:=[]}=false:=λr=>by simpa[Claim7.isSixth] using y
 refine⟨Claim7.tied_new_at i kinds a (wj z b d e g u (v c) o) w,λD q=> ?_,m,(λh=>by cases h),x⟩;exact Claim7.tied_new_at i kinds a (wj (n D q) b d e g u (v _) o) (k D q)
abbrev laidL:List (String×DataW Unit):=[("unicode/utf8.acceptRanges",Rows.laid_unicode_utf8_acceptRanges),("loop.example/depositary/impl.errPiece",Rows.laid_loop_example_depositary_impl_errPiece),("loop.example/depositary/impl.errKey",Rows.laid_loop_example_depositary_impl_errKey),("unicode/utf8.first",Rows.laid_unicode_utf8_first)]
def xd(os:Os)(args:Array Value):laidMetH prog laidL ((World.laidAll prog os laidL).forCall (λ_ _=>0) ⟨#[],args,[]⟩).memory:=by
 rw[vj _ _ _ (by kernel_rfl)];exact laidMet_laidAll _ (by kernel_rfl) (by kernel_rfl)
end
section
open Go.Conc Go.ConcN Go.RowKit
structure pV (w0 w:World) (n:Nat) (res:List (ByteArray×Bool)):Prop where
 low:∀b,b<w0.heap.size->w.heap[b]?=w0.heap[b]?
 lt:w0.heap.size<w.heap.size
 row:∃cs,w.heap[w0.heap.size]?=some (.cells cs 171 (0,0))/\cs.size=2*n/\∀i x,res[i]?=some x->cs[2*i]?=some (.string x.1)/\cs[2*i+1]?=some (.bool x.2)
def vw(h:w.heap[C]?=some (.cells cs t z)):(w.setCell ⟨C,i,none⟩ v).heap[C]?=some (.cells (cs.setIfInBounds i v) t z):=by
 unfold World.setCell;simp[pe,h]
def fc(h:w.heap[C]?=some (.cells cs t z)):w.cell? ⟨C,i,none⟩=cs[i]?:=by
 unfold World.cell?;simp[h]
def iB(h:w.heap[C]?=some (.cells cs t (0,0))):w.frozen? ⟨C,i,none⟩=false:=by
 unfold World.frozen?;simp[h]
def pV.below(h:pV w0 w n W)(c:Below w.heap.size w w'):pV w0 w' n W:=by
 obtain⟨e,f,d⟩:=h.row;exact⟨λb a=>(c.block b (Nat.lt_trans a h.lt)).trans (h.low b a),bd h.lt c.size,e,(c.block _ h.lt).trans f,d⟩
def pV.store(h:pV w0 w n W)(m:W.length<n)(x:ByteArray×Bool):pV w0 ((w.setCell ⟨w0.heap.size,2*W.length,none⟩ (.string x.1)).setCell ⟨w0.heap.size,2*W.length+1,none⟩ (.bool x.2)) n (W++[x]):=by
 obtain⟨p,l,g,j⟩:=h.row;refine⟨λb k=> ?_, ?_,_,vw (vw l),by simpa using g,λi y c=> ?_⟩
 .have d:w0.heap.size≠b:=by omega
  rw[bm _ _ _ d,bm _ _ _ d];exact h.low b k
 .rw[fd,fd];exact h.lt
 .rw[vZ] at c;split at c
  .rename_i f;obtain⟨a,b⟩:=j i y c;constructor
   .rw[jn (by omega),jn (by omega)];exact a
   .rw[jn (by omega),jn (by omega)];exact b
  .rename_i o;have e:i=W.length:=by
    have:=(li.1 c).1;simp at this;omega
   subst e;simp at c;subst c;constructor
   .rw[jn (by omega),qb (by omega)]
   .rw[qb (by simp;omega)]
abbrev inH(k:List Item):List Item:=.inLoop mJ :: .inBlock 53::k
def af5:f110.body.isSome=true:=by kernel_rfl
def atp(β:Bool):∃fn,(ai β).funcs[110]?=some fn/\fn.body.isSome=true/\(fn.name == "runtime.NumGoroutine")=false:=by
 refine⟨pf f110, ?_, ?_,by have:=cL func110;exact this⟩
 .rw[alF β (by decide) (by decide),func110];rfl
 .show(f110.body.map gP).isSome=true;rw[Option.isSome_map];exact af5
def akI{β:Bool}{args:Array Value} :(callFunc 110 args).runT (ai β) w #[]=(.ok (.enter 110 args) w,#[]):=by
 obtain⟨fn,c,b,d⟩:=atp β;unfold callFunc;have f:¬fn.name= "runtime.NumGoroutine" :=by simpa using d
 have a:¬fn.body=none:=λe=>by rw[e] at b;cases b
 simp[c,f,a]
section
variable {X:Cx} {T:Array Value} {k:List Item} {w:World}
def At.aBG (hF:eM Z)  {A2 : Option Addr}  {dI:List Int} (h:At X T (.code mJ::inH k) w)
  (k1:1<=key) (k2:key<=99) (hl:l.length=n) (hc:n<=c) (ao:(c:Int)<=9223372036854775807) (hp:RdP w0 A 0 l) (a7:∀a,A2=some a->a.block<w0.heap.size) (b1:(C:Int)<=2147483647)
  (H:T.getD 0 undef=.int .i64 key) (s1:T.getD 1 undef=.slice A n c) (s2:T.getD 2 undef=.slice A2 C b) (E:T.getD 16 undef=.int .i64 C) (q:T.getD 27 undef=.slice (some ⟨w0.heap.size,0,none⟩) C C) (i:T.getD 28 undef=.int .i64 j)
  (hj:j<=C) (al:dI.length=j) (B:pV w0 w C (dI.map (Z key l))) :
  (j=C/\∃T',Tm cU T T'/\T'.getD 27 undef=.slice (some ⟨w0.heap.size,0,none⟩) C C/\At X T' k w)\/
  (j<C/\∃nm T' w',aku w0 A2 j nm/\Tm cU T T'/\T'.getD 16 undef=.int .i64 C/\T'.getD 27 undef=.slice (some ⟨w0.heap.size,0,none⟩) C C/\T'.getD 28 undef=.int .i64 (j+1:Nat)/\pV w0 w' C ((dI++[nm]).map (Z key l))/\At X T' (.code mJ::inH k) w'):=by
 have D:=Tm.refl cU T;unfold Go.Proofs.YtlggbfanooejbaaGreatDoor.mJ at h;have h:=h.seq;replace h:=h.region (l:=[0]) rfl;obtain⟨v,J,b2,⟨p,o⟩,m,W,g⟩:=h.jA (d:=26) (Φ:=λv r=>v=.bool (decide ((j:Int)<C))/\r=w) rfl rfl rfl (by decide) λM r F=>gM (by exact i) (by exact E) F;rw[p] at W;rw[o] at g;clear p o;replace H:=(m.same 0 rfl).trans H;replace s1:=(m.same 1 rfl).trans s1;replace s2:=(m.same 2 rfl).trans s2;replace E:=(m.same 16 rfl).trans E;replace q:=(m.same 27 rfl).trans q;replace i:=(m.same 28 rfl).trans i;replace D:=D.trans (m.sw rfl);clear m;replace h:=g;clear g;replace h:=h.jc.seq.cond W;by_cases S:(j:Int)<C
 .right;rw[de S] at h;simp only[pr] at h;replace h:=h.skip.seq.seq;replace h:=h.region (l:=[0,1,2,3]) rfl;obtain⟨ii,hi,hz⟩:=(faQ true).i3;obtain⟨v,J,ay,⟨a,hB,p,o⟩,m,O,g⟩:=h.jA (d:=25) (Φ:=λv r=>∃a,A2=some a/\v=.pointer (some (a.add (j*ii.size)))/\r=w) rfl rfl rfl (by decide) λM r F=>acy (faQ true).u31 hi (by exact s2) (by exact i) (by omega) F;rw[p,hz,tA] at O;rw[o] at g;clear p o;replace H:=(m.same 0 rfl).trans H;replace s1:=(m.same 1 rfl).trans s1;replace E:=(m.same 16 rfl).trans E;replace q:=(m.same 27 rfl).trans q;replace i:=(m.same 28 rfl).trans i;replace D:=D.trans (m.sw rfl);clear m;replace h:=g;clear g;have hv:=h.noV (t:=25) rfl rfl rfl O (λe w he=>afQ he);obtain⟨vv,J,b0,⟨I,o⟩,m,N,g⟩:=h.jA (d:=20) (Φ:=λv r=>w.cell? (a.add j)=some v/\r=w) rfl rfl rfl (by decide) λM r F=>aiE (faQ true).u3 rfl (by exact O) hv.1 F;rw[o] at g;clear o;replace H:=(m.same 0 rfl).trans H;replace s1:=(m.same 1 rfl).trans s1;replace E:=(m.same 16 rfl).trans E;replace q:=(m.same 27 rfl).trans q;replace i:=(m.same 28 rfl).trans i;replace D:=D.trans (m.sw rfl);clear m;replace h:=g;clear g;obtain⟨v,J,aV,⟨z,a9,p,o⟩,m,G,g⟩:=h.jA (d:=22) (Φ:=λv r=>∃z,vv=.int .i64 z/\v=.int .i64 (IntKind.i64.wrap (z*1))/\r=w) rfl rfl rfl (by decide) λM r F=>let⟨v,a1,z,a2,a3,a4⟩:=amM F rfl;⟨v,a1,z,N.symm.trans a2,a3,a4⟩
  rw[p] at G;rw[o] at g;clear p o;replace H:=(m.same 0 rfl).trans H;replace s1:=(m.same 1 rfl).trans s1;replace E:=(m.same 16 rfl).trans E;replace N:=(m.same 20 rfl).trans N;replace q:=(m.same 27 rfl).trans q;replace i:=(m.same 28 rfl).trans i;replace D:=D.trans (m.sw rfl);clear m;replace h:=g;clear g;subst a9;obtain⟨v,J,P,⟨p,o⟩,m,a0,g⟩:=h.jA (d:=21) (Φ:=λv r=>v=.bool (IntKind.i64.wrap (z*1) ==z)/\r=w) rfl rfl rfl (by decide) λM r F=>amO (by exact G) (by exact N) F;rw[p] at a0;rw[o] at g;clear p o;replace H:=(m.same 0 rfl).trans H;replace s1:=(m.same 1 rfl).trans s1;replace E:=(m.same 16 rfl).trans E;replace N:=(m.same 20 rfl).trans N;replace G:=(m.same 22 rfl).trans G;replace q:=(m.same 27 rfl).trans q;replace i:=(m.same 28 rfl).trans i;replace D:=D.trans (m.sw rfl);clear m;replace h:=g;clear g;obtain⟨hq,g⟩:=h.jc.ay1 a0;replace h:=g.seq;clear g;replace h:=h.region (l:=[0,1,2]) rfl;have Y:=abo hq;have a8:aku w0 A2 j z:=⟨a,hB,by rw[<-gK (B.low (a.add j).block (by rw[rx];exact a7 a hB))];exact I,Y⟩;obtain⟨v,J,aG,⟨p,R⟩,m,K,g⟩:=h.call (d:=24) (f:=110) (args:=#[.int .i64 key,.slice A n c,.int .i64 z]) rfl rfl rfl (by decide) (λw=>by
    have hm:Array.map (Frame.eval (FQ cD P (.inRegion ajl [0,1,2] :: .code (.region 83 ajm false)::inH k))) #[.tmp 0,.tmp 1,.tmp 20]=#[.int .i64 key,.slice A n c,.int .i64 z]:=by
     rw[<-H,<-s1,<-N];simp[Frame.eval]
    have e0:execOp (Frame.eval (FQ cD P (.inRegion ajl [0,1,2] :: .code (.region 83 ajm false)::inH k))) (iE (some 24) (.call ⟨.value (.func 110),#[.tmp 0,.tmp 1,.tmp 20],#[3,23,3]⟩) 171)=callFunc 110 #[.int .i64 key,.slice A n c,.int .i64 z]:=by
     simp only[execOp,iE,resolve];rw[hm];simp[Deferred.ofValue,invoke,Frame.eval];try rfl
    exact(gn (λs=>Sem.runT (ai true) s w #[]) e0).trans akI) (hF true w key A n c l z k1 k2 hl hc ao (hp.below B.low) Y)
  rw[p] at K;replace B:=B.below R;clear p R;replace E:=(m.same 16 rfl).trans E;replace G:=(m.same 22 rfl).trans G;replace q:=(m.same 27 rfl).trans q;replace i:=(m.same 28 rfl).trans i;replace D:=D.trans (m.sw rfl);clear m;replace h:=g;clear g;clear I hv;obtain⟨i2,mR,a6, -⟩:=(faQ true).i258;obtain⟨v,w2,aa,⟨a2,an,p,o⟩,m,a5,g⟩:=h.jA (d:=23) (Φ:=λv r=>∃a,some (⟨w0.heap.size,0,none⟩:Addr)=some a/\v=.pointer (some (a.add (j*i2.size)))/\r=J) rfl rfl rfl (by decide) λM r F=>acy (faQ true).aiB mR (by exact q) (by exact i) (by omega) F;cases an;rw[p,a6,iZ,lm,tU] at a5;rw[o] at g;clear p o;replace E:=(m.same 16 rfl).trans E;replace G:=(m.same 22 rfl).trans G;replace K:=(m.same 24 rfl).trans K;replace q:=(m.same 27 rfl).trans q;replace i:=(m.same 28 rfl).trans i;replace D:=D.trans (m.sw rfl);clear m;replace h:=g;clear g;have U:=B.store (by simp;omega) (Z key l z);rw[pZ,al] at U;obtain⟨cs,L,aP, -⟩:=B.row;obtain⟨u0,ax⟩:∃u,cs[2*j]?=some u:=⟨_,gt (by omega)⟩;obtain⟨u1,ad⟩:∃u,cs[2*j+1]?=some u:=⟨_,gt (by omega)⟩;have ha:(⟨w0.heap.size,2*j,none⟩:Addr).add 1=⟨w0.heap.size,2*j+1,none⟩:=iZ _ _ _;have V:=ap5 (faQ true) (dst:=none) (ty:=0) (pos:= "") (af:=#[]) (gd:=none) (w:=J) (A:=⟨w0.heap.size,2*j,none⟩) (u0:=.string (Z key l z).1) (u1:=.bool (Z key l z).2) (e:=(FQ cD aa (.inRegion ajl (2::[]) :: .code (.region 83 ajm false)::inH k)).eval) (x:=.tmp 23) (y:=.tmp 24) rfl rfl (by exact a5) (by exact K) ((fc L).trans ax) (iB L) (by rw[ha];exact(fc L).trans ad) (by rw[ha];exact iB L);rw[ha] at V;replace h:=h.opk rfl rfl rfl V;replace h:=h.jc.region (l:=[0,1]) rfl;generalize (J.setCell ⟨w0.heap.size,2*j,none⟩ (.string (Z key l z).1)).setCell ⟨w0.heap.size,2*j+1,none⟩ (.bool (Z key l z).2)=r at *;clear G;obtain⟨v,J,aK,⟨p,o⟩,m,G,g⟩:=h.jA (d:=22) (Φ:=λv Q=>v=.int .i64 (IntKind.i64.wrap ((j:Int)+1))/\Q=r) rfl rfl rfl (by decide) λM Q F=>amN (by exact i) rfl F;rw[p] at G;rw[o] at g;clear p o;replace E:=(m.same 16 rfl).trans E;replace q:=(m.same 27 rfl).trans q;replace i:=(m.same 28 rfl).trans i;replace D:=D.trans (m.sw rfl);clear m;replace h:=g;clear g;clear i;obtain⟨v,J,aQ,⟨p,o⟩,m,i,g⟩:=h.jA (d:=28) (Φ:=λv Q=>v=.int .i64 (IntKind.i64.wrap ((j:Int)+1))/\Q=r) rfl rfl rfl (by decide) λM Q F=>let⟨v,a1,a2,a3⟩:=aiC F;⟨v,a1,a2.trans G,a3⟩
  rw[p] at i;rw[o] at g;clear p o;replace E:=(m.same 16 rfl).trans E;replace q:=(m.same 27 rfl).trans q;replace D:=D.trans (m.sw rfl);clear m;replace h:=g;clear g;rw[afR (by omega)] at i;exact⟨by omega,z,_,r,a8,D,E,q,i,by rw[qs];exact U,h.jc.again⟩
 .left;rw[da S] at h;simp only[jp,qG] at h;exact⟨by omega,_,D,q,h.exit rfl⟩
def At.axx {G:Int->List ig->Int->ByteArray×Bool} (C:eM G) {w0:World} {key:Int} {A v:Option Addr} {n c d N:Nat} {l:List ig}
  (x:1<=key) (k2:key<=99) (E:l.length=n) (H:n<=c) (q:(c:Int)<=9223372036854775807) (D:RdP w0 A 0 l) (p:∀a,v=some a->a.block<w0.heap.size) (r:(d:Int)<=2147483647):∀(m j:Nat) {T:Array Value} {w:World} {s:List Int},d=j+m->At X T (.code mJ::inH k) w->
  T.getD 0 undef=.int .i64 key->T.getD 1 undef=.slice A n c->T.getD 2 undef=.slice v d N->T.getD 16 undef=.int .i64 d->T.getD 27 undef=.slice (some ⟨w0.heap.size,0,none⟩) d d->T.getD 28 undef=.int .i64 j->s.length=j->(∀i nm,s[i]?=some nm->aku w0 v i nm)->pV w0 w d (s.map (G key l))->
  ∃(b:List Int) (T':Array Value) (u:World),b.length=d/\(∀i nm,b[i]?=some nm->aku w0 v i nm)/\pV w0 u d (b.map (G key l))/\Tm cU T T'/\T'.getD 27 undef=.slice (some ⟨w0.heap.size,0,none⟩) d d/\At X T' k u
 |0,j,T,w,s,e,h,s0,s1,s2,dB,iY,ja,hnl,hnm,hrow=>by
  rcases h.aBG C x k2 E H q D p r s0 s1 s2 dB iY ja (by omega) hnl hrow with⟨_,T',J,g,I⟩|⟨y,_⟩
  .exact⟨s,T',w,by omega,hnm,hrow,J,g,I⟩
  .omega
 |m+1,j,T,w,s,e,h,s0,s1,s2,dB,iY,ja,hnl,hnm,hrow=>by
  rcases h.aBG C x k2 E H q D p r s0 s1 s2 dB iY ja (by omega) hnl hrow with⟨W,_⟩|⟨y,nm,V,U,P,f,F,g,B,o,K⟩
  .omega
  .obtain⟨b,T',u,R,S,L,O,M,Q⟩:=At.axx C x k2 E H q D p r m (j+1) (by omega) K ((f.same 0 rfl).trans s0) ((f.same 1 rfl).trans s1) ((f.same 2 rfl).trans s2) F g B (by simp[hnl]) (λi z t=>by
    rw[vZ] at t;split at t
    .exact hnm i z t
    .have:i=j:=by
      have:=(li.1 t).1;simp at this;omega
     subst this;simp[hnl] at t;subst t;exact P) o
   exact⟨b,T',u,R,S,L,f.trans O,M,Q⟩
end
end
section
open Go.Conc Go.ConcN
def mxA:Option Addr->Nat
 |none=>0
 |some a=>a.block+1
def mxN:Option Nat->Nat
 |none=>0
 |some a=>a+1
def av9:Fn->Nat
 |.yield l=>l+1
 |_=>0
mutual
def mxV:Value->Nat
 |.pointer a=>mxA a
 |.slice a _ _=>mxA a
 |.map a=>mxN a
 |.chan a=>mxN a
 |.func f ⟨a⟩ ⟨c⟩=>max (av9 f) (max (mxL a) (mxL c))
 |.iface _ v=>mxV v
 |.agg ⟨l⟩=>mxL l
 |.tuple ⟨l⟩=>mxL l
 |_=>0
def mxL:List Value->Nat
 |[]=>0
 |v::l=>max (mxV v) (mxL l)
end
def mxE:List MapEntry->Nat
 |[]=>0
 |e::l=>max (max (mxV e.key) (mxV e.val)) (mxE l)
def mxO:Obj->Nat
 |.cells c _ _=>mxL c.toList
 |.map e _=>mxE e.toList
 |.loop l=>mxL l.tmps.toList
 |_=>0
def mxH:List Obj->Nat
 |[]=>0
 |o::l=>max (mxO o) (mxH l)
def aoH:∀{l:List Obj} {i:Nat} {o:Obj},l[i]?=some o->mxO o<=mxH l
 |[],i,o,h=>by simp at h
 |x::l,0,o,h=>by simp at h;subst h;simp only[mxH];omega
 |x::l,i+1,o,h=>by
  have:=aoH (l:=l) (i:=i) (o:=o) (by simpa using h);simp only[mxH];omega
def ani:List Frame->Nat
 |[]=>0
 |f::l=>max (mxL f.tmps.toList) (ani l)
def atr(f:Fn)(a c:Array Value):mxV (.func f a c)=max (av9 f) (max (mxL a.toList) (mxL c.toList)):=by
 obtain⟨a⟩:=a;obtain⟨c⟩:=c;simp only[mxV]
def awa(a:Array Value):mxV (.agg a)=mxL a.toList:=by
 obtain⟨a⟩:=a;simp only[mxV]
def aqv(a:Array Value):mxV (.tuple a)=mxL a.toList:=by
 obtain⟨a⟩:=a;simp only[mxV]
section
variable {ρ σ:Ren} {D:Nat} (hd:σ.dim=ρ.dim/\σ.al=ρ.al) (H:∀{a b:Nat},σ.r a b->b<D->ρ.r a b)
include H
theorem OAR.down{u v:Option Addr}(k:OAR σ u v)(a:mxA v<=D):OAR ρ u v:=by
 cases k with
 |none=>exact .none
 |some k=>cases k with
  |mk h o s=>exact .some (.mk (H h (by simp only[mxA] at a;omega)) o s)
theorem NR.down{v : Option Nat}(k:NR σ u v)(a:mxN v<=D):NR ρ u v:=by
 cases k with
 |none=>exact .none
 |some h=>exact .some (H h (by simp only[mxN] at a;omega))
theorem FR.down{u v:Fn}(k:FR σ u v)(a:av9 v<=D):FR ρ u v:=by
 cases k with
 |same f b=>exact .same _ b
 |yield h=>exact .yield (H h (by simp only[av9] at a;omega))
include hd
mutual
theorem VR.down:∀{u v:Value},VR σ u v->mxV v<=D->VR ρ u v
 |_,_,.fV hl k,_=>.fV (hd.1▸hl) k
 |_,_,.abt k hl,_=>.abt k (hd.2▸hl)
 |_,_,.bool b,_=>.bool b
 |_,_,.int k n,_=>.int k n
 |_,_,.string s,_=>.string s
 |_,_,.pointer k,hb=>.pointer (OAR.down H k (by simpa only[mxV] using hb))
 |_,_,.slice k l c,hb=>.slice (OAR.down H k (by simpa only[mxV] using hb)) l c
 |_,_,.map k,hb=>.map (NR.down H k (by simpa only[mxV] using hb))
 |_,_,.chan k,hb=>.chan (NR.down H k (by simpa only[mxV] using hb))
 |_,_,.func f x y,hb=>by
  rw[atr] at hb;exact .func (FR.down H f (by omega)) (bU.down x (by omega)) (bU.down y (by omega))
 |_,_,.nilFunc,_=>.nilFunc
 |_,_,.iface t k,hb=>.iface t (VR.down k (by simpa only[mxV] using hb))
 |_,_,.nilIface,_=>.nilIface
 |_,_,.agg k,hb=>.agg (bU.down k (by rwa [awa] at hb))
 |_,_,.tuple k,hb=>.tuple (bU.down k (by rwa [aqv] at hb))
theorem bU.down:∀{u v:List Value},bU σ u v->mxL v<=D->bU ρ u v
 |_,_,.nil,_=>.nil
 |_,_,.cons k kl,hb=>.cons (VR.down k (by simp only[mxL] at hb;omega)) (bU.down kl (by simp only[mxL] at hb;omega))
end
def mQ.down:∀{u v:List MapEntry},mQ σ u v->mxE v<=D->mQ ρ u v
 |_,_,.nil,_=>.nil
 |_,_,.cons (.mk k1 k2 b) kl,hb=>.cons (.mk (VR.down hd H k1 (by simp only[mxE] at hb;omega)) (VR.down hd H k2 (by simp only[mxE] at hb;omega)) b) (mQ.down kl (by simp only[mxE] at hb;omega))
variable (hx:σ.lax=ρ.lax) (hle:ρ.Le σ)
include hx hle
theorem OR.down{u v v':Obj}(h:OR ρ u v')(k:OR σ v v')(b:mxO v'<=D):OR ρ v v':=by
 cases h with
 |cells h t C=>cases k with
  |cells k _ g=>
   refine .cells (bU.down hd H k b) t ?_;unfold ZR at g ⊢;rw[<-hx];exact g
 |map h c=>cases k with
  |map k _=>exact .map (mQ.down hd H k b) c
 |stringIter s p=>cases k;exact .stringIter s p
 |number h l=>cases k with
  |number k _=>
   obtain⟨d,o,s⟩:=h;cases k with
   |mk f _ _=>
    have:=σ.inj (hle.r d) f;subst this;exact .number (.mk d o s) l
 |mapIter h s a n=>cases k with
  |mapIter k _ _ _=>
   cases h with
   |none=>cases k;exact .mapIter .none s a n
   |some h=>cases k with
    |some k=>
     have:=σ.inj (hle.r h) k;subst this;exact .mapIter (.some h) s a n
 |loop d f E z B F A e=>cases k with
  |loop i x q y r w m j=>
   have:=σ.inj (hle.r e) j;rw[this] at e;exact .loop i x q (bU.down hd H y b) r w m e
 |bI=>cases k;exact .bI
 |deferred=>cases k;exact .deferred
omit hd hx in
omit H in
theorem Ren.down{a : Nat}(h:ρ.r a X)(k:σ.r b X):ρ.r b X:=by
 have:=σ.inj (hle.r h) k;subst this;exact h
omit hd hx in
omit H in
theorem jO.down{P:Program}:∀{u v a:List Item},jO P ρ u a->jO P σ v a->jO P ρ v a
 |_,_,_,.nil,.nil=>.nil
 |_,_,_,.cons h hl,.cons k kl=>.cons (by
   cases h with
   |code c=>cases k;exact .code c
   |inBlock id=>cases k;exact .inBlock id
   |inLoop c=>cases k;exact .inLoop c
   |inScope c=>cases k;exact .inScope c
   |inRegion h l=>cases k with
    |inRegion k _=>exact .inRegion k l
   |inRangeFunc h=>cases k with
    |inRangeFunc k=>exact .inRangeFunc (Ren.down hle h k)
   |endRangeFunc h=>cases k with
    |endRangeFunc k=>exact .endRangeFunc (Ren.down hle h k)
   |beginRound=>cases k;exact .beginRound) (jO.down hl kl)
omit hd hx in
omit H in
theorem CDs.down:∀{u v a:List Deferred},CDs ρ u a->CDs σ v a->CDs ρ v a
 |_,_,_,.nil,.nil=>.nil
 |_,_,_,.cons h hl,.cons k kl=>.cons (Ren.down hle h k) (CDs.down hl kl)
omit hd hx in
omit H in
theorem NR.aBH{v v' : Option Nat}(h:NR ρ u v')(k:NR σ v v'):NR ρ v v':=by
 cases h with
 |none=>cases k;exact .none
 |some h=>cases k with
  |some k=>exact .some (Ren.down hle h k)
omit hx in
theorem FrR.down{u v v':Frame}(h:FrR P ρ u v')(k:FrR P σ v v')(a:mxL v'.tmps.toList<=D):FrR P ρ v v':=
 ⟨k.fn,bU.down hd H k.tmps a,jO.down hle h.todo k.todo,CDs.down hle h.defers k.defers,k.mode,k.kind,NR.aBH hle h.round k.round⟩
omit hx in
theorem iJ.down{P:Program}:∀{u v a:List Frame},iJ P ρ u a->iJ P σ v a->ani a<=D->iJ P ρ v a
 |_,_,_,.one h h0,.one k k0,hb=>.one (FrR.down hd H hle h k (by simp only[ani] at hb;omega)) k0
 |_,_,_,.cons h b,.cons k kl,hb=>.cons (FrR.down hd H hle h k (by simp only[ani] at hb;omega)) (iJ.down b kl (by simp only[ani] at hb;omega))
 |_,_,_,.one h h0,.cons k kl,_=>by cases kl
 |_,_,_,.cons h b,.one k k0,_=>by cases b
end
end
section
open Go Go.Conc Go.ConcN Go.RowKit
def aBI:∀i,i<20->cU.getD i 0<45/\adu[i]?=some (apm (cU.getD i 0) 0)/\cU.contains (cU.getD i 0)=true:=by
 intro i a;have:i=0\/i=1\/i=2\/i=3\/i=4\/i=5\/i=6\/i=7\/i=8\/i=9\/i=10\/i=11\/i=12\/i=13\/i=14\/i=15\/i=16\/i=17\/i=18\/i=19:=by omega
 rcases this with rfl|rfl|rfl|rfl|rfl|rfl|rfl|rfl|rfl|rfl|rfl|rfl|rfl|rfl|rfl|rfl|rfl|rfl|rfl|rfl<;>exact⟨by decide,rfl,rfl⟩
def aBJ{t:Nat}(h:cU.contains t=true):∃i,i<20/\cU.getD i 0=t:=by
 have b:t∈cU:=by simpa using h
 obtain⟨i,a,c⟩:=uK.1 b;exact⟨i,a,by rw[sQ,ls a];exact c⟩
def azo:∀i,i<20->∀j,j<20->cU.getD i 0=cU.getD j 0->i=j:=by decide
section
variable {X:Cx} {T:Array Value} {k:List Item} {w:World}
def At.axy:∀(m i:Nat) {T:Array Value},i+m=20->At X T (.inRegion adu (List.range' i m)::k) w->(∀j,j<i->T.getD (cU.getD j 0) undef=.int .i64 0)->
  ∃T',At X T' (.inRegion adu []::k) w/\(∀j,j<20->T'.getD (cU.getD j 0) undef=.int .i64 0)/\Tm cU T T'
 |0,i,T,e,h,hd=>⟨T,h,λj u=>hd j (by omega),.refl _ _⟩
 |m+1,i,T,e,h,hd=>by
  have l:i<20:=by omega
  obtain⟨x,o,q⟩:=aBI i l;rw[List.range'_succ] at h;obtain⟨v,z,A,⟨t,y⟩,n,s,h⟩:=h.jA (d:=cU.getD i 0) (Φ:=λv g=>v=.int .i64 0/\g=w) o rfl rfl x λB g p=>jz p;rw[t] at s;rw[y] at h;obtain⟨T',r,f,c⟩:=At.axy m (i+1) (by omega) h λj u=>by
   by_cases a:j=i
   .subst a;exact s
   .have b:cU.getD j 0≠cU.getD i 0:=λe=>a (azo j (by omega) i l e);rw[n.same _ (by simpa using b)];exact hd j (by omega)
  exact⟨T',r,f,(n.sw q).trans c⟩
def At.last{C:Addr}(h:At X T (.code akt::k) w)(r:T.getD 27 undef=.slice (some C) n n):∃T' m,AtL X T' (.code cT::k) m/\(∀b,b<w.heap.size->m.heap[b]?=w.heap[b]?)/\w.heap.size<m.heap.size/\
  m.heap[w.heap.size]?=some (.cells #[.slice (some C) n n] 160 (0,0))/\T'.getD 17 undef=.slice (some C) n n/\T'.getD 8 undef=.pointer (some ⟨w.heap.size,0,none⟩)/\(∀t,cU.contains t=true->T'.getD t undef=.int .i64 0)/\Tm (8::17::cU) T T':=by
 unfold akt at h;have h:=h.seq;replace h:=h.region (l:=[0,1,2]) rfl;obtain⟨v,G,H,⟨B,s⟩,L,a,F⟩:=h.jA (d:=17) (Φ:=λv g=>v=.slice (some C) n n/\g=w) rfl rfl rfl (by decide) λR g z=>let⟨v,P,Q,K⟩:=jz z;⟨v,P,Q.trans r,K⟩
 rw[B] at a;rw[s] at F;obtain⟨v,G,S,⟨B,s⟩,E,o,f⟩:=F.jA (d:=8) (Φ:=λv g=>v=.pointer (some ⟨w.heap.size,0,none⟩)/\g=w.alloc (.cells #[.slice none 0 0] 160)) rfl rfl rfl (by decide) λR g z=>by
  have:=(asT (faQ true) (w:=w) (e:=(FQ cD H (.inRegion ajn (1::[2]) :: .code (.seq (.region 59 adu false) cT)::k)).eval) (dst:=some 8) (ty:=0) (pos:= "") (af:=#[]) (gd:=none)).symm.trans z;cases this;exact⟨_,rfl,rfl,rfl⟩
 rw[B] at o;rw[s] at f;replace a:=(E.same 17 rfl).trans a;have q:(w.alloc (.cells #[.slice none 0 0] 160)).heap[w.heap.size]?=some (.cells #[.slice none 0 0] 160 (0,0)):=by
  show(w.heap.push _)[w.heap.size]?=_;rw[qS]
 have I:=ap6 (faQ true) (dst:=none) (ty:=0) (pos:= "") (af:=#[]) (gd:=none) (w:=w.alloc (.cells #[.slice none 0 0] 160)) (A:=⟨w.heap.size,0,none⟩) (u:=.slice (some C) n n) (c0:=.slice none 0 0)
  (e:=(FQ cD S (.inRegion ajn (2::[]) :: .code (.seq (.region 59 adu false) cT)::k)).eval) (x:=.tmp 8) (y:=.tmp 17) ⟨_,_,_,rfl⟩ (by exact o) (by exact a) (fc q) (iB q)
 replace f:=(f.opk rfl rfl rfl I).jc.seq;replace f:=f.region (l:=List.range' 0 20) rfl;obtain⟨J,M,N,p⟩:=f.axy 20 0 (by rfl) (λj U=>by omega);refine⟨J,_,M.aBj,λb D=> ?_, ?_, ?_,(p.same 17 rfl).trans a,(p.same 8 rfl).trans o,λt c=> ?_, ?_⟩
 .rw[bm _ _ _ (by show w.heap.size≠b;omega)];exact sq w _ b D
 .rw[fd,mw];omega
 .exact vw q
 .obtain⟨i,O,rfl⟩:=aBJ c;exact N i O
 .exact((L.mono λt c=>by simp at c;subst c;rfl).trans (E.mono λt c=>by simp at c;subst c;rfl)).trans (p.mono λt c=>by
   simp only[tu,qQ];exact .inr (.inr c))
end
end
section
open Go Go.Conc Go.ConcN Go.RowKit
def att{ρ:Ren}:∀(x y:List Value),x.length=y.length->(∀(i:Nat) u v,x[i]?=some u->y[i]?=some v->VR ρ u v)->bU ρ x y
 |[],[],_,_=>.nil
 |[],_::_,h,_=>by cases h
 |_::_,[],h,_=>by cases h
 |a::x,b::y,hs,h=>.cons (h 0 a b rfl rfl) (att x y (by simpa using hs) λi u v c d=>h (i+1) u v (by simpa using c) (by simpa using d))
def anj{x : Array Value}(b:x.size=y.size)(h:∀(i:Nat) u v,x[i]?=some u->y[i]?=some v->VR ρ u v):dm ρ x y:=
 att _ _ (by simpa using b) λi u v a c=>h i u v (by rw[<-eg];exact a) (by rw[<-eg];exact c)
def dm.at{x : Array Value}(h:dm ρ x y){u : Value}(d:x[i]?=some u)(b:y[i]?=some v):VR ρ u v:=by
 obtain⟨e,a,c⟩:=bU.get h (i:=i) (v:=u) (by rw[eg];exact d);rw[eg,b] at a;cases a;exact c
abbrev T0F(a:Array Value):Array Value:=a++Array.replicate (45-a.size) undef
def awb :Frame.enter (ai true) cD Y .normal=FQ cD (T0F Y) [.code ki]:=by
 have a:(ai true).funcs[cD]?=some (qFA true):=acU true;unfold Frame.enter;rw[a];rfl
def aoI(h:T[i]?=some v):T.getD i undef=v:=by
 rw[ip,h];rfl
def eJ(w:World)(b:Nat):Prop:=∃c t z,w.heap[b]?=some (.cells c t z)
def lJ{A:Addr}(a:w.cell? A=some v):eJ w A.block:=by
 unfold World.cell? at a;cases b:w.heap[A.block]? with
 |none=>rw[b] at a;simp at a
 |some o=>
  rw[b] at a;cases o with
  |cells c t z=>exact⟨c,t,z,b⟩
  |_=>simp at a
def azp:(gL.all λg=>g ==0||g ==1)=true:=by unfold gL;kernel_rfl
structure aBK (ρ:Ren) (a':Array Value) (w:World) (key:Int) (A:Option Addr) (n c:Nat) (l:List ig) (A2:Option Addr) (n2 c2:Nat) (dI:List Int):Prop where
 s0:(T0F a').getD 0 undef=.int .i64 key
 k1:1<=key
 k2:key<=99
 s1:(T0F a').getD 1 undef=.slice A n c
 nc:n<=c
 cm:(c:Int)<=9223372036854775807
 ln:l.length=n
 rd:RdP w A 0 l
 rg:∀i x,l[i]?=some x->∀a b m e,A=some a->w.cell? ((a.add (i*2)).add 1)=some (.slice (some b) m e)->∃y,ρ.r y b.block
 s2:(T0F a').getD 2 undef=.slice A2 n2 c2
 n2m:(n2:Int)<=2147483647
 n2c:n2<=c2
 c2m:(c2:Int)<=9223372036854775807
 nn:dI.length=n2
 nm:∀i nm,dI[i]?=some nm->aku w A2 i nm
 gl:∀g∈gL,eJ w g
 al:∀a,A=some a->∃b,ρ.r b a.block
 al2:∀a,A2=some a->∃b,ρ.r b a.block
def aaQ(t:Nat):Bool:=t ==12||t ==14||decide (29<=t)
def ank{l:List Nat}{t:Nat}(h:(l.all λx=>decide (x<29))=true)(c:29<=t):l.contains t=false:=by
 cases b:l.contains t with
 |false=>rfl
 |true=>
  have a:t∈l:=by simpa using b
  have:=lc.1 h t a;simp only[qJ] at this;omega
def atu{t:Nat}(h:aaQ t=true):mH.contains t=false/\cU.contains t=false/\(8::17::cU).contains t=false/\t≠8/\t≠17:=by
 simp only[aaQ,qQ,mt,qJ] at h;rcases h with(rfl|rfl)|h
 .exact⟨rfl,rfl,rfl,by decide,by decide⟩
 .exact⟨rfl,rfl,rfl,by decide,by decide⟩
 .exact⟨ank rfl h,ank rfl h,ank rfl h,by omega,by omega⟩
def vu(h:i<T.size):T[i]?=some (T.getD i undef):=by
 rw[ip,gt h];rfl
def aoJ:∀{l:List Value} {i:Nat} {v:Value},l[i]?=some v->mxV v<=mxL l
 |[],i,v,h=>by simp at h
 |x::l,0,v,h=>by simp at h;subst h;simp only[mxL];omega
 |x::l,i+1,v,h=>by
  have:=aoJ (l:=l) (i:=i) (v:=v) (by simpa using h);simp only[mxL];omega
def aoK(h:(T0F Y)[i]?=some v):mxV v<=mxL Y.toList:=by
 unfold T0F at h;rw[sN] at h;split at h
 .exact aoJ (i:=i) (by rw[eg];exact h)
 .rw[tW] at h;split at h
  .cases h;have:mxV undef=0:=by
    show mxV (.tuple ⟨[]⟩)=0;simp only[mxV,mxL]
   omega
  .cases h
def aiF.cells{B:Option Addr}{x:Int×ByteArray}(h:aiF w B i x)(k:∀A,w.cell? A=w'.cell? A):aiF w' B i x:=by
 obtain⟨⟨a,d,b,f⟩,c,e⟩:=h;exact⟨⟨a,d,(k _).symm.trans b,(k _).symm.trans f⟩,c,e⟩
def RdP.cells(h:RdP w A j l)(k:∀A,w.cell? A=w'.cell? A):RdP w' A j l:=λi x g=>by
 obtain⟨⟨a,B,c,o,d,f,n,q,m,p⟩,b⟩:=h i x g;exact⟨⟨a,B,c,o,(k _).symm.trans d,(k _).symm.trans f,n,q,m,λi y e=>(p i y e).cells k⟩,b⟩
def atv(w:World)(n:Nat):World:={w with heap:=w.heap++Array.replicate n (.deferred none)}
def akJ(w:World)(n:Nat)(h:b<w.heap.size):(atv w n).heap[b]?=w.heap[b]?:=by
 show(w.heap++_)[b]?=_;rw[rP h]
def aqw(w:World)(n:Nat)(A:Addr):(atv w n).cell? A=w.cell? A:=by
 by_cases h:A.block<w.heap.size
 .exact gK (akJ w n h)
 .unfold World.cell?;rw[qg (by omega:w.heap.size<=A.block)];have:(atv w n).heap[A.block]?=none\/(atv w n).heap[A.block]?=some (.deferred none):=by
   show(w.heap++_)[A.block]?=none\/(w.heap++_)[A.block]?=_;rw[sN,bv (by omega),tW];split
   .exact .inr rfl
   .exact .inl rfl
  rcases this with e|e<;>rw[e]
def aqx (hF:eM Z) {c:Cfg}  {m m':List Frame} (c7:dm ρ a Y) (a7:iJ (ai true) ρ m m') (hc:c.l=Frame.enter (ai true) cD a .normal::m)
  (F:WR ρ c.w w') (hg:GlR ρ) (hW:ku (ai true) R c) :
  ∃M A n cc l A2 E c2 dI c1,aBK ρ Y w' M A n cc l A2 E c2 dI/\iG (ai true) c1 c/\ku (ai true) R c1/\(∀b K,ρ.r b K->Rw c.w b->Rw c1.w b/\∀i u,aev u->c1.w.cell? ⟨b,i,none⟩=some u->c.w.cell? ⟨b,i,none⟩=some u)/\
   ∀(wr:World) (S W:Nat) (cs:Array Value),(∀b K,ρ.r b K->wr.heap[K]?=w'.heap[K]?)->wr.ou=w'.ou->w'.heap.size<=wr.heap.size->w'.heap.size<=S->w'.heap.size<=W->S≠W->wr.heap[S]?=some (.cells cs 171 (0,0))->cs.size=2*E->
    (∀i nm,dI[i]?=some nm->cs[2*i]?=some (.string (Z M l nm).1)/\cs[2*i+1]?=some (.bool (Z M l nm).2))->wr.heap[W]?=some (.cells #[.slice (some ⟨S,0,none⟩) E E] 160 (0,0))->
    ∃p T2,ρ.Le p/\iJ (ai true) p c1.l (FQ cD T2 [.code cT]::m')/\WR p c1.w wr/\(∀b K,p.r b K->ρ.r b K\/K=S\/K=W)/\T2.size=(T0F Y).size/\(∀i,i<3->T2.getD i undef=(T0F Y).getD i undef)/\
     T2.getD 6 undef=.slice none 0 0/\T2.getD 7 undef=.bool false/\T2.getD 8 undef=.pointer (some ⟨W,0,none⟩)/\T2.getD 17 undef=.slice (some ⟨S,0,none⟩) E E/\(∀i,aaQ i=true->T2.getD i undef=(T0F Y).getD i undef):=by
 obtain⟨_,_,y,ys,e1,rfl⟩:=a7.ne';have bl:45<=(T0F Y).size:=by simp only[T0F,rZ,sW];omega
 obtain⟨D,c6,ba,cn,bI⟩:∃D,w'.heap.size<=D/\mxH w'.heap.toList<=D/\mxL Y.toList<=D/\ani (y::ys)<=D:=⟨w'.heap.size+(mxH w'.heap.toList+(mxL Y.toList+ani (y::ys))),by omega,by omega,by omega,by omega⟩;obtain⟨w,Q⟩:∃w,w=atv w' (D-w'.heap.size):=⟨_,rfl⟩;have b8:w.heap.size=D:=by
  rw[Q];show(w'.heap++_).size=D;rw[rZ,sW];omega
 have b6:∀{b},b<w'.heap.size->w.heap[b]?=w'.heap[b]?:=λ{b} h=>by rw[Q];exact akJ _ _ h
 have U:∀A,w.cell? A=w'.cell? A:=λA=>by rw[Q];exact aqw _ _ _
 have bi:w.ou=w'.ou:=by rw[Q];rfl
 have cb:WR ρ c.w w:=⟨λ{b K} f=>by
  obtain⟨o,o',T,O,h3⟩:=F.obj f;exact⟨o,o',T,(b6 (F.lt f).2).trans O,h3⟩,F.os.trans bi.symm,F.kW.1,by rw[b8];exact db F.kW.2 c6⟩
 clear Q;have bk:FrR (ai true) ρ (Frame.enter (ai true) cD a .normal) (FQ cD (T0F Y) [.code ki]):=by rw[<-awb];exact afJ true c7
 have h0:At ⟨R,c,ρ,w,y,ys⟩ (T0F Y) [.code ki] w:=⟨bl,c,ρ,.inl rfl,.refl _,by rw[hc];exact .cons bk a7,cb,hg,hW,Kept.refl _ _ _⟩;obtain⟨M,A,n,cc,l,T1,s0,k1,k2,⟨cA,bq⟩,⟨cy,ck⟩,s1,b3,aV,hl,hp,hR,bO,m1,s6,s7,T⟩:=h0.head;obtain⟨A2,E,c2,ao,T2,s2,bb,bE,b5,b9,c0,ce,m2,dB,bn,c5,O⟩:=T.names;replace s2:=(m1.same 2 rfl).symm.trans s2;have c4:pV w (w.alloc (.cells ao 171)) E (([]:List Int).map (Z M l)):=by
  refine⟨λb f=>sq w _ b f,by rw[mw];omega,ao, ?_,ce,λi x I=>by simp at I⟩;show(w.heap.push _)[w.heap.size]?=_;rw[qS]
 have g0:=λt (h:mH.contains t=false) (h':cU.contains t=false)=>(m2.same t h').trans (m1.same t h);obtain⟨dI,T3,w3,cp,bj,J,m3,bc,h3⟩:=At.axx hF k1 k2 hl b3 aV hp bb b5 E 0 (by omega) O.block.loop ((g0 0 rfl rfl).trans s0) ((g0 1 rfl rfl).trans s1) ((g0 2 rfl rfl).trans s2) dB bn c5 rfl (λi nm I=>by simp at I) c4;obtain⟨T4,w4,h4,aG,cC,bx,bw,s8,c9,m4⟩:=h3.last bc;obtain⟨b7,bf,cq,bL⟩:=J.row;have a5:w4.heap[w.heap.size]?=some (.cells b7 171 (0,0)):=(aG _ J.lt).trans bf;have bz:∀b,b<w'.heap.size->w4.heap[b]?=w'.heap[b]?:=λb f=>((aG b (Nat.lt_trans (by omega) J.lt)).trans (J.low b (by omega))).trans (b6 f);have g1:=λt (h:mH.contains t=false) (h':cU.contains t=false) (bo:(8::17::cU).contains t=false)=>(m4.same t bo).trans ((m3.same t h').trans (g0 t h h'));have t6:T4.getD 6 undef=.slice none 0 0:=(m4.same 6 rfl).trans ((m3.same 6 rfl).trans ((m2.same 6 rfl).trans s6));have t7:T4.getD 7 undef=.bool false:=(m4.same 7 rfl).trans ((m3.same 7 rfl).trans ((m2.same 7 rfl).trans s7));have af:T4.size=(T0F Y).size:=m4.size.trans (m3.size.trans (m2.size.trans m1.size));obtain⟨cz,c1,C,q,cd⟩:=h4;obtain⟨x,xs,_,_,ax,e2⟩:=q.st.ne';cases e2;have hq:=q.st;rw[ax] at hq;have V:=hq.head;have cf:iJ (ai true) C xs (y::ys):=by cases hq with|cons _ h=>exact h
 have H:∀{a b:Nat},C.r a b->b<D->ρ.r a b:=λ{a b} h f=>(q.kept.new h).elim id λh=>by
  have:w.heap.size<=b:=h.2;omega
 have hd:C.dim=ρ.dim/\C.al=ρ.al:=⟨q.le.dim.symm,q.le.al.symm⟩;have ay:C.lax=ρ.lax:=q.le.lax.symm;have aP:∀{i:Nat} {P:Addr} {n m:Nat},i<(T0F Y).size->(T0F Y).getD i undef=.slice (some P) n m->Rgd ⟨R,c,ρ,w,y,ys⟩ P.block->∃b,ρ.r b P.block:=λ{i P n m} I e h=>h.elim id λh=>by
  have f:=aoK (vu I);rw[e] at f;simp only[mxV,mxA] at f;have h':w.heap.size<=P.block:=h;omega
 refine⟨M,A,n,cc,l,A2,E,c2,dI,c1,⟨s0,k1,k2,s1,b3,aV,hl,hp.cells U,λi x hx P b0 m0 e0 hA kh=> ?_,s2,b5,b9,c0,cp,λi nm I=> ?_,λg bZ=> ?_,λP aa=> ?_,λP aa=> ?_⟩,cd,q.will,λb K f b4=>⟨(q.kept.poi f b4).1,λi u hu ca=>((q.kept.poi f b4).2 i u hu ca).1⟩,λwr S W cs bT bS bp cw cx ad co cv aQ br=> ?_⟩
 .-- an item's row
  subst hA;obtain⟨⟨a1,B,c3,f1,f2,f3,f4,f5,f6,f7⟩, -⟩:=hp i x hx;cases f1;rw[lm] at f3;rw[<-U,f3] at kh;cases kh;obtain⟨z,hz⟩:∃z,x.2[0]?=some z:=⟨_,ls (by omega)⟩;obtain⟨⟨a2,ch,bt, -⟩, -⟩:=f7 0 z hz;cases ch;have a4:=gO bt;rw[rx] at a4;have I:i<n:=by rw[<-hl];exact(li.1 hx).1
  rcases hR i I P b0 _ _ rfl f3 with h|h
  .exact h
  .have h':w.heap.size<=b0.block:=h;omega
 .obtain⟨P,f1,f2,f3⟩:=bj i nm I;exact⟨P,f1,(U _).symm.trans f2,f3⟩
 .have:=lc.1 azp g bZ;simp only[qQ,mt] at this;rcases this with rfl|rfl
  .exact lJ ((U _).symm.trans bq)
  .exact lJ ((U _).symm.trans ck)
 .subst aa;exact aP (by omega) s1 (bO P rfl)
 .subst aa;exact aP (by omega) s2 (bE P rfl)
 have cr:w'.heap.size<=w.heap.size:=by omega
 have ct:w.heap.size<w3.heap.size:=J.lt
 let p:Ren:={
  r:=λa b=>ρ.r a b\/(b=S/\C.r a w.heap.size)\/(b=W/\C.r a w3.heap.size)
  lax:=ρ.lax
  dim:=ρ.dim
  al:=ρ.al
  fn:=λ{a b d} h k=>by
   rcases h with h|⟨rfl,h⟩|⟨rfl,h⟩<;>rcases k with k|⟨rfl,k⟩|⟨rfl,k⟩
   .exact ρ.fn h k
   .have:=C.fn (q.le.r h) k;have:=(F.lt h).2;omega
   .have:=C.fn (q.le.r h) k;have:=(F.lt h).2;omega
   .have:=C.fn (q.le.r k) h;have:=(F.lt k).2;omega
   .rfl
   .have:=C.fn h k;omega
   .have:=C.fn (q.le.r k) h;have:=(F.lt k).2;omega
   .have:=C.fn h k;omega
   .rfl
  inj:=λ{a b d} h k=>by
   rcases h with h|⟨rfl,h⟩|⟨rfl,h⟩<;>rcases k with k|⟨e,k⟩|⟨e,k⟩
   .exact ρ.inj h k
   .have:=(F.lt h).2;omega
   .have:=(F.lt h).2;omega
   .have:=(F.lt k).2;omega
   .exact C.inj h k
   .exact absurd e ad
   .have:=(F.lt k).2;omega
   .exact absurd e.symm ad
   .exact C.inj h k
  kW:=λ{a b} h=>by
   have:=F.kW.2;rcases h with h|⟨rfl,h⟩|⟨rfl,h⟩
   .exact ρ.kW h
   .have:=C.kW h;omega
   .have:=C.kW h;omega}
 have a3:ρ.Le p:=⟨.inl,rfl,rfl,rfl⟩;have down:∀{u v:Value},VR C u v->mxV v<=D->VR p u v:=λh f=>(VR.down hd H h f).mono a3;have aK:∀{u:Value},VR C u (.slice (some ⟨w.heap.size,0,none⟩) E E)->VR p u (.slice (some ⟨S,0,none⟩) E E):=λ{u} h=>by
  cases h with
  |slice hA=>cases hA with
   |some hA=>cases hA with
    |mk h o s=>exact .slice (.some (.mk (Or.inr (Or.inl ⟨rfl,h⟩)) 0 none)) _ _
  |fV hl _=>exact .fV (hd.1▸hl) rfl
 have c8:∀{u:Value},VR C u (.pointer (some ⟨w3.heap.size,0,none⟩))->VR p u (.pointer (some ⟨W,0,none⟩)):=λ{u} h=>by
  cases h with
  |pointer hA=>cases hA with
   |some hA=>cases hA with
    |mk h o s=>exact .pointer (.some (.mk (Or.inr (Or.inr ⟨rfl,h⟩)) 0 none))
  |fV hl _=>exact .fV (hd.1▸hl) rfl
 have zr:∀{n:Nat} {z z':Nat×Nat},ZR C n z z'->ZR p n z z':=λh=>by
  unfold ZR at h ⊢;rw[ay] at h;exact h
 have ci:b7=cs:=by
  apply sF;intro i;rcases pm i (2*E) with I|I
  .obtain⟨j,hj⟩:∃j,i=2*j\/i=2*j+1:=⟨i / 2,by omega⟩;obtain⟨nm,X⟩:∃nm,dI[j]?=some nm:=⟨_,ls (by omega)⟩;have b1:=bL j (Z M l nm) (by rw[qz,X];rfl);have b2:=aQ j nm X;rcases hj with rfl|rfl
   .rw[b1.1,b2.1]
   .rw[b1.2,b2.2]
  .rw[qg (by omega),qg (by omega)]
 refine⟨p,(T4.setIfInBounds 17 (.slice (some ⟨S,0,none⟩) E E)).setIfInBounds 8 (.pointer (some ⟨W,0,none⟩)),a3, ?_,⟨λ{b K} f=> ?_, ?_, ?_, ?_⟩, ?_,by simpa using af,λi I=> ?_, ?_, ?_, ?_, ?_,λi I=> ?_⟩
 .-- frames
  rw[ax];refine .cons ⟨V.fn, ?_, ?_, ?_,V.mode,V.kind, ?_⟩ ((iJ.down hd H q.le (e1▸a7) cf bI).mono a3)
  .refine anj (by simp only[Array.size_setIfInBounds];exact bU.size V.tmps) λi u v hu G=> ?_;by_cases i8:i=8
   .subst i8;rw[qb (by simp;omega)] at G;cases G;exact c8 (dm.at V.tmps hu (by rw[<-s8];exact vu (by show 8<T4.size;omega)))
   rw[jn (λe=>i8 e.symm)] at G;by_cases a6:i=17
   .subst a6;rw[qb (by omega)] at G;cases G;exact aK (dm.at V.tmps hu (by rw[<-bw];exact vu (by show 17<T4.size;omega)))
   rw[jn (λe=>a6 e.symm)] at G;have N:VR C u v:=dm.at V.tmps hu G;have L:=aoI G;cases a0:cU.contains i with
   |true=>
    rw[c9 i a0] at L;subst L;exact down N (by simp only[mxV];omega)
   |false=>
    by_cases i6:i=6
    .subst i6;rw[t6] at L;subst L;exact down N (by simp only[mxV,mxA];omega)
    by_cases i7:i=7
    .subst i7;rw[t7] at L;subst L;exact down N (by simp only[mxV];omega)
    have cm:(T0F Y).getD i undef=v:=by
     rw[<-L];exact(g1 i (by simp only[mH,tu,a0];simp[i6,i7]) a0 (by simp only[tu,a0];simp[i8,a6])).symm
    have a9:(T0F Y)[i]?=some v:=by
     have a4:i<(T0F Y).size:=by rw[<-af];exact(dq.1 G).1
     rw[<-cm];exact vu a4
    exact down N (db (aoK a9) cn)
  .have ht:=V.todo;generalize x.todo=td at ht ⊢;cases ht with
   |cons T O=>cases T;cases O;exact .cons (.code _) .nil
  .have ht:=V.defers;generalize x.defers=td at ht ⊢;cases ht;exact .nil
  .have ht:=V.round;generalize x.roundOf=td at ht ⊢;cases ht;exact .none
 .-- objects
  rcases f with f|⟨rfl,f⟩|⟨rfl,f⟩
  .obtain⟨o,o',T,O,h3⟩:=q.wr.obj (q.le.r f);obtain⟨u,u',k1,k2,k3⟩:=F.obj f;have e:=bz K (F.lt f).2;rw[O,k2] at e;cases e;exact⟨o,o',T,(bT _ _ f).trans k2,(OR.down hd H ay q.le k3 h3 (db (aoH (i:=K) (by rw[eg];exact k2)) ba)).mono a3⟩
  .obtain⟨o,o',T,O,h3⟩:=q.wr.obj f;rw[a5] at O;cases O;cases h3 with
   |@cells cl _ kh _ z _ a8=>
    refine⟨_,_,T,co, ?_⟩;subst ci;refine .cells (anj (by simpa using kh.length) λi u v hu G=> ?_) _ (zr a8);have N:=dm.at kh hu G;obtain⟨j,hj⟩:∃j,i=2*j\/i=2*j+1:=⟨i / 2,by omega⟩;have I:=(dq.1 G).1;obtain⟨nm,X⟩:∃nm,dI[j]?=some nm:=⟨_,ls (by omega)⟩;have b2:=aQ j nm X;rcases hj with rfl|rfl
    .rw[b2.1] at G;cases G;exact down N (by simp only[mxV];omega)
    .rw[b2.2] at G;cases G;exact down N (by simp only[mxV];omega)
  .obtain⟨o,o',T,O,h3⟩:=q.wr.obj f;rw[bx] at O;cases O;cases h3 with
   |@cells cl _ kh _ z _ a8=>
    refine⟨_,_,T,br,.cells (anj (by simpa using kh.length) λi u v hu G=> ?_) _ (zr a8)⟩;have I:=(dq.1 G).1;have a9:i=0:=by simpa using I
    subst a9;cases G;exact aK (dm.at kh hu rfl)
 .exact q.kept.os.1.trans (F.os.trans bS.symm)
 .exact db F.kW.1 q.kept.size
 .exact db F.kW.2 bp
 .rintro b K (h|⟨rfl,_⟩|⟨rfl,_⟩)
  .exact .inl h
  .exact .inr (.inl rfl)
  .exact .inr (.inr rfl)
 .rw[aH (by simp;omega),bv (by omega),aH (by omega),bv (by omega)];have:i=0\/i=1\/i=2:=by omega
  rcases this with rfl|rfl|rfl
  .exact g1 0 rfl rfl rfl
  .exact g1 1 rfl rfl rfl
  .exact g1 2 rfl rfl rfl
 .rw[aH (by simp;omega),bv (by decide),aH (by omega),bv (by decide)];exact t6
 .rw[aH (by simp;omega),bv (by decide),aH (by omega),bv (by decide)];exact t7
 .rw[aH (by simp;omega),dj rfl]
 .rw[aH (by simp;omega),bv (by decide),aH (by omega),dj rfl]
 .obtain⟨i1,i2,i3,i4,i5⟩:=atu I;have e:((T4.setIfInBounds 17 (.slice (some ⟨S,0,none⟩) E E)).setIfInBounds 8 (.pointer (some ⟨W,0,none⟩))).getD i undef=T4.getD i undef:=by
   rw[aH (by simp;omega),bv i4,aH (by omega),bv i5]
  exact e.trans (g1 i i1 i2 i3)
end
section
open Go Go.Conc Go.ConcN Go.RowKit
def plV(V:Nat->Prop):Value->Prop
 |.int k _=>k ≠ .u8
 |.string _=>True
 |.slice (some a) _ _=>V a.block
 |_=>False
def atx:Value->Bool
 |.func (.method _) _ _=>true
 |_=>false
mutual
def af6:Value->List Value
 |.agg ⟨l⟩=>pW l
 |.tuple ⟨l⟩=>pW l
 |v=>if atx v then[v] else[]
def pW:List Value->List Value
 |[]=>[]
 |v::l=>af6 v++pW l
end
def ahv:∀{l:List Value} {i:Nat} {v x:Value},l[i]?=some v->x∈af6 v->x∈pW l
 |[],i,v,x,h,_=>by simp at h
 |y::l,0,v,x,h,hx=>by simp at h;subst h;simp only[pW];exact rJ _ hx
 |y::l,i+1,v,x,h,hx=>by simp only[pW];exact rS _ (ahv (i:=i) (by simpa using h) hx)
def aBM:Obj->List Value
 |.cells c _ _=>pW c.toList
 |_=>[]
def fj(w:World):List Value:=w.heap.toList.flatMap aBM
def ahw{c:Array Value}{x : Value}(a:w.heap[b]?=some (.cells c t z))(hi:c[i]?=some v)(d:x∈af6 v):x∈fj w:=
 ph.2 ⟨.cells c t z,aE (i:=b) (by rw[eg];exact a),by
  show x∈pW c.toList;exact ahv (i:=i) (by rw[eg];exact hi) d⟩
section
variable {ρ:Ren} (hl:ρ.dim=true)
include hl
mutual
theorem azs:∀(v:Value),(∀x∈af6 v,∃k,ρ.al k=some x)->∃u,VR ρ u v/\(∀k,u ≠ .int .u8 k)/\(aev u\/∀(g:Ren) d,g.al=ρ.al->VR g u d->d=v)
 |.bool b,_=>⟨_,.bool b,(λk e=>by cases e),.inr λg d _ h=>by cases h;rfl⟩
 |.int k n,_=>⟨_,.fV hl rfl,(λk e=>by cases e),.inl (.inl ⟨_,rfl⟩)⟩
 |.float k n,_=>⟨_,.fV hl rfl,(λk e=>by cases e),.inl (.inl ⟨_,rfl⟩)⟩
 |.complex k n m,_=>⟨_,.fV hl rfl,(λk e=>by cases e),.inl (.inl ⟨_,rfl⟩)⟩
 |.string s,_=>⟨_,.string s,(λk e=>by cases e),.inr λg d _ h=>by cases h;rfl⟩
 |.pointer none,_=>⟨_,.pointer .none,(λk e=>by cases e),.inr λg d _ h=>by cases h with|pointer h=>cases h;rfl⟩
 |.pointer (some a),_=>⟨_,.fV hl rfl,(λk e=>by cases e),.inl (.inl ⟨_,rfl⟩)⟩
 |.slice a l c,_=>⟨_,.fV hl rfl,(λk e=>by cases e),.inl (.inl ⟨_,rfl⟩)⟩
 |.map a,_=>⟨_,.fV hl rfl,(λk e=>by cases e),.inl (.inl ⟨_,rfl⟩)⟩
 |.chan a,_=>⟨_,.fV hl rfl,(λk e=>by cases e),.inl (.inl ⟨_,rfl⟩)⟩
 |.func (.func f) a c,_=>⟨_,.fV hl rfl,(λk e=>by cases e),.inl (.inl ⟨_,rfl⟩)⟩
 |.func (.methodOf t f) a c,_=>⟨_,.fV hl rfl,(λk e=>by cases e),.inl (.inl ⟨_,rfl⟩)⟩
 |.func (.via t p f q) a c,_=>⟨_,.fV hl rfl,(λk e=>by cases e),.inl (.inl ⟨_,rfl⟩)⟩
 |.func (.yield f) a c,_=>⟨_,.fV hl rfl,(λk e=>by cases e),.inl (.inl ⟨_,rfl⟩)⟩
 |.func (.method n) a c,hm=>by
  obtain⟨k,z⟩:=hm (.func (.method n) a c) (by simp[af6,atx]);refine⟨_,.abt k z,(λk e=>by cases e),.inr λg d B h=> ?_⟩;generalize i:aoT k=u at h;cases h with
  |abt D j=>
   have e:k=D:=by
    unfold aoT at i;injection i with _ _ A
    have:=gn Array.size A;simpa using this
   subst e;rw[B,z] at j;exact(ef j).symm
  |func o _ _=>
   unfold aoT at i;injection i with C _ _
   subst C;cases o with
   |same f o=>cases o
  |_=>unfold aoT at i;cases i
 |.nilFunc,_=>⟨_,.nilFunc,(λk e=>by cases e),.inr λg d _ h=>by cases h;rfl⟩
 |.iface t v,_=>⟨_,.fV hl rfl,(λk e=>by cases e),.inl (.inl ⟨_,rfl⟩)⟩
 |.nilIface,_=>⟨_,.nilIface,(λk e=>by cases e),.inr λg d _ h=>by cases h;rfl⟩
 |.agg ⟨l⟩,hm=>by
  obtain⟨r,w⟩:=azt l λx y=>hm x (by simpa only[af6] using y);exact⟨.agg ⟨r⟩,.agg w,(λk e=>by cases e),.inl (.inr ⟨_,rfl⟩)⟩
 |.tuple ⟨l⟩,hm=>by
  obtain⟨r,w⟩:=azt l λx y=>hm x (by simpa only[af6] using y);exact⟨.tuple ⟨r⟩,.tuple w,(λk e=>by cases e),.inl (.inl ⟨_,rfl⟩)⟩
theorem azt:∀(l:List Value),(∀x∈pW l,∃k,ρ.al k=some x)->∃a,bU ρ a l
 |[],_=>⟨[],.nil⟩
 |v::l,hm=>by
  obtain⟨x,c,_⟩:=azs v λx b=>hm x (by simp only[pW];exact rJ _ b);obtain⟨a,d⟩:=azt l λx b=>hm x (by simp only[pW];exact rS _ b);exact⟨x::a,.cons c d⟩
end
end
def akK(L:List Value)(k:Nat):Option Value:=L[k]?
def akL{L:List Value}{x:Value}(h:x∈L):∃k,akK L k=some x:=by
 obtain⟨k,a,e⟩:=uK.1 h;exact⟨k,by unfold akK;rw[ls a,e]⟩
def anl{ρ:Ren}{Q:Nat->Value->Value->Prop}:∀(l:List Value) (j:Nat),(∀i v,l[i]?=some v->∃u,VR ρ u v/\Q (j+i) u v)->∃d,bU ρ d l/\∀i v,l[i]?=some v->∃u,d[i]?=some u/\Q (j+i) u v
 |[],_,_=>⟨[],.nil,λi v h=>by simp at h⟩
 |v::l,j,h=>by
  obtain⟨u,m,e⟩:=h 0 v rfl;obtain⟨d,f,k⟩:=anl l (j+1) λi x c=>by
   obtain⟨u,a,b⟩:=h (i+1) x (by simpa using c);exact⟨u,a,by rwa [show j+1+i=j+(i+1) by omega]⟩
  refine⟨u::d,.cons m f,λi x c=> ?_⟩;cases i with
  |zero=>simp at c;subst c;exact⟨u,rfl,e⟩
  |succ i=>
   obtain⟨g,a,b⟩:=k i x (by simpa using c);exact⟨g,by simpa using a,by rwa [show j+1+i=j+(i+1) by omega] at b⟩
def Ren.rows(V:Nat->Prop)(lax:Bool)(L:List Value):Ren where
 r a b:=a=b/\V a
 lax:=lax
 dim:=true
 al:=akK L
 fn:=λh k=>h.1.symm.trans k.1
 inj:=λh k=>h.1.trans k.1.symm
 kW:=λh=>by rw[h.1]
def axA{V:Nat->Prop}(w:World)(F:∀b,V b->Obj):∃a:Array Obj,a.size=w.heap.size/\(∀b (h:V b),b<w.heap.size->a[b]?=some (F b h))/\∀b,¬V b->a[b]?=w.heap[b]?:=by
 classical
 refine⟨Array.ofFn λi:Fin w.heap.size=>if h:V i.1 then F i.1 h else w.heap[i],by simp,λb h c=> ?_,λb h=> ?_⟩
 .rw[wm,tF c];simp only[tF h]
 .rw[wm];by_cases c:b<w.heap.size
  .rw[tF c,gt c];simp only[dif_neg h];rfl
  .rw[dif_neg c,qg (by omega)]
theorem mask{w:World}{V:Nat->Prop}(hV:∀b,V b->eJ w b)(hg:∀g∈gL,V g)(hN:gN<=w.heap.size) :
  ∃wL:World,WR (Ren.rows V true (fj w)) wL w/\GlR (Ren.rows V true (fj w))/\wL.heap.size=w.heap.size/\(∀b,V b->bJ wL b/\NoB wL b)/\∀A v,w.cell? A=some v->V A.block->plV V v->wL.cell? A=some v:=by
 classical
 have row:∀b,V b->∃(c:Array Value) (t:TypeId) (z:Nat×Nat) (xs:List Value),w.heap[b]?=some (.cells c t z)/\bU (Ren.rows V true (fj w)) xs c.toList/\∀(i:Nat) v,c.toList[i]?=some v->∃u,xs[i]?=some u/\((∀k,u ≠ .int .u8 k)/\(plV V v->u=v)):=λb hb=>by
  obtain⟨c,t,z,hc⟩:=hV b hb;obtain⟨xs,h1,h2⟩:=anl (ρ:=Ren.rows V true (fj w)) (Q:=λ_ u v=>(∀k,u ≠ .int .u8 k)/\(plV V v->u=v)) c.toList 0 λi v hi=>by
   by_cases hp:plV V v
   .cases v with
    |int k n=>exact⟨_,.int k n,(λk' e=>by cases e;exact hp rfl),λ_=>rfl⟩
    |string s=>exact⟨_,.string s,(λk e=>by cases e),λ_=>rfl⟩
    |slice a l c=>cases a with
     |none=>exact hp.elim
     |some a=>
      obtain⟨b,o,s⟩:=a;have hr:(Ren.rows V true (fj w)).r b b:=⟨rfl,hp⟩;exact⟨_,.slice (.some (.mk hr o s)) l c,(λk e=>by cases e),λ_=>rfl⟩
    |_=>exact hp.elim
   .obtain⟨u,h1,h2, -⟩:=azs (ρ:=Ren.rows V true (fj w)) rfl v λx hx=>akL (ahw hc (i:=i) (by rw[<-eg];exact hi) hx);exact⟨u,h1,h2,λh=>absurd h hp⟩
  exact⟨c,t,z,xs,hc,h1,h2⟩
 let F:∀b,V b->Obj:=λb hb=>.cells ⟨(row b hb).choose_spec.choose_spec.choose_spec.choose⟩ (row b hb).choose_spec.choose (0,max ((row b hb).choose.size+1) (row b hb).choose_spec.choose_spec.choose.2)
 have hF:∀b (hb:V b),∃(c:Array Value) (t:TypeId) (z:Nat×Nat) (xs:List Value),w.heap[b]?=some (.cells c t z)/\bU (Ren.rows V true (fj w)) xs c.toList/\(∀(i:Nat) v,c.toList[i]?=some v->∃u,xs[i]?=some u/\((∀k,u ≠ .int .u8 k)/\(plV V v->u=v)))/\F b hb=.cells ⟨xs⟩ t (0,max (c.size+1) z.2):=λb hb=>
  let h:=(row b hb).choose_spec.choose_spec.choose_spec.choose_spec
  ⟨_,_,_,_,h.1,h.2.1,h.2.2,rfl⟩
 obtain⟨heap,hs,h1,h2⟩:=axA w F;have aba:∀b,V b->∃(c:Array Value) (t:TypeId) (z:Nat×Nat) (xs:List Value),w.heap[b]?=some (.cells c t z)/\heap[b]?=some (.cells ⟨xs⟩ t (0,max (c.size+1) z.2))/\bU (Ren.rows V true (fj w)) xs c.toList/\∀(i:Nat) v,c.toList[i]?=some v->∃u,xs[i]?=some u/\((∀k,u ≠ .int .u8 k)/\(plV V v->u=v)):=λb hb=>by
  obtain⟨c,t,z,xs,k1,k2,k3,k4⟩:=hF b hb;exact⟨c,t,z,xs,k1,(h1 b hb (dq.1 k1).1).trans (gn some k4),k2,k3⟩
 refine⟨{w with heap},⟨λ{b b'} hb=> ?_,rfl,by show gN<=heap.size;omega,hN⟩,λg mg=>⟨rfl,hg g mg⟩,hs,λb hb=> ?_,λA v hc hA hp=> ?_⟩
 .obtain⟨rfl,hb⟩:=hb;obtain⟨c,t,z,xs,k1,k2,k3, -⟩:=aba b hb;have hlen:=k3.length;refine⟨_,_,k2,k1,.cells k3 t (.inr ⟨rfl,rfl, ?_,.inr ?_⟩)⟩
  .show xs.length<max _ _;simp at hlen;omega
  .show z.2<=max _ _;omega
 .obtain⟨c,t,z,xs,k1,k2,k3,k4⟩:=aba b hb;have hlen:=k3.length;simp at hlen;refine⟨⟨_,_,_,k2,rfl, ?_, ?_⟩,λc' t' z' hc' i k e=> ?_⟩
  .show xs.length<=max _ _;omega
  .show 0<max _ _;omega
  .have:heap[b]?=some (.cells c' t' z'):=hc';rw[k2] at this;cases this;have hi:i<c.toList.length:=by
    have:=(dq.1 e).1;simp at this ⊢;omega
   obtain⟨u,q1,q2, -⟩:=k4 i _ (ls hi);have e':xs[i]?=some (.int .u8 k):=by simpa using e
   rw[q1] at e';exact q2 k (ef e')
 .obtain⟨c,t,z,xs,k1,k2,k3,k4⟩:=aba A.block hA;have k2':({w with heap}:World).heap[A.block]?=some (.cells ⟨xs⟩ t (0,max (c.size+1) z.2)):=k2;unfold World.cell? at hc ⊢;rw[k2'];rw[k1] at hc;cases hsp:A.spot with
  |some s=>simp[hsp] at hc
  |none=>
   simp[hsp] at hc ⊢;obtain⟨u,q1, -,q2⟩:=k4 A.off v (by rw[eg];exact hc);rw[q1,q2 hp]
end
section
open Go Go.Conc Go.ConcN Go.RowKit
def pX(Rr:aq)(S S':aq)(w w':World)(es:Array Event):Prop:=
 (∀b,b<w.heap.size->¬S b->w'.heap[b]?=w.heap[b]?)/\w.heap.size<=w'.heap.size/\w'.ou=w.ou/\S'=(λb=>S b\/(w.heap.size<=b/\b<w'.heap.size))/\∀e∈es,ni S' Rr w'.heap.size e
structure pY (Rl:aq->World->World->Prop) (Rr:aq):Prop where
 fZ:∀S w,Rl S w w
 tr:∀S a b c,Rl S a b->Rl S b c->Rl S a c
 rl:∀S w w1,Rl S w w1->(∀b,S b\/Rr b->w1.heap[b]?=w.heap[b]?)/\w.heap.size<=w1.heap.size/\w1.ou=w.ou
def pY.cmp{Rl:aq->World->World->Prop}(h:pY Rl Rr):Cmp Rl (pX Rr) Rr:=⟨h.fZ,h.tr,h.rl,λ_ _ _ _ a b c d=>⟨a,b,c,rfl,d⟩⟩
section
variable {P:Program} {main:Bool} {Rl:aq->World->World->Prop} {Gr Gr2:aq->aq->World->World->Array Event->Prop} {Stop ahx:aq->Goroutine->World->Prop} {Inv:aq->World->Prop}
def GoT.inv(i:∀S w a,Inv S w->Rl S w a->Inv S a)(k:∀S d w c e,Inv S w->Gr S d w c e->Gr2 S d w c e/\Inv d c)(j:∀S g w,Stop S g w->Inv S w->ahx S g w):∀{T:jH} {S:aq} {g:Goroutine} {w:World},GoT P main Rl Gr Stop T S g w->Inv S w->GoT P main Rl Gr2 ahx T S g w
 |.leaf,_,_,_,h,hi=>λa b=>j _ _ _ (h a b) (i _ _ _ hi b)
 |.node f,_,_,_,h,hi=>Or.imp (λh a b=>j _ _ _ (h a b) (i _ _ _ hi b)) (λx=>⟨x.1,λa b=>
   let⟨q,c,e,d,o,l,m⟩:=x.2 a b
   let⟨n,p⟩:=k _ _ _ _ _ (i _ _ _ hi b) l
   ⟨q,c,e,d,o,n,GoT.inv i k j m p⟩⟩) h
def bK.inv(f:∀S w c,Inv S w->Rl S w c->Inv S c)(i:∀S a w b d,Inv S w->Gr S a w b d->Gr2 S a w b d/\Inv a b)(e:∀S g w,Stop S g w->Inv S w->ahx S g w)(h:bK P main Rl Gr Stop S g w)(hi:Inv S w):bK P main Rl Gr2 ahx S g w:=
 let⟨T,h⟩:=h;⟨T,GoT.inv f i e h hi⟩
end
def anm   :(Frame.enter P f a .normal).mode=.run:=by
 unfold Frame.enter;cases P.funcs[f]?<;>rfl
def aqy{c:Cfg}{m:List Frame}(q:ku (ai false) R c)(i:c.l=Frame.enter (ai false) cD a .normal::m):False:=by
 obtain⟨n,t,s,d,f, -⟩:=q c.t λ_ _ _=>rfl;have b:c.l≠[]:=by rw[i];simp
 cases n with
 |zero=>
  simp only[runN,qM] at d;obtain⟨e, -⟩:=ij d;obtain rfl:=nK b f.ne e;obtain⟨u,l,p, -⟩:=f;rw[i] at l;cases l;rw[anm] at p;cases p
 |succ n=>
  unfold runN at d;have r:Frame.enter (ai false) cD a .normal=⟨cD,T0F a,[.code (.refuse "")],[],.run,.normal,none⟩:=by
   have f:(ai false).funcs[cD]?=some (qFA false):=acU false;unfold Frame.enter;rw[f];rfl
  have g:∃o j k,stepG (ai false) true (Gl c.l [kq (ai false)]) (c.w.dN c.t)=.ended o j k:=by
   rw[i,r];simp only[Gl,stepG,stepG.exec];exact⟨_,_,_,rfl⟩
  obtain⟨o,j,k,g⟩:=g;rw[cE (jl b _) g] at d;cases d
def aBN:kH (λ_=>false) (f198.body.getD .skip)=false:=by kernel_rfl
def aBO:kH (λ_=>false) (f67.body.getD .skip)=false:=by kernel_rfl
def adR{fn:Func}(h:prog.funcs[f]?=some fn)(b:fn.body.isSome=true)(a:Array Value):(Frame.enter prog f a .normal).todo=[.code (fn.body.getD .skip)]:=by
 unfold Frame.enter;rw[h];obtain⟨c,d⟩:=rD.1 b;simp[d]
def axB(d:kH U (f198.body.getD .skip)=false)(c:kH U (f67.body.getD .skip)=false):∀f,gH f=true->∀a,(Frame.enter prog f a .normal).todo.all (mv U)=false:=λf b a=>by
 rcases xl b with rfl|rfl
 .rw[adR func67 anT];simp only[qx,vA,uv,mv];exact c
 .rw[adR func198 anS];simp only[qx,vA,uv,mv];exact d
def aiT:gH 110=false:=by unfold gH;kernel_rfl
def akM{A:Addr}{c:Array Value}(h:w.heap[A.block]?=some (.cells c t z))(a:w.cell? A=some v):c[A.off]?=some v:=by
 unfold World.cell? at a;rw[h] at a;cases b:A.spot with
 |some s=>simp[b] at a
 |none=>simpa[b] using a
def RgP(Rg:Nat->Prop)(w:World)(A:Option Addr)(l:List ig):Prop:=∀i x,l[i]?=some x->∀a b m e,A=some a->w.cell? ((a.add (i*2)).add 1)=some (.slice (some b) m e)->Rg b.block
def RgP.move(h:RgP Rg w A l)(j:∀a,A=some a->Rg a.block)(d:∀b,Rg b->w'.heap[b]?=w.heap[b]?):RgP Rg w' A l:=λi x f a b m e c g=>
 h i x f a b m e c ((gK (by rw[rx,rx];exact d _ (j a c))).symm.trans g)
def RdP.mask    (h:RdP w A 0 l) (C:RgP Rg w A l) (q:∀a,A=some a->Rg a.block)
  (f:∀A v,w.cell? A=some v->Rg A.block->plV (λb=>Rg b/\eJ w b) v->w'.cell? A=some v):RdP w' A 0 l:=λi x r=>by
 obtain⟨⟨a,B,c,g,u,n,D,E,H,p⟩,F⟩:=h i x r;have o:∀b,B=some b->Rg b.block:=λb z=>by
  subst z;rw[lm] at n;exact C i x r a b _ _ g n
 have k:∀j y,x.2[j]?=some y->aiF w' B (0+j) y:=λj y I=>by
  obtain⟨⟨b,e,m,s⟩,J,t⟩:=p j y I;exact⟨⟨b,e,f _ _ m (by rw[rx];exact o b e) (by show IntKind.i64 ≠ .u8;decide),f _ _ s (by rw[rx,rx];exact o b e) trivial⟩,J,t⟩
 refine⟨⟨a,B,c,g,f _ _ u (by rw[rx];exact q a g) (by show IntKind.i64 ≠ .u8;decide),f _ _ n (by rw[rx,rx];exact q a g) ?_,D,E,H,k⟩,F⟩;obtain⟨y,G⟩:∃y,x.2[0]?=some y:=⟨_,ls (by omega)⟩;obtain⟨⟨b,e,m,s⟩, -⟩:=p 0 y G;subst e;have d:=lJ m;rw[rx] at d;exact⟨o b rfl,d⟩
end
section
open Go Go.Conc Go.ConcN Go.RowKit
def adS   :(Frame.enter P f a .normal).roundOf=none:=by
 unfold Frame.enter;cases P.funcs[f]?<;>rfl
def aqz{b:Bool}{v':Value}(h:VR ρ (.agg #[.string s,.bool b]) v'):v'=.agg #[.string s,.bool b]:=by
 cases h with
 |@agg c e h=>
  obtain⟨l⟩:=e;change bU ρ [.string s,.bool b] l at h;cases h with
  |cons f a=>
   cases f;cases a with
   |cons g d=>cases g;cases d;rfl
def aty (hF:eM Z)  (hN:gN<=w.heap.size) (G:∀g∈gL,Rg g/\eJ w g)    {nm:Int}
  (k1:1<=key) (k2:key<=99) (hl:l.length=n) (x:n<=c) (C:(c:Int)<=9223372036854775807) (q:RdP w A 0 l) (K:RgP Rg w A l) (hA:∀a,A=some a->Rg a.block) (hn:0<n) (F:In_ nm)
  {Rl:aq->World->World->Prop} (d:pY Rl Rr) (hR:∀b,(Rg b/\eJ w b)->Rr b) {cfr:Frame} {cs:List Frame} :
  bK prog main Rl (pX Rr) (λ_ g _=>g=⟨cfr.finish (.agg #[.string (Z key l nm).1,.bool (Z key l nm).2]),cs,.running,none,none⟩) S
   (Gl (Frame.enter prog 110 #[.int .i64 key,.slice A n c,.int .i64 nm] .normal::[]) (cfr::cs)) w:=by
 obtain⟨j,h1,W,h3,h4,h5⟩:=mask (V:=λb=>Rg b/\eJ w b) (λb h=>h.2) G hN;have Q:=q.mask K hA λA v x N hp=>h5 A v x ⟨N,lJ x⟩ hp;obtain⟨y,hy⟩:∃y,l[0]?=some y:=⟨_,ls (by omega)⟩;obtain⟨⟨a,_,_,e1,e2,_⟩,_⟩:=q 0 y hy;subst e1;have i:=lJ e2;rw[rx] at i;have m:(Ren.rows (λb=>Rg b/\eJ w b) true (fj w)).r a.block a.block:=⟨rfl,hA a rfl,i⟩;generalize P:(Ren.rows (λb=>Rg b/\eJ w b) true (fj w))=ρ at h1 W m;have O:∀b r,ρ.r b r->Rr r/\bJ j b/\NoB j b:=λb r u=>by
  subst P;obtain⟨rfl,X⟩:=u;exact⟨hR _ X,h4 _ X⟩
 have p:dm ρ #[.int .i64 key,.slice (some a) n c,.int .i64 nm] #[.int .i64 key,.slice (some a) n c,.int .i64 nm]:=by
  obtain⟨b,o,s⟩:=a;exact .cons (.int _ _) (.cons (.slice (.some (.mk m o s)) _ _) (.cons (.int _ _) .nil))
 have jd:∀t:Tape,Calls (ai false) 110 #[.int .i64 key,.slice (some a) n c,.int .i64 nm] (j.dN t) λe H=>∃v,e=.returned v/\v=.agg #[.string (Z key l nm).1,.bool (Z key l nm).2]:=λt=>by
  refine(hF false (j.dN t) key (some a) n c l nm k1 k2 hl x C (Q.below λb u=>rfl) F).mono ?_;rintro e H ⟨v,rfl,hv, -⟩;exact⟨v,rfl,hv⟩
 generalize (#[.int .i64 key,.slice (some a) n c,.int .i64 nm]:Array Value)=args at p jd
 let R:List Frame->World->Prop:=λfs H=>∃B v,fs=[B]/\B.fn=110/\B.leaving (ai false) H (.returned v)/\v=.agg #[.string (Z key l nm).1,.bool (Z key l nm).2]
 have Y:ku (ai false) R ⟨[Frame.enter (ai false) 110 args .normal],j,λ_ _=>0⟩:=aaJ (Post:=λv _=>v=.agg #[.string (Z key l nm).1,.bool (Z key l nm).2]) λt _=>jd t;have L:Acc (iG (ai false)) ⟨[Frame.enter (ai false) 110 args .normal],j,λ_ _=>0⟩:=Y.acc.transGen;have I:akh (ai false) R Rr S ρ ⟨[Frame.enter (ai false) 110 args .normal],j,λ_ _=>0⟩ [Frame.enter prog 110 args .normal] w:=
  ⟨.one (ahW (mb false) aiT p) adS,h1,W,Y,λb r u=>.inr (O b r u)⟩
 have J:=akj (mb false) (awZ false) d.fZ d.tr d.rl d.cmp.gr (axB aBN aBO) (ahh d.cmp) (main:=main) (base:=cfr::cs) L I (.inl rfl);refine bK.bind d.fZ d.tr J λS1 g w1 ⟨c1,ρ1,l',hor,hle,hS1,oM,aDL,aFi,hW1,pR,_,hend⟩=> ?_;subst oM;rcases hend with⟨hf,f⟩|⟨_,_,_,_,_,_,T,_⟩
 .obtain⟨_,_,y1,a0,_,e3⟩:=f.ne';obtain⟨B,k, -⟩:=id hf;have e4:=f.lone k e3;subst e4 e3;rw[k] at f;refine .step rfl λw2 N=> ?_;obtain⟨r1,r2,r3⟩:=d.rl _ _ _ N;have E:=aDL.rely pR r1 r2 r3;obtain⟨σ,v,v',w3,D,es,M,t,q1,q2,q3,q4,q5,q6,z,q8,q9⟩:=avx (mb false) (t0:=c1.t) (Post:=λv _=>v=.agg #[.string (Z key l nm).1,.bool (Z key l nm).2]) f E λt ht=>by
   obtain⟨cG,v,U,_,e6,e7⟩:=hW1.fin hf acY t ht;rw[k] at U;cases U;exact⟨v,e6,e7⟩
  refine⟨_,D,M,_,q9 main cfr cs,⟨aki pR z,z.size',z.os.2,rfl,asx pR q6 z q8⟩,.stop λ_ _=> ?_⟩;subst q2;rw[aqz q5]
 .exact(aqy hW1 T).elim
end
section
open Go Go.Conc Go.ConcN Go.RowKit
abbrev SN(S:aq)(w w':World):aq:=λb=>S b\/(w.heap.size<=b/\b<w'.heap.size)
section
variable {P:Program} {main:Bool} {Rl:aq->World->World->Prop} {St:aq->Goroutine->World->Prop} {S Rr:aq} {w0:World} {f:FuncId} {T:Array Value} {k:List Item} {xs base:List Frame}
def nk (H:pY Rl Rr) {a:Array Oper} {rest:List Nat} {o:Oper} {d:Tmp} {ob:Obj} (l:d<T.size) (m:a[i]?=some o) (s:o.guard=none) (g:o.dst=some d)
  (p:∀w,(execOp (FQ f T (.inRegion a (i::rest)::k)).eval o).runT P w #[]=(.ok (.value (.pointer (some ⟨w.heap.size,0,none⟩))) (w.alloc ob),#[]))
  (u:∀w,Rl S w0 w->∀T':Array Value,T'.size=T.size->T'.getD d undef=.pointer (some ⟨w.heap.size,0,none⟩)->(∀t,t≠d->T'.getD t undef=T.getD t undef)->∀c,Rl (SN S w (w.alloc ob)) (w.alloc ob) c->bK P main Rl (pX Rr) St (SN S w (w.alloc ob)) (Gl (FQ f T' (.inRegion a rest::k)::xs) base) c) :
  ∀w,Rl S w0 w->bK P main Rl (pX Rr) St S (Gl (FQ f T (.inRegion a (i::rest)::k)::xs) base) w:=λw n=>by
 refine .step rfl λc j=> ?_;have v:=H.tr _ _ _ _ n j;refine⟨_,_,_,_,aow rfl rfl rfl rfl m s (p c),⟨λb r _=>sq c _ b r,by rw[mw];omega,rfl,rfl,λe x=>by cases(by simpa using sZ x:False)⟩, ?_⟩;have:Frame.finish (FQ f T (.inRegion a (i::rest)::k)) (.pointer (some ⟨c.heap.size,0,none⟩))=FQ f (T.setIfInBounds d (.pointer (some ⟨c.heap.size,0,none⟩))) (.inRegion a rest::k):=by
  simp only[Frame.finish,m,qH,g]
 rw[this];exact u c v _ (by simp) (by rw[aH l,dj rfl]) (λt q=>by rw[aH l,bv q]) _ (H.fZ _ _)
end
section
variable {P:Program} (F:FaT P) {w:World} {e:Operand->Value} {x:Operand} {dst:Option Tmp} {ty:TypeId} {pos:String} {af:Array Edge} {gd:Option (Nat×Bool)}
include F
theorem akN:(execOp e ⟨dst,.alloc 171,ty,pos,af,gd⟩).runT P w #[]=(.ok (.value (.pointer (some ⟨w.heap.size,0,none⟩))) (w.alloc (.cells #[.string ⟨#[]⟩,.bool false] 171)),#[]):=by
 obtain⟨i,b,d,c,a⟩:=F.i258;simp[execOp,Instr.alloc,zeroValue,typeInfo,b,a,newVar,newRow,Value.cells]
theorem atA{t:Tmp}(h:e (.tmp t)=.slice A n c):(execOp e ⟨dst,.call ⟨.builtin .len,#[.tmp t],#[23]⟩,ty,pos,af,gd⟩).runT P w #[]=(.ok (.value (.int .i64 n)) w,#[]):=by
 rw[pS (s:=λv=>Builtin.len_ #[23] ty #[v]) λ_ v=>rfl,h];change Sem.runT P (Builtin.len_ #[23] ty #[.slice A n c] >>=λu=>pure (Next.value u)) w #[]=_;simp[Builtin.len_,lw F.u23,goInt]
omit F in
theorem atB{y:Operand}{a b:Int}(d:e x=.int .i64 a)(c:e y=.int .i64 b):(execOp e ⟨dst,.binOp .lss 3 x y 3,ty,pos,af,gd⟩).runT P w #[]=(.ok (.value (.bool (decide (a<b)))) w,#[]):=by
 have:execOp e ⟨dst,.binOp .lss 3 x y 3,ty,pos,af,gd⟩=(binOp .lss 3 (e x) (e y)).bind λv=>Sem.pure (.value v):=rfl;rw[this,d,c];rfl
omit F in
theorem atC:(prog.info? 9).map (·.size ==1)=some true/\(prog.info? 4).map (·.size ==1)=some true:=by
 constructor<;>kernel_rfl
omit F in
theorem akO:(execOp e ⟨dst,.build 171 #[],ty,pos,af,gd⟩).runT prog w #[]=(.ok (.value (.agg #[.string ⟨#[]⟩,.bool false])) w,#[]):=by
 obtain⟨i,d,m,l,b⟩:=faT.i258;obtain⟨f,a,j⟩:=iS.1 atC.1;obtain⟨k,c,g⟩:=iS.1 atC.2;simp[execOp,Instr.build,zeroValue,typeInfo,d,b,lw underlying171,sizeOf,a,c,Instr.fill,Value.cells]
end
end
section
open Go Go.Conc Go.ConcN Go.RowKit
def awe(h:w'.heap.size=w.heap.size):SN S w w'=S:=by
 funext b
 show(S b\/(w.heap.size<=b/\b<w'.heap.size))=S b;rw[h];exact propext ⟨λx=>x.elim id λy=>absurd y.1 (by omega),.inl⟩
def abr{A:Addr}{u c:Value}(b:amQ u=true)(g:w.cell? A=some c)(d:w.frozen? A=false){f:Type}(k:Sem f)(es:Array Event):(Sem.store .plain A u k).runT P w es=k.runT P (w.setCell A u) (es.push ⟨.cell A,true,false⟩):=by
 have a:(∀x,u ≠ .agg x)/\∀x,u ≠ .tuple x:=⟨λx e=>(by subst e;cases b),λx e=>(by subst e;cases b)⟩;rw[sb _ _ _ _ _ _ _ a.1 a.2];simp only[g,d,jp,qG];rfl
section
variable {P:Program} (F:FaT P) {w:World} {e:Operand->Value} {x y:Operand} {dst:Option Tmp} {ty:TypeId} {pos:String} {af:Array Edge} {gd:Option (Nat×Bool)}
include F
theorem ahy{A:Addr}{u0 u1 c0 c1:Value}(m:amQ u0=true)(q:amQ u1=true)(o:e x=.pointer (some A))(l:e y=.agg #[u0,u1])(a:w.cell? A=some c0)(d:w.frozen? A=false)(f:w.cell? (A.add 1)=some c1)(b:w.frozen? (A.add 1)=false) :
  (execOp e ⟨dst,.store 171 x y,ty,pos,af,gd⟩).runT P w #[]=(.ok .skip ((w.setCell A u0).setCell (A.add 1) u1),#[⟨.cell A,true,false⟩,⟨.cell (A.add 1),true,false⟩]):=by
 obtain⟨i,n,r, -⟩:=F.i258;have g:(storeCells A [u0,u1] 0).runT P w #[]=(.ok () ((w.setCell A u0).setCell (A.add 1) u1),#[⟨.cell A,true,false⟩,⟨.cell (A.add 1),true,false⟩]):=by
  show(Sem.store .plain (A.add 0) u0 (Sem.store .plain (A.add 1) u1 (Sem.pure ()))).runT P w #[]=_;have j:A.add 0=A:=by unfold Addr.add;simp
  rw[j,abr m a d,abr q (c:=c1) (by rw[tQ _ _ _ _ (λe=>asS e.symm)];exact f) (by rw[uD];exact b)];rfl
 have p:(storeCells A [u0,u1] 0).run P w=.ok () ((w.setCell A u0).setCell (A.add 1) u1):=by
  rw[<-ru _ _ _ #[]];exact gn Prod.fst g
 have k:(storeCells A [u0,u1] 0).events P w #[]=#[⟨.cell A,true,false⟩,⟨.cell (A.add 1),true,false⟩]:=gn Prod.snd g;simp[execOp,o,l,Instr.storeAt,Instr.sureAddr,storeVar,sizeOf,typeInfo,n,r,Value.cells,p,k]
theorem atD{A:Addr}{u0 u1:Value}{fn:Func}(c:fn.results=#[.cell 6 171])(m:T.getD 6 undef=.pointer (some A))(b:w.cell? A=some u0)(d:w.cell? (A.add 1)=some u1) :
  (results fn T).runT P w #[]=(.ok (.agg #[u0,u1]) w,#[⟨.cell A,false,false⟩,⟨.cell (A.add 1),false,false⟩]):=by
 obtain⟨i,k,p, -⟩:=F.i258;obtain⟨q,j⟩:=F.avI;have e:(loadCells A 2).runT P w #[]=(.ok #[u0,u1] w,#[⟨.cell A,false,false⟩,⟨.cell (A.add 1),false,false⟩]):=by
  show(Sem.load .plain (A.add 0) λo=>Sem.load .plain (A.add 1) λn=>Sem.pure #[o,n]).runT P w #[]=_;have f:A.add 0=A:=by unfold Addr.add;simp
  rw[f,Sem.runT];simp only[b];rw[Sem.runT];simp only[d];rfl
 have l:(loadCells A 2).run P w=.ok #[u0,u1] w:=by
  rw[<-ru _ _ _ #[]];exact gn Prod.fst e
 have g:(loadCells A 2).events P w #[]=#[⟨.cell A,false,false⟩,⟨.cell (A.add 1),false,false⟩]:=gn Prod.snd e;have a:T[6]?.getD undef=.pointer (some A):=by rw[<-ip];exact m
 simp[results,c,a,asAddr,loadVar,isAgg,lw j,sizeOf,typeInfo,k,p,l,g]
end
def awf{Rl:aq->World->World->Prop}(H:pY Rl Rr){nm : Int}{cfr:Frame}{cs:List Frame} :
  bK prog main Rl (pX Rr) (λ_ g _=>g=⟨cfr.finish (.agg #[.string ⟨#[]⟩,.bool false]),cs,.running,none,none⟩) S
   (Gl (Frame.enter prog 110 #[.int .i64 key,.slice A 0 c,.int .i64 nm] .normal::[]) (cfr::cs)) w:=by
 have C:=H.cmp;have F:Frame.enter prog 110 #[.int .i64 key,.slice A 0 c,.int .i64 nm] .normal=FQ 110 (#[.int .i64 key,.slice A 0 c,.int .i64 nm]++Array.replicate 26 undef) [.code (f110.body.getD .skip)]:=by
  unfold Frame.enter;rw[func110];rfl
 rw[F];obtain⟨T,hT,j,R⟩:∃T:Array Value,T=#[.int .i64 key,.slice A 0 c,.int .i64 nm]++Array.replicate 26 undef/\29<=T.size/\T.getD 1 undef=.slice A 0 c:=⟨_,rfl,by simp,by rw[ip,rP (by simp)];rfl⟩;rw[<-hT];clear hT F;simp only[f110,qo];have key:∀y,Rl S w y->bK prog main Rl (pX Rr) (λ_ g _=>g=⟨cfr.finish (.agg #[.string ⟨#[]⟩,.bool false]),cs,.running,none,none⟩) S (Gl (FQ 110 T [.code (f110.body.getD .skip)]::[]) (cfr::cs)) y:=by
  simp only[f110,qo];refine eI C (gz C (l:=[0]) rfl (nk H (d:=6) (bd (by decide) j) rfl rfl rfl (λw=>akN faT) λn bq T1 a k o=> ?_));replace R:=(o 1 (by decide)).trans R;replace j:=db j (mu a.symm);clear o a;have hB:(n.alloc (.cells #[.string ⟨#[]⟩,.bool false] 171)).heap[n.heap.size]?=some (.cells #[.string ⟨#[]⟩,.bool false] 171 (0,0)):=by
   show(n.heap.push _)[n.heap.size]?=_;rw[qS]
  have s:SN S n (n.alloc (.cells #[.string ⟨#[]⟩,.bool false] 171)) n.heap.size:=.inr ⟨am _,by rw[mw];omega⟩;have I:n.heap.size<(n.alloc (.cells #[.string ⟨#[]⟩,.bool false] 171)).heap.size:=by rw[mw];omega
  generalize SN S n (n.alloc (.cells #[.string ⟨#[]⟩,.bool false] 171))=S1 at s ⊢;generalize n.alloc (.cells #[.string ⟨#[]⟩,.bool false] 171)=w2 at hB I ⊢;generalize n.heap.size=B at hB s k I;refine iz C (eI C (eI C (gz C (l:=[0,1,2]) rfl ?_)));refine bP C (d:=11) (v:=.slice A 0 c) (es:=#[]) (bd (by decide) j) rfl rfl rfl (λw r=>fI R) (λw r=>bA _) λT2 a U o=> ?_;replace k:=(o 6 (by decide)).trans k;replace j:=db j (mu a.symm);clear o a;refine bP C (d:=12) (v:=.int .i64 (0:Nat)) (es:=#[]) (bd (by decide) j) rfl rfl rfl (λw r=>atA faT U) (λw r=>bA _) λT3 a E o=> ?_;replace k:=(o 6 (by decide)).trans k;replace j:=db j (mu a.symm);clear o a;refine bP C (d:=13) (v:=.int .i64 0) (es:=#[]) (bd (by decide) j) rfl rfl rfl (λw r=>fI rfl) (λw r=>bA _) λT4 a a0 o=> ?_;replace k:=(o 6 (by decide)).trans k;replace E:=(o 12 (by decide)).trans E;replace j:=db j (mu a.symm);clear o a;refine iz C (afM C (aoy C (eI C (gz C (l:=[0]) rfl ?_))));refine bP C (d:=14) (v:=.bool (decide ((0:Int)<((0:Nat):Int)))) (es:=#[]) (bd (by decide) j) rfl rfl rfl (λw r=>atB a0 E) (λw r=>bA _) λT5 a z o=> ?_;replace k:=(o 6 (by decide)).trans k;replace j:=db j (mu a.symm);clear o a;replace z:T5.getD 14 undef=.bool false:=z.trans rfl;refine iz C (eI C (acv C (q:=false) z ?_));simp only[jp,qG];refine aoz C rfl (eI C (gz C (l:=[0,1]) rfl ?_));refine bP C (d:=28) (v:=.agg #[.string ⟨#[]⟩,.bool false]) (es:=#[]) (bd (by decide) j) rfl rfl rfl (λw r=>akO) (λw r=>bA _) λV a ja o=> ?_;replace k:=(o 6 (by decide)).trans k;replace j:=db j (mu a.symm);clear o a;have u:(⟨B,0,none⟩:Addr).add 1=⟨B,1,none⟩:=iZ _ _ _;have keep:∀y,Rl S1 w2 y->y.heap[B]?=some (.cells #[.string ⟨#[]⟩,.bool false] 171 (0,0))/\B<y.heap.size:=λy hr=>by
   obtain⟨Y,r2, -⟩:=H.rl _ _ _ hr;exact⟨(Y B (.inl s)).trans hB,by omega⟩
  intro w3 Q;refine .step rfl λt X=> ?_;obtain⟨L,b2⟩:=keep t (H.tr _ _ _ _ Q X);have c0:=fc (i:=0) L;have c1:=fc (i:=1) L;refine⟨_,_,_,_,afL rfl rfl rfl rfl rfl rfl (ahy faT (A:=⟨B,0,none⟩) (u0:=.string ⟨#[]⟩) (u1:=.bool false) (c0:=.string ⟨#[]⟩) (c1:=.bool false) rfl rfl k ja c0 (iB L) (by rw[u];exact c1) (by rw[u];exact iB L)),⟨λb hb hn=> ?_, ?_,rfl,rfl,λev F=> ?_⟩, ?_⟩
  .have G:B≠b:=λe=>hn (e▸s);rw[u,bm _ _ _ G,bm _ _ _ G]
  .rw[fd,fd];exact am _
  .have N:=sZ F;simp only[so,me,rQ,uw] at N;have M:B<((t.setCell ⟨B,0,none⟩ (.string ⟨#[]⟩)).setCell ((⟨B,0,none⟩:Addr).add 1) (.bool false)).heap.size:=by rw[fd,fd];exact b2
   rcases N with rfl|rfl
   .exact⟨λx p=>.inl (by simp[MemAct.ofEvent,MemAct.touch?] at p;rw[<-p];exact .inl s),λm D=>(by cases D),M⟩
   .refine⟨λx p=>.inl ?_,λm D=>(by cases D), ?_⟩
    .simp[MemAct.ofEvent,MemAct.touch?] at p;rw[<-p,u];exact .inl s
    .show((⟨B,0,none⟩:Addr).add 1).block<_;rw[rx];exact M
  have P:(λb=>S1 b\/(t.heap.size<=b/\b<((t.setCell ⟨B,0,none⟩ (.string ⟨#[]⟩)).setCell ((⟨B,0,none⟩:Addr).add 1) (.bool false)).heap.size))=S1:=awe (by rw[fd,fd]);rw[P];have J:((t.setCell ⟨B,0,none⟩ (.string ⟨#[]⟩)).setCell ((⟨B,0,none⟩:Addr).add 1) (.bool false)).heap[B]?=some (.cells #[.string ⟨#[]⟩,.bool false] 171 (0,0)):=by
   rw[u];exact vw (vw L)
  have Z:B<((t.setCell ⟨B,0,none⟩ (.string ⟨#[]⟩)).setCell ((⟨B,0,none⟩:Addr).add 1) (.bool false)).heap.size:=by rw[fd,fd];exact b2
  generalize (t.setCell ⟨B,0,none⟩ (.string ⟨#[]⟩)).setCell ((⟨B,0,none⟩:Addr).add 1) (.bool false)=w5 at J Z ⊢;refine iz (f:=110) (T:=V) C (w0:=w5) ?_ w5 (H.fZ _ _);refine bK.still C (l2:=⟨110,V,[.code .ret],[],.returning,.normal,none⟩::[]) (es:=λ_=>#[]) (λw _=>by simp[Gl,stepG,stepG.exec]) (λ_ _ e h=>by cases(by simpa using h:False)) ?_;intro w6 O;refine .step rfl λw7 W=> ?_;obtain⟨Y,r2, -⟩:=H.rl _ _ _ (H.tr _ _ _ _ O W);have b7:=(Y B (.inl s)).trans J;have K:=atD faT (T:=V) (A:=⟨B,0,none⟩) (fn:=f110) rfl k (fc (i:=0) b7) (by rw[u];exact fc (i:=1) b7);refine⟨⟨cfr.finish (.agg #[.string ⟨#[]⟩,.bool false]),cs,.running,none,none⟩,w7,seen prog 110 #[⟨.cell ⟨B,0,none⟩,false,false⟩,⟨.cell ((⟨B,0,none⟩:Addr).add 1),false,false⟩],_, ?_,⟨λ_ _ _=>rfl,am _,rfl,rfl,λev F=> ?_⟩,.stop λ_ _=>rfl⟩
  .simp only[Gl,stepG,unwind,func110,K,ry];simp[doReturn,GStep.after]
  .have N:=sZ F;simp only[so,me,rQ,uw] at N;rcases N with rfl|rfl
   .exact⟨λx p=>.inl (by simp[MemAct.ofEvent,MemAct.touch?] at p;rw[<-p];exact .inl s),λm D=>(by cases D),by show B<_;omega⟩
   .refine⟨λx p=>.inl ?_,λm D=>(by cases D), ?_⟩
    .simp[MemAct.ofEvent,MemAct.touch?] at p;rw[<-p,u];exact .inl s
    .show((⟨B,0,none⟩:Addr).add 1).block<_;rw[rx];show B<_;omega
 exact key w (H.fZ _ _)
end
section
open Go Go.Conc Go.ConcR Go.RowKit Go.Conc.Lib Go.ConcR.Gen
abbrev eN:WgLink:={add:=107,done:=109,wait:=111,relMerge:=150,disable:=151,enable:=152,inBubble:=153,associate:=154,fatal:=155,uOr:=156,uAdd:=157,raceRead:=158,uLoad:=159,uStore:=160,disassociate:=161,semrelease:=162,acquire:=164,isAssociated:=165,uCas:=166,raceWrite:=167,semacquire:=168,orU64:=191,addU64:=192,loadU64:=193,storeU64:=194,casU64:=197,tWgP:=210,tUP:=212,tAssoc:=214,tWg:=168,tAU:=166,tU64:=140,tUint:=93,tU32:=138,tPU32:=218,tPAU:=249,tPU64:=251,tNoCopy:=162,tANoCopy:=163,tAlign64:=164}
def aaR:WgLib prog eN:=
 ⟨func107,func109,func111,func150,func151,func152,func153,func154,func155,func156,func157,func158,func159,func160,func161,func162,func164,func165,func166,func167,func168,func191,func192,func193,func194,func197,underlying210,Tryz.runUnderlying210,Tryz.sizeOf210,Tryz.isAgg210,Tryz.zeroValue210,underlying212,Tryz.runUnderlying212,Tryz.sizeOf212,Tryz.isAgg212,Tryz.zeroValue212,underlying214,Tryz.runUnderlying214,Tryz.sizeOf214,Tryz.isAgg214,Tryz.zeroValue214,underlying168,Tryz.runUnderlying168,Tryz.sizeOf168,Tryz.isAgg168,Tryz.zeroValue168,underlying166,Tryz.runUnderlying166,Tryz.sizeOf166,Tryz.isAgg166,Tryz.zeroValue166,underlying140,Tryz.runUnderlying140,Tryz.sizeOf140,Tryz.isAgg140,Tryz.zeroValue140,underlying93,Tryz.runUnderlying93,Tryz.sizeOf93,Tryz.isAgg93,Tryz.zeroValue93,underlying138,Tryz.runUnderlying138,Tryz.sizeOf138,Tryz.isAgg138,Tryz.zeroValue138,underlying218,Tryz.runUnderlying218,Tryz.sizeOf218,Tryz.isAgg218,Tryz.zeroValue218,underlying249,Tryz.runUnderlying249,Tryz.sizeOf249,Tryz.isAgg249,Tryz.zeroValue249,underlying251,Tryz.runUnderlying251,Tryz.sizeOf251,Tryz.isAgg251,Tryz.zeroValue251,underlying0,Tryz.runUnderlying0,Tryz.sizeOf0,Tryz.isAgg0,vG,underlying3,Tryz.runUnderlying3,Tryz.sizeOf3,Tryz.isAgg3,vF,underlying4,Tryz.runUnderlying4,Tryz.sizeOf4,Tryz.isAgg4,vE,underlying9,Tryz.runUnderlying9,Tryz.sizeOf9,Tryz.isAgg9,Tryz.zeroValue9,underlying20,Tryz.runUnderlying20,Tryz.sizeOf20,Tryz.isAgg20,Tryz.zeroValue20,underlying21,Tryz.runUnderlying21,Tryz.sizeOf21,Tryz.isAgg21,Tryz.zeroValue21,(by kernel_rfl),(by kernel_rfl)⟩
end
section
open Go Go.Conc Go.ConcN Go.RowKit Go.Conc.Lib Go.ConcR.Gen Go.ConcN.Gen
open Go.ConcR (KK wgBlock WgAt stA smA rd wr mk Payload Aside2 DC0)
section
variable (P:Program) (R:World->World->Prop) (ty:TypeId) (Wg:Nat)
def oO(e:Mark)(m:Nat)(S:Goroutine->World->Prop)(g:Goroutine)(w:World):Prop:=
 g.status=.running/\∃a,stepG P true g w=.go a w #[mk e]/\Goes P true R DC0 S m a w
def akP(S:Goroutine->World->Prop)(g:Goroutine)(w:World):Prop:=
 g.status=.running/\∀v:Nat,v<2147483647->WgAt ty Wg w (v*KK) 0->
  ∃a,stepG P true g w=.go a (w.setCell (stA Wg) (.int .u64 ((v+1)*KK))) #[rd (stA Wg),wr (stA Wg)]/\
   (v=0->Goes P true R DC0 (oO P R (.read ⟨Wg,1,none⟩) 120 (oO P R .enable 3 S)) 120 a (w.setCell (stA Wg) (.int .u64 ((v+1)*KK))))/\
   (v≠0->Goes P true R DC0 (oO P R .enable 3 S) 120 a (w.setCell (stA Wg) (.int .u64 ((v+1)*KK))))
end
section
variable {P:Program} {L:WgLink} {R:World->World->Prop} {Wg:Nat} {S:Goroutine->World->Prop}
 {b₀:Frame} {a₀:Act} {ops₀:Array Oper} {i₀:Nat} {rest₀:List Nat} {k₀:List Item} {cs:List Frame}
def atE (H:WgLib P L) (b:∀w d,WgLive L.tWg Wg w->R w d->WgLive L.tWg Wg d)
  (l:∀w,WgLive L.tWg Wg w->S (G (b₀.at (a₀.put ((ops₀[i₀]?).bind (·.dst)) (.tuple #[])) (.inRegion ops₀ rest₀::k₀)) cs) w)
  (w:World) (a:WgLive L.tWg Wg w) :
  Goes P true R DC0 (oO P R .disable 60 (akP P R L.tWg Wg S)) 30
   (G ((base L.add).at ⟨#[.pointer (some ⟨Wg,0,none⟩),.int .i64 1,undef,undef,undef,undef,undef,undef,undef,undef,undef,undef,undef,undef,undef,undef,undef,undef,undef,undef,undef,undef,undef,undef,undef,undef,undef,undef,undef,undef,undef,undef,undef,undef,undef,undef,undef,undef,undef,undef,undef,undef,undef,undef,undef,undef,undef,undef,undef,undef,undef,undef,undef,undef,undef,undef,undef,undef,undef,undef,undef,undef,undef,undef,undef,undef,undef,undef,undef,undef,undef,undef,undef,undef,undef,undef,undef,undef,undef,undef,undef,undef,undef,undef,undef,undef,undef,undef,undef,undef,undef,undef,undef,undef,undef,undef,undef,undef,undef,undef,undef,undef,undef,undef,undef,undef,undef,undef,undef,undef,undef,undef,undef,undef,undef,undef,undef],[]⟩ [.code (body_add L)]) (b₀.at a₀ (.inRegion ops₀ (i₀::rest₀)::k₀)::cs)) w:=by
 lib_facts
 simp only[body_add,addFn,qo]
 u_c kw (b _ _) a
 u_cond true (b _ _) a
 u_c kw (b _ _) a
 u_c kw (b _ _) a
 u_reg (b _ _) a
 u_op (b _ _) a
 u_op (b _ _) a
 u_c fb (b _ _) a
 u_cond false (b _ _) a
 u_c rG (b _ _) a
 u_c kw (b _ _) a
 u_reg (b _ _) a
 refine qA (λd c=> ?_);replace a:=b _ _ a c;clear c;refine⟨rfl,_,uR .disable (by simp) rfl rfl (by k_ne) rfl H.f_disable (x_disable_n L) (x_disable_b L) (x_disable_x L) (x_disable_f L), ?_⟩
 walk_nrm
 u_c fb (b _ _) a
 u_reg (b _ _) a
 u_defer (b _ _) a
 u_c fb (b _ _) a
 u_c kw (b _ _) a
 u_reg (b _ _) a
 u_op (b _ _) a
 u_c fb (b _ _) a
 u_c kw (b _ _) a
 u_c kw (b _ _) a
 u_reg (b _ _) a
 u_bub (b _ _) a
 u_c fb (b _ _) a
 u_cond false (b _ _) a
 u_c rG (b _ _) a
 u_c kw (b _ _) a
 u_reg (b _ _) a
 u_op (b _ _) a
 u_op (b _ _) a
 u_op (b _ _) a
 u_op (b _ _) a
 u_op (b _ _) a
 u_op (b _ _) a
 u_call H.f_uAdd (nm_uAdd L) uAddFn (b _ _) a
 u_c kw (b _ _) a
 u_reg (b _ _) a
 u_op (b _ _) a
 u_c fb (b _ _) a
 u_c kw (b _ _) a
 u_reg (b _ _) a
 u_op (b _ _) a
 u_op (b _ _) a
 u_op (b _ _) a
 u_op (b _ _) a
 refine qA (λd c=> ?_);replace a:=b _ _ a c;clear c;refine⟨rfl,λv B g=> ?_⟩;rcases nf v with rfl|o
 .replace g:WgAt L.tWg Wg d 0 0:=by simpa using g
  have z:(((0:Nat):Int)+1)*KK=KK:=by simp
  rw[z];have m:IntKind.u64.wrap (0+4294967296)=KK:=by decide
  refine⟨_,(stepG_add_atomic rfl rfl (by k_ne) rfl H.f_addU64 (x_addU64_n L) (x_addU64_b L) (x_addU64_x L) .u64 (x_addU64_f L) rfl rfl g.cellSt (g.thaw 0)).trans (by rw[m];rfl),λ_=> ?_,λh=>absurd rfl h⟩;replace a:WgLive L.tWg Wg (d.setCell (stA Wg) (.int .u64 KK)):=⟨_,_,g.setSt _⟩;clear g;simp only[KK] at a ⊢
  walk_nrm
  u_op (b _ _) a
  u_c fb (b _ _) a
  u_c su (b _ _) a
  u_leave1 H.f_uAdd (b _ _) a
  u_op (b _ _) a
  u_c fb (b _ _) a
  u_c kw (b _ _) a
  u_c kw (b _ _) a
  u_reg (b _ _) a
  u_op (b _ _) a
  u_op (b _ _) a
  u_op (b _ _) a
  u_op (b _ _) a
  u_skip (b _ _) a
  u_skip (b _ _) a
  u_op (b _ _) a
  u_c fb (b _ _) a
  u_cond false (b _ _) a
  u_c rG (b _ _) a
  u_c kw (b _ _) a
  u_reg (b _ _) a
  u_op (b _ _) a
  u_op (b _ _) a
  u_op (b _ _) a
  u_op (b _ _) a
  u_c fb (b _ _) a
  u_c kw (b _ _) a
  u_reg (b _ _) a
  u_op (b _ _) a
  u_op (b _ _) a
  u_op (b _ _) a
  u_op (b _ _) a
  u_c fb (b _ _) a
  u_c kw (b _ _) a
  u_c kw (b _ _) a
  u_reg (b _ _) a
  u_op (b _ _) a
  u_op (b _ _) a
  u_op (b _ _) a
  u_op (b _ _) a
  u_op (b _ _) a
  u_op (b _ _) a
  u_op (b _ _) a
  u_op (b _ _) a
  u_op (b _ _) a
  u_op (b _ _) a
  u_c fb (b _ _) a
  u_cond true (b _ _) a
  u_reg (b _ _) a
  u_op (b _ _) a
  u_op (b _ _) a
  u_op (b _ _) a
  u_conv H.underlying_tPU32 H.room_tU32 (WgLive.cell1 a).choose_spec (b _ _) a
  refine qA (λd c=> ?_);replace a:=b _ _ a c;clear c;refine⟨rfl,_,uG .read (by simp) rfl rfl (by k_ne) rfl H.f_raceRead (x_raceRead_n L) (x_raceRead_b L) (x_raceRead_x L) (x_raceRead_f L) (ad:=⟨Wg,1,none⟩) (by simp[Act.eval]), ?_⟩
  walk_nrm
  u_c fb (b _ _) a
  u_c kw (b _ _) a
  u_c kw (b _ _) a
  u_reg (b _ _) a
  u_op (b _ _) a
  u_op (b _ _) a
  u_c fb (b _ _) a
  u_cond false (b _ _) a
  u_c rG (b _ _) a
  u_c kw (b _ _) a
  u_c kw (b _ _) a
  u_reg (b _ _) a
  u_op (b _ _) a
  u_op (b _ _) a
  u_op (b _ _) a
  u_skip (b _ _) a
  u_skip (b _ _) a
  u_op (b _ _) a
  u_op (b _ _) a
  u_skip (b _ _) a
  u_skip (b _ _) a
  u_skip (b _ _) a
  u_skip (b _ _) a
  u_op (b _ _) a
  u_c fb (b _ _) a
  u_cond false (b _ _) a
  u_c rG (b _ _) a
  u_c kw (b _ _) a
  u_c kw (b _ _) a
  u_reg (b _ _) a
  u_op (b _ _) a
  u_op (b _ _) a
  u_op (b _ _) a
  u_skip (b _ _) a
  u_skip (b _ _) a
  u_op (b _ _) a
  u_c fb (b _ _) a
  u_cond true (b _ _) a
  u_c su (b _ _) a
  refine qA (λd c=> ?_);replace a:=b _ _ a c;clear c;refine⟨rfl,_,stepG_unwind_entry (v:=.tuple #[]) (evs:=#[mk .enable]) rfl H.f_enable (x_enable_n L) (x_enable_b L) (x_enable_x L) (x_enable_f L) (by simp[Extern.Race.none_]) (by simp[mk]) (by simp[mk]), ?_⟩
  u_leave0 H.f_add (b _ _) a
  exact qA λi f=>l _ (b _ _ a f)
 .obtain⟨V,j⟩:∃V:Int,V=(v:Int)+1:=⟨_,rfl⟩;obtain⟨St,e⟩:∃St:Int,St=V*KK:=⟨_,rfl⟩;have k:IntKind.u64.wrap ((v:Int)*KK+4294967296)=St:=by rw[IntKind.wrap_u64,e,j];simp only[KK];omega
  rw[<-j,<-e];have C:St / 4294967296=V:=by rw[e];simp only[KK];omega
  have q:bits .and .u64 St 2147483648=0:=by rw[e,j];have:=st_flag (v+1) 0 (by omega) (by omega);simpa[KK] using this
  have A:bits .and .u64 St 2147483647=0:=by rw[e,j];have:=st_waiters (v+1) 0 (by omega) (by omega);simpa[KK] using this
  have u:IntKind.i32.wrap V=V:=by rw[IntKind.wrap_i32];omega
  have n:1<V:=by omega
  have p:V<2147483648:=by omega
  have s:(V ==1)=false:=by simp;omega
  have D:=da (show ¬(V=1) by omega);have t:=da (show ¬(V<0) by omega);have y:=de (show 0<V by omega);have x:(V ==0)=false:=by simp;omega
  have r:=da (show ¬(V=0) by omega);refine⟨_,(stepG_add_atomic rfl rfl (by k_ne) rfl H.f_addU64 (x_addU64_n L) (x_addU64_b L) (x_addU64_x L) .u64 (x_addU64_f L) rfl rfl g.cellSt (g.thaw 0)).trans (by rw[k];rfl),λh=>absurd h (by omega),λ_=> ?_⟩;replace a:WgLive L.tWg Wg (d.setCell (stA Wg) (.int .u64 St)):=⟨_,_,g.setSt _⟩;clear g e j k
  walk_nrm
  u_op (b _ _) a
  u_c fb (b _ _) a
  u_c su (b _ _) a
  u_leave1 H.f_uAdd (b _ _) a
  u_op (b _ _) a
  u_c fb (b _ _) a
  u_c kw (b _ _) a
  u_c kw (b _ _) a
  u_reg (b _ _) a
  u_op (b _ _) a
  u_op (b _ _) a
  u_op (b _ _) a
  u_op (b _ _) a
  u_skip (b _ _) a
  u_skip (b _ _) a
  u_op (b _ _) a
  u_c fb (b _ _) a
  u_cnd false (b _ _) a
  u_c rG (b _ _) a
  u_c kw (b _ _) a
  u_reg (b _ _) a
  u_op (b _ _) a
  u_op (b _ _) a
  u_op (b _ _) a
  u_op (b _ _) a
  u_c fb (b _ _) a
  u_c kw (b _ _) a
  u_reg (b _ _) a
  u_op (b _ _) a
  u_op (b _ _) a
  u_op (b _ _) a
  u_op (b _ _) a
  u_c fb (b _ _) a
  u_c kw (b _ _) a
  u_c kw (b _ _) a
  u_reg (b _ _) a
  u_op (b _ _) a
  u_op (b _ _) a
  u_op (b _ _) a
  u_op (b _ _) a
  u_op (b _ _) a
  u_op (b _ _) a
  u_op (b _ _) a
  u_op (b _ _) a
  u_op (b _ _) a
  u_op (b _ _) a
  u_c fb (b _ _) a
  u_cnd false (b _ _) a
  u_c rG (b _ _) a
  u_c kw (b _ _) a
  u_c kw (b _ _) a
  u_reg (b _ _) a
  u_op (b _ _) a
  u_op (b _ _) a
  u_c fb (b _ _) a
  u_cnd false (b _ _) a
  u_c rG (b _ _) a
  u_c kw (b _ _) a
  u_c kw (b _ _) a
  u_reg (b _ _) a
  u_op (b _ _) a
  u_op (b _ _) a
  u_op (b _ _) a
  u_skip (b _ _) a
  u_skip (b _ _) a
  u_op (b _ _) a
  u_op (b _ _) a
  u_skip (b _ _) a
  u_skip (b _ _) a
  u_skip (b _ _) a
  u_skip (b _ _) a
  u_op (b _ _) a
  u_c fb (b _ _) a
  u_cnd false (b _ _) a
  u_c rG (b _ _) a
  u_c kw (b _ _) a
  u_c kw (b _ _) a
  u_reg (b _ _) a
  u_op (b _ _) a
  u_op (b _ _) a
  u_op (b _ _) a
  u_skip (b _ _) a
  u_skip (b _ _) a
  u_op (b _ _) a
  u_c fb (b _ _) a
  u_cnd true (b _ _) a
  u_c su (b _ _) a
  refine qA (λd c=> ?_);replace a:=b _ _ a c;clear c;refine⟨rfl,_,stepG_unwind_entry (v:=.tuple #[]) (evs:=#[mk .enable]) rfl H.f_enable (x_enable_n L) (x_enable_b L) (x_enable_x L) (x_enable_f L) (by simp[Extern.Race.none_]) (by simp[mk]) (by simp[mk]), ?_⟩
  u_leave0 H.f_add (b _ _) a
  exact qA λi f=>l _ (b _ _ a f)
end
end
section
open Go Go.Conc Go.ConcN Go.RowKit Go.Conc.Lib Go.ConcR.Gen Go.ConcN.Gen
open Go.ConcR (KK wgBlock WgAt stA smA rd wr mk Aside2 DC0)
section
variable (P:Program) (R:World->World->Prop) (ty:TypeId) (Wg:Nat) (ann S:Goroutine->World->Prop)
abbrev WKe:Goroutine->World->Prop:=oO P R .enable 12 (oO P R (.acquire (stA Wg)) 20 S)
def WW4(g:Goroutine)(w:World):Prop:=g.status=.running/\(WgAt ty Wg w 0 0->∃a,stepG P true g w=.go a w #[rd (stA Wg)]/\Goes P true R DC0 (WKe P R Wg S) 40 a w)
def WW3(g:Goroutine)(w:World):Prop:=g.status=.running/\g.offers=none/\
  ((∃b,WgAt ty Wg w b 0)->stepG P true g w=.go {g with status:=.blocked} w #[])/\
  (WgAt ty Wg w 0 1->∃a,stepG P true g w=.go a (w.setCell (smA Wg) (.int .u32 0)) (semEvents (smA Wg))/\Goes P true R DC0 (WW4 P R ty Wg S) 40 a (w.setCell (smA Wg) (.int .u32 0)))
def WW2(vs:Nat)(g:Goroutine)(w:World):Prop:=g.status=.running/\∀v:Nat,v<2147483648->WgAt ty Wg w (v*KK) 0->
  (v=vs->∃a,stepG P true g w=.go a (w.setCell (stA Wg) (.int .u64 (v*KK+1))) #[rd (stA Wg),wr (stA Wg)]/\Goes P true R DC0 (oO P R (.write ⟨Wg,1,none⟩) 60 (WW3 P R ty Wg S)) 120 a (w.setCell (stA Wg) (.int .u64 (v*KK+1))))/\
  (v≠vs->∃a,stepG P true g w=.go a w #[rd (stA Wg)]/\Goes P true R DC0 ann 60 a w)
def WW1(g:Goroutine)(w:World):Prop:=g.status=.running/\∀v:Nat,v<2147483648->WgAt ty Wg w (v*KK) 0->∃a,stepG P true g w=.go a w #[rd (stA Wg)]/\
  (v=0->Goes P true R DC0 (WKe P R Wg S) 60 a w)/\(v≠0->Goes P true R DC0 (WW2 P R ty Wg ann S v) 120 a w)
end
def akQ(L:WgLink)(Wg:Nat)(c:Frame)(cs:List Frame)(g:Goroutine)(w:World):Prop:=
 ∃T:Array Value,g=G ((base L.wait).at ⟨T,[]⟩ [.code (L7 L),.inLoop (L7 L),.inBlock 0]) (c::cs)/\T.size=84/\T[0]?=some (.pointer (some ⟨Wg,0,none⟩))/\WgLive L.tWg Wg w
section
variable {P:Program} {L:WgLink} {R:World->World->Prop} {Wg:Nat} {S:Goroutine->World->Prop}
 {b₀:Frame} {a₀:Act} {ops₀:Array Oper} {i₀:Nat} {rest₀:List Nat} {k₀:List Item} {cs:List Frame}
def ano(H:WgLib P L)(d:∀w a,WgLive L.tWg Wg w->R w a->WgLive L.tWg Wg a)(w:World)(b:WgLive L.tWg Wg w) :
  Goes P true R DC0 (oO P R .disable 3 (akQ L Wg (b₀.at a₀ (.inRegion ops₀ (i₀::rest₀)::k₀)) cs)) 3
   (G ((base L.wait).at ⟨#[.pointer (some ⟨Wg,0,none⟩)]++(List.replicate 83 undef).toArray,[]⟩ [.code (body_wait L)]) (b₀.at a₀ (.inRegion ops₀ (i₀::rest₀)::k₀)::cs)) w:=by
 lib_facts
 simp only[body_wait,waitFn,qo]
 u_c kw (d _ _) b
 u_cond true (d _ _) b
 u_reg (d _ _) b
 refine qA (λa c=> ?_);replace b:=d _ _ b c;clear c;refine⟨rfl,_,uR .disable (by simp) rfl rfl (by k_ne) rfl H.f_disable (x_disable_n L) (x_disable_b L) (x_disable_x L) (x_disable_f L), ?_⟩
 walk_nrm
 u_c fb (d _ _) b
 u_c stepG_block (d _ _) b
 u_c stepG_loop (d _ _) b
 exact qA (λf e=>⟨_,rfl,by simp,by simp,d _ _ b e⟩)
def anp (H:WgLib P L) (b:∀w i,WgLive L.tWg Wg w->R w i->WgLive L.tWg Wg i)
  (x:∀w,WgLive L.tWg Wg w->S (G (b₀.at (a₀.put ((ops₀[i₀]?).bind (·.dst)) (.tuple #[])) (.inRegion ops₀ rest₀::k₀)) cs) w)
  (g:Goroutine) (w:World) (h:akQ L Wg (b₀.at a₀ (.inRegion ops₀ (i₀::rest₀)::k₀)) cs g w) :
  Goes P true R DC0 (WW1 P R L.tWg Wg (akQ L Wg (b₀.at a₀ (.inRegion ops₀ (i₀::rest₀)::k₀)) cs) S) 30 g w:=by
 lib_facts
 obtain⟨T,rfl,q,t,a⟩:=h;obtain⟨v0,v1,v2,v3,v4,v5,v6,v7,v8,v9,aQ,O,bn,z,bb,C,K,ao,bS,a8,a2,A,bI,c2,J,bw,bj,a4,bz,aa,Y,b3,y,bO,a0,N,bZ,bL,bi,X,U,W,bq,a7,aV,Q,D,bp,ba,bf,aP,bl,aK,af,E,b7,bk,b6,a5,bE,a3,bT,ay,b5,b8,B,I,M,bc,b9,bx,b0,br,c0,a6,aG,c3,a9,F,b4,bo,an,al,Z,rfl⟩:=array84 T q;simp only[List.getElem?_toArray,th,jt] at t;subst t;simp only[L7,body_wait,waitFn,qo]
 u_c stepG_block (b _ _) a
 u_c kw (b _ _) a
 u_reg (b _ _) a
 u_op (b _ _) a
 u_op (b _ _) a
 u_op (b _ _) a
 u_call H.f_uLoad (nm_uLoad L) uLoadFn (b _ _) a
 u_c kw (b _ _) a
 u_reg (b _ _) a
 u_op (b _ _) a
 u_c fb (b _ _) a
 u_c kw (b _ _) a
 u_reg (b _ _) a
 u_op (b _ _) a
 u_op (b _ _) a
 u_op (b _ _) a
 refine qA (λi c=> ?_);replace a:=b _ _ a c;clear c;refine⟨rfl,λv hv f=> ?_⟩;rcases nf v with rfl|ax
 .replace f:WgAt L.tWg Wg i 0 0:=by simpa using f
  refine⟨_,stepG_load_atomic (v:=0) rfl rfl (by k_ne) rfl H.f_loadU64 (x_loadU64_n L) (x_loadU64_b L) (x_loadU64_x L) .u64 (x_loadU64_f L) rfl f.cellSt,λ_=> ?_,λh=>absurd rfl h⟩;clear f
  walk_nrm
  u_op (b _ _) a
  u_c fb (b _ _) a
  u_c su (b _ _) a
  u_leave1 H.f_uLoad (b _ _) a
  u_op (b _ _) a
  u_c fb (b _ _) a
  u_c kw (b _ _) a
  u_reg (b _ _) a
  u_op (b _ _) a
  u_op (b _ _) a
  u_op (b _ _) a
  u_op (b _ _) a
  u_c fb (b _ _) a
  u_c kw (b _ _) a
  u_reg (b _ _) a
  u_op (b _ _) a
  u_op (b _ _) a
  u_op (b _ _) a
  u_op (b _ _) a
  u_c fb (b _ _) a
  u_c kw (b _ _) a
  u_c kw (b _ _) a
  u_reg (b _ _) a
  u_op (b _ _) a
  u_op (b _ _) a
  u_c fb (b _ _) a
  u_cond true (b _ _) a
  u_c kw (b _ _) a
  u_cond true (b _ _) a
  u_c kw (b _ _) a
  u_reg (b _ _) a
  refine qA (λi c=> ?_);replace a:=b _ _ a c;clear c;refine⟨rfl,_,uR .enable (by simp) rfl rfl (by k_ne) rfl H.f_enable (x_enable_n L) (x_enable_b L) (x_enable_x L) (x_enable_f L), ?_⟩
  walk_nrm
  u_c fb (b _ _) a
  u_reg (b _ _) a
  u_op (b _ _) a
  u_conv H.underlying_tWgP H.room_tWg (WgLive.cell0 a).choose_spec (b _ _) a
  refine qA (λi c=> ?_);replace a:=b _ _ a c;clear c;refine⟨rfl,_,uG .acquire (by simp) rfl rfl (by k_ne) rfl H.f_acquire (x_acquire_n L) (x_acquire_b L) (x_acquire_x L) (x_acquire_f L) (by simp[Act.eval,stA]), ?_⟩
  walk_nrm
  u_c fb (b _ _) a
  u_c kw (b _ _) a
  u_c kw (b _ _) a
  u_reg (b _ _) a
  u_op (b _ _) a
  u_op (b _ _) a
  u_op (b _ _) a
  u_op (b _ _) a
  u_op (b _ _) a
  u_op (b _ _) a
  u_op (b _ _) a
  u_op (b _ _) a
  u_skip (b _ _) a
  u_skip (b _ _) a
  u_op (b _ _) a
  u_c fb (b _ _) a
  u_cond false (b _ _) a
  u_c rG (b _ _) a
  u_c su (b _ _) a
  u_leave0 H.f_wait (b _ _) a
  exact qA λl j=>x _ (b _ _ a j)
 .obtain⟨V,p⟩:∃V:Int,(v:Int)*KK=V:=⟨_,rfl⟩;have a1:V / 4294967296=(v:Int):=by rw[<-p];simp only[KK];omega
  have b1:bits .and .u64 V 2147483648=0:=by rw[<-p];have:=st_flag v 0 (by omega) (by omega);simpa[KK] using this
  have b2:bits .and .u64 V 2147483647=0:=by rw[<-p];have:=st_waiters v 0 (by omega) (by omega);simpa[KK] using this
  have c1:IntKind.i32.wrap (v:Int)=(v:Int):=by rw[IntKind.wrap_i32];omega
  have w1:IntKind.u64.wrap (V+1)=V+1:=by rw[IntKind.wrap_u64,<-p];simp only[KK];omega
  have q3:=da (show ¬((v:Int)<0) by omega);have q4:=de (show 0<(v:Int) by omega);have q5:((v:Int) ==0)=false:=by simp;omega
  have q6:=da (show ¬((v:Int)=0) by omega);rw[p] at f;refine⟨_,stepG_load_atomic (v:=V) rfl rfl (by k_ne) rfl H.f_loadU64 (x_loadU64_n L) (x_loadU64_b L) (x_loadU64_x L) .u64 (x_loadU64_f L) rfl f.cellSt,λh0=>absurd h0 (by omega),λ_=> ?_⟩;clear f
  walk_nrm
  u_op (b _ _) a
  u_c fb (b _ _) a
  u_c su (b _ _) a
  u_leave1 H.f_uLoad (b _ _) a
  u_op (b _ _) a
  u_c fb (b _ _) a
  u_c kw (b _ _) a
  u_reg (b _ _) a
  u_op (b _ _) a
  u_op (b _ _) a
  u_op (b _ _) a
  u_op (b _ _) a
  u_c fb (b _ _) a
  u_c kw (b _ _) a
  u_reg (b _ _) a
  u_op (b _ _) a
  u_op (b _ _) a
  u_op (b _ _) a
  u_op (b _ _) a
  u_c fb (b _ _) a
  u_c kw (b _ _) a
  u_c kw (b _ _) a
  u_reg (b _ _) a
  u_op (b _ _) a
  u_op (b _ _) a
  u_c fb (b _ _) a
  u_cnd false (b _ _) a
  u_c rG (b _ _) a
  u_c kw (b _ _) a
  u_reg (b _ _) a
  u_op (b _ _) a
  u_op (b _ _) a
  u_op (b _ _) a
  u_op (b _ _) a
  u_op (b _ _) a
  u_op (b _ _) a
  u_call H.f_uCas (nm_uCas L) uCasFn (b _ _) a
  u_c kw (b _ _) a
  u_reg (b _ _) a
  u_op (b _ _) a
  u_c fb (b _ _) a
  u_c kw (b _ _) a
  u_reg (b _ _) a
  u_op (b _ _) a
  u_op (b _ _) a
  u_op (b _ _) a
  u_op (b _ _) a
  u_op (b _ _) a
  refine qA (λl j=> ?_);replace a:=b _ _ a j;clear j;refine⟨rfl,λv' bt f=>⟨λe=> ?_,λe=> ?_⟩⟩
  .subst e;rw[p] at f ⊢;refine⟨_,stepG_cas_hit (v:=V) (n:=V+1) rfl rfl (by k_ne) rfl H.f_casU64 (x_casU64_n L) (x_casU64_b L) (x_casU64_x L) .u64 (x_casU64_f L) rfl rfl rfl f.cellSt (f.thaw 0), ?_⟩;replace a:WgLive L.tWg Wg (l.setCell (stA Wg) (.int .u64 (V+1))):=⟨_,_,f.setSt _⟩;clear f
   walk_nrm
   u_op (b _ _) a
   u_c fb (b _ _) a
   u_c su (b _ _) a
   u_leave1 H.f_uCas (b _ _) a
   u_c fb (b _ _) a
   u_cond true (b _ _) a
   u_c kw (b _ _) a
   u_c kw (b _ _) a
   u_reg (b _ _) a
   u_op (b _ _) a
   u_op (b _ _) a
   u_op (b _ _) a
   u_op (b _ _) a
   u_c fb (b _ _) a
   u_cond true (b _ _) a
   u_reg (b _ _) a
   u_op (b _ _) a
   u_op (b _ _) a
   u_op (b _ _) a
   u_conv H.underlying_tPU32 H.room_tU32 (WgLive.cell1 a).choose_spec (b _ _) a
   refine qA (λm d=> ?_);replace a:=b _ _ a d;clear d;refine⟨rfl,_,uG .write (by simp) rfl rfl (by k_ne) rfl H.f_raceWrite (x_raceWrite_n L) (x_raceWrite_b L) (x_raceWrite_x L) (x_raceWrite_f L) (ad:=⟨Wg,1,none⟩) (by simp[Act.eval]), ?_⟩
   walk_nrm
   u_c fb (b _ _) a
   u_c kw (b _ _) a
   u_reg (b _ _) a
   u_op (b _ _) a
   u_c fb (b _ _) a
   u_c kw (b _ _) a
   u_c kw (b _ _) a
   u_reg (b _ _) a
   u_op (b _ _) a
   u_op (b _ _) a
   u_op (b _ _) a
   u_op (b _ _) a
   u_skip (b _ _) a
   u_op (b _ _) a
   u_c fb (b _ _) a
   u_cond false (b _ _) a
   u_c rG (b _ _) a
   u_c kw (b _ _) a
   u_reg (b _ _) a
   u_op (b _ _) a
   u_op (b _ _) a
   u_op (b _ _) a
   u_op (b _ _) a
   refine qA (λm d=> ?_);replace a:=b _ _ a d;clear d;refine⟨rfl,rfl,λ⟨st,f⟩=>stepG_semacquire_wait rfl rfl rfl H.f_semacquire (x_semacquire_n L) (x_semacquire_b L) (x_semacquire_x L) (x_semacquire_f L) (by simp[Act.eval,smA]) f.cellSm,λs=> ?_⟩;refine⟨_,(stepG_semacquire (n:=1) rfl rfl (by k_ne) rfl H.f_semacquire (x_semacquire_n L) (x_semacquire_b L) (x_semacquire_x L) (x_semacquire_f L) (by simp[Act.eval,smA]) s.cellSm (by decide) (s.thaw 1)).trans rfl, ?_⟩;replace a:WgLive L.tWg Wg (m.setCell (smA Wg) (.int .u32 0)):=⟨_,_,s.setSm 0⟩;clear s
   walk_nrm
   u_c fb (b _ _) a
   u_c kw (b _ _) a
   u_reg (b _ _) a
   u_op (b _ _) a
   u_op (b _ _) a
   u_op (b _ _) a
   u_call H.f_uLoad (nm_uLoad L) uLoadFn (b _ _) a
   u_c kw (b _ _) a
   u_reg (b _ _) a
   u_op (b _ _) a
   u_c fb (b _ _) a
   u_c kw (b _ _) a
   u_reg (b _ _) a
   u_op (b _ _) a
   u_op (b _ _) a
   u_op (b _ _) a
   refine qA (λu o=> ?_);replace a:=b _ _ a o;clear o;refine⟨rfl,λf=>⟨_,stepG_load_atomic (v:=0) rfl rfl (by k_ne) rfl H.f_loadU64 (x_loadU64_n L) (x_loadU64_b L) (x_loadU64_x L) .u64 (x_loadU64_f L) rfl f.cellSt, ?_⟩⟩;clear f
   walk_nrm
   u_op (b _ _) a
   u_c fb (b _ _) a
   u_c su (b _ _) a
   u_leave1 H.f_uLoad (b _ _) a
   u_op (b _ _) a
   u_op (b _ _) a
   u_c fb (b _ _) a
   u_c kw (b _ _) a
   u_cond true (b _ _) a
   u_c kw (b _ _) a
   u_reg (b _ _) a
   refine qA (λr k=> ?_);replace a:=b _ _ a k;clear k;refine⟨rfl,_,uR .enable (by simp) rfl rfl (by k_ne) rfl H.f_enable (x_enable_n L) (x_enable_b L) (x_enable_x L) (x_enable_f L), ?_⟩
   walk_nrm
   u_c fb (b _ _) a
   u_reg (b _ _) a
   u_op (b _ _) a
   u_conv H.underlying_tWgP H.room_tWg (WgLive.cell0 a).choose_spec (b _ _) a
   refine qA (λr k=> ?_);replace a:=b _ _ a k;clear k;refine⟨rfl,_,uG .acquire (by simp) rfl rfl (by k_ne) rfl H.f_acquire (x_acquire_n L) (x_acquire_b L) (x_acquire_x L) (x_acquire_f L) (by simp[Act.eval,stA]), ?_⟩
   walk_nrm
   u_c fb (b _ _) a
   u_c kw (b _ _) a
   u_c kw (b _ _) a
   u_reg (b _ _) a
   u_op (b _ _) a
   u_c fb (b _ _) a
   u_cond false (b _ _) a
   u_c rG (b _ _) a
   u_c su (b _ _) a
   u_leave0 H.f_wait (b _ _) a
   exact qA λl j=>x _ (b _ _ a j)
  .refine⟨_,stepG_cas_miss (v:=(v':Int)*KK) (old:=V) (n:=V+1) rfl rfl (by k_ne) rfl H.f_casU64 (x_casU64_n L) (x_casU64_b L) (x_casU64_x L) .u64 (x_casU64_f L) rfl rfl rfl f.cellSt (f.thaw 0) (by rw[<-p];simp only[KK];omega), ?_⟩;clear f
   walk_nrm
   u_op (b _ _) a
   u_c fb (b _ _) a
   u_c su (b _ _) a
   u_leave1 H.f_uCas (b _ _) a
   u_c fb (b _ _) a
   u_cond false (b _ _) a
   u_c rG (b _ _) a
   u_c stepG_inBlock (b _ _) a
   u_c stepG_inLoop (b _ _) a
   exact qA λm d=>⟨_,rfl,by simp,by simp,b _ _ a d⟩
end
end
section
open Go Go.Conc Go.ConcN Go.RowKit Go.Conc.Lib Go.ConcR.Gen Go.ConcN.Gen
open Go.ConcR (KK wgBlock WgAt stA smA rd wr mk Payload DC0)
section
variable {P:Program} {R:World->World->Prop} {Wg:Nat}
def aqA:abj Wg (mk (.read ⟨Wg,1,none⟩)):=⟨_,rfl,.inl rfl⟩
def anq:abj Wg (mk (.write ⟨Wg,1,none⟩)):=⟨_,rfl,.inr rfl⟩
def og{D i:World->World->Array Event->Prop}{St c:Goroutine->World->Prop}{main:Bool}(k:∀w d e,D w d e->i w d e)(f:∀g w,St g w->c g w) :
  ∀{n:Nat} {g:Goroutine} {w:World},Goes P main R D St n g w->Goes P main R i c n g w
 |0,_,_,h=>λa b=>f _ _ (h a b)
 |n+1,g,w,h=>by
  rcases h with h|⟨l,h⟩
  .exact .inl λa b=>f _ _ (h a b)
  .refine .inr ⟨l,λa b=> ?_⟩;have:=h a b;cases j:stepG P main g a with
   |go m d e=>
    rw[j,tE] at this;rw[tE];exact⟨k _ _ _ this.1,og k f this.2⟩
   |_=>rw[j] at this;exact this.elim
def awg{D:World->World->Array Event->Prop}(b:n<=X)(h:Goes P main R D St n g w):Goes P main R D St X g w:=by
 induction b with
 |refl=>exact h
 |step _ a=>exact a.more
def dsd{es:Array Event}(h:DC0 w w' es):DSd Wg w w' es:=⟨h.1,by rw[h.2];simp⟩
def ahz{e:Mark}(q:abj Wg (mk e))(s:∀g w,St g w->V g w)(i:∀w,R w w)(l:∀a b c,R a b->R b c->R a c) :
  ∀{n:Nat} {g:Goroutine} {w:World},Goes P true R DC0 (oO P R e m St) n g w->Goes P true R (DSd Wg) V (n+(m+1)) g w:=by
 have stop:∀{g:Goroutine} {w:World},(∀d,R w d->oO P R e m St g d)->Goes P true R (DSd Wg) V (m+1) g w:=λ{g w} h=>by
  refine .inr ⟨(h w (i w)).1,λd j=> ?_⟩;obtain⟨-,p,f,k⟩:=h d j;rw[f,tE];exact⟨⟨rfl,by simp;exact q⟩,og (λ_ _ _ x=>dsd x) s k⟩
 intro n
 induction n with
 |zero=>intro g w h;rw[lm];exact stop h
 |succ n r=>
  intro g w h;rcases h with h|⟨o,h⟩
  .exact awg (by omega) (stop h)
  .rw[Nat.succ_add];refine .inr ⟨o,λd j=> ?_⟩;have:=h d j;cases f:stepG P true g d with
   |go p t u=>
    rw[f,tE] at this;rw[tE];exact⟨dsd this.1,r this.2⟩
   |_=>rw[f] at this;exact this.elim
end
section
variable [Payload] {P:Program} {ty:TypeId} {Wg C n:Nat} {R S:aq}
def aaS(a:∀g w,St g w->V g w)(h:Goes P true (RM ty Wg C n R S) DC0 St m g w):GP P ty Wg C n R S V m g w:=og (λ_ _ _ x=>dsd x) a h
def azv{F:aq->aq->Goroutine->World->Prop}(a:∀g w,Goes P true (RM ty Wg C n R S) DC0 St m g w->F R S g w)(h:oO P (RM ty Wg C n R S) (.acquire (stA Wg)) m St g w):ayM P Wg R S F g w:=
 ⟨h.1,let⟨b,e,k⟩:=h.2;⟨b,e,a _ _ k⟩⟩
section
variable {St:Goroutine->World->Prop} {F A:aq->aq->Goroutine->World->Prop} {ann:Goroutine->World->Prop} (hF:∀g w,Goes P true (RM ty Wg C n R S) DC0 St 20 g w->F R S g w) (hA:∀g w,ann g w->A R S g w)
include hF in
theorem axC(h:WKe P (RM ty Wg C n R S) Wg St g w):MKe P ty Wg C n R S F g w:=
 ⟨h.1,let⟨a,e,k⟩:=h.2;⟨a,e,_,aaS (λ_ _ x=>azv hF x) k⟩⟩
include hF in
theorem aBQ(h:WW4 P (RM ty Wg C n R S) ty Wg St g w):MW4 P ty Wg C n R S F g w:=
 ⟨h.1,λa=>let⟨b,e,k⟩:=h.2 a;⟨b,e,_,aaS (λ_ _ x=>axC hF x) k⟩⟩
include hF in
theorem aBR(h:WW3 P (RM ty Wg C n R S) ty Wg St g w):MW3 P ty Wg C n R S F g w:=
 ⟨h.1,h.2.1,h.2.2.1,λa=>let⟨b,e,k⟩:=h.2.2.2 a;⟨b,e,_,aaS (λ_ _ x=>aBQ hF x) k⟩⟩
include hF hA in
theorem aBS{v:Nat}(h:WW2 P (RM ty Wg C n R S) ty Wg ann St v g w):MW2 P ty Wg C n R S A F v g w:=
 ⟨h.1,λd f c=>⟨λe=>let⟨b,a,k⟩:=(h.2 d f c).1 e;⟨b,a,_,ahz anq (λ_ _ x=>aBR hF x) (jV.refl _ _ _) (λ_ _ _=>jV.trans) k⟩,
  λe=>let⟨b,a,k⟩:=(h.2 d f c).2 e;⟨b,a,_,aaS hA k⟩⟩⟩
include hF hA in
theorem aBT(h:WW1 P (RM ty Wg C n R S) ty Wg ann St g w):MW1 P ty Wg C n R S A F g w:=
 ⟨h.1,λv c b=>let⟨f,e,d,a⟩:=h.2 v c b;⟨f,e,λe=>⟨_,aaS (λ_ _ x=>axC hF x) (d e)⟩,λe=>⟨_,aaS (λ_ _ x=>aBS hF hA x) (a e)⟩⟩⟩
include hA in
theorem aBU(h:oO P (RM ty Wg C n R S) .disable m ann g w):MKd P ty Wg C n R S A g w:=
 ⟨h.1,let⟨a,e,k⟩:=h.2;⟨a,e,_,aaS hA k⟩⟩
end
section
variable {val:Nat->Value} {j:Nat} {Next:aq->Goroutine->World->Prop} {St:Goroutine->World->Prop}
def atG(a:∀g w,Goes P true (RM ty Wg C n R S) DC0 St m g w->∃T,GM P ty Wg C n R (MGo P ty Wg C n val j Next R) T S g w)(h:oO P (RM ty Wg C n R S) .enable m St g w):ayN P ty Wg C n val j Next R S g w:=
 ⟨h.1,let⟨b,e,k⟩:=h.2;⟨b,e,a _ _ k⟩⟩
def aBV(b:∀g w,Goes P true (RM ty Wg C n R S) DC0 St 3 g w->∃T,GM P ty Wg C n R (MGo P ty Wg C n val j Next R) T S g w)(h:akP P (RM ty Wg C n R S) ty Wg St g w):MA1 P ty Wg C n val j Next R S g w:=
 ⟨h.1,λv f d=>by
  obtain⟨k,e,i,c⟩:=h.2 v f d;refine⟨k,e, ?_⟩;by_cases a:v=0
  .exact⟨_,ahz aqA (λ_ _ x=>atG b x) (jV.refl _ _ _) (λ_ _ _=>jV.trans) (i a)⟩
  .exact⟨_,aaS (λ_ _ x=>atG b x) (c a)⟩⟩
def azw(a:∀g w,Goes P true (RM ty Wg C n R S) DC0 St 3 g w->∃T,GM P ty Wg C n R (MGo P ty Wg C n val j Next R) T S g w)(h:oO P (RM ty Wg C n R S) .disable m (akP P (RM ty Wg C n R S) ty Wg St) g w):ass P ty Wg C n val j Next R S g w:=
 ⟨h.1,let⟨b,e,k⟩:=h.2;⟨b,e,_,aaS (λ_ _ x=>aBV a x) k⟩⟩
end
end
end
section
open Go Go.Conc Go.ConcN Go.RowKit Go.Conc.Lib Go.ConcR.Gen Go.ConcN.Gen
open Go.ConcR (KK wgBlock WgAt stA smA rd wr mk Payload Aside2 DC0)
section
variable (P:Program) (R:World->World->Prop) (Wg:Nat)
def atH(g:Goroutine)(w:World):Prop:=∃a,stepG P false g w=.go a w #[mk .disable]
def azx(m:Nat)(g:Goroutine)(w:World):Prop:=∃a,stepG P false g w=.go a w #[mk (.releaseMerge (stA Wg))]/\Goes P false R DC0 (atH P) m a w
end
section
variable {P:Program} {L:WgLink} {R:World->World->Prop} {Wg:Nat} {c:Frame} {cs:List Frame}
def aqB(H:WgLib P L)(b:∀w e,WgLive L.tWg Wg w->R w e->WgLive L.tWg Wg e)(w:World)(a:WgLive L.tWg Wg w) :
  Goes P false R DC0 (azx P R Wg 10) 23 (G ((baseD L.done).at ⟨#[.pointer (some ⟨Wg,0,none⟩),undef,undef,undef],[]⟩ [.code (body_done L)]) (c::cs)) w:=by
 lib_facts
 simp only[body_done,body_add,doneFn,addFn,qo]
 u_reg (b _ _) a
 u_op (b _ _) a
 u_in (b _ _) a
 refine goes_call rfl rfl (by k_ne) rfl H.f_add (nm_add L) rfl ⟨by u_nil, ?_⟩
 walk_nrmf addFn
 u_c kw (b _ _) a
 u_cond true (b _ _) a
 u_c kw (b _ _) a
 u_c kw (b _ _) a
 u_reg (b _ _) a
 u_op (b _ _) a
 u_op (b _ _) a
 u_c fb (b _ _) a
 u_cond true (b _ _) a
 u_reg (b _ _) a
 u_op (b _ _) a
 u_conv H.underlying_tWgP H.room_tWg (WgLive.cell0 a).choose_spec (b _ _) a
 refine qA (λe d=> ?_);replace a:=b _ _ a d;clear d;refine⟨_,uG .releaseMerge (by simp) rfl rfl (by k_ne) rfl H.f_relMerge (x_relMerge_n L) (x_relMerge_b L) (x_relMerge_x L) (x_relMerge_f L) (by simp[Act.eval,stA]), ?_⟩
 walk_nrm
 u_c fb (b _ _) a
 u_c kw (b _ _) a
 u_reg (b _ _) a
 refine qA (λe d=> ?_);replace a:=b _ _ a d;clear d;exact⟨_,uR .disable (by simp) rfl rfl (by k_ne) rfl H.f_disable (x_disable_n L) (x_disable_b L) (x_disable_x L) (x_disable_f L)⟩
end
section
variable [Payload] {P:Program} {ty:TypeId} {Wg C n k:Nat} {R:World->World->Prop} {v:Value}
def atI(c:∀w,R w w)(q:∀g w,St g w->∃p,stepG P false g w=.go p w #[mk (.releaseMerge (stA Wg))]) :
  ∀{m f:Nat} {g:Goroutine} {w:World},Goes P false R DC0 (atH P) m g w->¬Goes P false R (DWs Wg FF FF C n k) St f g w:=by
 have i:∀{f:Nat} {g:Goroutine} {w:World},(∀a,R w a->atH P g a)->¬Goes P false R (DWs Wg FF FF C n k) St f g w:=λ{f g w} d b=>by
  obtain⟨p,e⟩:=d w (c w);have l:¬ ∀a,R w a->St g a:=λh=>by
   obtain⟨s,o⟩:=q _ _ (h w (c w));rw[e] at o;cases o
  cases f with
  |zero=>exact l b
  |succ f=>
   rcases b with b|⟨-,b⟩
   .exact l b
   .have:=b w (c w);rw[e,tE] at this;exact(this.1.2 (mk .disable) (by simp)).2.1 rfl
 intro m
 induction m with
 |zero=>intro f g w d b;exact i d b
 |succ m t=>
  intro f g w d b;rcases d with d|⟨-,d⟩
  .exact i d b
  .have d:=d w (c w);obtain⟨p,j,u,e,⟨rfl,rfl⟩,r⟩:=goes_elim d;have l:¬ ∀a,R j a->St g a:=λh=>by
    obtain⟨s,o⟩:=q _ _ (h j (c j));rw[e] at o;cases o
   cases f with
   |zero=>exact l b
   |succ f=>
    rcases b with b|⟨-,b⟩
    .exact l b
    .have:=b j (c j);rw[e,tE] at this;exact t r this.2
def anr(j:∀w,R w w)(r:∀a b c,R a b->R b c->R a c)(y:∀g w,St g w->∃t,stepG P false g w=.go t w #[mk (.releaseMerge (stA Wg))]) :
  ∀{m o i:Nat} {g:Goroutine} {w:World},Goes P false R DC0 (azx P R Wg o) m g w->Goes P false R (DWs Wg FF FF C n k) St i g w->Goes P false R DC0 St m g w:=by
 have p:∀{m o i:Nat} {g:Goroutine} {w:World},(∀d,R w d->azx P R Wg o g d)->Goes P false R (DWs Wg FF FF C n k) St i g w->Goes P false R DC0 St m g w:=λ{m o i g w} l f=>by
  refine qA λd q=> ?_;have f:=tw r f q;cases i with
  |zero=>exact f d (j _)
  |succ i=>
   rcases f with f|⟨-,f⟩
   .exact f d (j _)
   .obtain⟨t,e,s⟩:=l d q;have:=f d (j _);rw[e,tE] at this;exact absurd this.2 (atI j y s)
 intro m
 induction m with
 |zero=>intro o i g w l f;exact p l f
 |succ m x=>
  intro o i g w l f;rcases l with l|⟨u,l⟩
  .exact p l f
  .cases i with
   |zero=>exact .inl f
   |succ i=>
    rcases f with f|⟨-,f⟩
    .exact .inl f
    .refine .inr ⟨u,λd q=> ?_⟩;obtain⟨t,z,A,e,hd,v⟩:=goes_elim (l d q);have:=f d q;rw[e,tE] at this ⊢;exact⟨hd,x v this.2⟩
end
section
variable [Payload] {P:Program} {L:WgLink} {Wg C n κ:Nat} {val:Nat->Value} {R S:aq} {c:Frame} {cs:List Frame} {qt:Nat}
def aqC(H:WgLib P L)(q:c.mode=.returning)(D:QuitsD P qt 0 (G c cs))(w:World)(v:WgLive L.tWg Wg w)(B:Has C (2*κ) (val (2*κ)) w)(o:Has C (2*κ+1) (val (2*κ+1)) w) :
  bK P false (jV L.tWg Wg C (2*n) R (dS κ)) (Gua Wg C (2*n) R (dS κ)) (ahf P L.tWg Wg C n val κ) S (G ((baseD L.done).at ⟨#[.pointer (some ⟨Wg,0,none⟩),undef,undef,undef],[]⟩ [.code (body_done L)]) (c::cs)) w:=by
 have J:=doneN H (Own:=FF) (Rd:=FF) (Wg:=Wg) (C:=C) (n:=2*n) (Low:=0) (k:=2*κ+1) (val:=val (2*κ)) q D w ⟨v,B⟩;have K:=aqB (Wg:=Wg) (R:=RW L.tWg Wg C (2*n) 0 (2*κ+1-1)) (c:=c) (cs:=cs) H (λ_ _ h r=>r.live h) w v;have E:=anr (St:=AtR0 P L.tWg Wg C (2*n) 0 (2*κ+1) (val (2*κ))) (λw=>⟨λ_ _ _ _=>rfl,id,id,rfl⟩) (λa b c x y=>⟨λb o u z=>(y.low b o u z).trans (x.low b o u z),y.live∘x.live,y.pay∘x.pay,y.cell.trans x.cell⟩)
  (λg w h=>let⟨_,_,s,e,_⟩:=h;⟨s,e⟩) K J
 have t:∀{m:Nat} {g:Goroutine} {w:World},Has C (2*κ+1) (val (2*κ+1)) w->Goes P false (RW L.tWg Wg C (2*n) 0 (2*κ+1-1)) DC0 (AtR0 P L.tWg Wg C (2*n) 0 (2*κ+1) (val (2*κ))) m g w->
   bK P false (jV L.tWg Wg C (2*n) R (dS κ)) (Gua Wg C (2*n) R (dS κ)) (ahf P L.tWg Wg C n val κ) S g w:=by
  have j:∀{w d:World},jV L.tWg Wg C (2*n) R (dS κ) S w d->RW L.tWg Wg C (2*n) 0 (2*κ+1-1) w d:=λf=>jV.rw (i:=2*κ) f (by show 2*κ / 2=κ;omega);have l:∀{w d:World},Has C (2*κ+1) (val (2*κ+1)) w->jV L.tWg Wg C (2*n) R (dS κ) S w d->Has C (2*κ+1) (val (2*κ+1)) d:=λh f=>(f.cell (2*κ+1) (by show(2*κ+1) / 2=κ;omega)).trans h;intro m
  induction m with
  |zero=>intro g w p h;exact .stop λd f=>⟨h d (j f),l p f⟩
  |succ m M=>
   intro g w p h;rcases h with h|⟨F,h⟩
   .exact .stop λd f=>⟨h d (j f),l p f⟩
   .refine .step F λd f=> ?_;obtain⟨s,A,N,e,⟨rfl,rfl⟩,I⟩:=goes_elim (h d (j f));exact⟨s,A,#[],S,e,⟨λ_ _ _ _=>rfl,am _,rfl,id,λ_ _=>rfl,λ_ h=>h,λ_ h=>.inl h,by simp⟩,M (l p f) I⟩
 exact t o E
end
end
section
open Go Go.Conc Go.ConcN Go.RowKit
open Go.ConcR (KK wgBlock WgAt stA smA rd wr mk Payload DC0)
instance aFj:Payload:=⟨171⟩
structure Wx where
 w0:World
 Wg:Nat
 C:Nat
 n2:Nat
 κ:Nat
 R:aq
 Rg:Nat->Prop
 key:Int
 A:Option Addr
 n:Nat
 c:Nat
 l:List ig
 nm:Int
 bk:Nat
 bp:Nat
 bn:Nat
 ba:Nat
 bi:Nat
 tWg:TypeId
structure Wx.Ok (X:Wx):Prop where
 hN:gN<=X.w0.heap.size
 gl:∀g∈gL,X.Rg g
 gr:∀g∈gL,eJ X.w0 g
 k1:1<=X.key
 k2:X.key<=99
 hl:X.l.length=X.n
 hc:X.n<=X.c
 hcm:(X.c:Int)<=9223372036854775807
 rd:RdP X.w0 X.A 0 X.l
 rgp:RgP X.Rg X.w0 X.A X.l
 al:∀a,X.A=some a->X.Rg a.block
 nm:In_ X.nm
 kn:X.κ<X.n2
 rows:∀b,X.Rg b->X.R b
 rk:X.R X.bk/\X.w0.cell? ⟨X.bk,0,none⟩=some (.int .i64 X.key)
 rp:X.R X.bp/\X.w0.cell? ⟨X.bp,0,none⟩=some (.slice X.A X.n X.c)
 rn:X.R X.bn/\X.w0.cell? ⟨X.bn,0,none⟩=some (.int .i64 X.nm)
 ra:X.R X.ba/\X.w0.cell? ⟨X.ba,0,none⟩=some (.slice (some ⟨X.C,0,none⟩) X.n2 X.n2)
 ri:X.R X.bi/\X.w0.cell? ⟨X.bi,0,none⟩=some (.int .i64 X.κ)
 rlt:∀b,X.R b->b<X.w0.heap.size
 rC:¬X.R X.C
 rW:¬X.R X.Wg
 cW:X.C≠X.Wg
abbrev Wx.Rl(X:Wx):aq->World->World->Prop:=jV X.tWg X.Wg X.C (2*X.n2) X.R (dS X.κ)
abbrev Wx.Gr(X:Wx):aq->aq->World->World->Array Event->Prop:=Gua X.Wg X.C (2*X.n2) X.R (dS X.κ)
def Wx.np(X:Wx):pY X.Rl X.R:=⟨λS w=>jV.refl _ _ _ _,λ_ _ _ _=>jV.trans,λ_ _ _ h=>⟨h.keep,h.size,h.os⟩⟩
structure Wx.Inv (X:Wx) (S:aq) (w:World):Prop where
 r:∀b,X.R b->w.heap[b]?=X.w0.heap[b]?
 s:∀b,S b->¬X.R b/\b≠X.C/\b≠X.Wg
 c:X.C<w.heap.size
 wg:X.Wg<w.heap.size
 sz:X.w0.heap.size<=w.heap.size
 live:WgLive X.tWg X.Wg w
 pay:PayAt X.C (2*X.n2) w
 os:w.ou=X.w0.ou
section
variable {X:Wx} {S S':aq} {w w' w1:World} {es:Array Event}
def Wx.Inv.rely(h:X.Inv S w)(a:X.Rl S w w1):X.Inv S w1:=
 ⟨λb c=>(a.keep b (.inr c)).trans (h.r b c),h.s,bd h.c a.size,bd h.wg a.size,db h.sz a.size,a.live h.live,a.pay h.pay,a.os.trans h.os⟩
def Wx.step(s:X.Ok)(h:X.Inv S w)(g:pX X.R S S' w w' es):X.Gr S S' w w' es/\X.Inv S' w':=by
 obtain⟨l,k,q,rfl,B⟩:=g;have m:w'.heap[X.C]?=w.heap[X.C]?:=l _ h.c λd=>(h.s _ d).2.1 rfl;have r:w'.heap[X.Wg]?=w.heap[X.Wg]?:=l _ h.wg λd=>(h.s _ d).2.2 rfl;refine⟨⟨λb c A _=>l b c A,k,q,λ⟨n,a,b⟩=>⟨n,m.trans a,b⟩,λi _=>uq m i,λb c=>.inl c,λb c=>c,λe E=> ?_⟩, ?_⟩
 .obtain⟨C,o,D⟩:=B e E;refine⟨λx v=>(C x v).elim .inl λy=>.inr (.inr y),λj=> ?_,λj=> ?_,λj=> ?_,D⟩
  .rcases o _ j with⟨f,e⟩|e<;>cases e
  .rcases o _ j with⟨f,e⟩|e<;>cases e
  .rcases o _ j with⟨f,e⟩|e<;>cases e
 .have p:∀b,X.R b->b<w.heap.size:=λb c=>bd (s.rlt b c) h.sz;refine⟨λb c=>(l b (p b c) λd=>(h.s b d).1 c).trans (h.r b c),λb c=> ?_,bd h.c k,bd h.wg k,db h.sz k, ?_, ?_,q.trans h.os⟩
  .rcases c with c|⟨c,_⟩
   .exact h.s b c
   .refine⟨λu=> ?_,λe=> ?_,λe=> ?_⟩
    .have:=p b u;omega
    .have:=h.c;omega
    .have:=h.wg;omega
  .obtain⟨z,sm,t⟩:=h.live;exact⟨z,sm,r.trans t⟩
  .obtain⟨n,a,b⟩:=h.pay;exact⟨n,m.trans a,b⟩
def Wx.lift(c:X.Ok){Stop:aq->Goroutine->World->Prop}(h:bK prog false X.Rl (pX X.R) Stop S g w)(hi:X.Inv S w):bK prog false X.Rl X.Gr (λS g w=>Stop S g w/\X.Inv S w) S g w:=
 bK.inv (Rl:=X.Rl) (Gr:=pX X.R) (Gr2:=X.Gr) (Stop:=Stop) (Inv:=X.Inv) (λ_ _ _ a b=>a.rely b) (λ_ _ _ _ _ a b=>Wx.step c a b) (λ_ _ _ a b=>⟨a,b⟩) h hi
def Wx.Inv.cell(h:X.Inv S w)(a:X.R b)(c:X.w0.cell? ⟨b,i,none⟩=some v):w.cell? ⟨b,i,none⟩=some v:=(uq (h.r b a) i).trans c
end
end
section
open Go Go.Conc Go.ConcN Go.RowKit
open Go.ConcR (KK wgBlock WgAt stA smA rd wr mk Payload DC0)
abbrev nCl:FuncId:=108
def lK:Code->Code
 |.seq a _=>a
 |c=>c
def uo:Code->Array Oper
 |.region _ o _=>o
 |_=>#[]
noncomputable def aoL:Code:=f108.body.getD .skip
noncomputable def oI:Array Oper:=uo (lK aoL)
noncomputable def aT:Array Oper:=uo (cj aoL)
def atJ:aoL=.seq (.region 0 oI false) (.region 1 aT true):=rfl
def aoM:aT.size=8:=rfl
def aBW:∃p,aT[0]?=some ⟨some 6,.load 160 (.tmp 4),160,p,#[],none⟩:=⟨_,rfl⟩
def aBX:∃p,aT[1]?=some ⟨some 7,.load 3 (.tmp 5),3,p,#[],none⟩:=⟨_,rfl⟩
def aBY:∃p,aT[2]?=some ⟨some 8,.load 3 (.tmp 1),3,p,#[],none⟩:=⟨_,rfl⟩
def aBZ:∃p,aT[3]?=some ⟨some 9,.load 23 (.tmp 2),23,p,#[],none⟩:=⟨_,rfl⟩
def aB0:∃p,aT[4]?=some ⟨some 10,.load 3 (.tmp 3),3,p,#[],none⟩:=⟨_,rfl⟩
def aB1:∃p,aT[5]?=some ⟨some 11,.call ⟨.value (.func 110),#[.tmp 8,.tmp 9,.tmp 10],#[3,23,3]⟩,171,p,#[⟨2,.data⟩,⟨3,.data⟩,⟨4,.data⟩],none⟩:=⟨_,rfl⟩
def aB2:∃p,aT[6]?=some ⟨some 12,.indexAddr 160 (.tmp 6) (.tmp 7),0,p,#[⟨0,.data⟩,⟨1,.data⟩,⟨0,.phase⟩,⟨1,.phase⟩,⟨2,.phase⟩,⟨3,.phase⟩,⟨4,.phase⟩,⟨5,.phase⟩],none⟩:=⟨_,rfl⟩
def aB3:∃p,aT[7]?=some ⟨none,.store 171 (.tmp 12) (.tmp 11),0,p,#[⟨6,.data⟩,⟨5,.data⟩,⟨5,.chain⟩,⟨0,.phase⟩,⟨1,.phase⟩,⟨2,.phase⟩,⟨3,.phase⟩,⟨4,.phase⟩,⟨5,.phase⟩],none⟩:=⟨_,rfl⟩
def jY(L:Nat->Bool):Nat->Bool
 |5=>L 2&&L 3&&L 4
 |6=>L 0&&L 1&&L 2&&L 3&&L 4&&L 5
 |7=>L 6&&L 5&&L 0&&L 1&&L 2&&L 3&&L 4
 |_=>true
def aoN(L:Nat->Bool)(hi:i<8):((aT[i]?).map (λo:Oper=>o.after.all λe=>!Region.binds .any e||L e.on)).getD false=jY L i:=by
 have:i=0\/i=1\/i=2\/i=3\/i=4\/i=5\/i=6\/i=7:=by omega
 rcases this with rfl|rfl|rfl|rfl|rfl|rfl|rfl|rfl
 .obtain⟨p,e⟩:=aBW;rw[e];simp[jY]
 .obtain⟨p,e⟩:=aBX;rw[e];simp[jY]
 .obtain⟨p,e⟩:=aBY;rw[e];simp[jY]
 .obtain⟨p,e⟩:=aBZ;rw[e];simp[jY]
 .obtain⟨p,e⟩:=aB0;rw[e];simp[jY]
 .obtain⟨p,e⟩:=aB1;rw[e];simp[Region.binds,jY,vU]
 .obtain⟨p,e⟩:=aB2;rw[e];simp[Region.binds,jY];cases L 0<;>cases L 1<;>simp[vU]
 .obtain⟨p,e⟩:=aB3;rw[e];simp[Region.binds,jY];cases L 5<;>cases L 6<;>simp[vU]
def af7(d:listed.size=8) :i∈Region.ready .any aT listed↔i<8/\listed.getD i false=false/\jY (λj=>listed.getD j false) i=true:=by
 unfold Region.ready;rw[sJ,qn,aoM];constructor
 .rintro⟨b,a⟩;rw[aoN (λj=>listed.getD j false) b] at a;simp only[fk,tD] at a;refine⟨b, ?_,a.2⟩;have:=a.1;rw[ip,gt (by omega)] at this ⊢;exact this
 .rintro⟨b,a,c⟩;refine⟨b, ?_⟩;rw[aoN (λj=>listed.getD j false) b,c];rw[ip,gt (by omega)] at a ⊢;simp only[qo] at a ⊢;rw[a];rfl
def unW(listed:Array Bool):Nat:=(List.range 8).countP λi=>!listed.getD i false
def ahA{p q:Nat->Bool}:∀{l:List Nat} {x:Nat},(∀y,q y=true->p y=true)->x∈l->p x=true->q x=false->l.countP q<l.countP p
 |[],x,_,b,_,_=>by cases b
 |a::l,x,h,b,hp,hq=>by
  rw[List.countP_cons,List.countP_cons];have e:l.countP q<=l.countP p:=List.countP_mono_left λy _=>h y;rcases me.1 b with rfl|b
  .rw[hp,hq];simp;omega
  .have:=ahA h b hp hq;have f:=h a;cases d:q a<;>cases c:p a<;>simp_all<;>omega
def iI(hi:i<listed.size):(listed.setIfInBounds i true).getD j false=if j=i then true else listed.getD j false:=by
 rw[ip,ip,qk];by_cases e:i=j
 .subst e;simp[hi]
 .rw[bv e,bv (λx=>e x.symm)]
def awh(b:listed.size=8)(hi:i<8)(h:listed.getD i false=false):unW (listed.setIfInBounds i true)<unW listed:=by
 refine ahA (x:=i) (λy a=> ?_) (qn.2 hi) (by rw[h];rfl) (by rw[iI (by omega)];simp);rw[iI (by omega)] at a;by_cases e:y=i
 .simp[e] at a
 .simpa[e] using a
def aB4(m:listed.size=8)(h:Region.ready .any aT listed=[]\/unW listed=0):∀i,i<8->listed.getD i false=true:=by
 rcases h with h|h
 .have a:∀i,i<8->jY (λj=>listed.getD j false) i=true->listed.getD i false=true:=λi b hd=>by
   cases e:listed.getD i false with
   |true=>rfl
   |false=>
    have:i∈Region.ready .any aT listed:=(af7 m).2 ⟨b,e,hd⟩;rw[h] at this;cases this
  have g:=a 0 (by omega) rfl;have k:=a 1 (by omega) rfl;have c:=a 2 (by omega) rfl;have d:=a 3 (by omega) rfl;have f:=a 4 (by omega) rfl;have l:=a 5 (by omega) (by simp only[jY,c,d,f];rfl);have n:=a 6 (by omega) (by simp only[jY,g,k,c,d,f,l];rfl);have o:=a 7 (by omega) (by simp only[jY,g,k,c,d,f,l,n];rfl);intro i b;have:i=0\/i=1\/i=2\/i=3\/i=4\/i=5\/i=6\/i=7:=by omega
  rcases this with rfl|rfl|rfl|rfl|rfl|rfl|rfl|rfl<;>assumption
 .intro i b;have:=List.countP_eq_zero.1 h i (qn.2 b);simpa using this
end
end Go.Proofs.YtlggbfanooejbaaGreatDoor