/- A part. -/
import Derived.Test.YtepfjblhjlefiaaGreatDoorG7
import Derived.HandedShaped
import Derived.Carry
import Derived.Conc.Holds
import Derived.OpenVars
import Derived.LaidMore
import Derived.Lay
import Derived.SevenTiedAt
import Derived.Test.YtepfjblhjlefiaaGreatDoorTie
import Derived.Test.YtepfjblhjlefiaaGreatDoorCards
import Derived.Conc.WgGenN3
set_option maxRecDepth 100000
set_option maxHeartbeats 8000000
set_option linter.all false
open Go Go.Conc Go.ConcN Go.RowKit Go.Proofs.Tryz Go.Proofs.YtepfjblhjlefiaaGreatDoor
variable {Rr:ak} {s:dE} {x:Sn} {X C b c i j k m n:Nat} {key:Int} {ρ:Ren} {U:Type} {main:Bool} {v:Value} {w w' w0:World} {f:FuncId} {t:TypeId} {P:Program} {l:List Pk} {S:Nat→Bool} {Rg:Nat→Prop} {g:Goroutine} {z:Nat × Nat} {u:Option Nat} {Y T a cs y:Array Value} {A:Option Addr} {p:List MemPlace} {o:Option (List Nd)} {V St:Goroutine→World→Prop} {R:List Frame→World→Prop} {W:List (ByteArray × Bool)} {Z:Int→List gY→Int→ByteArray × Bool}
namespace Go.Proofs.YtepfjblhjlefiaaGreatDoor
def ef:=@Go.Conc.stepG_region_end
def jp:=@Go.Conc.stepG_seq
def rA:=@Go.Conc.stepG_skip
def sb:=@Go.Conc.stepG_ret'
def tO:=@Array.getElem?_replicate
def uv:=@Go.Conc.stepG_markAt
def uz:=@Go.Proofs.Tryz.zeroValue3
def uL:=@Go.Conc.stepG_mark0
def uY:=@Go.MakeChecks.laidMetH_plain
def vj:=@Go.Proofs.Tryz.sizeOf3
def vu:=@Go.Proofs.Tryz.zeroValue4
def vw:=@Go.Proofs.Tryz.zeroValue0
def vA:=@Go.Proofs.Tryz.isAgg3
def vD:=@List.length_pos_of_mem
def vS:=@List.mem_iff_getElem
def vT:=@List.getElem?_append
def vW:=@Go.Claim7.new_of_sixth
def vY:=@Array.getElem?_ofFn
section
open Go.RowKit
def aih(key:Int)(d:1<=key/\key<=99)(l:List Pk)(nm:Int)(v:Value)(w:World)(lo hi:Nat)(y:hi<=w.heap.size)(h:fh w lo hi l [v]) :
  Calls (ah true) 42 #[.int .i64 key,v,.int .i64 nm] w λe n=>e=.returned (.tuple #[.string (bV key (bI l) nm).1,.bool (bV key (bI l) nm).2])/\Below w.heap.size w n:=by
 obtain⟨A,c,rfl⟩:=h.form;obtain⟨_,K,G⟩:=h.len_;unfold maxLen at G;go_enter zf,ntmps42;go_wp2;go_loopw [8] (λi wr=>∃k:Nat,k<=l.length/\i=.int .i64 k/\bV key (bI l) nm=bV key (bI (l.drop k)) nm/\Below w.heap.size w wr) (λi _=>l.length-(intOf i).toNat)
 case atStart=>exact⟨0,fa _,rfl,rfl,ff _ _⟩
 case round=>
  obtain⟨k,J,rfl,f,a⟩:=hrel;replace f:=ab f;have M:=a.size;by_cases r:k<l.length
  .obtain⟨p,s⟩:=aq r;have B:=fh.aw.below h a y;obtain⟨I,z,L,N,rfl, -, -,C,D,x,q⟩:=af3 B s;have m:bV key (bI (l.drop k)) nm=if(fw key (pkd p).2 nm).2=true then((fw key (pkd p).2 nm).1,true) else bV key (bI (l.drop (k+1))) nm:=by
    obtain⟨E,H⟩:=li.1 s;rw[rr E,H];rfl
   have HD:=ab (f.out.trans m);clear m s f;have HG:=λn (u:Below wr.heap.size wr n)=>adG (β:=true) key d p nm _ n lo hi (by have:=u.size;omega) (gK.aw.below q u (by omega));replace HG:=ab HG;have t:=ab (HG.out wr (ff _ _));clear HG;go_wp2;refine t.out.mono ?_;rintro e O ⟨rfl,F⟩;have j:=ae a F;cases o:(fw key (pkd p).2 nm).2
   .have b:=HD.out.trans (bd (by rw[o];exact qm));have g:=ab b;clear b o;go_wp2;go_roundw
    case rel=>exact⟨k+1,by omega,by go_num,g.out,j⟩
    simp[intOf];omega
   .have b:=HD.out.trans (dj o);have g:=ab b;clear b o;go_wp2;go_ret2;rw[g.out];exact⟨rfl,j⟩
  .obtain rfl:k=l.length:=by omega
   have b:bV key (bI l) nm=(⟨#[]⟩,false):=by rw[f.out,tw];rfl
   have g:=ab b;clear b;go_wp2;go_ret2;rw[g.out];exact⟨rfl,a⟩
def eA.aaM(h:o=none)(a:Below w.heap.size w w'):eA o w (.returned (.tuple #[.slice (some ⟨w'.heap.size,0,none⟩) 0 0,.bool false])) (w'.alloc (.cells #[] 50)):=by
 subst h;exact⟨_,rfl,aD.aaM (eD.new w' _ a.size),λy b=>(by cases b),a.alloc a.size _⟩
def apJ{l:List gY}{a:List Int}{n:Int}(h:a[j]?=some n):fY key l (a.take (j+1))=fY key l (a.take j)++[(bV key l n).1]:=by
 unfold fY;rw[mu h,qJ];rfl
theorem afj (key:Int) (N:1<=key/\key<=99) (l:List Pk) (x:Sn) (vl vn:Value) (lo hi:Nat) (w:World) (bG:hi<=w.heap.size) (hl:fh w lo hi l [vl])
  (J:gD w lo hi x.all [vn]) (a1:∀y∈x.all,y.ns.length<=2147483647) (bp:x.all.length<=1099511627) :
  Calls (ah true) 25 #[.int .i64 key,.agg #[.int .i64 x.no,vn],vl] w (eA (dC key (bI l) x.all) w):=by
 have HK:=ab N;clear N;obtain⟨B,d,rfl⟩:=J.form;obtain⟨-,hd,b8⟩:=J.len_;obtain⟨A,c,rfl⟩:=hl.form;unfold maxLen at b8;have bk:=ab a1;clear a1;go_enter xl,ntmps25;go_wp2;generalize hG:(w.alloc (.cells #[.int .i64 x.no,.slice B x.all.length d] 37)).alloc (.cells #[] 50)=w0 at *;obtain⟨aM,jU,k0,dV,gz,k1,bb,b5⟩:=ahB hG;clear hG;have o0:aD jT 50 w0 w.heap.size (.slice (some ⟨w.heap.size+1,0,none⟩) 0 0) []:=aD.aaM ⟨_,rfl,by omega,k1⟩;refine(pG (β:=true) key w0 true (by simp only[sQ];exact HK.out)).mono ?_;rintro e w1 ⟨rfl,rfl⟩;go_wp2;go_loopw [8,9] (λoo ii wr=>∃k:Nat,k<=x.all.length/\ii=.int .i64 k/\(∀y∈x.all.take k,(gU key (bI l) y).isSome=true)/\aD jT 50 wr w.heap.size oo (dA key (bI l) (x.all.take k))/\(∀y∈dA key (bI l) (x.all.take k),jT.good y)/\(dA key (bI l) (x.all.take k)).length=k/\bW wr w.heap.size 37 #[.int .i64 x.no,.slice B x.all.length d]/\(∀b,oo.ownBlock=some b->w.heap.size<b)/\Below w.heap.size w wr) (λ_ ii _=>x.all.length-(intOf ii).toNat)
 case atStart=>exact⟨0,fa _,rfl,λy hy=>(by cases hy),o0,λy hy=>(by cases hy),rfl,k0,(by intro b e;cases e;exact Nat.lt_succ_self _),aM⟩
 case round=>
  clear k0 dV gz aM o0 k1 bb b5 jU;obtain⟨k,hk,rfl,D,ho,a5,a7,k0,aa,Q⟩:=hrel;have P:=ab D;have K:=ab a5;have W:=ab a7;clear D a5 a7;have bw:=Q.size;have dV:=k0.cell;by_cases aU:k<x.all.length
  .obtain⟨y,dI⟩:=aq aU;have ay:gD wr lo hi x.all [.slice B x.all.length d]:=gD.loc.below J Q bG;obtain⟨b,af,A',c',rfl,bF,U,b7,V,a4,a1⟩:=aif ay dI;have HY:=ab dI;have bl:=bk.out y (be dI);clear dI;obtain⟨I,bf⟩:∃I,I=wr:=⟨_,rfl⟩;subst bf;go_wp2;generalize hG:I.alloc (.cells #[] 9)=wa at *;obtain⟨fR,aY,m0,mO,b3⟩:=iB hG;clear hG;have p0:aD gS 9 wa I.heap.size (.slice (some ⟨I.heap.size,0,none⟩) 0 0) []:=aD.aaM ⟨_,rfl,am _,m0⟩;go_loopw [10,11] (λpp kk wi=>∃j:Nat,j<=y.ns.length/\kk=.int .i64 j/\(∀n∈y.ns.take j,(bV key (bI l) n).2=true)/\aD gS 9 wi I.heap.size pp (fY key (bI l) (y.ns.take j))/\Below I.heap.size I wi) (λ_ kk _=>y.ns.length-(intOf kk).toNat)
   case atStart=>exact⟨0,fa _,rfl,λn J=>(by cases J),p0,fR⟩
   case round=>
    clear m0 mO b3 fR aY p0;obtain⟨j,hj,rfl,M,o2,p⟩:=hrel;have jF:=ab M;clear M;have H:=ae Q p;have zr:=H.size;have zi:=p.size;have a2:=av k0 p;have bt:=a2.cell;clear V a4 dV;have b0:gD wr lo hi x.all [.slice (some ⟨b,af,none⟩) x.all.length d]:=gD.loc.below J H bG;obtain⟨b',a6,A2,c2,e2, -, -, -,V,a4,aP⟩:=aif b0 HY.out;simp only[lw,qo,qk] at e2;obtain⟨rfl,rfl⟩:=e2;have bo:(k:Int)<(x.all.length:Int):=by omega
    by_cases b4:j<y.ns.length
    .obtain⟨n,Z⟩:=aq b4;obtain⟨m,br,rfl, -, -,bz,bn⟩:=aP.ints_at Z;have a0:=ab Z;clear Z;have b9:=ab (λ(w':World) (hy:Below wr.heap.size wr w')=>aih key HK.out l n _ w' lo hi (by have:=hy.size;omega) (fh.aw.below (fh.aw.below hl H bG) hy (by omega)));go_wp2;refine(b9.out _ (ff _ _)).mono ?_;rintro e L ⟨rfl,m⟩;have a3:=ae p m;have o:=ae Q a3;have C:=av a2 m;have ao:=C.cell;cases hf:(bV key (bI l) n).2
     .have g:dC key (bI l) x.all=none:=ab5 (be HY.out) (ab4 λhh=>by
       have:=hh.1 n (be a0.out);rw[hf] at this;cases this)
      have t:=ab g;clear g hf;go_wp2;go_ret2;exact eA.aaM t.out o
     .have al:∀z∈y.ns.take (j+1),(bV key (bI l) z).2=true:=λz a=>by
       rw[mu a0.out] at a;rcases jt.1 a with a|a
       .exact jF.out z a
       .rw[gE.1 a];exact hf
      have aL:=ab al;have X:=ab (apJ (key:=key) (l:=bI l) a0.out);have r:(fY key (bI l) (y.ns.take j)).length=j:=by unfold fY;rw[pe,fi];omega
      have R:=ab r;have f:=o2.below m;clear al hf r;revert f X R;generalize fY key (bI l) (y.ns.take j)=G;intro X R f;obtain⟨Ao,co,rfl⟩:=f.form;have u:=a3.size;go_wp2_with(at_builtin;refine bR (F:=gS) (v:=.slice Ao G.length co) rfl (.tmp 58) (.tmp 60) 66 rfl oM (bV key (bI l) n).1 rfl f rfl rfl (by rw[R.out];omega) u ?_;intro va w4 oa E S;obtain⟨Aa,ca,rfl⟩:=oa.form);go_roundw
      case rel=>exact⟨j+1,by omega,by go_num,aL.out,by rw[X.out];simp only[ap,fm,me,ls] at oa;exact oa,a3.trans (E.below u λi hi hx=>by have:=(f.at_ hx).1;omega)⟩
      case measure=>simp[intOf];omega
    .obtain rfl:j=y.ns.length:=by omega
     rw[gt] at jF o2;have Y:∀s∈fY key (bI l) y.ns,aQ (bs s):=λs hs=>by
      obtain⟨n,J,rfl⟩:=mx.1 hs;exact(jo (jF.out n J)).1
     have a9:∀s∈fY key (bI l) y.ns,s.size<=maxLen:=λs hs=>by have:=(dN (Y s hs)).2;unfold maxLen;omega
     have t2:=acn.sl (aD.deep o2 a9 I.heap.size) (am _);have r:(fY key (bI l) y.ns).length<=2147483647:=by unfold fY;rw[pe];exact bl
     have ax:=ab (λ(L:World) (m:Below wr.heap.size wr L)=>amo (β:=true) (fY key (bI l) y.ns) Y r _ L _ _ (cH.aw.below t2 m (am _)) m.size);have ba:=ab (show ajR key (bI l) y.ns from jF.out);obtain⟨A4,c4,rfl⟩:=o2.form;clear Y a9 t2 r o2 jF;go_wp2;refine(ax.out _ (ff _ _)).mono ?_;rintro e L ⟨rfl,m⟩;have o:=ae H m;have C:=av a2 m;cases hj:(fA (fY key (bI l) y.ns)).2
     .have g:dC key (bI l) x.all=none:=ab5 (be HY.out) (ab4 λhh=>by rw[hj] at hh;cases hh.2);have t:=ab g;clear g hj;go_wp2;go_ret2;exact eA.aaM t.out o
     .have O:=agJ (x:=y) ba.out hj;have aJ:(fA (fY key (bI l) y.ns)).1.size<=maxLen:=by have:=afi (l:=fY key (bI l) y.ns);unfold maxLen;omega
      generalize (fA (fY key (bI l) y.ns)).1=tx at *;have an:=adg HY.out O;have a8:∀z∈x.all.take (k+1),(gU key (bI l) z).isSome=true:=λz a=>by
       rw[mu HY.out] at a;rcases jt.1 a with a|a
       .exact P.out z a
       .rw[gE.1 a,O];rfl
      have HN:=ab an;have b1:=ab a8;clear an a8 O hj;have f:=ho.below (ae p m);obtain⟨Ao,co,rfl⟩:=f.form;have u:=o.size;have ao:=C.cell;have bi:gD L lo hi x.all [.slice (some ⟨b,af,none⟩) x.all.length d]:=gD.loc.below J o bG;obtain⟨b',a6,A5,c5,e2, -, -, -,bx,bu, -⟩:=aif bi HY.out;simp only[lw,qo,qk] at e2;obtain⟨rfl,rfl⟩:=e2;clear V a4;go_wp2_with(at_builtin;refine bR (F:=jT) (v:=.slice Ao (dA key (bI l) (x.all.take k)).length co) rfl (.tmp 70) (.tmp 79) 30 rfl lJ (⟨y.p,tx⟩:Nd) rfl f rfl rfl (by rw[W.out];omega) u ?_;intro va w4 oa E S;obtain⟨Aa,ca,rfl⟩:=oa.form;simp only[ap,fm,me,ls] at oa S);go_roundw
      case rel=>
       have ow:=o.trans (E.below u λi hi hx=>by have:=(f.at_ hx).1;omega);refine⟨k+1,by omega,by go_num,b1.out,by rw[HN.out];exact oa, ?_,by rw[HN.out,ap,W.out];rfl,bQ C E (λe=>by have:=aa _ e;omega),(λb Q=>(S b Q).elim (aa b) λh=>by have:=C.lt;omega),ow⟩;rw[HN.out];intro z a;rcases jt.1 a with a|a
       .exact K.out z a
       .rw[gE.1 a];exact⟨b7,aJ⟩
      case measure=>simp[intOf];omega
  .obtain rfl:k=x.all.length:=by omega
   rw[gt] at P K W ho;have t3:=acn.sl (aD.deep ho K.out w.heap.size) (am _);obtain⟨q,hq⟩:∃q:Bool,q=true↔ago (dA key (bI l) x.all):=jv _;have HT:=λL (m:Below wr.heap.size wr L)=>agp (β:=true) (dA key (bI l) x.all) u8 L _ _ (eF.aw.below t3 m (am _)) m.size q hq;have b6:=ab HT;have HQ:=ab hq;clear HT hq t3;go_wp2;refine(b6.out _ (ff _ _)).mono ?_;rintro e w2 ⟨rfl,b2⟩;have U:=ae Q b2;cases q with
   |false=>
    have g:dC key (bI l) x.all=none:=by
     unfold dC;rw[bd];rintro⟨-,hh⟩;have:=HQ.out.2 (acO.1 hh);cases this
    have t:=ab g;clear g;go_wp2;go_ret2;exact eA.aaM t.out U
   |true=>
    have ad:dC key (bI l) x.all=some (dA key (bI l) x.all):=by
     unfold dC;rw[dj ⟨P.out,acO.2 (HQ.out.1 rfl)⟩]
    have T:=ab ad;clear ad;have kD:=ho.below b2;clear ho;go_wp2;go_ret2;refine⟨u8,by rw[T.out];rfl,by rw[T.out];exact kD,by rw[T.out];exact K.out,U⟩
def afk (key:Int) (l:List Pk) (x:Sn) (f g:Value) (lo hi:Nat) (w:World) (o:hi<=w.heap.size) (j:fh w lo hi l [f])
  (m:gD w lo hi x.all [g]) (b:∀y∈x.all,y.ns.length<=2147483647) (i:x.all.length<=1099511627) :
  Calls (ah true) 25 #[.int .i64 key,.agg #[.int .i64 x.no,g],f] w (eA (aaq key (bI l) x.all) w):=by
 by_cases a:1<=key/\key<=99
 .rw[show aaq key (bI l) x.all=dC key (bI l) x.all from dj a];exact afj key a l x f g lo hi w o j m b i
 .rw[show aaq key (bI l) x.all=none from bd a];obtain⟨B,d,rfl⟩:=m.form;obtain⟨A,c,rfl⟩:=j.form;replace a:=ab a;go_enter xl,ntmps25;go_wp2;generalize k:(w.alloc (.cells #[.int .i64 x.no,.slice B x.all.length d] 37)).alloc (.cells #[] 50)=w0 at *;obtain⟨p,D,z,C,v,n,t,q⟩:=ahB k;clear k;refine(pG (β:=true) key w0 false (by simp only[jn,ut];exact a.out)).mono ?_;rintro e u ⟨rfl,rfl⟩;have s:aD jT 50 w0 w.heap.size (.slice (some ⟨w.heap.size+1,0,none⟩) 0 0) []:=aD.aaM ⟨_,rfl,by omega,n⟩;go_wp2;go_ret2;exact⟨_,rfl,s,λy r=>(by cases r),p⟩
def aii(x:Sn)(a:Value)(no:Int)(g:Nat)(w:World)(b:w.cell? ⟨g,0,none⟩=some (.int .i64 no)) :
  Calls (ah true) 16 #[.agg #[.int .i64 x.no,a],.pointer (some ⟨g,0,none⟩)] w λe i=>e=.returned (.bool (x.no ==no))/\Below w.heap.size w i:=by
 have d:=aB w (.cells #[.int .i64 x.no,a] 37);have j:(w.alloc (.cells #[.int .i64 x.no,a] 37)).cell? ⟨g,0,none⟩=some (.int .i64 no):=(qn (d.block g (eH b))).trans b;have f:=eH b;have c:(x.no ==no)=decide (x.no=no):=rfl;rw[c];clear c;go_enter xr,ntmps16;go_wp2;go_ret;exact⟨by rfl,d⟩
def avF:ark (β:=true) 16:=auu xr (by kernel_rfl) rfl
def acm{lo hi:Nat}{xs:List Sn}(h:iK w lo hi xs [.slice A n c])(i:xs[k]?=some x) :
  ∃b a A' d,A=some ⟨b,a,none⟩/\lo<=b/\b<hi/\cA x.no/\w.cell? ⟨b,a+k*2,none⟩=some (.int .i64 x.no)/\w.cell? ⟨b,a+k*2+1,none⟩=some (.slice A' x.all.length d)/\gD w lo hi x.all [.slice A' x.all.length d]:=by
 obtain⟨b,a,m,rfl,j,g,l,⟨v,rfl,f,hi⟩,e⟩:=h.at_ i;obtain⟨A',d,rfl⟩:=hi.form;exact⟨b,a,A',d,rfl,j,g,f,by simpa using e 0 _ rfl,e 1 _ rfl,hi⟩
def asW(xs:List Sn)(no:Int)(A:Option Addr)(c g:Nat)(w:World)(lo hi:Nat)(h:iK w lo hi xs [.slice A xs.length c])(D:hi<=w.heap.size)(v:w.cell? ⟨g,0,none⟩=some (.int .i64 no)) :
  Calls (ah true) 15 #[.slice A xs.length c,.func (.func 16) #[] #[.pointer (some ⟨g,0,none⟩)]] w λe u=>∃j:Int,e=.returned (.int .i64 j)/\((∃(k:Nat) (y:Sn),j=k/\k<xs.length/\xs[k]?=some y/\xs.find? (λx=>x.no ==no)=some y)\/(j=-1/\xs.find? (λx=>x.no ==no)=none))/\Below w.heap.size w u:=by
 obtain⟨_,K,G⟩:=h.len_;unfold maxLen at G;have t:=eH v;go_enter zF,ntmps15;go_wp2;go_loopw [8] (λi wr=>∃k:Nat,k<=xs.length/\i=.int .i64 k/\xs.find? (λx=>x.no ==no)=(xs.drop k).find? (λx=>x.no ==no)/\Below w.heap.size w wr) (λi _=>xs.length-(intOf i).toNat)
 case atStart=>exact⟨0,fa _,rfl,rfl,ff _ _⟩
 case round=>
  obtain⟨k,J,rfl,a,q⟩:=hrel;replace a:=ab a;have s:wr.cell? ⟨g,0,none⟩=some (.int .i64 no):=(qn (q.block g t)).trans v;by_cases n:k<xs.length
  .obtain⟨x,o⟩:=aq n;obtain⟨b,F,B,d,rfl,_,_,H,z,I,L⟩:=acm (iK.loc.below h q D) o;have l:xs.drop k=x::xs.drop (k+1):=by
    obtain⟨E,C⟩:=li.1 o;rw[rr E,C]
   replace o:=ab o;replace l:=ab l;have M:=avF (#[.agg #[.int .i64 x.no,.slice B x.all.length d]]++#[.pointer (some ⟨g,0,none⟩)]) wr;go_wp2;refine(aii x _ no g wr s).mono ?_;rintro e u ⟨rfl,m⟩;replace m:=ae q m;cases f:(x.no ==no)
   .have p:xs.find? (λx=>x.no ==no)=(xs.drop (k+1)).find? (λx=>x.no ==no):=by rw[a.out,l.out,rq,f]
    have r:=ab p;clear p f;go_wp2;go_roundw
    case rel=>exact⟨k+1,by omega,by go_num,r.out,m⟩
    simp[intOf];omega
   .have p:xs.find? (λx=>x.no ==no)=some x:=by rw[a.out,l.out,rq,f]
    have r:=ab p;clear p f;go_wp2;go_ret;exact⟨k,rfl,.inl ⟨k,x,rfl,n,o.out,r.out⟩,m⟩
  .obtain rfl:k=xs.length:=by omega
   go_wp2;go_ret;exact⟨-1,rfl,.inr ⟨rfl,by rw[a.out,tw];rfl⟩,q⟩
def iJ.akN{lo hi:Nat}(h:iJ w lo hi l [v]):∀p∈bI l,cA p.1:=λp a=>by
 obtain⟨A,c,rfl⟩:=cR.form h;obtain⟨q,d,rfl⟩:=mx.1 a;obtain⟨i,hi⟩:=rx.1 d;obtain⟨_,_,_,_,_,_,_,⟨_,_,b,_⟩,_⟩:=cR.at_ h hi;exact b
noncomputable def dt(key:Int)(s:dE)(no:Int):Option (List Nd):=match s.sn.find? (λx=>x.no ==no) with
 |some x=>aaq key (bI s.pk) x.all
 |none=>none
def aqG(a:1<=key/\key<=99)(s:dE)(no:Int):dt key s no=nG key s no:=by
 unfold dt nG;cases s.sn.find? (λx=>x.no ==no) with
 |none=>rfl
 |some x=>exact dj a
def acV(key:Int)(s:dE)(hs:SmS s)(O:∀p∈s.pk,1<=p.its.length)(no:Int)(va vb vc:Value)(lo hi:Nat)(w:World)(hg:Glo w)(R:hi<=w.heap.size)(h:oA w lo hi s va vb vc) :
  Calls (ah true) 6 #[.int .i64 key,.agg #[va,vb,vc],.int .i64 no] w (eA (dt key s no) w):=by
 obtain⟨G,H,h3⟩:=h;obtain⟨A,a,rfl⟩:=cR.form G;obtain⟨B,b,rfl⟩:=cR.form H;have fN:∀p∈bI s.pk,1<=p.2.length/\cA p.1:=λp hp=>⟨by
  obtain⟨q,hq,rfl⟩:=mx.1 hp;have:=O q hq;unfold pkd;simpa using this,G.akN p hp⟩
 obtain⟨-,ha,N⟩:=cR.len_ G;obtain⟨-,hb,a2⟩:=cR.len_ H;have HM:=ab N;have V:=ab fN;have HS:=ab hs;have f:dt key s no=match s.sn.find? (λx=>x.no ==no) with
  |some x=>aaq key (bI s.pk) x.all
  |none=>none:=rfl
 replace f:=ab f;clear fN hs O N;unfold maxLen at a2;go_enter qF6,ntmps6;go_wp2;generalize hG:(w.alloc (.cells #[.slice A s.pk.length a,.slice B s.sn.length b,vc] 27)).alloc (.cells #[.int .i64 no] 3)=w0 at *;obtain⟨P,jU,S,W,gz,k1,X,a8⟩:=ahB hG;clear hG;have E:w0.cell? ⟨w.heap.size+1,0,none⟩=some (.int .i64 no):=X 0;have M:=iJ.loc.below G P R;have D:=iK.loc.below H P R;have a6:=P.size;refine(asW s.sn no B b _ w0 lo hi D (by omega) E).mono ?_;rintro e w1 ⟨j,rfl,hj,b1⟩;have g:=ae P b1;rcases hj with⟨k,y,rfl,a5,Z,l⟩|⟨rfl,l⟩
 .obtain⟨bb,a9,C,d,rfl,_,_,aa,T,a3,F⟩:=acm (iK.loc.below H g R) Z;have J:=HS.out.sn y (be Z);have i:dt key s no=aaq key (bI s.pk) y.all:=by rw[f.out,l]
  have r:=ab i;have a1:=ab J;have H1:=ab (iJ.loc.below G g R);replace F:=ab F;clear i l Z J M D G H E f;replace S:=av S b1;replace W:=S.cell;replace gz:=S.frozen;have f0:=W 0;have f1:=W 1;have a7:=g.size;have U:=hg.below g;go_wp2;have aJ:=aj f0;have aL:=aj f1;have cB:=aj T;have jA:=aj a3;refine bB 11 [0,1,2,3,4,5,6,7] [8,9,10] (h:= ?_);simp only[pick,List.map,pa,pb];repeat(go_big_quiet_step (fail))
  refine iS ?_;clear aJ aL cB jA;apply Exists.intro;apply bN (λv Y=>∃u,v=.tuple #[u,.bool (dt key s no).isSome]/\aD jT 50 Y w.heap.size u ((dt key s no).getD [])/\∀y∈(dt key s no).getD [],jT.good y)
  .rfl
  .exact λv x y ⟨u,e,ho,hgd⟩ hle=>⟨u,e,ho.below hle,hgd⟩
  .intro z n Qx c;replace c:=ab c;clear n;have L:=U.below z.ok;have a4:=z.ok.size;have iC:=(iJ.loc.below H1.out z.ok (by omega)).pkl (by omega);have o:=gD.loc.below F.out z.ok (by omega);have K:=a1.out;have t:(bI s.pk).length=s.pk.length:=pe _;have Q:=amu key (bI s.pk) A a y _ lo hi z.to L (by omega) iC (by rw[t];exact ha) HM.out V.out o (λq hq=>by have:=(K.2 q hq).2;omega) (by omega);rw[t] at Q;replace Q:=ab Q;clear iC o K L t;go_wp2;refine Q.out.mono ?_;rintro e w5 ⟨u,rfl,I,m,b5⟩;go_wp2;rw[<-r.out] at I m ⊢;exact c.out _ _ b5 ⟨_,rfl,I.base (by omega),m⟩
  intro v8;apply bN (λv Y=>aD jT 50 Y w.heap.size v ((dt key s no).getD [])/\∀y∈(dt key s no).getD [],jT.good y)
  .rfl
  .exact λv x y ⟨ho,hgd⟩ hle=>⟨ho.below hle,hgd⟩
  .intro z n Qx c;replace c:=ab c;obtain⟨u,rfl,I,m⟩:=n.1 (by kernel_rfl);go_wp2;exact c.out _ _ (ff _ _) ⟨I,m⟩
  intro v9;apply kQ (.bool (dt key s no).isSome)
  .intro z n Qx c;replace c:=ab c;obtain⟨u,rfl,I,m⟩:=n.2.1 (by kernel_rfl);go_wp2;exact c.out _ (ff _ _)
  refine dD ?_;intro w6 ni xx kR n;dsimp only[iZ] at n;try rw[kR] at n
  clear kR xx;obtain⟨⟨o9,a0⟩, -⟩:=n;simp only[List.drop];have ow:=ae g ni;go_wp2;go_ret2;exact⟨_,rfl,o9,a0,ow⟩
 .have i:dt key s no=none:=by rw[f.out,l]
  have r:=ab i;clear i l M D G H E f;go_wp2;go_ret2;exact eA.no r.out g
def apK{xs:List Sn}{no:Int}(h:xs[k]?=some x):(xs.drop k).find? (λx=>x.no ==no)=if x.no=no then some x else(xs.drop (k+1)).find? (λx=>x.no ==no):=by
 obtain⟨c,b⟩:=li.1 h;rw[rr c,b,rq];by_cases a:x.no=no
 .rw[dj a,show(x.no ==no)=true from mp.2 a]
 .rw[bd a,show(x.no ==no)=false from dq.2 a]
def apL{no : Int}(h:s.sn.find? (λx=>x.no ==no)=some x):dt key s no=aaq key (bI s.pk) x.all:=by unfold dt;rw[h]
def amv{no : Int}(h:s.sn.find? (λx=>x.no ==no)=none):dt key s no=none:=by unfold dt;rw[h]
def apM{no : Int}(h:¬(1<=key/\key<=99)):dt key s no=none:=by
 unfold dt;cases s.sn.find? (λx=>x.no ==no) with
 |none=>rfl
 |some x=>exact bd h
def aj0(key:Int)(s:dE)(R:SmS s)(no:Int)(M vb vc:Value)(lo hi:Nat)(w:World)(Y:hi<=w.heap.size)(hp:fh w lo hi s.pk [M])(h:oA w lo hi s M vb vc) :
  Calls (ah true) 14 #[.int .i64 key,.agg #[M,vb,vc],.int .i64 no] w (eA (dt key s no) w):=by
 obtain⟨h1,K,h3⟩:=h;obtain⟨A,a,rfl⟩:=cR.form h1;obtain⟨B,b,rfl⟩:=cR.form K;obtain⟨C,c,rfl⟩:=cR.form h3;obtain⟨-,hb,T⟩:=cR.len_ K;unfold maxLen at T;replace R:=ab R;go_enter zG,ntmps14;go_wp2;generalize X:w.alloc (.cells #[.slice A s.pk.length a,.slice B s.sn.length b,.slice C s.lg.length c] 27)=w0 at *;obtain⟨V,jU,k0,dV,gz⟩:=iB X;clear X;have z0:=V.size;go_loopw [8] (λi wr=>∃k:Nat,k<=s.sn.length/\i=.int .i64 k/\s.sn.find? (λx=>x.no ==no)=(s.sn.drop k).find? (λx=>x.no ==no)/\Below w0.heap.size w0 wr) (λi _=>s.sn.length-(intOf i).toNat)
 case atStart=>exact⟨0,fa _,rfl,rfl,ff _ _⟩
 case round=>
  obtain⟨k,hk,rfl,G,n⟩:=hrel;replace G:=ab G;have zr:=n.size;have l:=ae V n;have I:=av k0 n;have H:=I.cell;have a1:=I.frozen;clear dV gz;by_cases N:k<s.sn.length
  .obtain⟨y,J⟩:=aq N;obtain⟨bb,a2,C',d,rfl,_,_,a3,L,U,p⟩:=acm (iK.loc.below K l Y) J;have t:=ab (G.out.trans (apK (no:=no) J));have Q:=ab (R.out.sn y (be J));clear J;by_cases D:y.no=no
   .have t1:(y.no ==no)=true:=mp.2 D;have g:=apL (key:=key) (s:=s) (t.out.trans (dj D));have o:=ab g;clear g D;have f0:=H 0;have f1:=H 1;have r:=fh.aw.below hp l Y;replace r:=ab r;replace p:=ab p;clear G t;go_wp2;have aJ:=aj f0;have aL:=aj f1;have cB:=aj L;have jA:=aj U;refine bB 11 [0,1,2,3,4,5,6,7] [8,9,10] (h:= ?_);simp only[pick,List.map,pa,pb];repeat(go_big_quiet_step (fail))
    refine iS ?_;clear aJ aL cB jA;apply Exists.intro;apply bN (λv O=>∃u,v=.tuple #[u,.bool (dt key s no).isSome]/\aD jT 50 O w.heap.size u ((dt key s no).getD [])/\∀y∈(dt key s no).getD [],jT.good y)
    .rfl
    .exact λv x y ⟨u,e,ho,hgd⟩ hle=>⟨u,e,ho.below hle,hgd⟩
    .intro z m W f;replace f:=ab f;clear m;have a0:=z.ok.size;have F:=Q.out;have S:=ab (afk key s.pk y _ _ lo hi z.to (by omega) (fh.aw.below r.out z.ok (by omega)) (gD.loc.below p.out z.ok (by omega)) (λq hq=>by have:=(F.2 q hq).2;omega) (by omega));clear F;go_wp2;refine S.out.mono ?_;rintro e w5 ⟨u,rfl,E,j,b5⟩;go_wp2;rw[<-o.out] at E j ⊢;exact f.out _ _ b5 ⟨_,rfl,E.base (by omega),j⟩
    intro v8;apply bN (λv O=>aD jT 50 O w.heap.size v ((dt key s no).getD [])/\∀y∈(dt key s no).getD [],jT.good y)
    .rfl
    .exact λv x y ⟨ho,hgd⟩ hle=>⟨ho.below hle,hgd⟩
    .intro z m W f;replace f:=ab f;obtain⟨u,rfl,E,j⟩:=m.1 (by kernel_rfl);go_wp2;exact f.out _ _ (ff _ _) ⟨E,j⟩
    intro v9;apply kQ (.bool (dt key s no).isSome)
    .intro z m W f;replace f:=ab f;obtain⟨u,rfl,E,j⟩:=m.2.1 (by kernel_rfl);go_wp2;exact f.out _ (ff _ _)
    refine dD ?_;intro w6 ni xx Z m;dsimp only[iZ] at m;try rw[Z] at m
    clear Z xx;obtain⟨⟨o9,P⟩, -⟩:=m;simp only[List.drop];have ow:=ae l ni;go_wp2;go_ret2;exact⟨_,rfl,o9,P,ow⟩
   .have t1:(y.no ==no)=false:=dq.2 D;have HN:=ab (t.out.trans (bd D));clear D;go_wp2;go_roundw
    case rel=>exact⟨k+1,by omega,by go_num,HN.out,n⟩
    simp[intOf];omega
  .obtain rfl:k=s.sn.length:=by omega
   have g:dt key s no=none:=amv (by have:=G.out;rw[tw] at this;exact this);have o:=ab g;clear g;go_wp2;go_ret2;exact eA.aaM o.out l
def adw(key:Int)(s:dE)(m:SmS s)(no:Int)(j k n:Value)(lo hi:Nat)(w:World)(r:hi<=w.heap.size)(v:fh w lo hi s.pk [j])(h:oA w lo hi s j k n) :
  Calls (ah true) 5 #[.int .i64 key,.agg #[j,k,n],.int .i64 no] w (eA (dt key s no) w):=by
 replace m:=ab m;obtain⟨⟨A,a,rfl⟩,⟨B,b,rfl⟩,C,c,rfl⟩:(∃A a,j=.slice A s.pk.length a)/\(∃B b,k=.slice B s.sn.length b)/\∃C c,n=.slice C s.lg.length c:=⟨cR.form h.pk,cR.form h.sn,cR.form h.lg⟩;replace h:=ab h;go_enter qF5,ntmps5;go_wp2;generalize t:w.alloc (.cells #[.slice A s.pk.length a,.slice B s.sn.length b,.slice C s.lg.length c] 27)=w0 at *;obtain⟨g,H,D,G,y⟩:=iB t;clear t;have x:=g.size;obtain⟨q,i⟩:=jv (1<=key/\key<=99);refine(pG (β:=true) key w0 q i).mono ?_;rintro e u ⟨rfl,rfl⟩;cases q
 .have d:dt key s no=none:=apM λh=>by have:=i.2 h;cases this
  replace d:=ab d;clear i;go_wp2;go_ret2;exact eA.aaM d.out g
 .clear i;go_wp2;refine(aj0 key s m.out no _ _ _ lo hi w0 (by omega) (fh.aw.below v g r) (h.out.below g r)).mono ?_;rintro e u ⟨E,rfl,l,f,p⟩;obtain⟨z,F,rfl⟩:=l.form;have o:=ab (And.intro (l.base x) (And.intro f (ae g p)));clear l f p;go_wp2;go_ret2;exact⟨_,rfl,o.out.1,o.out.2.1,o.out.2.2⟩
def aj1{a b:ByteArray}(h:(a.toList ==b.toList)=true):a=b:=by
 have h:=eq_of_beq h;rw[qx,qx] at h;obtain⟨⟨x⟩⟩:=a;obtain⟨⟨y⟩⟩:=b;have h:x=y:=h;rw[h]
def aBk{x y:Nd}(f:(x.p.toList ==y.p.toList)=true)(e:(x.b.toList ==y.b.toList)=true):x=y:=by
 have a:=aj1 f;have d:=aj1 e;obtain⟨p,b⟩:=x;obtain⟨q,c⟩:=y;dsimp only at a d;rw[a,d]
def axc{x y:Nd}(h:(x.p.toList ==y.p.toList)=false\/(x.b.toList ==y.b.toList)=false):x≠y:=by
 rintro rfl;rcases h with h|h<;>simp at h
def aqF(xs s:List Nd)(P R:Value)(w:World)(lo hi M T:Nat)(F:eF w lo hi xs [P])(N:eF w M T s [R])(H:hi<=w.heap.size)(I:T<=w.heap.size)(q:Bool)(g:q=true↔xs=s) :
  Calls (ah true) 7 #[P,R] w λe U=>e=.returned (.bool q)/\Below w.heap.size w U:=by
 have D:=ab g;clear g;obtain⟨A,c,rfl⟩:=F.form;obtain⟨B,d,rfl⟩:=N.form;obtain⟨_,Z,W⟩:=F.len_;unfold maxLen at W;go_enter qF7,ntmps7;by_cases j:xs.length=s.length
 .go_wp2;go_loopw [5] (λi wr=>∃k:Nat,k<=xs.length/\i=.int .i64 k/\xs.take k=s.take k/\Below w.heap.size w wr) (λi _=>xs.length-(intOf i).toNat)
  case atStart=>exact⟨0,fa _,rfl,rfl,ff _ _⟩
  case round=>
   obtain⟨k,Y,rfl,b,p⟩:=hrel;replace b:=ab b;by_cases E:k<xs.length
   .obtain⟨x,r⟩:=aq E;obtain⟨y,o⟩:=aq (l:=s) (k:=k) (by omega);obtain⟨X,V,rfl,_,_,_,J,K⟩:=jI (eF.aw.below F p H) r;obtain⟨b2,nP,rfl,_,_,_,L,G⟩:=jI (eF.aw.below N p I) o;replace r:=ab r;replace o:=ab o;go_wp2;cases S:(x.p.toList ==y.p.toList)
    .have a:q=false:=by
      rw[<-lc,D.out];intro e;have:some x=some y:=by rw[<-r.out,<-o.out,e]
      exact axc (.inl S) (dl this)
     have m:=ab a;clear a;have C:=aj J;have u:=aj K;have t:=aj L;have z:=aj G;refine aG (by kernel_rfl) (by kernel_rfl) ?_;repeat(go_big_quiet_step (fail))
     refine iS ?_;intro O f;have g:=aN f;clear f C u t z;go_wp2;go_ret;exact⟨aA m.out.symm,ae p g⟩
    .cases Q:(x.b.toList ==y.b.toList)
     .have a:q=false:=by
       rw[<-lc,D.out];intro e;have:some x=some y:=by rw[<-r.out,<-o.out,e]
       exact axc (.inr Q) (dl this)
      have m:=ab a;clear a;have C:=aj J;have u:=aj K;have t:=aj L;have z:=aj G;refine aG (by kernel_rfl) (by kernel_rfl) ?_;repeat(go_big_quiet_step (fail))
      refine iS ?_;intro O f;have g:=aN f;clear f C u t z;go_wp2;go_ret;exact⟨aA m.out.symm,ae p g⟩
     .have v:=aBk S Q;have n:xs.take (k+1)=s.take (k+1):=by rw[mu r.out,mu o.out,b.out,v]
      replace n:=ab n;clear v;have C:=aj J;have u:=aj K;have t:=aj L;have z:=aj G;refine aG (by kernel_rfl) (by kernel_rfl) ?_;repeat(go_big_quiet_step (fail))
      refine iS ?_;intro O f;have g:=aN f;clear f C u t z;go_wp2;go_roundw
      case rel=>exact⟨k+1,by omega,by go_num,n.out,ae p g⟩
      simp[intOf];omega
   .obtain rfl:k=xs.length:=by omega
    have a:q=true:=D.out.2 (by
     have:=b.out;rw[gt,j,gt] at this;exact this)
    have m:=ab a;clear a;go_wp2;go_ret;exact⟨aA m.out.symm,p⟩
 .have a:q=false:=by
   rw[<-lc,D.out];rintro rfl;exact j rfl
  have m:=ab a;clear a;go_wp2;go_ret;exact⟨aA m.out.symm,ff _ _⟩
def aqH(o:Option (List Nd))(base:Nat)(v:Value)(w:World):Prop:=∃u,v=.tuple #[u,.bool o.isSome]/\aD jT 50 w base u (o.getD [])/\∀y∈o.getD [],jT.good y
def aqI(o:Option (List Nd))(base:Nat)(v:Value)(w:World):Prop:=aD jT 50 w base v (o.getD [])/\∀y∈o.getD [],jT.good y
def aqH.below{base:Nat}{x y:World}(h:aqH o base v x)(c:Below x.heap.size x y):aqH o base v y:=by
 obtain⟨u,e,b,a⟩:=h;exact⟨u,e,b.below c,a⟩
def aqI.below{base:Nat}{x y:World}(h:aqI o base v x)(a:Below x.heap.size x y):aqI o base v y:=⟨h.1.below a,h.2⟩
end
section
variable {β:Bool}
open Go.RowKit
def abk(key:Int)(z:1<=key/\key<=99)(p:Pk)(v:Value)(w:World)(lo hi:Nat)(bG:hi<=w.heap.size)(h:gK w lo hi p.its [v])(b:Bool)(F:b=true↔am8 key p) :
  Calls (ah β) 29 #[.int .i64 key,.agg #[.int .i64 p.no,v]] w λe w'=>e=.returned (.bool b)/\Below w.heap.size w w':=by
 replace F:=ab F;obtain⟨A,c,rfl⟩:=h.form;obtain⟨_,hc,hx⟩:=h.len_;unfold maxLen at hx;go_enter zu,ntmps29;go_wp2;generalize K:w.alloc (.cells #[.int .i64 p.no,.slice A p.its.length c] 62)=w0 at *;obtain⟨G,jU,k0,dV,gz⟩:=iB K;clear K;have h0:=gK.aw.below h G bG;have z0:=G.size;go_loopw [12] (λi wr=>∃k:Nat,k<=p.its.length/\i=.int .i64 k/\ahI key (p.its.take k)/\Below w0.heap.size w0 wr) (λi _=>p.its.length-(intOf i).toNat)
 case atStart=>exact⟨0,fa _,rfl,arp key,ff _ _⟩
 case round=>
  obtain⟨k,hk,rfl,R,n⟩:=hrel;replace R:=ab R;have u:=av k0 n;clear k0 dV gz;have zr:=n.size;by_cases X:k<p.its.length
  .obtain⟨x,C⟩:=aq X;have Y:=gK.aw.below h0 n (by omega);obtain⟨M,a1,rfl,_,_,I,cn,cb⟩:=aeK Y C;replace C:=ab C;have HS:=ab I.2;have r:=nz (key:=key) (x:=x);replace r:=ab r;go_wp2;generalize K:wr.alloc (.cells #[.int .i64 x.n,.string x.b] 59)=wa at *;obtain⟨S,a2,U,mO,Z⟩:=iB K;clear K;refine(anK key (x.n,x.b) z HS.out wa).mono ?_;rintro e w1 ⟨rfl,M⟩;have H1:=gK.aw.below Y (ae S M) (by omega);have k1:=av u (ae S M);replace U:=av U M;replace mO:=U.cell;replace Z:=U.frozen;have f:=ae n (ae S M);have H:=k1.cell 1;have t:=mO 0;obtain⟨q,a⟩:∃q,q=(dL key (x.n,x.b)).2:=⟨_,rfl⟩;rw[<-a] at r ⊢;generalize (dL key (x.n,x.b)).1=pc;clear a u k1 cn cb S I Y;cases q with
   |false=>
    have m:b=false:=by
     rw[<-lc,F.out];intro T;have:=r.out.1 (T.2.2.2.1 x (be C.out));cases this
    have E:=ab m;clear m;go_wp2;have D:=aj H;have B:=aj t;refine aG (by kernel_rfl) (by kernel_rfl) ?_;repeat(go_big_quiet_step (fail))
    refine iS ?_;intro V g;have a:=aN g;clear g D B;go_wp2;go_ret;exact⟨aA E.out.symm,ae G (ae f a)⟩
   |true=>
    have d:=r.out.2 rfl;have o:=ab d;clear d;rcases oE k with L|L
    .subst L;have J:=aro C.out o.out;have HK:=ab J;clear J;go_wp2;have D:=aj H;have B:=aj t;refine aG (by kernel_rfl) (by kernel_rfl) ?_;repeat(go_big_quiet_step (fail))
     refine iS ?_;intro V g;have a:=aN g;clear g D B;go_wp2;go_roundw
     case rel=>first|exact⟨1,by omega,by go_num,HK.out,ae f a⟩|((repeat apply Exists.intro);refine⟨?_,rfl⟩;exact⟨1,by omega,by go_num,HK.out,ae f a⟩)
     simp[intOf];omega
    .obtain⟨j,rfl⟩:∃j,k=j+1:=⟨k-1,by omega⟩;have e1:((j+1:Nat):Int)-1=(j:Int):=by omega
     obtain⟨y,N⟩:=aq (l:=p.its) (k:=j) (by omega);obtain⟨b2,nP,O,_,_,a0,P,a3⟩:=aeK H1 N;simp only[lw,qo,qk] at O;obtain⟨rfl,rfl⟩:=O;replace N:=ab N;by_cases s:y.n<x.n
     .have u1:=bv (show ¬(x.n<=y.n) by omega);have J:=auw R.out N.out C.out o.out s;have HK:=ab J;clear J s;go_wp2;have D:=aj H;have B:=aj t;have W:=aj P;refine aG (by kernel_rfl) (by kernel_rfl) ?_;repeat(go_big_quiet_step (fail))
      refine iS ?_;intro V g;have a:=aN g;clear g D B W;go_wp2;go_roundw
      case rel=>first|exact⟨j+1+1,by omega,by go_num,HK.out,ae f a⟩|((repeat apply Exists.intro);refine⟨?_,rfl⟩;exact⟨j+1+1,by omega,by go_num,HK.out,ae f a⟩)
      simp[intOf];omega
     .have u1:=de (show x.n<=y.n by omega);have m:b=false:=by
       rw[<-lc,F.out];exact λT=>auy N.out C.out s ⟨T.2.2.2.1,T.2.2.2.2⟩
      have E:=ab m;clear m s;go_wp2;have D:=aj H;have B:=aj t;have W:=aj P;refine aG (by kernel_rfl) (by kernel_rfl) ?_;repeat(go_big_quiet_step (fail))
      refine iS ?_;intro V g;have a:=aN g;clear g D B W;go_wp2;go_ret;exact⟨aA E.out.symm,ae G (ae f a)⟩
  .obtain rfl:k=p.its.length:=by omega
   have f0:=u.cell 0;have H:=u.cell 1;have d:=R.out;rw[gt] at d;have o:=ab d;clear d R;go_wp2;refine(py (β:=β) key wr true (by simp;omega)).mono ?_;rintro e w1 ⟨rfl,rfl⟩;have fin:∀q:Bool,(q=true↔(1<=p.no/\p.no<=99)/\1<=(p.its.length:Int)/\(p.its.length:Int)<=4)->b=q:=λq a=>by
    rw[qh,F.out,a];exact⟨λh=>⟨h.1,by have:=h.2.2.1;omega⟩,λh=>⟨h.1,z,by have:=h.2;omega,o.out.1,o.out.2⟩⟩
   replace fin:=ab fin;have Q:=ae G n;by_cases t1:1<=p.no
   .by_cases t2:p.no<=99
    .by_cases t3:1<=(p.its.length:Int)
     .by_cases t4:(p.its.length:Int)<=4
      .go_wp2;go_ret;exact⟨aA (fin.out _ (by simp;omega)).symm,Q⟩
      .go_wp2;go_ret;exact⟨aA (fin.out _ (by simp;omega)).symm,Q⟩
     .go_wp2;go_ret;exact⟨aA (fin.out _ (by simp;omega)).symm,Q⟩
    .go_wp2;go_ret;exact⟨aA (fin.out _ (by simp;omega)).symm,Q⟩
   .go_wp2;go_ret;exact⟨aA (fin.out _ (by simp;omega)).symm,Q⟩
end
section
variable {β:Bool}
open Go.RowKit
def ab6(x:Hd):Prop:=(1<=x.b/\x.b<=2)/\1<=x.s/\x.s<=20
def aiB(l:List Hd):Prop:=l.length<=9/\∀x∈l,ab6 x
def avG:ark (β:=β) 34:=auu xk (by kernel_rfl) rfl
end
section
open Go.RowKit
def WfS.okl(h:WfS s):aiB s.lg:=⟨h.ll,h.lg⟩
def aij{z:Int}(a:0<=z)(b:z<3):wrap64 z=z:=by unfold wrap64;omega
def avH{x:Hd}(h:ab6 x):(ac7 x).b=3-x.b/\(ac7 x).s=x.s:=by
 have:=h.1;exact⟨aij (by omega) (by omega),rfl⟩
def amw(x:U)(l:List U)(f:U->U):tQ (x::l) 0 f=f x::l:=rfl
def amx(x:U)(l:List U)(n:Nat)(f:U->U):tQ (x::l) (n+1) f=x::tQ l n f:=by
 unfold tQ;simp only[List.getElem?_cons_succ];cases l[n]?<;>rfl
def afQ:Int->List Hd->Int
 |a,[]=>a
 |a,x::l=>afQ (a*64+21*x.b+x.s) l
def amy(l:List Hd):Int:=afQ 0 l
def aj2:∀{l:List Hd} {a b:Int},afQ a l=afQ b l->a=b
 |[],_,_,h=>h
 |x::l,a,b,h=>by
  have h:afQ (a*64+21*x.b+x.s) l=afQ (b*64+21*x.b+x.s) l:=h;have:=aj2 h;omega
def agK:∀{l:List Hd} {n:Nat} {a:Int},(∀x∈l,ab6 x)->n<l.length->afQ a (tQ l n ac7)≠afQ a l
 |[],n,_,_,h=>by simp at h
 |x::l,0,a,hk,_=>λe=>by
  rw[amw] at e;have e:afQ (a*64+21*(ac7 x).b+(ac7 x).s) l=afQ (a*64+21*x.b+x.s) l:=e;have:=aj2 e;obtain⟨i,g⟩:=avH (hk x (by simp));have:=hk x (by simp);obtain⟨⟨c,d⟩,f,j⟩:=this;omega
 |x::l,n+1,a,hk,h=>λe=>by
  rw[amx] at e;exact agK (l:=l) (n:=n) (λy b=>hk y (by simp[b])) (by simpa using h) e
def avI(long sum:Int)(l:List Hd):Int×Int×Int:=if(l.length:Int)<long\/long<0 then(long,sum,1) else if amy (l.take long.toNat)=sum then((l.length:Int),amy l,0) else(long,sum,2)
end
section
variable {β:Bool}
open Go.RowKit
def an2:∀(l:List Hd) (a:Int),a<=l.foldl (λa h=>max a (h.s+1)) a/\∀x∈l,x.s+1<=l.foldl (λa h=>max a (h.s+1)) a
 |[],a=>⟨ue _,λx b=>(by cases b)⟩
 |y::l,a=>by
  obtain⟨d,c⟩:=an2 l (max a (y.s+1));show a<=l.foldl (λa h=>max a (h.s+1)) (max a (y.s+1))/\∀x∈y::l,x.s+1<=l.foldl (λa h=>max a (h.s+1)) (max a (y.s+1));refine⟨by omega,λx b=> ?_⟩;rcases mc.1 b with rfl|b
  .omega
  .exact c x b
def avJ :∀x∈s.lg,x.s<dU s:=λx a=>by
 have b:x.s+1<=fJ s.lg:=(an2 s.lg 1).2 x a;unfold dU;cases s.sn.getLast? with
 |none=>show x.s<fJ s.lg;omega
 |some y=>show x.s<max (fJ s.lg) (y.no+1);omega
def dT.asc(h:dT s):s.lg.Pairwise λa b=>a.s<b.s:=by
 induction h with
 |nil=>exact .nil
 |save j i g f c=>
  refine rM.2 ⟨c,rF _ _,λx e y d=> ?_⟩;rw[gE.1 d];exact avJ x e
def found(h:dT s){L:abN}(k:aCG L s.lg.length) :
  (L.k=2->L.n<s.lg.length->avI s.lg.length (amy s.lg) (kE s L).lg=((s.lg.length:Int),amy s.lg,1))/\
  (L.k=4->L.n<s.lg.length->avI s.lg.length (amy s.lg) (kE s L).lg=((s.lg.length:Int),amy s.lg,2))/\
  (¬(L.k=2/\L.n<s.lg.length)->¬(L.k=4/\L.n<s.lg.length)->(kE s L).lg=s.lg):=by
 refine⟨λe b=> ?_,λf b=> ?_,λe f=> ?_⟩
 .by_cases g:0<=L.n
  .rw[aeU e ⟨g,by omega⟩];unfold avI;rw[dj (.inl (by rw[fi];omega))]
  .exfalso;have:=k.n.1;omega
 .have g:=k.n.1;rw[aln f ⟨g,b⟩];unfold avI;rw[bd (by rw[ags];omega),bd];show ¬amy ((tQ s.lg L.n.toNat ac7).take (s.lg.length:Int).toNat)=_;rw[sJ,qb (by rw[ags];exact am _)];exact agK h.wf.lg (by omega)
 .by_cases i:L.k=1
  .rw[ahL i]
  by_cases a:L.k=2
  .by_cases b:0<=L.n/\L.n<=s.lg.length
   .rw[aeU a b];have:L.n.toNat=s.lg.length:=by
     by_cases d:L.n<s.lg.length
     .exact absurd ⟨a,d⟩ e
     .omega
    rw[this,gt]
   .rw[ahM a b]
  by_cases j:L.k=3
  .rw[alm j]
  by_cases c:L.k=4
  .by_cases b:0<=L.n/\L.n<s.lg.length
   .exact absurd ⟨c,b.2⟩ f
   .rw[ahN c b]
  rw[alo i a j c]
def agL{b:Type}(q:b->Bool)(no:b->Int)(n:Int)(c:∀x,no x=n->q x=true):∀l:List b,(l.filter q).find? (λx=>no x ==n)=l.find? (λx=>no x ==n)
 |[]=>rfl
 |y::l=>by
  rw[rq];by_cases a:no y=n
  .rw[rK,dj (c y a),rq,show(no y ==n)=true from mp.2 a]
  .rw[show(no y ==n)=false from dq.2 a,<-agL q no n c l];by_cases d:q y=true
   .rw[rK,dj d,rq,show(no y ==n)=false from dq.2 a]
   .rw[rK,bd d]
def old(h:dT s){x:Hd}(m:k<=s.lg.length)(hi:i<k)(c:s.lg[i]?=some x):nG 7 (kE s ⟨2,k,0,⟨#[]⟩⟩) x.s=nG 7 s x.s/\(kE s ⟨2,k,0,⟨#[]⟩⟩).lg=s.lg.take k:=by
 rw[aeU rfl ⟨by show(0:Int)<=k;omega,by show(k:Int)<=_;omega⟩];refine⟨?_,rfl⟩;unfold nG;show(match(s.sn.filter λy=>!((s.lg.drop k).any λh=>h.s ==y.no)).find? (λy=>y.no ==x.s) with|some y=>dC 7 (bI s.pk) y.all|none=>none)=_
 suffices abK:∀y:Sn,y.no=x.s->(!((s.lg.drop k).any λh=>h.s ==y.no))=true by
  rw[agL _ (λy:Sn=>y.no) x.s abK s.sn];all_goals(cases s.sn.find? (λy=>y.no ==x.s)<;>rfl)
 intro y a;have a:y.no=x.s:=a;rw[a,ud,<-lc,List.any_eq_true];rintro⟨z,l,d⟩;have d:=mp.1 d;obtain⟨j,b⟩:=qZ l;rw[sZ] at b;have e:=qg.1 h.asc i (k+j) (aH c) (aH b) (by omega);have f:=(li.1 c).2;have g:=(li.1 b).2;rw[f,g] at e;omega
end
section
variable {β:Bool}
open Go.RowKit
def avK(h:l.Pairwise λa b=>a.no<b.no):∀p∈l,p.no<eO l:=by
 intro p j;unfold eO;obtain⟨z,c,e⟩:=vH (l:=l) (vD j);rw[e];show p.no<z.no+1;obtain⟨i,d⟩:=qZ j;have g:=aH d;rcases oR i (l.length-1) with f|k
 .have:=qg.1 h i (l.length-1) g (by omega) f;rw[(li.1 d).2,(li.1 c).2] at this;omega
 .have:i=l.length-1:=by omega
  subst this;rw[c] at d;cases d;omega
def afl(key:Int):∀(n:Nat) (no:Int) (l:List ByteArray),l.length<=n->(fc key no l).Pairwise λa b=>a.no<b.no
 |0,no,l,h=>by rw[pi.1 (by omega:l.length=0),ik];exact .nil
 |n+1,no,l,h=>by
  rcases oE l.length with c|c
  .rw[pi.1 c,ik];exact .nil
  .rw[lM key no c];refine .cons (λp d=> ?_) (afl key n (no+1) (l.drop 4) (by rw[pX];omega));have:=(jk key n (no+1) (l.drop 4) (by rw[pX];omega) p d).1;show no<p.no;omega
def dT.axd(h:dT s):s.pk.Pairwise λa b=>a.no<b.no:=by
 induction h with
 |nil=>exact .nil
 |save l k j g c=>
  refine rM.2 ⟨c,afl 7 _ _ _ (am _),λp d q e=> ?_⟩;have i:=avK c p d;have f:=(jk 7 _ _ _ (am _) q e).1;omega
def avL(h:s.sn.Pairwise λa b=>a.no<b.no):∀x∈s.sn,x.no<dU s:=by
 intro p k;obtain⟨z,c,e⟩:=vH (l:=s.sn) (vD k);have g:z.no<dU s:=by
  unfold dU;rw[e];show z.no<max (fJ s.lg) (z.no+1);omega
 obtain⟨i,d⟩:=qZ k;have j:=aH d;rcases oR i (s.sn.length-1) with f|m
 .have:=qg.1 h i (s.sn.length-1) j (by omega) f;rw[(li.1 d).2,(li.1 c).2] at this;omega
 .have:i=s.sn.length-1:=by omega
  subst this;rw[c] at d;cases d;exact g
def dT.aBl(h:dT s):s.sn.Pairwise λa b=>a.no<b.no:=by
 induction h with
 |nil=>exact .nil
 |save j i g f c=>
  refine rM.2 ⟨c,rF _ _,λx e y d=> ?_⟩;rw[gE.1 d];exact avL c x e
def agM{c:Type}(no:c->Int):∀{l:List c} {x:c},l.Pairwise (λa b=>no a<no b)->x∈l->l.find? (λy=>no y ==no x)=some x
 |[],_,_,h=>by cases h
 |y::l,x,hp,h=>by
  rw[rq];rcases mc.1 h with rfl|h
  .rw[rV]
  .have d:=(se.1 hp).1 x h;rw[show(no y ==no x)=false from dq.2 (by omega)];exact agM no (se.1 hp).2 h
def eT(l:List Pk):List Int:=l.flatMap λp=>p.its.map (·.n)
def aik(l:List Pk):eT l=(dh l).map (·.n):=by
 unfold eT dh oL;rw[List.map_flatMap]
 congr 1
 funext p
 rw[tN];rfl
def afm{n:Int}:∀{a:List Sp} {l:List Sp},(∀x∈a,¬x.p=0)->(∃x∈a,x.n=n)\/¬dZ n l=0->¬dZ n (dY a l)=0
 |[],l,_,h=>by
  rcases h with⟨x,b,_⟩|h
  .cases b
  .exact h
 |y::a,l,hz,h=>by
  show ¬dZ n (dY a (fG y l))=0;refine afm (λx b=>hz x (by simp[b])) ?_;rw[acA];by_cases c:y.n=n
  .rw[dj c];exact .inr (hz y (by simp))
  .rw[bd c];rcases h with⟨x,b,d⟩|h
   .rcases mc.1 b with rfl|b
    .exact absurd d c
    .exact .inl ⟨x,b,d⟩
   .exact .inr h
def afn{n:Int}:∀{a:List Sp} {l:List Sp},(∀x∈a,¬x.n=n)->dZ n (dY a l)=dZ n l
 |[],l,_=>rfl
 |y::a,l,h=>by
  show dZ n (dY a (fG y l))=_;rw[afn λx b=>h x (by simp[b]),acA,bd (h y (by simp))]
def an3(h:∀s∈dh l,spP s){n:Int}:dZ n (nk l)=0↔n∉eT l:=by
 unfold nk;rw[dj h,aik];constructor
 .intro d a;obtain⟨x,b,rfl⟩:=mx.1 a;exact afm (l:=[]) (λy c=>by have:=(h y c).2;omega) (.inl ⟨x,b,rfl⟩) d
 .intro a;rw[afn (l:=[]) λx b e=>a (mx.2 ⟨x,b,e⟩)];rfl
def afR{ix:List Sp}{o:List ByteArray}{p:ByteArray}(h:o.Nodup):(dx key ix o p).Nodup:=by
 unfold dx;split
 .rename_i d;exact ua.2 ⟨h,by simp,λa c b f e=>by rw[gE.1 f] at e;rw[e] at c;exact d.2 c⟩
 .exact h
def afo{key:Int}{ix:List Sp}:∀{l o:List ByteArray},o.Nodup->(nh key ix o l).Nodup
 |[],_,h=>h
 |p::l,o,h=>afo (l:=l) (afR h)
def aj3{key:Int}{ix:List Sp}{x:ByteArray}:∀{l o:List ByteArray},x∈o->x∈nh key ix o l
 |[],_,h=>h
 |p::l,o,h=>aj3 (l:=l) (by
  unfold dx;split
  .exact rN _ h
  .exact h)
def agN{key:Int}{ix:List Sp}{x:ByteArray}:∀{l o:List ByteArray},(x∈o->dZ (bm key (bs x)) ix=0)->x∈nh key ix o l->dZ (bm key (bs x)) ix=0
 |[],_,h,hx=>h hx
 |p::l,o,h,hx=>agN (l:=l) (o:=dx key ix o p) (λa=>by
  unfold dx at a;split at a
  .rename_i b;rcases jt.1 a with a|a
   .exact h a
   .rw[gE.1 a];exact b.1
  .exact h a) hx
def aj4{key:Int}{ix:List Sp}:∀{l o:List ByteArray},∀p∈l,¬dZ (bm key (bs p)) ix=0\/p∈nh key ix o l
 |[],_,p,h=>by cases h
 |q::l,o,p,h=>by
  show _\/p∈nh key ix (dx key ix o q) l;rcases mc.1 h with rfl|h
  .by_cases b:dZ (bm key (bs p)) ix=0
   .refine .inr (aj3 ?_);unfold dx;by_cases a:p∈o
    .rw[bd λc=>c.2 a];exact a
    .rw[dj ⟨b,a⟩];simp
   .exact .inl b
  .exact aj4 p h
def apO(x:It):∀l:List It,(kF x l).Perm (x::l):=by
 intro l
 induction l with
 |nil=>exact .refl _
 |cons y l a=>
  unfold kF;split
  .exact .refl _
  .exact((a.cons y).trans (.swap _ _ _))
def amz(key:Int)(l:List ByteArray):(fV key l).Perm (l.map (iP key)):=by
 induction l using mU with
 |h0=>exact .refl _
 |h1 l s a=>
  rw[nj,qJ];exact(apO _ _).trans ((a.cons _).trans (by simpa using(List.perm_append_singleton (iP key s) (l.map (iP key))).symm))
def ab7(key:Int):∀(n:Nat) (no:Int) (l:List ByteArray),l.length<=n->(eT (fc key no l)).Perm (l.map λp=>bm key (bs p))
 |0,no,l,h=>by rw[pi.1 (by omega:l.length=0),ik];exact .refl _
 |n+1,no,l,h=>by
  rcases oE l.length with a|a
  .rw[pi.1 a,ik];exact .refl _
  .rw[lM key no a];have c:=ab7 key n (no+1) (l.drop 4) (by rw[pX];omega);have d:((fV key (l.take 4)).map (·.n)).Perm ((l.take 4).map λp=>bm key (bs p)):=by
    have:=(amz key (l.take 4)).map (·.n);rw[tN] at this;exact this
   have b:=d.append c;rw[<-qJ,sA] at b;exact b
def agO{d β:Type}{f:d->β}:∀{l:List d},l.Nodup->(∀x∈l,∀y∈l,f x=f y->x=y)->(l.map f).Nodup
 |[],_,_=>.nil
 |x::l,h,hf=>by
  obtain⟨k,j⟩:=tG.1 h;refine tG.2 ⟨λg=> ?_,agO j λa i b m=>hf a (by simp[i]) b (by simp[m])⟩;obtain⟨y,c,e⟩:=mx.1 g;exact k (hf x (by simp) y (by simp[c]) e.symm▸c)
def dT.dh(h:dT s):∀x∈dh s.pk,spP x:=λx a=>by
 obtain⟨p,b,a⟩:=qe.1 a;obtain⟨y,c,rfl⟩:=mx.1 a;have e:=(h.wf.pn p b).1;obtain⟨q,d,f⟩:=h.items p b y c;have:=lH (key:=7) (l:=q);exact⟨by show 0<=y.n/\y.n<=_;omega,by show 1<=p.no/\p.no<=99;omega⟩
structure Whole (s:dE):Prop where
 once:(eT s.pk).Nodup
 trees:∀x∈s.sn,∃t,kg t/\x=jJ x.no 7 t/\∀f∈t,∀p∈fO f.b,bm 7 (bs p)∈eT s.pk
def dT.whole(h:dT s):Whole s:=by
 induction h with
 |nil=>exact⟨.nil,λx d=>(by cases d)⟩
 |@save s b t C G r H u=>
  have m:=C.dh;have k:=kW (key:=7) (ix:=nk s.pk) (pM r);have g:=ab7 7 _ (eO s.pk) (aaa 7 (nk s.pk) t) (am _);have i:eT (aaQ 7 s b t).pk=eT s.pk++eT (acG 7 s t):=by
   show eT (s.pk++acG 7 s t)=_;unfold eT;rw[qT]
  refine⟨?_,λx d=> ?_⟩
  .rw[i];refine ua.2 ⟨u.once, ?_,λa E c F e=> ?_⟩
   .refine g.nodup_iff.2 (agO (afo .nil) λx d y A e=>jb (aa1 (k x d) (k y A) e))
   .subst e;obtain⟨p,j,rfl⟩:=mx.1 (g.mem_iff.1 F);exact(an3 m).1 (agN (l:=oO t) (o:=[]) (λh=>by cases h) j) E
  .rcases jt.1 d with d|d
   .obtain⟨w,z,v,B⟩:=u.trees x d;exact⟨w,z,v,λf q p j=>by rw[i];exact rN _ (B f q p j)⟩
   .rw[gE.1 d];refine⟨t,r,rfl,λf q p j=> ?_⟩;rw[i];rcases aj4 (key:=7) (ix:=nk s.pk) (o:=[]) p (qe.2 ⟨f,q,j⟩:p∈oO t) with n|n
    .refine rN _ (qA λD=>n ((an3 m).2 D))
    .exact rL _ (g.mem_iff.2 (mx.2 ⟨p,n,rfl⟩))
end
section
variable {β:Bool}
open Go.RowKit
def apP{b:ByteArray}(h:dw b=true):fA (fO b)=(b,true):=by
 unfold fA;rw[ao2,awG,dj ⟨h,rfl⟩]
def agP{nm:Int}:∀{l:List (Int×ByteArray)},(∃x∈l,x.1=nm)->∃k:Nat,eh nm l=k
 |[],⟨x,a,_⟩=>by cases a
 |y::l,⟨x,a,e⟩=>by
  show ∃k:Nat,(if y.1=nm then 0 else let j:=eh nm l;if j<0 then -1 else j+1:Int)=k;by_cases b:y.1=nm
  .rw[dj b];exact⟨0,rfl⟩
  .rw[bd b];rcases mc.1 a with rfl|a
   .exact absurd e b
   .obtain⟨k,c⟩:=agP ⟨x,a,e⟩;refine⟨k+1, ?_⟩;show(if eh nm l<0 then -1 else eh nm l+1:Int)=_;rw[c,bd (by omega)];omega
def agQ(d:∀p∈l,∀x∈p.its,gI 7 x){nm:Int}:(bV 7 (bI l) nm).2=true↔nm∈eT l:=by
 rw[mC];constructor
 .rintro⟨p,a,g⟩;obtain⟨q,n,rfl⟩:=mx.1 a;obtain⟨k,x, -,b,f, -⟩:=afe g;rw[ah7] at b;obtain⟨y,c,rfl⟩:=io.1 b;exact qe.2 ⟨q,n,mx.2 ⟨y,be c,f⟩⟩
 .intro h;obtain⟨p,a,j⟩:=qe.1 h;obtain⟨x,i,e⟩:=mx.1 j;obtain⟨k,m⟩:=agP (nm:=nm) (l:=(pkd p).2) ⟨(x.n,x.b),mx.2 ⟨x,i,rfl⟩,e⟩;exact⟨pkd p,tE a,aff (d p a) m⟩
def adh(f:∀p∈l,∀x∈p.its,gI 7 x){p:ByteArray}(d:aQ (bs p))(h:bm 7 (bs p)∈eT l):bV 7 (bI l) (bm 7 (bs p))=(p,true):=by
 have c:=(agQ f).2 h;obtain⟨a,b⟩:=jo c;have e:=jb (aa1 a d b);generalize bV 7 (bI l) (bm 7 (bs p))=r at c e;obtain⟨i,g⟩:=r;dsimp only at c e;rw[c,e]
def apQ(d:∀p∈l,∀x∈p.its,gI 7 x){f:Nd}(c:afF f)(h:∀p∈fO f.b,bm 7 (bs p)∈eT l):gU 7 (bI l) (fI 7 f)=some f:=by
 have b:=jg (fD c.2).2;have g:ajR 7 (bI l) (fI 7 f).ns:=λn i=>by
  obtain⟨p,a,rfl⟩:=mx.1 i;rw[adh d (b p a) (h p a)]
 have e:fY 7 (bI l) (fI 7 f).ns=fO f.b:=by
  unfold fY fI;rw[tN]
  conv=>rhs;rw[<-List.map_id (fO f.b)]
  exact uI λp a=>by
   show(bV 7 (bI l) (bm 7 (bs p))).1=p;rw[adh d (b p a) (h p a)]
 unfold gU;rw[e,apP c.2,dj ⟨g,rfl⟩];rfl
def apR(e:∀p∈l,∀x∈p.its,gI 7 x){t:List Nd}(b:kg t)(h:∀f∈t,∀p∈fO f.b,bm 7 (bs p)∈eT l):dC 7 (bI l) (t.map (fI 7))=some t:=by
 have c:∀f∈t,gU 7 (bI l) (fI 7 f)=some f:=λf a=>apQ e (b.1 f a) (h f a);have d:dA 7 (bI l) (t.map (fI 7))=t:=by
  clear h b;unfold dA
  induction t with
  |nil=>rfl
  |cons f t k=>
   rw[qN,uJ,c f (by simp)];show f::_=_;rw[k λg i=>c g (by simp[i])]
 unfold dC;rw[d,dj ⟨λx j=>by
  obtain⟨f,a,rfl⟩:=mx.1 j;rw[c f a];rfl,acO.2 (ai6.2 b)⟩]
def amB(c:∀p∈l,∀x∈p.its,gI 7 x){xs:List Ls}{x:Ls}{n:Int}(d:x∈xs)(e:n∈x.ns)(h:n∉eT l):dC 7 (bI l) xs=none:=by
 unfold dC;rw[bd];rintro⟨a, -⟩;have a:=a x d;unfold gU at a;split at a
 .rename_i b;exact h ((agQ c).1 (b.1 n e))
 .cases a
def axe(s:dE)(no:Int):dE:=kE s ⟨1,no,0,⟨#[]⟩⟩
def ay5(x:Sn):List Int:=x.all.flatMap λy=>y.ns
def afp(v:l.Pairwise λa b=>a.no<b.no)(B:(eT l).Nodup){p:Pk}(o:p∈l){n:Int} :
  n∈eT (l.filter λq=>!(q.no ==p.no))↔n∈eT l/\n∉p.its.map (·.n):=by
 constructor
 .intro h;obtain⟨q,d,k⟩:=qe.1 h;obtain⟨g,c⟩:=sB.1 d;have c:q.no≠p.no:=by simpa using c
  refine⟨qe.2 ⟨q,g,k⟩,λs=>c ?_⟩;clear v c h d
  induction l with
  |nil=>cases g
  |cons y l C=>
   obtain⟨D,A,w⟩:=ua.1 (show(y.its.map (·.n)++eT l).Nodup from B);rcases mc.1 g with rfl|d<;>rcases mc.1 o with rfl|o
   .rfl
   .exact absurd rfl (w n k n (qe.2 ⟨p,o,s⟩))
   .exact absurd rfl (w n s n (qe.2 ⟨q,d,k⟩))
   .exact C A o d
 .rintro⟨h,s⟩;obtain⟨q,d,k⟩:=qe.1 h;refine qe.2 ⟨q,sB.2 ⟨d, ?_⟩,k⟩;rw[ud,dq];intro e;have:q=p:=by
   obtain⟨i,x⟩:=qZ d;obtain⟨j,z⟩:=qZ o;have r:=aH x;have m:=aH z;have u:=(li.1 x).2;have t:=(li.1 z).2;rcases tY i j with f|rfl|f
   .have:=qg.1 v i j r m f;rw[u,t] at this;omega
   .rw[<-u,<-t]
   .have:=qg.1 v j i m r f;rw[u,t] at this;omega
  exact s (this▸k)
def other(h:dT s){p:Pk}(k:p∈s.pk)(r:x∈s.sn):(nG 7 (axe s p.no) x.no).isSome=true↔∀n∈ay5 x,n∉p.its.map (·.n):=by
 have d:=h.whole;obtain⟨t,w,i,z⟩:=d.trees x r;have e:axe s p.no=⟨s.pk.filter λq=>!(q.no ==p.no),s.sn,s.lg⟩:=ahL rfl;have m:∀q∈s.pk.filter λq=>!(q.no ==p.no),∀y∈q.its,gI 7 y:=λq c=>h.items q (sB.1 c).1;have a:x.all=t.map (fI 7):=by rw[i];rfl
 rw[e];unfold nG;show(match s.sn.find? (λy=>y.no ==x.no) with|some y=>dC 7 (bI _) y.all|none=>none:Option (List Nd)).isSome=true↔_;rw[agM (λy:Sn=>y.no) h.aBl r];show(dC 7 (bI (s.pk.filter λq=>!(q.no ==p.no))) x.all).isSome=true↔_;constructor
 .intro o n A j;obtain⟨y,u,g⟩:=qe.1 A;rw[amB m u g λv=>((afp h.axd d.once k).1 v).2 j] at o;cases o
 .intro b;rw[a,apR m w λf l q c=>(afp h.axd d.once k).2 ⟨z f l q c,b _ (qe.2 ⟨fI 7 f,by rw[a];exact tE l,mx.2 ⟨q,c,rfl⟩⟩)⟩];rfl
end
section
variable {β:Bool}
open Go.RowKit
def asX(x:Hd)(w:World)(b:Bool)(f:b=true↔ab6 x):Calls (ah β) 35 #[.agg #[.int .i64 x.b,.int .i64 x.s]] w λe l=>e=.returned (.bool b)/\Below w.heap.size w l:=by
 have fin:∀q:Bool,(q=true↔(x.b=1\/x.b=2)/\1<=x.s/\x.s<=20)->q=b:=λq o=>by
  rw[qh,f,o];unfold ab6;constructor
  .rintro⟨p,d,a⟩;exact⟨by omega,d,a⟩
  .rintro⟨p,d,a⟩;exact⟨by omega,d,a⟩
 replace fin:=ab fin;clear f;rcases(by omega:x.b=1\/x.b=2\/(x.b≠1/\x.b≠2)) with e|e|⟨e,g⟩<;>rcases(by omega:1<=x.s/\x.s<=20\/1<=x.s/\20<x.s\/x.s<1) with a|a|a
 all_goals
  first
   |have k:(x.b ==1)=true:=mp.2 e
   |have k:(x.b ==1)=false:=dq.2 (by omega)
  first
   |have i:(x.b ==2)=true:=mp.2 e
   |have i:(x.b ==2)=false:=dq.2 (by omega)
  first
   |have j:=de (show 1<=x.s by omega)
   |have j:=bv (show ¬(1<=x.s) by omega)
  first
   |have m:=de (show x.s<=20 by omega)
   |have m:=bv (show ¬(x.s<=20) by omega)
  have r:=ab e;have n:=ab a;clear e a;try(have c:=ab g;clear g)
  go_enter zn,ntmps35;go_wp2;go_ret;refine⟨aA (fin.out _ ?_),by repeat(first|exact ff _ _|refine Below.alloc ?_ (by simp) _)⟩;have:=r.out;have:=n.out;try(have:=c.out)
  simp;try omega
def asY(x:Hd)(w:World)(b:Bool)(a:b=true↔ab6 x):Calls (ah β) 34 #[.agg #[.int .i64 x.b,.int .i64 x.s]] w λe d=>e=.returned (.bool (!b))/\Below w.heap.size w d:=by
 go_enter xk,ntmps34;go_wp2;refine(asX x _ b a).mono ?_;rintro e f ⟨rfl,c⟩;have a:=(aB w (.cells #[.int .i64 x.b,.int .i64 x.s] 78));go_wp2;go_ret;exact⟨rfl,ae a c⟩
def aj5(xs:List Hd)(v:Value)(w:World)(lo hi:Nat)(h:oB w lo hi xs [v])(G:hi<=w.heap.size) :
  Calls (ah β) 62 #[v,.func (.func 34) #[] #[]] w λe B=>∃j:Int,e=.returned (.int .i64 j)/\(j=-1/\(∀x∈xs,ab6 x)\/0<=j/\¬ ∀x∈xs,ab6 x)/\Below w.heap.size w B:=by
 obtain⟨A,c,rfl⟩:=cR.form h;obtain⟨_,K,s⟩:=h.len_;unfold maxLen at s;go_enter yS,ntmps62;go_wp2;go_loopw [8] (λz wr=>∃k:Nat,k<=xs.length/\z=.int .i64 k/\(∀x∈xs.take k,ab6 x)/\Below w.heap.size w wr) (λz _=>xs.length-(intOf z).toNat)
 case atStart=>exact⟨0,fa _,rfl,λx s=>(by cases s),ff _ _⟩
 case round=>
  obtain⟨k,J,rfl,n,g⟩:=hrel;replace n:=ab n;by_cases p:k<xs.length
  .obtain⟨x,l⟩:=aq p;obtain⟨b,m,L,E,_,H,_,⟨rfl,D⟩,f⟩:=(oB.loc.below h g G).at_ l;subst E;have r:wr.cell? ⟨b,m+k*2,none⟩=some (.int .i64 x.b):=by simpa using f 0 _ rfl
   have u:wr.cell? ⟨b,m+k*2+1,none⟩=some (.int .i64 x.s):=by simpa using f 1 _ rfl
   replace l:=ab l;clear f;have I:=avG (β:=β) (#[.agg #[.int .i64 x.b,.int .i64 x.s]]++#[]) wr;go_wp2;obtain⟨q,i⟩:=jv (ab6 x);refine(asY x wr q i).mono ?_;rintro e B ⟨rfl,F⟩;have o:=ae g F;clear I r u;cases q
   .have d:¬ ∀x∈xs,ab6 x:=λh=>by have:=i.2 (h x (be l.out));cases this
    replace d:=ab d;clear i;go_wp2;go_ret;exact⟨k,rfl,.inr ⟨by omega,d.out⟩,o⟩
   .have t:∀y∈xs.take (k+1),ab6 y:=λy C=>by
     rw[mu l.out] at C;rcases jt.1 C with h|h
     .exact n.out y h
     .rw[gE.1 h];exact i.1 rfl
    replace t:=ab t;clear i;go_wp2;go_roundw
    case rel=>exact⟨k+1,by omega,by go_num,t.out,o⟩
    simp[intOf];omega
  .obtain rfl:k=xs.length:=by omega
   have a:=n.out;rw[gt] at a;replace a:=ab a;clear n;go_wp2;go_ret;exact⟨-1,rfl,.inl ⟨rfl,a.out⟩,g⟩
def afq(xs:List Hd)(v:Value)(w:World)(lo hi:Nat)(h:oB w lo hi xs [v])(m:hi<=w.heap.size)(b:Bool)(f:b=true↔∀x∈xs,ab6 x) :
  Calls (ah β) 33 #[v,.func (.func 34) #[] #[]] w λe l=>e=.returned (.bool (!b))/\Below w.heap.size w l:=by
 obtain⟨A,c,rfl⟩:=cR.form h;replace f:=ab f;go_enter zp,ntmps33;go_wp2;refine(aj5 xs _ w lo hi h m).mono ?_;rintro e n ⟨j,rfl,i,k⟩;rcases i with⟨rfl,a⟩|⟨i,g⟩
 .have d:b=true:=f.out.2 a;subst d;clear a f;go_wp2;go_ret;exact⟨rfl,k⟩
 .have d:b=false:=by rw[<-lc,f.out];exact g
  subst d;have o:decide (0<=j)=true:=de i;clear g f;go_wp2;go_ret;exact⟨rfl,k⟩
def aiD(xs:List Hd)(v:Value)(w:World)(lo hi:Nat)(h:oB w lo hi xs [v])(l:hi<=w.heap.size)(b:Bool)(a:b=true↔aiB xs) :
  Calls (ah β) 22 #[v] w λe k=>e=.returned (.bool b)/\Below w.heap.size w k:=by
 obtain⟨A,c,rfl⟩:=cR.form h;obtain⟨_,p,m⟩:=h.len_;unfold maxLen at m;replace a:=ab a;by_cases i:(xs.length:Int)<=9
 .have n:decide ((xs.length:Int)<=9)=true:=de i;obtain⟨q,d⟩:=jv (∀x∈xs,ab6 x);have g:q=b:=by
   rw[qh,d,a.out];exact⟨λh=>⟨by omega,h⟩,λh=>h.2⟩
  subst g;replace d:=ab d;go_enter xo,ntmps22;go_wp2;refine(afq xs _ w lo hi h l q d.out).mono ?_;rintro e o ⟨rfl,j⟩;cases q<;>(go_wp2;go_ret;exact⟨rfl,j⟩)
 .have n:decide ((xs.length:Int)<=9)=false:=bv i;have f:b=false:=by rw[<-lc,a.out];exact λh=>i (by have:=h.1;omega)
  subst f;go_enter xo,ntmps22;go_wp2;go_ret;exact⟨rfl,ff _ _⟩
end
section
open Go.RowKit Go.ChangeShapes Go.WideShapes Go.ChangeAt
section
variable {H:Type} {enc:TypeId×Value->H} {P:Program}
def aar(i:laidOutB P=true){W l:World}{e:Nat->Bool}:∀{g:List TypeId} {j:List Value} {k:List (DataW H)} {f:List MemPlace},
  (∀t∈g,P.readableRec t=true/\t<P.types.size)->DataW.TrodAll enc P W 0 (λ_=>true) true g j k f->(∀p∈f,W.sameAt l p)->(∀p∈f,e p.block=true)->
  DataW.TrodAll enc P l 0 e true g j k f
 |[],_,_,_,_,h,_,_=>by
  obtain⟨rfl,rfl,rfl⟩:=trodAll_nil h;exact trodAll_mk0
 |t::g,_,_,_,hr,h,hs,hsp=>by
  obtain⟨v,q,d,m,a,b,rfl,rfl,rfl,u,n⟩:=trodAll_cons h;obtain⟨o,s⟩:=hr t (by simp);refine trodAll_cons_mk (WideElems.Trod_stays i o s u (λp c=>hs p (by simp[c])) (λp c=>hsp p (by simp[c]))) ?_;exact aar i (λt r=>hr t (by simp[r])) n (λp c=>hs p (by simp[c])) (λp c=>hsp p (by simp[c]))
def adi{w:World}{base:Nat}{c:Nat->Bool}{e:Bool}:∀{f:List TypeId} {m:List Value} {g:List (DataW H)} {l:List MemPlace},DataW.TrodAll enc P w base c e f m g l->g.length=f.length
 |[],_,_,_,h=>by
  obtain⟨_,rfl,_⟩:=trodAll_nil h;rfl
 |t::f,_,_,_,h=>by
  obtain⟨v,k,d,i,a,b,rfl,rfl,rfl,n,j⟩:=trodAll_cons h;rw[fm,fm,adi j]
end
def own:ownKnob prog.godebug=none:=by kernel_rfl
def wZ:laidOutB prog=true:=by kernel_rfl
section
variable {H:Type} {enc:TypeId×Value->H} {P:Program}
def apS {base:Nat}   {r:Reach} {e : TypeId} {k:IntKind} {d:DataW H} {E:gF Int} (C:P.underlying t=some (.slice e)) (T:P.underlying e=some (.int k)) (W:P.cellsOf e=1)
  (M:∀(w:World) (K l:Nat) (x:Int),(Lit.int k x).wf=true->E w K l x [.int k x])
  (U:Value.okWide P w r X t v) (h:DataW.Trod enc P w base S main t v d p) (q:∀x∈p,x.block<w.heap.size) :
  ∃Q:List Int,cR E 1 w 0 w.heap.size Q [v]:=by
 obtain⟨Z,len,cap,rfl⟩:=okWide_slice C U;obtain⟨I,O⟩:=h;rcases open_ints C T W O with⟨c,A⟩|⟨a,F,D,m,c,_,Y,R,G,A,g,y⟩
 .simp[Value.cells] at c;obtain⟨rfl,rfl,rfl⟩:=c;exact⟨[],none,0,rfl,am _,by unfold maxLen;omega,λh=>absurd h (by simp)⟩
 .simp[Value.cells] at c;obtain⟨rfl,rfl,rfl⟩:=c;have f:(m.take len).length=len:=by
   rw[fi,G];split<;>omega
  refine⟨m.take len,some a,cap,by rw[f],by omega,R,λN=> ?_⟩;rw[f] at N;have L:len<=m.length:=by rw[G];split<;>omega
  obtain⟨b,o,rfl,s⟩:=ints_at g (by omega);refine⟨b,o,rfl,fa _, ?_,λi x l=> ?_⟩
  .simp only[uO] at A;have B:MemPlace.cell b o∈p:=by
    rw[A.2];have:m.length=(m.length-1)+1:=by omega
    simp[MemPlace.row];omega
   exact q _ B
  .have n:i<len:=by have:=aH l;omega
   have J:m.getD i 0=x:=by
    rw[sS n] at l;rw[sG,l];rfl
   refine⟨[.int k x],rfl,M _ _ _ _ (y x ?_),λj u z=> ?_⟩
   .rw[sS n] at l;exact be l
   .have V:j=0:=by have:=aH z;simpa using this
    subst V;simp at z;subst z;have:=s i (by omega);rw[J] at this;simpa using this
end
def we {enc:TypeId×Value->U} {base:Nat}   {r:Reach} {d:DataW U} 
  (b:Value.okWide prog w r X 22 v) (h:DataW.Trod enc prog w base S main 22 v d p) (a:∀x∈p,x.block<w.heap.size):∃c:List Int,cR jC 1 w 0 w.heap.size c [v]:=
 apS underlying22 underlying5 (by kernel_rfl) (λ_ _ _ x e=>⟨rfl,by simp[Lit.wf,IntKind.min,IntKind.max,IntKind.signed,IntKind.bits] at e;exact⟨by omega,by omega⟩⟩) b h a
end
section
open Go.RowKit Go.ChangeShapes Go.WideShapes Go.ChangeAt Go.Conc
section
variable {H:Type} {enc:TypeId×Value->H} {P:Program}
def ab8{w:World}{a:Nat->Bool}:∀{b:List String} {c:List (DataW H)} {i:List MemPlace},DataW.TrodVars enc P w a b c i->c.length=b.length
 |[],[],_,_=>rfl
 |[],_::_,_,h=>h.elim
 |_::_,[],_,h=>h.elim
 |n::b,d::c,i,h=>by
  obtain⟨g,t,o,f,p,q,r,k,l,m,j,e⟩:=h;rw[fm,fm,ab8 j]
theorem apT {f:Func} {s:ChangeSpec} {b:Bool} {W u:World} {args:Array Value} {i gs:List (DataW H)} {a:List MemPlace} {o:TypeId}
  (r:laidOutB P=true) (w:∀t∈f.params.toList,P.readableRec t=true/\t<P.types.size) (e:f.resultTypes=#[o]) (n:P.underlying o=some .bool) (j:varsRowed P s.vars=true)
  (c:s.fn H (i++gs)={results:=[.lit (.bool true)],args:=i,vars:=gs})
  (l:DataW.Whole enc P f.params.toList s.vars b W args.toList i gs a) (k:Below W.heap.size W u) :
  s.post enc P f b true false false W args (.bool true) u:=by
 have d:∀p∈a,p.block<W.heap.size:=λp v=>by simpa using l.lt p v
 have m:=l;obtain⟨p,q,B,z,rfl,A,y⟩:=l;refine⟨i,gs,p++q,[],p,q,m, ?_, ?_, ?_,World.keptBut_mono (λx g=>g.elim) (k.frame λ_=>False),λh=>by cases h⟩
 .rw[c,e];exact trodAll_mk1 (shut_bool n _)
 .rw[c];exact aar r w B (λx g=>k.same (d x (by simp[g]))) (λx g=>by simpa using d x (by simp[g]))
 .rw[c];exact k.trodVars r j z
end
def wM (i:Looks) {p:Pinned} {s:OpenSpec} {c:OpenClaim} (m:List (List PathCond)) (kinds:List LaidKind) (a:Bool) (b:Bool×String) (d:Bool)
  (z:c.holds p s) (n:∀D∈m,(c.withDomain D).holds p s) (w:c.wfByText s=true) (k:∀D∈m,(c.withDomain D).wfByText s=true)
  (l:c.laidByTextAt i p kinds a)
  (e:c.start=.entering) (g:c.noBlocks=false/\c.again=false) (u:p.checked.prog.mainIs=some (b.1,b.2.toList)) (y:(!b.1&&b.2.isEmpty&&!d)=false)
  (o:∀f fn,p.checked.prog.funcNamed c.func=some f->p.checked.prog.funcs[f]?=some fn->d=p.checked.prog.looks []/\∀(j:Nat) t,fn.params[j]?=some t->p.checked.prog.wantsStandIn t=false)
  (x:true=c.goesBy p.checked.prog) :
  Claim7.holds p (.plain s) {stood:={row:=c,standIns:=[],harness:=b,looks:=d},kinds:=[],alts:=m,goes:=true,laidByText:=true,laidKinds:=kinds,laidTests:=a,laidLooks:=i}:=by
 have v:∀r:OpenClaim,Claim7.isSixth {stood:={row:=r,standIns:=[],harness:=b,looks:=d},kinds:=[]}=false:=λr=>by simpa[Claim7.isSixth] using y
 refine⟨Claim7.tied_new_at i kinds a (vW z b d e g u (v c) o) w,λD q=> ?_,l,(λh=>by cases h),x⟩;exact Claim7.tied_new_at i kinds a (vW (n D q) b d e g u (v _) o) (k D q)
abbrev laidL:List (String×DataW Unit):=[("unicode/utf8.acceptRanges",Rows.laid_unicode_utf8_acceptRanges),("loop.example/depositary/impl.errPiece",Rows.laid_loop_example_depositary_impl_errPiece),("loop.example/depositary/impl.errKey",Rows.laid_loop_example_depositary_impl_errKey),("unicode/utf8.first",Rows.laid_unicode_utf8_first)]
def wT(os:Os)(args:Array Value):laidMetH prog laidL ((World.laidAll prog os laidL).forCall (λ_ _=>0) ⟨#[],args,[]⟩).memory:=by
 rw[uY _ _ _ (by kernel_rfl)];exact laidMet_laidAll _ (by kernel_rfl) (by kernel_rfl)
end
section
open Go.Conc Go.ConcN Go.RowKit
structure oZ (w0 w:World) (n:Nat) (res:List (ByteArray×Bool)):Prop where
 low:∀b,b<w0.heap.size->w.heap[b]?=w0.heap[b]?
 lt:w0.heap.size<w.heap.size
 row:∃cs,w.heap[w0.heap.size]?=some (.cells cs 100 (0,0))/\cs.size=2*n/\∀i x,res[i]?=some x->cs[2*i]?=some (.string x.1)/\cs[2*i+1]?=some (.bool x.2)
def vg(h:w.heap[C]?=some (.cells cs t z)):(w.setCell ⟨C,i,none⟩ v).heap[C]?=some (.cells (cs.setIfInBounds i v) t z):=by
 unfold World.setCell;simp[nF,h]
def eU(h:w.heap[C]?=some (.cells cs t z)):w.cell? ⟨C,i,none⟩=cs[i]?:=by
 unfold World.cell?;simp[h]
def ir(h:w.heap[C]?=some (.cells cs t (0,0))):w.frozen? ⟨C,i,none⟩=false:=by
 unfold World.frozen?;simp[h]
def oZ.below(h:oZ w0 w n W)(c:Below w.heap.size w w'):oZ w0 w' n W:=by
 obtain⟨e,f,d⟩:=h.row;exact⟨λb a=>(c.block b (Nat.lt_trans a h.lt)).trans (h.low b a),aE h.lt c.size,e,(c.block _ h.lt).trans f,d⟩
def oZ.store(h:oZ w0 w n W)(o:W.length<n)(x:ByteArray×Bool):oZ w0 ((w.setCell ⟨w0.heap.size,2*W.length,none⟩ (.string x.1)).setCell ⟨w0.heap.size,2*W.length+1,none⟩ (.bool x.2)) n (W++[x]):=by
 obtain⟨p,l,g,j⟩:=h.row;refine⟨λb k=> ?_, ?_,_,vg (vg l),by simpa using g,λi y c=> ?_⟩
 .have d:w0.heap.size≠b:=by omega
  rw[aZ _ _ _ d,aZ _ _ _ d];exact h.low b k
 .rw[eg,eg];exact h.lt
 .rw[vT] at c;split at c
  .rename_i f;obtain⟨a,b⟩:=j i y c;constructor
   .rw[ip (by omega),ip (by omega)];exact a
   .rw[ip (by omega),ip (by omega)];exact b
  .rename_i m;have e:i=W.length:=by
    have:=(li.1 c).1;simp at this;omega
   subst e;simp at c;subst c;constructor
   .rw[ip (by omega),pu (by omega)]
   .rw[pu (by simp;omega)]
abbrev inH(k:List Item):List Item:=.inLoop lW :: .inBlock 53::k
def afr:f48.body.isSome=true:=by kernel_rfl
def as0(β:Bool):∃fn,(ah β).funcs[48]?=some fn/\fn.body.isSome=true/\(fn.name == "runtime.NumGoroutine")=false:=by
 refine⟨pf f48, ?_, ?_,by have:=cK func48;exact this⟩
 .rw[akR β (by decide) (by decide),func48];rfl
 .show(f48.body.map gP).isSome=true;rw[Option.isSome_map];exact afr
def aj6{β:Bool}{args:Array Value} :(callFunc 48 args).runT (ah β) w #[]=(.ok (.enter 48 args) w,#[]):=by
 obtain⟨fn,c,b,d⟩:=as0 β;unfold callFunc;have f:¬fn.name= "runtime.NumGoroutine" :=by simpa using d
 have a:¬fn.body=none:=λe=>by rw[e] at b;cases b
 simp[c,f,a]
section
variable {X:Cx} {T:Array Value} {k:List Item} {w:World}
def At.aBm (hF:eI Z)  {A2 : Option Addr} {l:List gY} {dB:List Int} (h:At X T (.code lW::inH k) w)
  (k1:1<=key) (k2:key<=99) (hl:l.length=n) (hc:n<=c) (ao:(c:Int)<=9223372036854775807) (hp:RdP w0 A 0 l) (a7:∀a,A2=some a->a.block<w0.heap.size) (b0:(C:Int)<=2147483647)
  (H:T.getD 0 undef=.int .i64 key) (s1:T.getD 1 undef=.slice A n c) (s2:T.getD 2 undef=.slice A2 C b) (E:T.getD 16 undef=.int .i64 C) (r:T.getD 27 undef=.slice (some ⟨w0.heap.size,0,none⟩) C C) (i:T.getD 28 undef=.int .i64 j)
  (hj:j<=C) (al:dB.length=j) (B:oZ w0 w C (dB.map (Z key l))) :
  (j=C/\∃T',Tm cQ T T'/\T'.getD 27 undef=.slice (some ⟨w0.heap.size,0,none⟩) C C/\At X T' k w)\/
  (j<C/\∃nm T' w',ajQ w0 A2 j nm/\Tm cQ T T'/\T'.getD 16 undef=.int .i64 C/\T'.getD 27 undef=.slice (some ⟨w0.heap.size,0,none⟩) C C/\T'.getD 28 undef=.int .i64 (j+1:Nat)/\oZ w0 w' C ((dB++[nm]).map (Z key l))/\At X T' (.code lW::inH k) w'):=by
 have D:=Tm.refl cQ T;unfold Go.Proofs.YtepfjblhjlefiaaGreatDoor.lW at h;have h:=h.seq;replace h:=h.region (l:=[0]) rfl;obtain⟨v,J,b1,⟨p,o⟩,m,W,g⟩:=h.jm (d:=26) (Φ:=λv q=>v=.bool (decide ((j:Int)<C))/\q=w) rfl rfl rfl (by decide) λM q F=>gv (by exact i) (by exact E) F;rw[p] at W;rw[o] at g;clear p o;replace H:=(m.same 0 rfl).trans H;replace s1:=(m.same 1 rfl).trans s1;replace s2:=(m.same 2 rfl).trans s2;replace E:=(m.same 16 rfl).trans E;replace r:=(m.same 27 rfl).trans r;replace i:=(m.same 28 rfl).trans i;replace D:=D.trans (m.sw rfl);clear m;replace h:=g;clear g;replace h:=h.iW.seq.cond W;by_cases S:(j:Int)<C
 .right;rw[de S] at h;simp only[oS] at h;replace h:=h.skip.seq.seq;replace h:=h.region (l:=[0,1,2,3]) rfl;obtain⟨ii,hi,hz⟩:=(faQ true).i3;obtain⟨v,J,ay,⟨a,hB,p,o⟩,m,O,g⟩:=h.jm (d:=25) (Φ:=λv q=>∃a,A2=some a/\v=.pointer (some (a.add (j*ii.size)))/\q=w) rfl rfl rfl (by decide) λM q F=>abZ (faQ true).u31 hi (by exact s2) (by exact i) (by omega) F;rw[p,hz,tC] at O;rw[o] at g;clear p o;replace H:=(m.same 0 rfl).trans H;replace s1:=(m.same 1 rfl).trans s1;replace E:=(m.same 16 rfl).trans E;replace r:=(m.same 27 rfl).trans r;replace i:=(m.same 28 rfl).trans i;replace D:=D.trans (m.sw rfl);clear m;replace h:=g;clear g;have hv:=h.noV (t:=25) rfl rfl rfl O (λe w he=>afb he);obtain⟨vv,J,aU,⟨I,o⟩,m,N,g⟩:=h.jm (d:=20) (Φ:=λv q=>w.cell? (a.add j)=some v/\q=w) rfl rfl rfl (by decide) λM q F=>ah0 (faQ true).u3 rfl (by exact O) hv.1 F;rw[o] at g;clear o;replace H:=(m.same 0 rfl).trans H;replace s1:=(m.same 1 rfl).trans s1;replace E:=(m.same 16 rfl).trans E;replace r:=(m.same 27 rfl).trans r;replace i:=(m.same 28 rfl).trans i;replace D:=D.trans (m.sw rfl);clear m;replace h:=g;clear g;obtain⟨v,J,aP,⟨z,aa,p,o⟩,m,G,g⟩:=h.jm (d:=22) (Φ:=λv q=>∃z,vv=.int .i64 z/\v=.int .i64 (IntKind.i64.wrap (z*1))/\q=w) rfl rfl rfl (by decide) λM q F=>let⟨v,a1,z,a2,a3,a4⟩:=al3 F rfl;⟨v,a1,z,N.symm.trans a2,a3,a4⟩
  rw[p] at G;rw[o] at g;clear p o;replace H:=(m.same 0 rfl).trans H;replace s1:=(m.same 1 rfl).trans s1;replace E:=(m.same 16 rfl).trans E;replace N:=(m.same 20 rfl).trans N;replace r:=(m.same 27 rfl).trans r;replace i:=(m.same 28 rfl).trans i;replace D:=D.trans (m.sw rfl);clear m;replace h:=g;clear g;subst aa;obtain⟨v,J,P,⟨p,o⟩,m,a0,g⟩:=h.jm (d:=21) (Φ:=λv q=>v=.bool (IntKind.i64.wrap (z*1) ==z)/\q=w) rfl rfl rfl (by decide) λM q F=>al5 (by exact G) (by exact N) F;rw[p] at a0;rw[o] at g;clear p o;replace H:=(m.same 0 rfl).trans H;replace s1:=(m.same 1 rfl).trans s1;replace E:=(m.same 16 rfl).trans E;replace N:=(m.same 20 rfl).trans N;replace G:=(m.same 22 rfl).trans G;replace r:=(m.same 27 rfl).trans r;replace i:=(m.same 28 rfl).trans i;replace D:=D.trans (m.sw rfl);clear m;replace h:=g;clear g;obtain⟨hq,g⟩:=h.iW.ayI a0;replace h:=g.seq;clear g;replace h:=h.region (l:=[0,1,2]) rfl;have Y:=aaZ hq;have a8:ajQ w0 A2 j z:=⟨a,hB,by rw[<-gu (B.low (a.add j).block (by rw[rj];exact a7 a hB))];exact I,Y⟩;obtain⟨v,J,aJ,⟨p,R⟩,m,K,g⟩:=h.call (d:=24) (f:=48) (args:=#[.int .i64 key,.slice A n c,.int .i64 z]) rfl rfl rfl (by decide) (λw=>by
    have hm:Array.map (Frame.eval (FQ cD P (.inRegion aiH [0,1,2] :: .code (.region 83 aiI false)::inH k))) #[.tmp 0,.tmp 1,.tmp 20]=#[.int .i64 key,.slice A n c,.int .i64 z]:=by
     rw[<-H,<-s1,<-N];simp[Frame.eval]
    have e0:execOp (Frame.eval (FQ cD P (.inRegion aiH [0,1,2] :: .code (.region 83 aiI false)::inH k))) (iv (some 24) (.call ⟨.value (.func 48),#[.tmp 0,.tmp 1,.tmp 20],#[3,23,3]⟩) 100)=callFunc 48 #[.int .i64 key,.slice A n c,.int .i64 z]:=by
     simp only[execOp,iv,resolve];rw[hm];simp[Deferred.ofValue,invoke,Frame.eval];try rfl
    exact(gc (λs=>Sem.runT (ah true) s w #[]) e0).trans aj6) (hF true w key A n c l z k1 k2 hl hc ao (hp.below B.low) Y)
  rw[p] at K;replace B:=B.below R;clear p R;replace E:=(m.same 16 rfl).trans E;replace G:=(m.same 22 rfl).trans G;replace r:=(m.same 27 rfl).trans r;replace i:=(m.same 28 rfl).trans i;replace D:=D.trans (m.sw rfl);clear m;replace h:=g;clear g;clear I hv;obtain⟨i2,ly,a6, -⟩:=(faQ true).adF;obtain⟨v,w2,ad,⟨a2,an,p,o⟩,m,a5,g⟩:=h.jm (d:=23) (Φ:=λv q=>∃a,some (⟨w0.heap.size,0,none⟩:Addr)=some a/\v=.pointer (some (a.add (j*i2.size)))/\q=J) rfl rfl rfl (by decide) λM q F=>abZ (faQ true).ahX ly (by exact r) (by exact i) (by omega) F;cases an;rw[p,a6,iT,ls,tL] at a5;rw[o] at g;clear p o;replace E:=(m.same 16 rfl).trans E;replace G:=(m.same 22 rfl).trans G;replace K:=(m.same 24 rfl).trans K;replace r:=(m.same 27 rfl).trans r;replace i:=(m.same 28 rfl).trans i;replace D:=D.trans (m.sw rfl);clear m;replace h:=g;clear g;have U:=B.store (by simp;omega) (Z key l z);rw[pe,al] at U;obtain⟨cs,L,aY, -⟩:=B.row;obtain⟨u0,ax⟩:∃u,cs[2*j]?=some u:=⟨_,ge (by omega)⟩;obtain⟨u1,a9⟩:∃u,cs[2*j+1]?=some u:=⟨_,ge (by omega)⟩;have ha:(⟨w0.heap.size,2*j,none⟩:Addr).add 1=⟨w0.heap.size,2*j+1,none⟩:=iT _ _ _;have V:=apo (faQ true) (dst:=none) (ty:=0) (pos:= "") (af:=#[]) (gd:=none) (w:=J) (A:=⟨w0.heap.size,2*j,none⟩) (u0:=.string (Z key l z).1) (u1:=.bool (Z key l z).2) (e:=(FQ cD ad (.inRegion aiH (2::[]) :: .code (.region 83 aiI false)::inH k)).eval) (x:=.tmp 23) (y:=.tmp 24) rfl rfl (by exact a5) (by exact K) ((eU L).trans ax) (ir L) (by rw[ha];exact(eU L).trans a9) (by rw[ha];exact ir L);rw[ha] at V;replace h:=h.opk rfl rfl rfl V;replace h:=h.iW.region (l:=[0,1]) rfl;generalize (J.setCell ⟨w0.heap.size,2*j,none⟩ (.string (Z key l z).1)).setCell ⟨w0.heap.size,2*j+1,none⟩ (.bool (Z key l z).2)=q at *;clear G;obtain⟨v,J,aL,⟨p,o⟩,m,G,g⟩:=h.jm (d:=22) (Φ:=λv Q=>v=.int .i64 (IntKind.i64.wrap ((j:Int)+1))/\Q=q) rfl rfl rfl (by decide) λM Q F=>al4 (by exact i) rfl F;rw[p] at G;rw[o] at g;clear p o;replace E:=(m.same 16 rfl).trans E;replace r:=(m.same 27 rfl).trans r;replace i:=(m.same 28 rfl).trans i;replace D:=D.trans (m.sw rfl);clear m;replace h:=g;clear g;clear i;obtain⟨v,J,aM,⟨p,o⟩,m,i,g⟩:=h.jm (d:=28) (Φ:=λv Q=>v=.int .i64 (IntKind.i64.wrap ((j:Int)+1))/\Q=q) rfl rfl rfl (by decide) λM Q F=>let⟨v,a1,a2,a3⟩:=ahY F;⟨v,a1,a2.trans G,a3⟩
  rw[p] at i;rw[o] at g;clear p o;replace E:=(m.same 16 rfl).trans E;replace r:=(m.same 27 rfl).trans r;replace D:=D.trans (m.sw rfl);clear m;replace h:=g;clear g;rw[afc (by omega)] at i;exact⟨by omega,z,_,q,a8,D,E,r,i,by rw[qJ];exact U,h.iW.again⟩
 .left;rw[bv S] at h;simp only[jn,qB] at h;exact⟨by omega,_,D,r,h.exit rfl⟩
def At.axf {G:Int->List gY->Int->ByteArray×Bool} (D:eI G) {w0:World} {key:Int} {A v:Option Addr} {n c d N:Nat} {l:List gY}
  (x:1<=key) (k2:key<=99) (F:l.length=n) (H:n<=c) (q:(c:Int)<=9223372036854775807) (E:RdP w0 A 0 l) (p:∀a,v=some a->a.block<w0.heap.size) (r:(d:Int)<=2147483647):∀(m j:Nat) {T:Array Value} {w:World} {t:List Int},d=j+m->At X T (.code lW::inH k) w->
  T.getD 0 undef=.int .i64 key->T.getD 1 undef=.slice A n c->T.getD 2 undef=.slice v d N->T.getD 16 undef=.int .i64 d->T.getD 27 undef=.slice (some ⟨w0.heap.size,0,none⟩) d d->T.getD 28 undef=.int .i64 j->t.length=j->(∀i nm,t[i]?=some nm->ajQ w0 v i nm)->oZ w0 w d (t.map (G key l))->
  ∃(b:List Int) (T':Array Value) (u:World),b.length=d/\(∀i nm,b[i]?=some nm->ajQ w0 v i nm)/\oZ w0 u d (b.map (G key l))/\Tm cQ T T'/\T'.getD 27 undef=.slice (some ⟨w0.heap.size,0,none⟩) d d/\At X T' k u
 |0,j,T,w,t,e,h,s0,s1,s2,dr,iR,iV,hnl,hnm,hrow=>by
  rcases h.aBm D x k2 F H q E p r s0 s1 s2 dr iR iV (by omega) hnl hrow with⟨_,T',J,g,I⟩|⟨y,_⟩
  .exact⟨t,T',w,by omega,hnm,hrow,J,g,I⟩
  .omega
 |m+1,j,T,w,t,e,h,s0,s1,s2,dr,iR,iV,hnl,hnm,hrow=>by
  rcases h.aBm D x k2 F H q E p r s0 s1 s2 dr iR iV (by omega) hnl hrow with⟨W,_⟩|⟨y,nm,V,U,P,f,C,g,z,o,K⟩
  .omega
  .obtain⟨b,T',u,R,S,L,O,M,Q⟩:=At.axf D x k2 F H q E p r m (j+1) (by omega) K ((f.same 0 rfl).trans s0) ((f.same 1 rfl).trans s1) ((f.same 2 rfl).trans s2) C g z (by simp[hnl]) (λi B s=>by
    rw[vT] at s;split at s
    .exact hnm i B s
    .have:i=j:=by
      have:=(li.1 s).1;simp at this;omega
     subst this;simp[hnl] at s;subst s;exact P) o
   exact⟨b,T',u,R,S,L,f.trans O,M,Q⟩
end
end
section
open Go.Conc Go.ConcN
def mxA:Option Addr->Nat
 |none=>0
 |some a=>a.block+1
def mxN:Option Nat->Nat
 |none=>0
 |some a=>a+1
def avM:Fn->Nat
 |.yield l=>l+1
 |_=>0
mutual
def mxV:Value->Nat
 |.pointer a=>mxA a
 |.slice a _ _=>mxA a
 |.map a=>mxN a
 |.chan a=>mxN a
 |.func f ⟨a⟩ ⟨c⟩=>max (avM f) (max (mxL a) (mxL c))
 |.iface _ v=>mxV v
 |.agg ⟨l⟩=>mxL l
 |.tuple ⟨l⟩=>mxL l
 |_=>0
def mxL:List Value->Nat
 |[]=>0
 |v::l=>max (mxV v) (mxL l)
end
def mxE:List MapEntry->Nat
 |[]=>0
 |e::l=>max (max (mxV e.key) (mxV e.val)) (mxE l)
def mxO:Obj->Nat
 |.cells c _ _=>mxL c.toList
 |.map e _=>mxE e.toList
 |.loop l=>mxL l.tmps.toList
 |_=>0
def mxH:List Obj->Nat
 |[]=>0
 |o::l=>max (mxO o) (mxH l)
def an4:∀{l:List Obj} {i:Nat} {o:Obj},l[i]?=some o->mxO o<=mxH l
 |[],i,o,h=>by simp at h
 |x::l,0,o,h=>by simp at h;subst h;simp only[mxH];omega
 |x::l,i+1,o,h=>by
  have:=an4 (l:=l) (i:=i) (o:=o) (by simpa using h);simp only[mxH];omega
def amC:List Frame->Nat
 |[]=>0
 |f::l=>max (mxL f.tmps.toList) (amC l)
def as2(f:Fn)(a c:Array Value):mxV (.func f a c)=max (avM f) (max (mxL a.toList) (mxL c.toList)):=by
 obtain⟨a⟩:=a;obtain⟨c⟩:=c;simp only[mxV]
def avN(a:Array Value):mxV (.agg a)=mxL a.toList:=by
 obtain⟨a⟩:=a;simp only[mxV]
def apU(a:Array Value):mxV (.tuple a)=mxL a.toList:=by
 obtain⟨a⟩:=a;simp only[mxV]
section
variable {ρ σ:Ren} {D:Nat} (hd:σ.dim=ρ.dim/\σ.al=ρ.al) (H:∀{a b:Nat},σ.r a b->b<D->ρ.r a b)
include H
theorem OAR.down{u v:Option Addr}(k:OAR σ u v)(a:mxA v<=D):OAR ρ u v:=by
 cases k with
 |none=>exact .none
 |some k=>cases k with
  |mk h o s=>exact .some (.mk (H h (by simp only[mxA] at a;omega)) o s)
theorem NR.down{v : Option Nat}(k:NR σ u v)(a:mxN v<=D):NR ρ u v:=by
 cases k with
 |none=>exact .none
 |some h=>exact .some (H h (by simp only[mxN] at a;omega))
theorem FR.down{u v:Fn}(k:FR σ u v)(a:avM v<=D):FR ρ u v:=by
 cases k with
 |same f b=>exact .same _ b
 |yield h=>exact .yield (H h (by simp only[avM] at a;omega))
include hd
mutual
theorem VR.down:∀{u v:Value},VR σ u v->mxV v<=D->VR ρ u v
 |_,_,.fK hl k,_=>.fK (hd.1▸hl) k
 |_,_,.aa5 k hl,_=>.aa5 k (hd.2▸hl)
 |_,_,.bool b,_=>.bool b
 |_,_,.int k n,_=>.int k n
 |_,_,.string s,_=>.string s
 |_,_,.pointer k,hb=>.pointer (OAR.down H k (by simpa only[mxV] using hb))
 |_,_,.slice k l c,hb=>.slice (OAR.down H k (by simpa only[mxV] using hb)) l c
 |_,_,.map k,hb=>.map (NR.down H k (by simpa only[mxV] using hb))
 |_,_,.chan k,hb=>.chan (NR.down H k (by simpa only[mxV] using hb))
 |_,_,.func f x y,hb=>by
  rw[as2] at hb;exact .func (FR.down H f (by omega)) (bU.down x (by omega)) (bU.down y (by omega))
 |_,_,.nilFunc,_=>.nilFunc
 |_,_,.iface t k,hb=>.iface t (VR.down k (by simpa only[mxV] using hb))
 |_,_,.nilIface,_=>.nilIface
 |_,_,.agg k,hb=>.agg (bU.down k (by rwa [avN] at hb))
 |_,_,.tuple k,hb=>.tuple (bU.down k (by rwa [apU] at hb))
theorem bU.down:∀{u v:List Value},bU σ u v->mxL v<=D->bU ρ u v
 |_,_,.nil,_=>.nil
 |_,_,.cons k kl,hb=>.cons (VR.down k (by simp only[mxL] at hb;omega)) (bU.down kl (by simp only[mxL] at hb;omega))
end
def mg.down:∀{u v:List MapEntry},mg σ u v->mxE v<=D->mg ρ u v
 |_,_,.nil,_=>.nil
 |_,_,.cons (.mk k1 k2 b) kl,hb=>.cons (.mk (VR.down hd H k1 (by simp only[mxE] at hb;omega)) (VR.down hd H k2 (by simp only[mxE] at hb;omega)) b) (mg.down kl (by simp only[mxE] at hb;omega))
variable (hx:σ.lax=ρ.lax) (hle:ρ.Le σ)
include hx hle
theorem OR.down{u v v':Obj}(h:OR ρ u v')(k:OR σ v v')(b:mxO v'<=D):OR ρ v v':=by
 cases h with
 |cells h t C=>cases k with
  |cells k _ g=>
   refine .cells (bU.down hd H k b) t ?_;unfold ZR at g ⊢;rw[<-hx];exact g
 |map h c=>cases k with
  |map k _=>exact .map (mg.down hd H k b) c
 |stringIter s p=>cases k;exact .stringIter s p
 |number h l=>cases k with
  |number k _=>
   obtain⟨d,o,s⟩:=h;cases k with
   |mk f _ _=>
    have:=σ.inj (hle.r d) f;subst this;exact .number (.mk d o s) l
 |mapIter h s a n=>cases k with
  |mapIter k _ _ _=>
   cases h with
   |none=>cases k;exact .mapIter .none s a n
   |some h=>cases k with
    |some k=>
     have:=σ.inj (hle.r h) k;subst this;exact .mapIter (.some h) s a n
 |loop d f E z B F A e=>cases k with
  |loop i x q y r w m j=>
   have:=σ.inj (hle.r e) j;rw[this] at e;exact .loop i x q (bU.down hd H y b) r w m e
 |bu=>cases k;exact .bu
 |deferred=>cases k;exact .deferred
omit hd hx in
omit H in
theorem Ren.down{a : Nat}(h:ρ.r a X)(k:σ.r b X):ρ.r b X:=by
 have:=σ.inj (hle.r h) k;subst this;exact h
omit hd hx in
omit H in
theorem jD.down{P:Program}:∀{u v a:List Item},jD P ρ u a->jD P σ v a->jD P ρ v a
 |_,_,_,.nil,.nil=>.nil
 |_,_,_,.cons h hl,.cons k kl=>.cons (by
   cases h with
   |code c=>cases k;exact .code c
   |inBlock id=>cases k;exact .inBlock id
   |inLoop c=>cases k;exact .inLoop c
   |inScope c=>cases k;exact .inScope c
   |inRegion h l=>cases k with
    |inRegion k _=>exact .inRegion k l
   |inRangeFunc h=>cases k with
    |inRangeFunc k=>exact .inRangeFunc (Ren.down hle h k)
   |endRangeFunc h=>cases k with
    |endRangeFunc k=>exact .endRangeFunc (Ren.down hle h k)
   |beginRound=>cases k;exact .beginRound) (jD.down hl kl)
omit hd hx in
omit H in
theorem CDs.down:∀{u v a:List Deferred},CDs ρ u a->CDs σ v a->CDs ρ v a
 |_,_,_,.nil,.nil=>.nil
 |_,_,_,.cons h hl,.cons k kl=>.cons (Ren.down hle h k) (CDs.down hl kl)
omit hd hx in
omit H in
theorem NR.aBn{v v' : Option Nat}(h:NR ρ u v')(k:NR σ v v'):NR ρ v v':=by
 cases h with
 |none=>cases k;exact .none
 |some h=>cases k with
  |some k=>exact .some (Ren.down hle h k)
omit hx in
theorem FrR.down{u v v':Frame}(h:FrR P ρ u v')(k:FrR P σ v v')(a:mxL v'.tmps.toList<=D):FrR P ρ v v':=
 ⟨k.fn,bU.down hd H k.tmps a,jD.down hle h.todo k.todo,CDs.down hle h.defers k.defers,k.mode,k.kind,NR.aBn hle h.round k.round⟩
omit hx in
theorem iD.down{P:Program}:∀{u v a:List Frame},iD P ρ u a->iD P σ v a->amC a<=D->iD P ρ v a
 |_,_,_,.one h h0,.one k k0,hb=>.one (FrR.down hd H hle h k (by simp only[amC] at hb;omega)) k0
 |_,_,_,.cons h b,.cons k kl,hb=>.cons (FrR.down hd H hle h k (by simp only[amC] at hb;omega)) (iD.down b kl (by simp only[amC] at hb;omega))
 |_,_,_,.one h h0,.cons k kl,_=>by cases kl
 |_,_,_,.cons h b,.one k k0,_=>by cases b
end
end
section
open Go Go.Conc Go.ConcN Go.RowKit
def aBo:∀i,i<20->cQ.getD i 0<45/\acW[i]?=some (aoG (cQ.getD i 0) 0)/\cQ.contains (cQ.getD i 0)=true:=by
 intro i a;have:i=0\/i=1\/i=2\/i=3\/i=4\/i=5\/i=6\/i=7\/i=8\/i=9\/i=10\/i=11\/i=12\/i=13\/i=14\/i=15\/i=16\/i=17\/i=18\/i=19:=by omega
 rcases this with rfl|rfl|rfl|rfl|rfl|rfl|rfl|rfl|rfl|rfl|rfl|rfl|rfl|rfl|rfl|rfl|rfl|rfl|rfl|rfl<;>exact⟨by decide,rfl,rfl⟩
def aBp{t:Nat}(h:cQ.contains t=true):∃i,i<20/\cQ.getD i 0=t:=by
 have b:t∈cQ:=by simpa using h
 obtain⟨i,a,c⟩:=vS.1 b;exact⟨i,a,by rw[sG,lm a];exact c⟩
def ay7:∀i,i<20->∀j,j<20->cQ.getD i 0=cQ.getD j 0->i=j:=by decide
section
variable {X:Cx} {T:Array Value} {k:List Item} {w:World}
def At.axg:∀(m i:Nat) {T:Array Value},i+m=20->At X T (.inRegion acW (List.range' i m)::k) w->(∀j,j<i->T.getD (cQ.getD j 0) undef=.int .i64 0)->
  ∃T',At X T' (.inRegion acW []::k) w/\(∀j,j<20->T'.getD (cQ.getD j 0) undef=.int .i64 0)/\Tm cQ T T'
 |0,i,T,e,h,hd=>⟨T,h,λj u=>hd j (by omega),.refl _ _⟩
 |m+1,i,T,e,h,hd=>by
  have l:i<20:=by omega
  obtain⟨x,o,q⟩:=aBo i l;rw[List.range'_succ] at h;obtain⟨v,z,A,⟨t,y⟩,n,s,h⟩:=h.jm (d:=cQ.getD i 0) (Φ:=λv g=>v=.int .i64 0/\g=w) o rfl rfl x λB g p=>jl p;rw[t] at s;rw[y] at h;obtain⟨T',r,f,c⟩:=At.axg m (i+1) (by omega) h λj u=>by
   by_cases a:j=i
   .subst a;exact s
   .have b:cQ.getD j 0≠cQ.getD i 0:=λe=>a (ay7 j (by omega) i l e);rw[n.same _ (by simpa using b)];exact hd j (by omega)
  exact⟨T',r,f,(n.sw q).trans c⟩
def At.last{C:Addr}(h:At X T (.code ajP::k) w)(r:T.getD 27 undef=.slice (some C) n n):∃T' m,AtL X T' (.code cP::k) m/\(∀b,b<w.heap.size->m.heap[b]?=w.heap[b]?)/\w.heap.size<m.heap.size/\
  m.heap[w.heap.size]?=some (.cells #[.slice (some C) n n] 87 (0,0))/\T'.getD 17 undef=.slice (some C) n n/\T'.getD 8 undef=.pointer (some ⟨w.heap.size,0,none⟩)/\(∀t,cQ.contains t=true->T'.getD t undef=.int .i64 0)/\Tm (8::17::cQ) T T':=by
 unfold ajP at h;have h:=h.seq;replace h:=h.region (l:=[0,1,2]) rfl;obtain⟨v,G,H,⟨B,s⟩,L,a,F⟩:=h.jm (d:=17) (Φ:=λv g=>v=.slice (some C) n n/\g=w) rfl rfl rfl (by decide) λR g z=>let⟨v,P,Q,K⟩:=jl z;⟨v,P,Q.trans r,K⟩
 rw[B] at a;rw[s] at F;obtain⟨v,G,S,⟨B,s⟩,E,o,f⟩:=F.jm (d:=8) (Φ:=λv g=>v=.pointer (some ⟨w.heap.size,0,none⟩)/\g=w.alloc (.cells #[.slice none 0 0] 87)) rfl rfl rfl (by decide) λR g z=>by
  have:=(ass (faQ true) (w:=w) (e:=(FQ cD H (.inRegion aiJ (1::[2]) :: .code (.seq (.region 59 acW false) cP)::k)).eval) (dst:=some 8) (ty:=0) (pos:= "") (af:=#[]) (gd:=none)).symm.trans z;cases this;exact⟨_,rfl,rfl,rfl⟩
 rw[B] at o;rw[s] at f;replace a:=(E.same 17 rfl).trans a;have q:(w.alloc (.cells #[.slice none 0 0] 87)).heap[w.heap.size]?=some (.cells #[.slice none 0 0] 87 (0,0)):=by
  show(w.heap.push _)[w.heap.size]?=_;rw[qM]
 have I:=apq (faQ true) (dst:=none) (ty:=0) (pos:= "") (af:=#[]) (gd:=none) (w:=w.alloc (.cells #[.slice none 0 0] 87)) (A:=⟨w.heap.size,0,none⟩) (u:=.slice (some C) n n) (c0:=.slice none 0 0)
  (e:=(FQ cD S (.inRegion aiJ (2::[]) :: .code (.seq (.region 59 acW false) cP)::k)).eval) (x:=.tmp 8) (y:=.tmp 17) ⟨_,_,_,rfl⟩ (by exact o) (by exact a) (eU q) (ir q)
 replace f:=(f.opk rfl rfl rfl I).iW.seq;replace f:=f.region (l:=List.range' 0 20) rfl;obtain⟨J,M,N,p⟩:=f.axg 20 0 (by rfl) (λj U=>by omega);refine⟨J,_,M.aAY,λb D=> ?_, ?_, ?_,(p.same 17 rfl).trans a,(p.same 8 rfl).trans o,λt c=> ?_, ?_⟩
 .rw[aZ _ _ _ (by show w.heap.size≠b;omega)];exact rZ w _ b D
 .rw[eg,mw];omega
 .exact vg q
 .obtain⟨i,O,rfl⟩:=aBp c;exact N i O
 .exact((L.mono λt c=>by simp at c;subst c;rfl).trans (E.mono λt c=>by simp at c;subst c;rfl)).trans (p.mono λt c=>by
   simp only[ta,qL];exact .inr (.inr c))
end
end
section
open Go Go.Conc Go.ConcN Go.RowKit
def as3{ρ:Ren}:∀(x y:List Value),x.length=y.length->(∀(i:Nat) u v,x[i]?=some u->y[i]?=some v->VR ρ u v)->bU ρ x y
 |[],[],_,_=>.nil
 |[],_::_,h,_=>by cases h
 |_::_,[],h,_=>by cases h
 |a::x,b::y,hs,h=>.cons (h 0 a b rfl rfl) (as3 x y (by simpa using hs) λi u v c d=>h (i+1) u v (by simpa using c) (by simpa using d))
def amD{x : Array Value}(b:x.size=y.size)(h:∀(i:Nat) u v,x[i]?=some u->y[i]?=some v->VR ρ u v):dg ρ x y:=
 as3 _ _ (by simpa using b) λi u v a c=>h i u v (by rw[<-du];exact a) (by rw[<-du];exact c)
def dg.at{x : Array Value}(h:dg ρ x y){u : Value}(d:x[i]?=some u)(b:y[i]?=some v):VR ρ u v:=by
 obtain⟨e,a,c⟩:=bU.get h (i:=i) (v:=u) (by rw[du];exact d);rw[du,b] at a;cases a;exact c
abbrev T0F(a:Array Value):Array Value:=a++Array.replicate (45-a.size) undef
def avO :Frame.enter (ah true) cD Y .normal=FQ cD (T0F Y) [.code jV]:=by
 have a:(ah true).funcs[cD]?=some (qFA true):=acr true;unfold Frame.enter;rw[a];rfl
def an5(h:T[i]?=some v):T.getD i undef=v:=by
 rw[gn,h];rfl
def eB(w:World)(b:Nat):Prop:=∃c t z,w.heap[b]?=some (.cells c t z)
def lj{A:Addr}(a:w.cell? A=some v):eB w A.block:=by
 unfold World.cell? at a;cases b:w.heap[A.block]? with
 |none=>rw[b] at a;simp at a
 |some o=>
  rw[b] at a;cases o with
  |cells c t z=>exact⟨c,t,z,b⟩
  |_=>simp at a
def ay8:(gL.all λg=>g ==0||g ==1)=true:=by unfold gL;kernel_rfl
structure aBq (ρ:Ren) (a':Array Value) (w:World) (key:Int) (A:Option Addr) (n c:Nat) (l:List gY) (A2:Option Addr) (n2 c2:Nat) (dB:List Int):Prop where
 s0:(T0F a').getD 0 undef=.int .i64 key
 k1:1<=key
 k2:key<=99
 s1:(T0F a').getD 1 undef=.slice A n c
 nc:n<=c
 cm:(c:Int)<=9223372036854775807
 ln:l.length=n
 rd:RdP w A 0 l
 rg:∀i x,l[i]?=some x->∀a b m e,A=some a->w.cell? ((a.add (i*2)).add 1)=some (.slice (some b) m e)->∃y,ρ.r y b.block
 s2:(T0F a').getD 2 undef=.slice A2 n2 c2
 n2m:(n2:Int)<=2147483647
 n2c:n2<=c2
 c2m:(c2:Int)<=9223372036854775807
 nn:dB.length=n2
 nm:∀i nm,dB[i]?=some nm->ajQ w A2 i nm
 gl:∀g∈gL,eB w g
 al:∀a,A=some a->∃b,ρ.r b a.block
 al2:∀a,A2=some a->∃b,ρ.r b a.block
def aas(t:Nat):Bool:=t ==12||t ==14||decide (29<=t)
def amE{l:List Nat}{t:Nat}(h:(l.all λx=>decide (x<29))=true)(c:29<=t):l.contains t=false:=by
 cases b:l.contains t with
 |false=>rfl
 |true=>
  have a:t∈l:=by simpa using b
  have:=kw.1 h t a;simp only[qG] at this;omega
def as4{t:Nat}(h:aas t=true):mH.contains t=false/\cQ.contains t=false/\(8::17::cQ).contains t=false/\t≠8/\t≠17:=by
 simp only[aas,qL,mp,qG] at h;rcases h with(rfl|rfl)|h
 .exact⟨rfl,rfl,rfl,by decide,by decide⟩
 .exact⟨rfl,rfl,rfl,by decide,by decide⟩
 .exact⟨amE rfl h,amE rfl h,amE rfl h,by omega,by omega⟩
def vf(h:i<T.size):T[i]?=some (T.getD i undef):=by
 rw[gn,ge h];rfl
def an6:∀{l:List Value} {i:Nat} {v:Value},l[i]?=some v->mxV v<=mxL l
 |[],i,v,h=>by simp at h
 |x::l,0,v,h=>by simp at h;subst h;simp only[mxL];omega
 |x::l,i+1,v,h=>by
  have:=an6 (l:=l) (i:=i) (v:=v) (by simpa using h);simp only[mxL];omega
def an7(h:(T0F Y)[i]?=some v):mxV v<=mxL Y.toList:=by
 unfold T0F at h;rw[sE] at h;split at h
 .exact an6 (i:=i) (by rw[du];exact h)
 .rw[tO] at h;split at h
  .cases h;have:mxV undef=0:=by
    show mxV (.tuple ⟨[]⟩)=0;simp only[mxV,mxL]
   omega
  .cases h
def ah1.cells{B:Option Addr}{x:Int×ByteArray}(h:ah1 w B i x)(k:∀A,w.cell? A=w'.cell? A):ah1 w' B i x:=by
 obtain⟨⟨a,d,b,f⟩,c,e⟩:=h;exact⟨⟨a,d,(k _).symm.trans b,(k _).symm.trans f⟩,c,e⟩
def RdP.cells{l:List gY}(h:RdP w A j l)(k:∀A,w.cell? A=w'.cell? A):RdP w' A j l:=λi x g=>by
 obtain⟨⟨a,B,c,o,d,f,n,q,m,p⟩,b⟩:=h i x g;exact⟨⟨a,B,c,o,(k _).symm.trans d,(k _).symm.trans f,n,q,m,λi y e=>(p i y e).cells k⟩,b⟩
def as5(w:World)(n:Nat):World:={w with heap:=w.heap++Array.replicate n (.deferred none)}
def aj7(w:World)(n:Nat)(h:b<w.heap.size):(as5 w n).heap[b]?=w.heap[b]?:=by
 show(w.heap++_)[b]?=_;rw[rI h]
def apV(w:World)(n:Nat)(A:Addr):(as5 w n).cell? A=w.cell? A:=by
 by_cases h:A.block<w.heap.size
 .exact gu (aj7 w n h)
 .unfold World.cell?;rw[pY (by omega:w.heap.size<=A.block)];have:(as5 w n).heap[A.block]?=none\/(as5 w n).heap[A.block]?=some (.deferred none):=by
   show(w.heap++_)[A.block]?=none\/(w.heap++_)[A.block]?=_;rw[sE,bd (by omega),tO];split
   .exact .inr rfl
   .exact .inl rfl
  rcases this with e|e<;>rw[e]
def apW (hF:eI Z) {c:Cfg}  {m m':List Frame} (c0:dg ρ a Y) (a7:iD (ah true) ρ m m') (hc:c.l=Frame.enter (ah true) cD a .normal::m)
  (F:WR ρ c.w w') (hg:GlR ρ) (hW:jY (ah true) R c) :
  ∃M A n cc l A2 E c2 dB c1,aBq ρ Y w' M A n cc l A2 E c2 dB/\iy (ah true) c1 c/\jY (ah true) R c1/\(∀b K,ρ.r b K->Rw c.w b->Rw c1.w b/\∀i u,adY u->c1.w.cell? ⟨b,i,none⟩=some u->c.w.cell? ⟨b,i,none⟩=some u)/\
   ∀(wr:World) (S W:Nat) (cs:Array Value),(∀b K,ρ.r b K->wr.heap[K]?=w'.heap[K]?)->wr.ou=w'.ou->w'.heap.size<=wr.heap.size->w'.heap.size<=S->w'.heap.size<=W->S≠W->wr.heap[S]?=some (.cells cs 100 (0,0))->cs.size=2*E->
    (∀i nm,dB[i]?=some nm->cs[2*i]?=some (.string (Z M l nm).1)/\cs[2*i+1]?=some (.bool (Z M l nm).2))->wr.heap[W]?=some (.cells #[.slice (some ⟨S,0,none⟩) E E] 87 (0,0))->
    ∃p T2,ρ.Le p/\iD (ah true) p c1.l (FQ cD T2 [.code cP]::m')/\WR p c1.w wr/\(∀b K,p.r b K->ρ.r b K\/K=S\/K=W)/\T2.size=(T0F Y).size/\(∀i,i<3->T2.getD i undef=(T0F Y).getD i undef)/\
     T2.getD 6 undef=.slice none 0 0/\T2.getD 7 undef=.bool false/\T2.getD 8 undef=.pointer (some ⟨W,0,none⟩)/\T2.getD 17 undef=.slice (some ⟨S,0,none⟩) E E/\(∀i,aas i=true->T2.getD i undef=(T0F Y).getD i undef):=by
 obtain⟨_,_,y,ys,e1,rfl⟩:=a7.ne';have bl:45<=(T0F Y).size:=by simp only[T0F,rR,sM];omega
 obtain⟨D,bS,ba,cm,bw⟩:∃D,w'.heap.size<=D/\mxH w'.heap.toList<=D/\mxL Y.toList<=D/\amC (y::ys)<=D:=⟨w'.heap.size+(mxH w'.heap.toList+(mxL Y.toList+amC (y::ys))),by omega,by omega,by omega,by omega⟩;obtain⟨w,Q⟩:∃w,w=as5 w' (D-w'.heap.size):=⟨_,rfl⟩;have b7:w.heap.size=D:=by
  rw[Q];show(w'.heap++_).size=D;rw[rR,sM];omega
 have b5:∀{b},b<w'.heap.size->w.heap[b]?=w'.heap[b]?:=λ{b} h=>by rw[Q];exact aj7 _ _ h
 have U:∀A,w.cell? A=w'.cell? A:=λA=>by rw[Q];exact apV _ _ _
 have bi:w.ou=w'.ou:=by rw[Q];rfl
 have c9:WR ρ c.w w:=⟨λ{b K} f=>by
  obtain⟨o,o',T,O,h3⟩:=F.obj f;exact⟨o,o',T,(b5 (F.lt f).2).trans O,h3⟩,F.os.trans bi.symm,F.kL.1,by rw[b7];exact da F.kL.2 bS⟩
 clear Q;have b8:FrR (ah true) ρ (Frame.enter (ah true) cD a .normal) (FQ cD (T0F Y) [.code jV]):=by rw[<-avO];exact ae4 true c0
 have h0:At ⟨R,c,ρ,w,y,ys⟩ (T0F Y) [.code jV] w:=⟨bl,c,ρ,.inl rfl,.refl _,by rw[hc];exact .cons b8 a7,c9,hg,hW,Kept.refl _ _ _⟩;obtain⟨M,A,n,cc,l,T1,s0,k1,k2,⟨cG,bp⟩,⟨cz,ce⟩,s1,aU,aP,hl,hp,hR,bz,m1,s6,s7,T⟩:=h0.head;obtain⟨A2,E,c2,ao,T2,s2,bb,bT,b4,c8,co,b9,m2,dr,bn,bP,O⟩:=T.names;replace s2:=(m1.same 2 rfl).symm.trans s2;have cq:oZ w (w.alloc (.cells ao 100)) E (([]:List Int).map (Z M l)):=by
  refine⟨λb f=>rZ w _ b f,by rw[mw];omega,ao, ?_,b9,λi x I=>by simp at I⟩;show(w.heap.push _)[w.heap.size]?=_;rw[qM]
 have g0:=λt (h:mH.contains t=false) (h':cQ.contains t=false)=>(m2.same t h').trans (m1.same t h);obtain⟨dB,T3,w3,cp,bk,J,m3,bF,h3⟩:=At.axf hF k1 k2 hl aU aP hp bb b4 E 0 (by omega) O.block.loop ((g0 0 rfl rfl).trans s0) ((g0 1 rfl rfl).trans s1) ((g0 2 rfl rfl).trans s2) dr bn bP rfl (λi nm I=>by simp at I) cq;obtain⟨T4,w4,h4,b3,cB,ci,bu,s8,c6,m4⟩:=h3.last bF;obtain⟨b6,bf,cr,bx⟩:=J.row;have a5:w4.heap[w.heap.size]?=some (.cells b6 100 (0,0)):=(b3 _ J.lt).trans bf;have cd:∀b,b<w'.heap.size->w4.heap[b]?=w'.heap[b]?:=λb f=>((b3 b (Nat.lt_trans (by omega) J.lt)).trans (J.low b (by omega))).trans (b5 f);have g1:=λt (h:mH.contains t=false) (h':cQ.contains t=false) (bo:(8::17::cQ).contains t=false)=>(m4.same t bo).trans ((m3.same t h').trans (g0 t h h'));have t6:T4.getD 6 undef=.slice none 0 0:=(m4.same 6 rfl).trans ((m3.same 6 rfl).trans ((m2.same 6 rfl).trans s6));have t7:T4.getD 7 undef=.bool false:=(m4.same 7 rfl).trans ((m3.same 7 rfl).trans ((m2.same 7 rfl).trans s7));have af:T4.size=(T0F Y).size:=m4.size.trans (m3.size.trans (m2.size.trans m1.size));obtain⟨cC,c1,C,q,c5⟩:=h4;obtain⟨x,xs,_,_,ax,e2⟩:=q.st.ne';cases e2;have hq:=q.st;rw[ax] at hq;have V:=hq.head;have ca:iD (ah true) C xs (y::ys):=by cases hq with|cons _ h=>exact h
 have H:∀{a b:Nat},C.r a b->b<D->ρ.r a b:=λ{a b} h f=>(q.kept.new h).elim id λh=>by
  have:w.heap.size<=b:=h.2;omega
 have hd:C.dim=ρ.dim/\C.al=ρ.al:=⟨q.le.dim.symm,q.le.al.symm⟩;have ay:C.lax=ρ.lax:=q.le.lax.symm;have aL:∀{i:Nat} {P:Addr} {n m:Nat},i<(T0F Y).size->(T0F Y).getD i undef=.slice (some P) n m->Rgd ⟨R,c,ρ,w,y,ys⟩ P.block->∃b,ρ.r b P.block:=λ{i P n m} I e h=>h.elim id λh=>by
  have f:=an7 (vf I);rw[e] at f;simp only[mxV,mxA] at f;have h':w.heap.size<=P.block:=h;omega
 refine⟨M,A,n,cc,l,A2,E,c2,dB,c1,⟨s0,k1,k2,s1,aU,aP,hl,hp.cells U,λi x hx P b0 m0 e0 hA jS=> ?_,s2,b4,c8,co,cp,λi nm I=> ?_,λg bO=> ?_,λP aa=> ?_,λP aa=> ?_⟩,c5,q.will,λb K f aY=>⟨(q.kept.poi f aY).1,λi u hu c7=>((q.kept.poi f aY).2 i u hu c7).1⟩,λwr S W cs bL bG ck cx cy ad cn cw aM br=> ?_⟩
 .-- an item's row
  subst hA;obtain⟨⟨a1,B,c3,f1,f2,f3,f4,f5,f6,f7⟩, -⟩:=hp i x hx;cases f1;rw[ls] at f3;rw[<-U,f3] at jS;cases jS;obtain⟨z,hz⟩:∃z,x.2[0]?=some z:=⟨_,lm (by omega)⟩;obtain⟨⟨a2,cb,bt, -⟩, -⟩:=f7 0 z hz;cases cb;have a4:=eH bt;rw[rj] at a4;have I:i<n:=by rw[<-hl];exact(li.1 hx).1
  rcases hR i I P b0 _ _ rfl f3 with h|h
  .exact h
  .have h':w.heap.size<=b0.block:=h;omega
 .obtain⟨P,f1,f2,f3⟩:=bk i nm I;exact⟨P,f1,(U _).symm.trans f2,f3⟩
 .have:=kw.1 ay8 g bO;simp only[qL,mp] at this;rcases this with rfl|rfl
  .exact lj ((U _).symm.trans bp)
  .exact lj ((U _).symm.trans ce)
 .subst aa;exact aL (by omega) s1 (bz P rfl)
 .subst aa;exact aL (by omega) s2 (bT P rfl)
 have ct:w'.heap.size<=w.heap.size:=by omega
 have cv:w.heap.size<w3.heap.size:=J.lt
 let p:Ren:={
  r:=λa b=>ρ.r a b\/(b=S/\C.r a w.heap.size)\/(b=W/\C.r a w3.heap.size)
  lax:=ρ.lax
  dim:=ρ.dim
  al:=ρ.al
  fn:=λ{a b d} h k=>by
   rcases h with h|⟨rfl,h⟩|⟨rfl,h⟩<;>rcases k with k|⟨rfl,k⟩|⟨rfl,k⟩
   .exact ρ.fn h k
   .have:=C.fn (q.le.r h) k;have:=(F.lt h).2;omega
   .have:=C.fn (q.le.r h) k;have:=(F.lt h).2;omega
   .have:=C.fn (q.le.r k) h;have:=(F.lt k).2;omega
   .rfl
   .have:=C.fn h k;omega
   .have:=C.fn (q.le.r k) h;have:=(F.lt k).2;omega
   .have:=C.fn h k;omega
   .rfl
  inj:=λ{a b d} h k=>by
   rcases h with h|⟨rfl,h⟩|⟨rfl,h⟩<;>rcases k with k|⟨e,k⟩|⟨e,k⟩
   .exact ρ.inj h k
   .have:=(F.lt h).2;omega
   .have:=(F.lt h).2;omega
   .have:=(F.lt k).2;omega
   .exact C.inj h k
   .exact absurd e ad
   .have:=(F.lt k).2;omega
   .exact absurd e.symm ad
   .exact C.inj h k
  kL:=λ{a b} h=>by
   have:=F.kL.2;rcases h with h|⟨rfl,h⟩|⟨rfl,h⟩
   .exact ρ.kL h
   .have:=C.kL h;omega
   .have:=C.kL h;omega}
 have a3:ρ.Le p:=⟨.inl,rfl,rfl,rfl⟩;have down:∀{u v:Value},VR C u v->mxV v<=D->VR p u v:=λh f=>(VR.down hd H h f).mono a3;have aJ:∀{u:Value},VR C u (.slice (some ⟨w.heap.size,0,none⟩) E E)->VR p u (.slice (some ⟨S,0,none⟩) E E):=λ{u} h=>by
  cases h with
  |slice hA=>cases hA with
   |some hA=>cases hA with
    |mk h o s=>exact .slice (.some (.mk (Or.inr (Or.inl ⟨rfl,h⟩)) 0 none)) _ _
  |fK hl _=>exact .fK (hd.1▸hl) rfl
 have c4:∀{u:Value},VR C u (.pointer (some ⟨w3.heap.size,0,none⟩))->VR p u (.pointer (some ⟨W,0,none⟩)):=λ{u} h=>by
  cases h with
  |pointer hA=>cases hA with
   |some hA=>cases hA with
    |mk h o s=>exact .pointer (.some (.mk (Or.inr (Or.inr ⟨rfl,h⟩)) 0 none))
  |fK hl _=>exact .fK (hd.1▸hl) rfl
 have zr:∀{n:Nat} {z z':Nat×Nat},ZR C n z z'->ZR p n z z':=λh=>by
  unfold ZR at h ⊢;rw[ay] at h;exact h
 have bY:b6=cs:=by
  apply so;intro i;rcases oR i (2*E) with I|I
  .obtain⟨j,hj⟩:∃j,i=2*j\/i=2*j+1:=⟨i / 2,by omega⟩;obtain⟨nm,a0⟩:∃nm,dB[j]?=some nm:=⟨_,lm (by omega)⟩;have b1:=bx j (Z M l nm) (by rw[qE,a0];rfl);have b2:=aM j nm a0;rcases hj with rfl|rfl
   .rw[b1.1,b2.1]
   .rw[b1.2,b2.2]
  .rw[pY (by omega),pY (by omega)]
 refine⟨p,(T4.setIfInBounds 17 (.slice (some ⟨S,0,none⟩) E E)).setIfInBounds 8 (.pointer (some ⟨W,0,none⟩)),a3, ?_,⟨λ{b K} f=> ?_, ?_, ?_, ?_⟩, ?_,by simpa using af,λi I=> ?_, ?_, ?_, ?_, ?_,λi I=> ?_⟩
 .-- frames
  rw[ax];refine .cons ⟨V.fn, ?_, ?_, ?_,V.mode,V.kind, ?_⟩ ((iD.down hd H q.le (e1▸a7) ca bw).mono a3)
  .refine amD (by simp only[Array.size_setIfInBounds];exact bU.size V.tmps) λi u v hu G=> ?_;by_cases i8:i=8
   .subst i8;rw[pu (by simp;omega)] at G;cases G;exact c4 (dg.at V.tmps hu (by rw[<-s8];exact vf (by show 8<T4.size;omega)))
   rw[ip (λe=>i8 e.symm)] at G;by_cases a6:i=17
   .subst a6;rw[pu (by omega)] at G;cases G;exact aJ (dg.at V.tmps hu (by rw[<-bu];exact vf (by show 17<T4.size;omega)))
   rw[ip (λe=>a6 e.symm)] at G;have N:VR C u v:=dg.at V.tmps hu G;have L:=an5 G;cases X:cQ.contains i with
   |true=>
    rw[c6 i X] at L;subst L;exact down N (by simp only[mxV];omega)
   |false=>
    by_cases i6:i=6
    .subst i6;rw[t6] at L;subst L;exact down N (by simp only[mxV,mxA];omega)
    by_cases i7:i=7
    .subst i7;rw[t7] at L;subst L;exact down N (by simp only[mxV];omega)
    have ch:(T0F Y).getD i undef=v:=by
     rw[<-L];exact(g1 i (by simp only[mH,ta,X];simp[i6,i7]) X (by simp only[ta,X];simp[i8,a6])).symm
    have a9:(T0F Y)[i]?=some v:=by
     have a4:i<(T0F Y).size:=by rw[<-af];exact(dk.1 G).1
     rw[<-ch];exact vf a4
    exact down N (da (an7 a9) cm)
  .have ht:=V.todo;generalize x.todo=td at ht ⊢;cases ht with
   |cons T O=>cases T;cases O;exact .cons (.code _) .nil
  .have ht:=V.defers;generalize x.defers=td at ht ⊢;cases ht;exact .nil
  .have ht:=V.round;generalize x.roundOf=td at ht ⊢;cases ht;exact .none
 .-- objects
  rcases f with f|⟨rfl,f⟩|⟨rfl,f⟩
  .obtain⟨o,o',T,O,h3⟩:=q.wr.obj (q.le.r f);obtain⟨u,u',k1,k2,k3⟩:=F.obj f;have e:=cd K (F.lt f).2;rw[O,k2] at e;cases e;exact⟨o,o',T,(bL _ _ f).trans k2,(OR.down hd H ay q.le k3 h3 (da (an4 (i:=K) (by rw[du];exact k2)) ba)).mono a3⟩
  .obtain⟨o,o',T,O,h3⟩:=q.wr.obj f;rw[a5] at O;cases O;cases h3 with
   |@cells cl _ jS _ z _ a8=>
    refine⟨_,_,T,cn, ?_⟩;subst bY;refine .cells (amD (by simpa using jS.length) λi u v hu G=> ?_) _ (zr a8);have N:=dg.at jS hu G;obtain⟨j,hj⟩:∃j,i=2*j\/i=2*j+1:=⟨i / 2,by omega⟩;have I:=(dk.1 G).1;obtain⟨nm,a0⟩:∃nm,dB[j]?=some nm:=⟨_,lm (by omega)⟩;have b2:=aM j nm a0;rcases hj with rfl|rfl
    .rw[b2.1] at G;cases G;exact down N (by simp only[mxV];omega)
    .rw[b2.2] at G;cases G;exact down N (by simp only[mxV];omega)
  .obtain⟨o,o',T,O,h3⟩:=q.wr.obj f;rw[ci] at O;cases O;cases h3 with
   |@cells cl _ jS _ z _ a8=>
    refine⟨_,_,T,br,.cells (amD (by simpa using jS.length) λi u v hu G=> ?_) _ (zr a8)⟩;have I:=(dk.1 G).1;have a9:i=0:=by simpa using I
    subst a9;cases G;exact aJ (dg.at jS hu rfl)
 .exact q.kept.os.1.trans (F.os.trans bG.symm)
 .exact da F.kL.1 q.kept.size
 .exact da F.kL.2 ck
 .rintro b K (h|⟨rfl,_⟩|⟨rfl,_⟩)
  .exact .inl h
  .exact .inr (.inl rfl)
  .exact .inr (.inr rfl)
 .rw[aF (by simp;omega),bd (by omega),aF (by omega),bd (by omega)];have:i=0\/i=1\/i=2:=by omega
  rcases this with rfl|rfl|rfl
  .exact g1 0 rfl rfl rfl
  .exact g1 1 rfl rfl rfl
  .exact g1 2 rfl rfl rfl
 .rw[aF (by simp;omega),bd (by decide),aF (by omega),bd (by decide)];exact t6
 .rw[aF (by simp;omega),bd (by decide),aF (by omega),bd (by decide)];exact t7
 .rw[aF (by simp;omega),dj rfl]
 .rw[aF (by simp;omega),bd (by decide),aF (by omega),dj rfl]
 .obtain⟨i1,i2,i3,i4,i5⟩:=as4 I;have e:((T4.setIfInBounds 17 (.slice (some ⟨S,0,none⟩) E E)).setIfInBounds 8 (.pointer (some ⟨W,0,none⟩))).getD i undef=T4.getD i undef:=by
   rw[aF (by simp;omega),bd i4,aF (by omega),bd i5]
  exact e.trans (g1 i i1 i2 i3)
end
section
open Go Go.Conc Go.ConcN Go.RowKit
def plV(V:Nat->Prop):Value->Prop
 |.int k _=>k ≠ .u8
 |.string _=>True
 |.slice (some a) _ _=>V a.block
 |_=>False
def as7:Value->Bool
 |.func (.method _) _ _=>true
 |_=>false
mutual
def afs:Value->List Value
 |.agg ⟨l⟩=>pd l
 |.tuple ⟨l⟩=>pd l
 |v=>if as7 v then[v] else[]
def pd:List Value->List Value
 |[]=>[]
 |v::l=>afs v++pd l
end
def agR:∀{l:List Value} {i:Nat} {v x:Value},l[i]?=some v->x∈afs v->x∈pd l
 |[],i,v,x,h,_=>by simp at h
 |y::l,0,v,x,h,hx=>by simp at h;subst h;simp only[pd];exact rN _ hx
 |y::l,i+1,v,x,h,hx=>by simp only[pd];exact rL _ (agR (i:=i) (by simpa using h) hx)
def aBs:Obj->List Value
 |.cells c _ _=>pd c.toList
 |_=>[]
def eX(w:World):List Value:=w.heap.toList.flatMap aBs
def agS{c:Array Value}{x : Value}(a:w.heap[b]?=some (.cells c t z))(hi:c[i]?=some v)(d:x∈afs v):x∈eX w:=
 qe.2 ⟨.cells c t z,be (i:=b) (by rw[du];exact a),by
  show x∈pd c.toList;exact agR (i:=i) (by rw[du];exact hi) d⟩
section
variable {ρ:Ren} (hl:ρ.dim=true)
include hl
mutual
theorem azb:∀(v:Value),(∀x∈afs v,∃k,ρ.al k=some x)->∃u,VR ρ u v/\(∀k,u ≠ .int .u8 k)/\(adY u\/∀(g:Ren) d,g.al=ρ.al->VR g u d->d=v)
 |.bool b,_=>⟨_,.bool b,(λk e=>by cases e),.inr λg d _ h=>by cases h;rfl⟩
 |.int k n,_=>⟨_,.fK hl rfl,(λk e=>by cases e),.inl (.inl ⟨_,rfl⟩)⟩
 |.float k n,_=>⟨_,.fK hl rfl,(λk e=>by cases e),.inl (.inl ⟨_,rfl⟩)⟩
 |.complex k n m,_=>⟨_,.fK hl rfl,(λk e=>by cases e),.inl (.inl ⟨_,rfl⟩)⟩
 |.string s,_=>⟨_,.string s,(λk e=>by cases e),.inr λg d _ h=>by cases h;rfl⟩
 |.pointer none,_=>⟨_,.pointer .none,(λk e=>by cases e),.inr λg d _ h=>by cases h with|pointer h=>cases h;rfl⟩
 |.pointer (some a),_=>⟨_,.fK hl rfl,(λk e=>by cases e),.inl (.inl ⟨_,rfl⟩)⟩
 |.slice a l c,_=>⟨_,.fK hl rfl,(λk e=>by cases e),.inl (.inl ⟨_,rfl⟩)⟩
 |.map a,_=>⟨_,.fK hl rfl,(λk e=>by cases e),.inl (.inl ⟨_,rfl⟩)⟩
 |.chan a,_=>⟨_,.fK hl rfl,(λk e=>by cases e),.inl (.inl ⟨_,rfl⟩)⟩
 |.func (.func f) a c,_=>⟨_,.fK hl rfl,(λk e=>by cases e),.inl (.inl ⟨_,rfl⟩)⟩
 |.func (.methodOf t f) a c,_=>⟨_,.fK hl rfl,(λk e=>by cases e),.inl (.inl ⟨_,rfl⟩)⟩
 |.func (.via t p f q) a c,_=>⟨_,.fK hl rfl,(λk e=>by cases e),.inl (.inl ⟨_,rfl⟩)⟩
 |.func (.yield f) a c,_=>⟨_,.fK hl rfl,(λk e=>by cases e),.inl (.inl ⟨_,rfl⟩)⟩
 |.func (.method n) a c,hm=>by
  obtain⟨k,z⟩:=hm (.func (.method n) a c) (by simp[afs,as7]);refine⟨_,.aa5 k z,(λk e=>by cases e),.inr λg d B h=> ?_⟩;generalize i:aof k=u at h;cases h with
  |aa5 D j=>
   have e:k=D:=by
    unfold aof at i;injection i with _ _ A
    have:=gc Array.size A;simpa using this
   subst e;rw[B,z] at j;exact(dl j).symm
  |func o _ _=>
   unfold aof at i;injection i with C _ _
   subst C;cases o with
   |same f o=>cases o
  |_=>unfold aof at i;cases i
 |.nilFunc,_=>⟨_,.nilFunc,(λk e=>by cases e),.inr λg d _ h=>by cases h;rfl⟩
 |.iface t v,_=>⟨_,.fK hl rfl,(λk e=>by cases e),.inl (.inl ⟨_,rfl⟩)⟩
 |.nilIface,_=>⟨_,.nilIface,(λk e=>by cases e),.inr λg d _ h=>by cases h;rfl⟩
 |.agg ⟨l⟩,hm=>by
  obtain⟨r,w⟩:=azc l λx y=>hm x (by simpa only[afs] using y);exact⟨.agg ⟨r⟩,.agg w,(λk e=>by cases e),.inl (.inr ⟨_,rfl⟩)⟩
 |.tuple ⟨l⟩,hm=>by
  obtain⟨r,w⟩:=azc l λx y=>hm x (by simpa only[afs] using y);exact⟨.tuple ⟨r⟩,.tuple w,(λk e=>by cases e),.inl (.inl ⟨_,rfl⟩)⟩
theorem azc:∀(l:List Value),(∀x∈pd l,∃k,ρ.al k=some x)->∃a,bU ρ a l
 |[],_=>⟨[],.nil⟩
 |v::l,hm=>by
  obtain⟨x,c,_⟩:=azb v λx b=>hm x (by simp only[pd];exact rN _ b);obtain⟨a,d⟩:=azc l λx b=>hm x (by simp only[pd];exact rL _ b);exact⟨x::a,.cons c d⟩
end
end
def aj8(L:List Value)(k:Nat):Option Value:=L[k]?
def aj9{L:List Value}{x:Value}(h:x∈L):∃k,aj8 L k=some x:=by
 obtain⟨k,a,e⟩:=vS.1 h;exact⟨k,by unfold aj8;rw[lm a,e]⟩
def amF{ρ:Ren}{Q:Nat->Value->Value->Prop}:∀(l:List Value) (j:Nat),(∀i v,l[i]?=some v->∃u,VR ρ u v/\Q (j+i) u v)->∃d,bU ρ d l/\∀i v,l[i]?=some v->∃u,d[i]?=some u/\Q (j+i) u v
 |[],_,_=>⟨[],.nil,λi v h=>by simp at h⟩
 |v::l,j,h=>by
  obtain⟨u,m,e⟩:=h 0 v rfl;obtain⟨d,f,k⟩:=amF l (j+1) λi x c=>by
   obtain⟨u,a,b⟩:=h (i+1) x (by simpa using c);exact⟨u,a,by rwa [show j+1+i=j+(i+1) by omega]⟩
  refine⟨u::d,.cons m f,λi x c=> ?_⟩;cases i with
  |zero=>simp at c;subst c;exact⟨u,rfl,e⟩
  |succ i=>
   obtain⟨g,a,b⟩:=k i x (by simpa using c);exact⟨g,by simpa using a,by rwa [show j+1+i=j+(i+1) by omega] at b⟩
def Ren.rows(V:Nat->Prop)(lax:Bool)(L:List Value):Ren where
 r a b:=a=b/\V a
 lax:=lax
 dim:=true
 al:=aj8 L
 fn:=λh k=>h.1.symm.trans k.1
 inj:=λh k=>h.1.trans k.1.symm
 kL:=λh=>by rw[h.1]
def axi{V:Nat->Prop}(w:World)(F:∀b,V b->Obj):∃a:Array Obj,a.size=w.heap.size/\(∀b (h:V b),b<w.heap.size->a[b]?=some (F b h))/\∀b,¬V b->a[b]?=w.heap[b]?:=by
 classical
 refine⟨Array.ofFn λi:Fin w.heap.size=>if h:V i.1 then F i.1 h else w.heap[i],by simp,λb h c=> ?_,λb h=> ?_⟩
 .rw[vY,tk c];simp only[tk h]
 .rw[vY];by_cases c:b<w.heap.size
  .rw[tk c,ge c];simp only[dif_neg h];rfl
  .rw[dif_neg c,pY (by omega)]
theorem mask{w:World}{V:Nat->Prop}(hV:∀b,V b->eB w b)(hg:∀g∈gL,V g)(hN:gN<=w.heap.size) :
  ∃wL:World,WR (Ren.rows V true (eX w)) wL w/\GlR (Ren.rows V true (eX w))/\wL.heap.size=w.heap.size/\(∀b,V b->bA wL b/\NoB wL b)/\∀A v,w.cell? A=some v->V A.block->plV V v->wL.cell? A=some v:=by
 classical
 have row:∀b,V b->∃(c:Array Value) (t:TypeId) (z:Nat×Nat) (xs:List Value),w.heap[b]?=some (.cells c t z)/\bU (Ren.rows V true (eX w)) xs c.toList/\∀(i:Nat) v,c.toList[i]?=some v->∃u,xs[i]?=some u/\((∀k,u ≠ .int .u8 k)/\(plV V v->u=v)):=λb hb=>by
  obtain⟨c,t,z,hc⟩:=hV b hb;obtain⟨xs,h1,h2⟩:=amF (ρ:=Ren.rows V true (eX w)) (Q:=λ_ u v=>(∀k,u ≠ .int .u8 k)/\(plV V v->u=v)) c.toList 0 λi v hi=>by
   by_cases hp:plV V v
   .cases v with
    |int k n=>exact⟨_,.int k n,(λk' e=>by cases e;exact hp rfl),λ_=>rfl⟩
    |string s=>exact⟨_,.string s,(λk e=>by cases e),λ_=>rfl⟩
    |slice a l c=>cases a with
     |none=>exact hp.elim
     |some a=>
      obtain⟨b,o,s⟩:=a;have hr:(Ren.rows V true (eX w)).r b b:=⟨rfl,hp⟩;exact⟨_,.slice (.some (.mk hr o s)) l c,(λk e=>by cases e),λ_=>rfl⟩
    |_=>exact hp.elim
   .obtain⟨u,h1,h2, -⟩:=azb (ρ:=Ren.rows V true (eX w)) rfl v λx hx=>aj9 (agS hc (i:=i) (by rw[<-du];exact hi) hx);exact⟨u,h1,h2,λh=>absurd h hp⟩
  exact⟨c,t,z,xs,hc,h1,h2⟩
 let F:∀b,V b->Obj:=λb hb=>.cells ⟨(row b hb).choose_spec.choose_spec.choose_spec.choose⟩ (row b hb).choose_spec.choose (0,max ((row b hb).choose.size+1) (row b hb).choose_spec.choose_spec.choose.2)
 have hF:∀b (hb:V b),∃(c:Array Value) (t:TypeId) (z:Nat×Nat) (xs:List Value),w.heap[b]?=some (.cells c t z)/\bU (Ren.rows V true (eX w)) xs c.toList/\(∀(i:Nat) v,c.toList[i]?=some v->∃u,xs[i]?=some u/\((∀k,u ≠ .int .u8 k)/\(plV V v->u=v)))/\F b hb=.cells ⟨xs⟩ t (0,max (c.size+1) z.2):=λb hb=>
  let h:=(row b hb).choose_spec.choose_spec.choose_spec.choose_spec
  ⟨_,_,_,_,h.1,h.2.1,h.2.2,rfl⟩
 obtain⟨heap,hs,h1,h2⟩:=axi w F;have aaL:∀b,V b->∃(c:Array Value) (t:TypeId) (z:Nat×Nat) (xs:List Value),w.heap[b]?=some (.cells c t z)/\heap[b]?=some (.cells ⟨xs⟩ t (0,max (c.size+1) z.2))/\bU (Ren.rows V true (eX w)) xs c.toList/\∀(i:Nat) v,c.toList[i]?=some v->∃u,xs[i]?=some u/\((∀k,u ≠ .int .u8 k)/\(plV V v->u=v)):=λb hb=>by
  obtain⟨c,t,z,xs,k1,k2,k3,k4⟩:=hF b hb;exact⟨c,t,z,xs,k1,(h1 b hb (dk.1 k1).1).trans (gc some k4),k2,k3⟩
 refine⟨{w with heap},⟨λ{b b'} hb=> ?_,rfl,by show gN<=heap.size;omega,hN⟩,λg lI=>⟨rfl,hg g lI⟩,hs,λb hb=> ?_,λA v hc hA hp=> ?_⟩
 .obtain⟨rfl,hb⟩:=hb;obtain⟨c,t,z,xs,k1,k2,k3, -⟩:=aaL b hb;have hlen:=k3.length;refine⟨_,_,k2,k1,.cells k3 t (.inr ⟨rfl,rfl, ?_,.inr ?_⟩)⟩
  .show xs.length<max _ _;simp at hlen;omega
  .show z.2<=max _ _;omega
 .obtain⟨c,t,z,xs,k1,k2,k3,k4⟩:=aaL b hb;have hlen:=k3.length;simp at hlen;refine⟨⟨_,_,_,k2,rfl, ?_, ?_⟩,λc' t' z' hc' i k e=> ?_⟩
  .show xs.length<=max _ _;omega
  .show 0<max _ _;omega
  .have:heap[b]?=some (.cells c' t' z'):=hc';rw[k2] at this;cases this;have hi:i<c.toList.length:=by
    have:=(dk.1 e).1;simp at this ⊢;omega
   obtain⟨u,q1,q2, -⟩:=k4 i _ (lm hi);have e':xs[i]?=some (.int .u8 k):=by simpa using e
   rw[q1] at e';exact q2 k (dl e')
 .obtain⟨c,t,z,xs,k1,k2,k3,k4⟩:=aaL A.block hA;have k2':({w with heap}:World).heap[A.block]?=some (.cells ⟨xs⟩ t (0,max (c.size+1) z.2)):=k2;unfold World.cell? at hc ⊢;rw[k2'];rw[k1] at hc;cases hsp:A.spot with
  |some s=>simp[hsp] at hc
  |none=>
   simp[hsp] at hc ⊢;obtain⟨u,q1, -,q2⟩:=k4 A.off v (by rw[du];exact hc);rw[q1,q2 hp]
end
section
open Go Go.Conc Go.ConcN Go.RowKit
def pg(Rr:ak)(S S':ak)(w w':World)(es:Array Event):Prop:=
 (∀b,b<w.heap.size->¬S b->w'.heap[b]?=w.heap[b]?)/\w.heap.size<=w'.heap.size/\w'.ou=w.ou/\S'=(λb=>S b\/(w.heap.size<=b/\b<w'.heap.size))/\∀e∈es,mB S' Rr w'.heap.size e
structure pj (Rl:ak->World->World->Prop) (Rr:ak):Prop where
 fP:∀S w,Rl S w w
 tr:∀S a b c,Rl S a b->Rl S b c->Rl S a c
 rl:∀S w w1,Rl S w w1->(∀b,S b\/Rr b->w1.heap[b]?=w.heap[b]?)/\w.heap.size<=w1.heap.size/\w1.ou=w.ou
def pj.cmp{Rl:ak->World->World->Prop}(h:pj Rl Rr):Cmp Rl (pg Rr) Rr:=⟨h.fP,h.tr,h.rl,λ_ _ _ _ a b c d=>⟨a,b,c,rfl,d⟩⟩
section
variable {P:Program} {main:Bool} {Rl:ak->World->World->Prop} {Gr Gr2:ak->ak->World->World->Array Event->Prop} {Stop agT:ak->Goroutine->World->Prop} {Inv:ak->World->Prop}
def pP.inv(i:∀S w a,Inv S w->Rl S w a->Inv S a)(k:∀S d w c e,Inv S w->Gr S d w c e->Gr2 S d w c e/\Inv d c)(j:∀S g w,Stop S g w->Inv S w->agT S g w):∀{T:jw} {S:ak} {g:Goroutine} {w:World},pP P main Rl Gr Stop T S g w->Inv S w->pP P main Rl Gr2 agT T S g w
 |.leaf,_,_,_,h,hi=>λa b=>j _ _ _ (h a b) (i _ _ _ hi b)
 |.node f,_,_,_,h,hi=>Or.imp (λh a b=>j _ _ _ (h a b) (i _ _ _ hi b)) (λx=>⟨x.1,λa b=>
   let⟨q,c,e,d,o,l,m⟩:=x.2 a b
   let⟨n,p⟩:=k _ _ _ _ _ (i _ _ _ hi b) l
   ⟨q,c,e,d,o,n,pP.inv i k j m p⟩⟩) h
def bC.inv(f:∀S w c,Inv S w->Rl S w c->Inv S c)(i:∀S a w b d,Inv S w->Gr S a w b d->Gr2 S a w b d/\Inv a b)(e:∀S g w,Stop S g w->Inv S w->agT S g w){S:ak}(h:bC P main Rl Gr Stop S g w)(hi:Inv S w):bC P main Rl Gr2 agT S g w:=
 let⟨T,h⟩:=h;⟨T,pP.inv f i e h hi⟩
end
def amG   :(Frame.enter P f a .normal).mode=.run:=by
 unfold Frame.enter;cases P.funcs[f]?<;>rfl
def apX{c:Cfg}{m:List Frame}(q:jY (ah false) R c)(i:c.l=Frame.enter (ah false) cD a .normal::m):False:=by
 obtain⟨n,t,s,d,f, -⟩:=q c.t λ_ _ _=>rfl;have b:c.l≠[]:=by rw[i];simp
 cases n with
 |zero=>
  simp only[runN,qF] at d;obtain⟨e, -⟩:=gV d;obtain rfl:=mS b f.ne e;obtain⟨u,l,p, -⟩:=f;rw[i] at l;cases l;rw[amG] at p;cases p
 |succ n=>
  unfold runN at d;have r:Frame.enter (ah false) cD a .normal=⟨cD,T0F a,[.code (.refuse "")],[],.run,.normal,none⟩:=by
   have f:(ah false).funcs[cD]?=some (qFA false):=acr false;unfold Frame.enter;rw[f];rfl
  have g:∃o j k,stepG (ah false) true (Gl c.l [jX (ah false)]) (c.w.dH c.t)=.ended o j k:=by
   rw[i,r];simp only[Gl,stepG,stepG.exec];exact⟨_,_,_,rfl⟩
  obtain⟨o,j,k,g⟩:=g;rw[cE (ja b _) g] at d;cases d
def aBt:kq (λ_=>false) (f139.body.getD .skip)=false:=by kernel_rfl
def aBu:kq (λ_=>false) (f26.body.getD .skip)=false:=by kernel_rfl
def adj{fn:Func}(h:prog.funcs[f]?=some fn)(b:fn.body.isSome=true)(a:Array Value):(Frame.enter prog f a .normal).todo=[.code (fn.body.getD .skip)]:=by
 unfold Frame.enter;rw[h];obtain⟨c,d⟩:=ry.1 b;simp[d]
def axj(d:kq S (f139.body.getD .skip)=false)(c:kq S (f26.body.getD .skip)=false):∀f,gH f=true->∀a,(Frame.enter prog f a .normal).todo.all (lO S)=false:=λf b a=>by
 rcases wX b with rfl|rfl
 .rw[adj func26 anh];simp only[qu,vk,ul,lO];exact c
 .rw[adj func139 ang];simp only[qu,vk,ul,lO];exact d
def ail:gH 48=false:=by unfold gH;kernel_rfl
def aka{A:Addr}{c:Array Value}(h:w.heap[A.block]?=some (.cells c t z))(a:w.cell? A=some v):c[A.off]?=some v:=by
 unfold World.cell? at a;rw[h] at a;cases b:A.spot with
 |some s=>simp[b] at a
 |none=>simpa[b] using a
def RgP(Rg:Nat->Prop)(w:World)(A:Option Addr)(l:List gY):Prop:=∀i x,l[i]?=some x->∀a b m e,A=some a->w.cell? ((a.add (i*2)).add 1)=some (.slice (some b) m e)->Rg b.block
def RgP.move{l:List gY}(h:RgP Rg w A l)(j:∀a,A=some a->Rg a.block)(d:∀b,Rg b->w'.heap[b]?=w.heap[b]?):RgP Rg w' A l:=λi x f a b m e c g=>
 h i x f a b m e c ((gu (by rw[rj,rj];exact d _ (j a c))).symm.trans g)
def RdP.mask   {l:List gY} (h:RdP w A 0 l) (C:RgP Rg w A l) (q:∀a,A=some a->Rg a.block)
  (f:∀A v,w.cell? A=some v->Rg A.block->plV (λb=>Rg b/\eB w b) v->w'.cell? A=some v):RdP w' A 0 l:=λi x r=>by
 obtain⟨⟨a,B,c,g,u,n,D,E,H,p⟩,F⟩:=h i x r;have o:∀b,B=some b->Rg b.block:=λb z=>by
  subst z;rw[ls] at n;exact C i x r a b _ _ g n
 have k:∀j y,x.2[j]?=some y->ah1 w' B (0+j) y:=λj y I=>by
  obtain⟨⟨b,e,m,s⟩,J,t⟩:=p j y I;exact⟨⟨b,e,f _ _ m (by rw[rj];exact o b e) (by show IntKind.i64 ≠ .u8;decide),f _ _ s (by rw[rj,rj];exact o b e) trivial⟩,J,t⟩
 refine⟨⟨a,B,c,g,f _ _ u (by rw[rj];exact q a g) (by show IntKind.i64 ≠ .u8;decide),f _ _ n (by rw[rj,rj];exact q a g) ?_,D,E,H,k⟩,F⟩;obtain⟨y,G⟩:∃y,x.2[0]?=some y:=⟨_,lm (by omega)⟩;obtain⟨⟨b,e,m,s⟩, -⟩:=p 0 y G;subst e;have d:=lj m;rw[rj] at d;exact⟨o b rfl,d⟩
end
section
open Go Go.Conc Go.ConcN Go.RowKit
def adk   :(Frame.enter P f a .normal).roundOf=none:=by
 unfold Frame.enter;cases P.funcs[f]?<;>rfl
def apY{s:ByteArray}{b:Bool}{v':Value}(h:VR ρ (.agg #[.string s,.bool b]) v'):v'=.agg #[.string s,.bool b]:=by
 cases h with
 |@agg c e h=>
  obtain⟨l⟩:=e;change bU ρ [.string s,.bool b] l at h;cases h with
  |cons f a=>
   cases f;cases a with
   |cons g d=>cases g;cases d;rfl
def as8 (hF:eI Z)  (hN:gN<=w.heap.size) (H:∀g∈gL,Rg g/\eB w g)   {l:List gY} {nm:Int}
  (k1:1<=key) (k2:key<=99) (hl:l.length=n) (x:n<=c) (C:(c:Int)<=9223372036854775807) (q:RdP w A 0 l) (K:RgP Rg w A l) (hA:∀a,A=some a->Rg a.block) (hn:0<n) (G:In_ nm)
  {Rl:ak->World->World->Prop} (d:pj Rl Rr) (hR:∀b,(Rg b/\eB w b)->Rr b) {S:ak} {cfr:Frame} {cs:List Frame} :
  bC prog main Rl (pg Rr) (λ_ g _=>g=⟨cfr.finish (.agg #[.string (Z key l nm).1,.bool (Z key l nm).2]),cs,.running,none,none⟩) S
   (Gl (Frame.enter prog 48 #[.int .i64 key,.slice A n c,.int .i64 nm] .normal::[]) (cfr::cs)) w:=by
 obtain⟨j,h1,W,h3,h4,h5⟩:=mask (V:=λb=>Rg b/\eB w b) (λb h=>h.2) H hN;have E:=q.mask K hA λA v x N hp=>h5 A v x ⟨N,lj x⟩ hp;obtain⟨y,hy⟩:∃y,l[0]?=some y:=⟨_,lm (by omega)⟩;obtain⟨⟨a,_,_,e1,e2,_⟩,_⟩:=q 0 y hy;subst e1;have i:=lj e2;rw[rj] at i;have m:(Ren.rows (λb=>Rg b/\eB w b) true (eX w)).r a.block a.block:=⟨rfl,hA a rfl,i⟩;generalize P:(Ren.rows (λb=>Rg b/\eB w b) true (eX w))=ρ at h1 W m;have F:∀b r,ρ.r b r->Rr r/\bA j b/\NoB j b:=λb r u=>by
  subst P;obtain⟨rfl,Y⟩:=u;exact⟨hR _ Y,h4 _ Y⟩
 have p:dg ρ #[.int .i64 key,.slice (some a) n c,.int .i64 nm] #[.int .i64 key,.slice (some a) n c,.int .i64 nm]:=by
  obtain⟨b,o,s⟩:=a;exact .cons (.int _ _) (.cons (.slice (.some (.mk m o s)) _ _) (.cons (.int _ _) .nil))
 have X:∀t:Tape,Calls (ah false) 48 #[.int .i64 key,.slice (some a) n c,.int .i64 nm] (j.dH t) λe J=>∃v,e=.returned v/\v=.agg #[.string (Z key l nm).1,.bool (Z key l nm).2]:=λt=>by
  refine(hF false (j.dH t) key (some a) n c l nm k1 k2 hl x C (E.below λb u=>rfl) G).mono ?_;rintro e J ⟨v,rfl,hv, -⟩;exact⟨v,rfl,hv⟩
 generalize (#[.int .i64 key,.slice (some a) n c,.int .i64 nm]:Array Value)=args at p X
 let R:List Frame->World->Prop:=λfs J=>∃B v,fs=[B]/\B.fn=48/\B.leaving (ah false) J (.returned v)/\v=.agg #[.string (Z key l nm).1,.bool (Z key l nm).2]
 have hW:jY (ah false) R ⟨[Frame.enter (ah false) 48 args .normal],j,λ_ _=>0⟩:=aak (Post:=λv _=>v=.agg #[.string (Z key l nm).1,.bool (Z key l nm).2]) λt _=>X t;have O:Acc (iy (ah false)) ⟨[Frame.enter (ah false) 48 args .normal],j,λ_ _=>0⟩:=hW.acc.transGen;have I:ajD (ah false) R Rr S ρ ⟨[Frame.enter (ah false) 48 args .normal],j,λ_ _=>0⟩ [Frame.enter prog 48 args .normal] w:=
  ⟨.one (ahf (lG false) ail p) adk,h1,W,hW,λb r u=>.inr (F b r u)⟩
 have Q:=ajF (lG false) (awE false) d.fP d.tr d.rl d.cmp.gr (axj aBt aBu) (agA d.cmp) (main:=main) (base:=cfr::cs) O I (.inl rfl);refine bC.bind d.fP d.tr Q λS1 g w1 ⟨c1,ρ1,l',hor,hle,hS1,nR,aDn,aES,hW1,oU,_,hend⟩=> ?_;subst nR;rcases hend with⟨hf,f⟩|⟨_,_,_,_,_,_,L,_⟩
 .obtain⟨_,_,y1,a0,_,e3⟩:=f.ne';obtain⟨B,k, -⟩:=id hf;have e4:=f.lone k e3;subst e4 e3;rw[k] at f;refine .step rfl λw2 N=> ?_;obtain⟨r1,r2,r3⟩:=d.rl _ _ _ N;have T:=aDn.rely oU r1 r2 r3;obtain⟨σ,v,v',w3,D,es,M,t,q1,q2,q3,q4,q5,q6,z,q8,q9⟩:=au7 (lG false) (t0:=c1.t) (Post:=λv _=>v=.agg #[.string (Z key l nm).1,.bool (Z key l nm).2]) f T λt ht=>by
   obtain⟨cG,v,U,_,e6,e7⟩:=hW1.fin hf acw t ht;rw[k] at U;cases U;exact⟨v,e6,e7⟩
  refine⟨_,D,M,_,q9 main cfr cs,⟨ajE oU z,z.size',z.os.2,rfl,ar3 oU q6 z q8⟩,.stop λ_ _=> ?_⟩;subst q2;rw[apY q5]
 .exact(apX hW1 L).elim
end
section
open Go Go.Conc Go.ConcN Go.RowKit
abbrev SN(S:ak)(w w':World):ak:=λb=>S b\/(w.heap.size<=b/\b<w'.heap.size)
section
variable {P:Program} {main:Bool} {Rl:ak->World->World->Prop} {St:ak->Goroutine->World->Prop} {S Rr:ak} {w0:World} {f:FuncId} {T:Array Value} {k:List Item} {xs base:List Frame}
def mF (H:pj Rl Rr) {a:Array Oper} {rest:List Nat} {o:Oper} {d:Tmp} {ob:Obj} (l:d<T.size) (m:a[i]?=some o) (u:o.guard=none) (g:o.dst=some d)
  (q:∀w,(execOp (FQ f T (.inRegion a (i::rest)::k)).eval o).runT P w #[]=(.ok (.value (.pointer (some ⟨w.heap.size,0,none⟩))) (w.alloc ob),#[]))
  (v:∀w,Rl S w0 w->∀T':Array Value,T'.size=T.size->T'.getD d undef=.pointer (some ⟨w.heap.size,0,none⟩)->(∀t,t≠d->T'.getD t undef=T.getD t undef)->∀c,Rl (SN S w (w.alloc ob)) (w.alloc ob) c->bC P main Rl (pg Rr) St (SN S w (w.alloc ob)) (Gl (FQ f T' (.inRegion a rest::k)::xs) base) c) :
  ∀w,Rl S w0 w->bC P main Rl (pg Rr) St S (Gl (FQ f T (.inRegion a (i::rest)::k)::xs) base) w:=λw n=>by
 refine .step rfl λc j=> ?_;have p:=H.tr _ _ _ _ n j;refine⟨_,_,_,_,anT rfl rfl rfl rfl m u (q c),⟨λb s _=>rZ c _ b s,by rw[mw];omega,rfl,rfl,λe x=>by cases(by simpa using sR x:False)⟩, ?_⟩;have:Frame.finish (FQ f T (.inRegion a (i::rest)::k)) (.pointer (some ⟨c.heap.size,0,none⟩))=FQ f (T.setIfInBounds d (.pointer (some ⟨c.heap.size,0,none⟩))) (.inRegion a rest::k):=by
  simp only[Frame.finish,m,qC,g]
 rw[this];exact v c p _ (by simp) (by rw[aF l,dj rfl]) (λt r=>by rw[aF l,bd r]) _ (H.fP _ _)
end
section
variable {P:Program} (F:FaT P) {w:World} {e:Operand->Value} {x:Operand} {dst:Option Tmp} {ty:TypeId} {pos:String} {af:Array Edge} {gd:Option (Nat×Bool)}
include F
theorem akb:(execOp e ⟨dst,.alloc 100,ty,pos,af,gd⟩).runT P w #[]=(.ok (.value (.pointer (some ⟨w.heap.size,0,none⟩))) (w.alloc (.cells #[.string ⟨#[]⟩,.bool false] 100)),#[]):=by
 obtain⟨i,b,d,c,a⟩:=F.adF;simp[execOp,Instr.alloc,zeroValue,typeInfo,b,a,newVar,newRow,Value.cells]
theorem atc{t:Tmp}(h:e (.tmp t)=.slice A n c):(execOp e ⟨dst,.call ⟨.builtin .len,#[.tmp t],#[23]⟩,ty,pos,af,gd⟩).runT P w #[]=(.ok (.value (.int .i64 n)) w,#[]):=by
 rw[oV (s:=λv=>Builtin.len_ #[23] ty #[v]) λ_ v=>rfl,h];change Sem.runT P (Builtin.len_ #[23] ty #[.slice A n c] >>=λu=>pure (Next.value u)) w #[]=_;simp[Builtin.len_,lE F.u23,goInt]
omit F in
theorem atd{y:Operand}{a b:Int}(d:e x=.int .i64 a)(c:e y=.int .i64 b):(execOp e ⟨dst,.binOp .lss 3 x y 3,ty,pos,af,gd⟩).runT P w #[]=(.ok (.value (.bool (decide (a<b)))) w,#[]):=by
 have:execOp e ⟨dst,.binOp .lss 3 x y 3,ty,pos,af,gd⟩=(binOp .lss 3 (e x) (e y)).bind λv=>Sem.pure (.value v):=rfl;rw[this,d,c];rfl
omit F in
theorem ate:(prog.info? 9).map (·.size ==1)=some true/\(prog.info? 4).map (·.size ==1)=some true:=by
 constructor<;>kernel_rfl
omit F in
theorem akc:(execOp e ⟨dst,.build 100 #[],ty,pos,af,gd⟩).runT prog w #[]=(.ok (.value (.agg #[.string ⟨#[]⟩,.bool false])) w,#[]):=by
 obtain⟨i,d,m,l,b⟩:=faT.adF;obtain⟨f,a,j⟩:=io.1 ate.1;obtain⟨k,c,g⟩:=io.1 ate.2;simp[execOp,Instr.build,zeroValue,typeInfo,d,b,lE underlying100,sizeOf,a,c,Instr.fill,Value.cells]
end
end
section
open Go Go.Conc Go.ConcN Go.RowKit
def avR{S:ak}(h:w'.heap.size=w.heap.size):SN S w w'=S:=by
 funext b
 show(S b\/(w.heap.size<=b/\b<w'.heap.size))=S b;rw[h];exact propext ⟨λx=>x.elim id λy=>absurd y.1 (by omega),.inl⟩
def aa4{A:Addr}{u c:Value}(b:al7 u=true)(f:w.cell? A=some c)(d:w.frozen? A=false)(k:Sem U)(es:Array Event):(Sem.store .plain A u k).runT P w es=k.runT P (w.setCell A u) (es.push ⟨.cell A,true,false⟩):=by
 have a:(∀x,u ≠ .agg x)/\∀x,u ≠ .tuple x:=⟨λx e=>(by subst e;cases b),λx e=>(by subst e;cases b)⟩;rw[rS _ _ _ _ _ _ _ a.1 a.2];simp only[f,d,jn,qB];rfl
section
variable {P:Program} (F:FaT P) {w:World} {e:Operand->Value} {x y:Operand} {dst:Option Tmp} {ty:TypeId} {pos:String} {af:Array Edge} {gd:Option (Nat×Bool)}
include F
theorem agU{A:Addr}{u0 u1 c0 c1:Value}(m:al7 u0=true)(q:al7 u1=true)(o:e x=.pointer (some A))(l:e y=.agg #[u0,u1])(a:w.cell? A=some c0)(d:w.frozen? A=false)(f:w.cell? (A.add 1)=some c1)(b:w.frozen? (A.add 1)=false) :
  (execOp e ⟨dst,.store 100 x y,ty,pos,af,gd⟩).runT P w #[]=(.ok .skip ((w.setCell A u0).setCell (A.add 1) u1),#[⟨.cell A,true,false⟩,⟨.cell (A.add 1),true,false⟩]):=by
 obtain⟨i,n,r, -⟩:=F.adF;have g:(storeCells A [u0,u1] 0).runT P w #[]=(.ok () ((w.setCell A u0).setCell (A.add 1) u1),#[⟨.cell A,true,false⟩,⟨.cell (A.add 1),true,false⟩]):=by
  show(Sem.store .plain (A.add 0) u0 (Sem.store .plain (A.add 1) u1 (Sem.pure ()))).runT P w #[]=_;have j:A.add 0=A:=by unfold Addr.add;simp
  rw[j,aa4 m a d,aa4 q (c:=c1) (by rw[tF _ _ _ _ (λe=>asr e.symm)];exact f) (by rw[uu];exact b)];rfl
 have p:(storeCells A [u0,u1] 0).run P w=.ok () ((w.setCell A u0).setCell (A.add 1) u1):=by
  rw[<-rc _ _ _ #[]];exact gc Prod.fst g
 have k:(storeCells A [u0,u1] 0).events P w #[]=#[⟨.cell A,true,false⟩,⟨.cell (A.add 1),true,false⟩]:=gc Prod.snd g;simp[execOp,o,l,Instr.storeAt,Instr.sureAddr,storeVar,sizeOf,typeInfo,n,r,Value.cells,p,k]
theorem atf{A:Addr}{u0 u1:Value}{fn:Func}(c:fn.results=#[.cell 6 100])(m:T.getD 6 undef=.pointer (some A))(b:w.cell? A=some u0)(d:w.cell? (A.add 1)=some u1) :
  (results fn T).runT P w #[]=(.ok (.agg #[u0,u1]) w,#[⟨.cell A,false,false⟩,⟨.cell (A.add 1),false,false⟩]):=by
 obtain⟨i,k,p, -⟩:=F.adF;obtain⟨q,j⟩:=F.avi;have e:(loadCells A 2).runT P w #[]=(.ok #[u0,u1] w,#[⟨.cell A,false,false⟩,⟨.cell (A.add 1),false,false⟩]):=by
  show(Sem.load .plain (A.add 0) λo=>Sem.load .plain (A.add 1) λn=>Sem.pure #[o,n]).runT P w #[]=_;have f:A.add 0=A:=by unfold Addr.add;simp
  rw[f,Sem.runT];simp only[b];rw[Sem.runT];simp only[d];rfl
 have l:(loadCells A 2).run P w=.ok #[u0,u1] w:=by
  rw[<-rc _ _ _ #[]];exact gc Prod.fst e
 have g:(loadCells A 2).events P w #[]=#[⟨.cell A,false,false⟩,⟨.cell (A.add 1),false,false⟩]:=gc Prod.snd e;have a:T[6]?.getD undef=.pointer (some A):=by rw[<-gn];exact m
 simp[results,c,a,asAddr,loadVar,isAgg,lE j,sizeOf,typeInfo,k,p,l,g]
end
def avS{Rl:ak->World->World->Prop}(H:pj Rl Rr){nm : Int}{S:ak}{cfr:Frame}{cs:List Frame} :
  bC prog main Rl (pg Rr) (λ_ g _=>g=⟨cfr.finish (.agg #[.string ⟨#[]⟩,.bool false]),cs,.running,none,none⟩) S
   (Gl (Frame.enter prog 48 #[.int .i64 key,.slice A 0 c,.int .i64 nm] .normal::[]) (cfr::cs)) w:=by
 have C:=H.cmp;have F:Frame.enter prog 48 #[.int .i64 key,.slice A 0 c,.int .i64 nm] .normal=FQ 48 (#[.int .i64 key,.slice A 0 c,.int .i64 nm]++Array.replicate 26 undef) [.code (f48.body.getD .skip)]:=by
  unfold Frame.enter;rw[func48];rfl
 rw[F];obtain⟨T,hT,j,R⟩:∃T:Array Value,T=#[.int .i64 key,.slice A 0 c,.int .i64 nm]++Array.replicate 26 undef/\29<=T.size/\T.getD 1 undef=.slice A 0 c:=⟨_,rfl,by simp,by rw[gn,rI (by simp)];rfl⟩;rw[<-hT];clear hT F;simp only[f48,ql];have key:∀y,Rl S w y->bC prog main Rl (pg Rr) (λ_ g _=>g=⟨cfr.finish (.agg #[.string ⟨#[]⟩,.bool false]),cs,.running,none,none⟩) S (Gl (FQ 48 T [.code (f48.body.getD .skip)]::[]) (cfr::cs)) y:=by
  simp only[f48,ql];refine eu C (fX C (l:=[0]) rfl (mF H (d:=6) (aE (by decide) j) rfl rfl rfl (λw=>akb faT) λn bF T1 a k o=> ?_));replace R:=(o 1 (by decide)).trans R;replace j:=da j (mt a.symm);clear o a;have hB:(n.alloc (.cells #[.string ⟨#[]⟩,.bool false] 100)).heap[n.heap.size]?=some (.cells #[.string ⟨#[]⟩,.bool false] 100 (0,0)):=by
   show(n.heap.push _)[n.heap.size]?=_;rw[qM]
  have s:SN S n (n.alloc (.cells #[.string ⟨#[]⟩,.bool false] 100)) n.heap.size:=.inr ⟨am _,by rw[mw];omega⟩;have I:n.heap.size<(n.alloc (.cells #[.string ⟨#[]⟩,.bool false] 100)).heap.size:=by rw[mw];omega
  generalize SN S n (n.alloc (.cells #[.string ⟨#[]⟩,.bool false] 100))=S1 at s ⊢;generalize n.alloc (.cells #[.string ⟨#[]⟩,.bool false] 100)=w2 at hB I ⊢;generalize n.heap.size=B at hB s k I;refine im C (eu C (eu C (fX C (l:=[0,1,2]) rfl ?_)));refine bK C (d:=11) (v:=.slice A 0 c) (es:=#[]) (aE (by decide) j) rfl rfl rfl (λw r=>fu R) (λw r=>bg _) λT2 a U o=> ?_;replace k:=(o 6 (by decide)).trans k;replace j:=da j (mt a.symm);clear o a;refine bK C (d:=12) (v:=.int .i64 (0:Nat)) (es:=#[]) (aE (by decide) j) rfl rfl rfl (λw r=>atc faT U) (λw r=>bg _) λT3 a E o=> ?_;replace k:=(o 6 (by decide)).trans k;replace j:=da j (mt a.symm);clear o a;refine bK C (d:=13) (v:=.int .i64 0) (es:=#[]) (aE (by decide) j) rfl rfl rfl (λw r=>fu rfl) (λw r=>bg _) λT4 a a0 o=> ?_;replace k:=(o 6 (by decide)).trans k;replace E:=(o 12 (by decide)).trans E;replace j:=da j (mt a.symm);clear o a;refine im C (ae7 C (anV C (eu C (fX C (l:=[0]) rfl ?_))));refine bK C (d:=14) (v:=.bool (decide ((0:Int)<((0:Nat):Int)))) (es:=#[]) (aE (by decide) j) rfl rfl rfl (λw r=>atd a0 E) (λw r=>bg _) λT5 a z o=> ?_;replace k:=(o 6 (by decide)).trans k;replace j:=da j (mt a.symm);clear o a;replace z:T5.getD 14 undef=.bool false:=z.trans rfl;refine im C (eu C (abW C (q:=false) z ?_));simp only[jn,qB];refine anW C rfl (eu C (fX C (l:=[0,1]) rfl ?_));refine bK C (d:=28) (v:=.agg #[.string ⟨#[]⟩,.bool false]) (es:=#[]) (aE (by decide) j) rfl rfl rfl (λw r=>akc) (λw r=>bg _) λV a iV o=> ?_;replace k:=(o 6 (by decide)).trans k;replace j:=da j (mt a.symm);clear o a;have u:(⟨B,0,none⟩:Addr).add 1=⟨B,1,none⟩:=iT _ _ _;have keep:∀y,Rl S1 w2 y->y.heap[B]?=some (.cells #[.string ⟨#[]⟩,.bool false] 100 (0,0))/\B<y.heap.size:=λy hr=>by
   obtain⟨Y,r2, -⟩:=H.rl _ _ _ hr;exact⟨(Y B (.inl s)).trans hB,by omega⟩
  intro w3 Q;refine .step rfl λt X=> ?_;obtain⟨L,b2⟩:=keep t (H.tr _ _ _ _ Q X);have c0:=eU (i:=0) L;have c1:=eU (i:=1) L;refine⟨_,_,_,_,ae6 rfl rfl rfl rfl rfl rfl (agU faT (A:=⟨B,0,none⟩) (u0:=.string ⟨#[]⟩) (u1:=.bool false) (c0:=.string ⟨#[]⟩) (c1:=.bool false) rfl rfl k iV c0 (ir L) (by rw[u];exact c1) (by rw[u];exact ir L)),⟨λb hb hn=> ?_, ?_,rfl,rfl,λev F=> ?_⟩, ?_⟩
  .have G:B≠b:=λe=>hn (e▸s);rw[u,aZ _ _ _ G,aZ _ _ _ G]
  .rw[eg,eg];exact am _
  .have N:=sR F;simp only[rX,mc,rJ,um] at N;have M:B<((t.setCell ⟨B,0,none⟩ (.string ⟨#[]⟩)).setCell ((⟨B,0,none⟩:Addr).add 1) (.bool false)).heap.size:=by rw[eg,eg];exact b2
   rcases N with rfl|rfl
   .exact⟨λx p=>.inl (by simp[MemAct.ofEvent,MemAct.touch?] at p;rw[<-p];exact .inl s),λm D=>(by cases D),M⟩
   .refine⟨λx p=>.inl ?_,λm D=>(by cases D), ?_⟩
    .simp[MemAct.ofEvent,MemAct.touch?] at p;rw[<-p,u];exact .inl s
    .show((⟨B,0,none⟩:Addr).add 1).block<_;rw[rj];exact M
  have P:(λb=>S1 b\/(t.heap.size<=b/\b<((t.setCell ⟨B,0,none⟩ (.string ⟨#[]⟩)).setCell ((⟨B,0,none⟩:Addr).add 1) (.bool false)).heap.size))=S1:=avR (by rw[eg,eg]);rw[P];have J:((t.setCell ⟨B,0,none⟩ (.string ⟨#[]⟩)).setCell ((⟨B,0,none⟩:Addr).add 1) (.bool false)).heap[B]?=some (.cells #[.string ⟨#[]⟩,.bool false] 100 (0,0)):=by
   rw[u];exact vg (vg L)
  have Z:B<((t.setCell ⟨B,0,none⟩ (.string ⟨#[]⟩)).setCell ((⟨B,0,none⟩:Addr).add 1) (.bool false)).heap.size:=by rw[eg,eg];exact b2
  generalize (t.setCell ⟨B,0,none⟩ (.string ⟨#[]⟩)).setCell ((⟨B,0,none⟩:Addr).add 1) (.bool false)=w5 at J Z ⊢;refine im (f:=48) (T:=V) C (w0:=w5) ?_ w5 (H.fP _ _);refine bC.still C (l2:=⟨48,V,[.code .ret],[],.returning,.normal,none⟩::[]) (es:=λ_=>#[]) (λw _=>by simp[Gl,stepG,stepG.exec]) (λ_ _ e h=>by cases(by simpa using h:False)) ?_;intro w6 O;refine .step rfl λw7 W=> ?_;obtain⟨Y,r2, -⟩:=H.rl _ _ _ (H.tr _ _ _ _ O W);have b7:=(Y B (.inl s)).trans J;have K:=atf faT (T:=V) (A:=⟨B,0,none⟩) (fn:=f48) rfl k (eU (i:=0) b7) (by rw[u];exact eU (i:=1) b7);refine⟨⟨cfr.finish (.agg #[.string ⟨#[]⟩,.bool false]),cs,.running,none,none⟩,w7,seen prog 48 #[⟨.cell ⟨B,0,none⟩,false,false⟩,⟨.cell ((⟨B,0,none⟩:Addr).add 1),false,false⟩],_, ?_,⟨λ_ _ _=>rfl,am _,rfl,rfl,λev F=> ?_⟩,.stop λ_ _=>rfl⟩
  .simp only[Gl,stepG,unwind,func48,K,rm];simp[doReturn,GStep.after]
  .have N:=sR F;simp only[rX,mc,rJ,um] at N;rcases N with rfl|rfl
   .exact⟨λx p=>.inl (by simp[MemAct.ofEvent,MemAct.touch?] at p;rw[<-p];exact .inl s),λm D=>(by cases D),by show B<_;omega⟩
   .refine⟨λx p=>.inl ?_,λm D=>(by cases D), ?_⟩
    .simp[MemAct.ofEvent,MemAct.touch?] at p;rw[<-p,u];exact .inl s
    .show((⟨B,0,none⟩:Addr).add 1).block<_;rw[rj];show B<_;omega
 exact key w (H.fP _ _)
end
section
open Go Go.Conc Go.ConcR Go.RowKit Go.Conc.Lib Go.ConcR.Gen
abbrev eJ:WgLink:={add:=45,done:=47,wait:=49,relMerge:=79,disable:=80,enable:=81,inBubble:=82,associate:=83,fatal:=84,uOr:=85,uAdd:=86,raceRead:=87,uLoad:=88,uStore:=89,disassociate:=90,semrelease:=91,acquire:=93,isAssociated:=94,uCas:=95,raceWrite:=96,semacquire:=97,orU64:=132,addU64:=133,loadU64:=134,storeU64:=135,casU64:=138,tWgP:=127,tUP:=129,tAssoc:=131,tWg:=97,tAU:=94,tU64:=92,tUint:=113,tU32:=95,tPU32:=135,tPAU:=182,tPU64:=184,tNoCopy:=89,tANoCopy:=90,tAlign64:=91}
def aat:WgLib prog eJ:=
 ⟨func45,func47,func49,func79,func80,func81,func82,func83,func84,func85,func86,func87,func88,func89,func90,func91,func93,func94,func95,func96,func97,func132,func133,func134,func135,func138,underlying127,Tryz.runUnderlying127,Tryz.sizeOf127,Tryz.isAgg127,Tryz.zeroValue127,underlying129,Tryz.runUnderlying129,Tryz.sizeOf129,Tryz.isAgg129,Tryz.zeroValue129,underlying131,Tryz.runUnderlying131,Tryz.sizeOf131,Tryz.isAgg131,Tryz.zeroValue131,underlying97,Tryz.runUnderlying97,Tryz.sizeOf97,Tryz.isAgg97,Tryz.zeroValue97,underlying94,Tryz.runUnderlying94,Tryz.sizeOf94,Tryz.isAgg94,Tryz.zeroValue94,underlying92,Tryz.runUnderlying92,Tryz.sizeOf92,Tryz.isAgg92,Tryz.zeroValue92,underlying113,Tryz.runUnderlying113,Tryz.sizeOf113,Tryz.isAgg113,Tryz.zeroValue113,underlying95,Tryz.runUnderlying95,Tryz.sizeOf95,Tryz.isAgg95,Tryz.zeroValue95,underlying135,Tryz.runUnderlying135,Tryz.sizeOf135,Tryz.isAgg135,Tryz.zeroValue135,underlying182,Tryz.runUnderlying182,Tryz.sizeOf182,Tryz.isAgg182,Tryz.zeroValue182,underlying184,Tryz.runUnderlying184,Tryz.sizeOf184,Tryz.isAgg184,Tryz.zeroValue184,underlying0,Tryz.runUnderlying0,Tryz.sizeOf0,Tryz.isAgg0,vw,underlying3,Tryz.runUnderlying3,vj,vA,uz,underlying4,Tryz.runUnderlying4,Tryz.sizeOf4,Tryz.isAgg4,vu,underlying9,Tryz.runUnderlying9,Tryz.sizeOf9,Tryz.isAgg9,Tryz.zeroValue9,underlying20,Tryz.runUnderlying20,Tryz.sizeOf20,Tryz.isAgg20,Tryz.zeroValue20,underlying21,Tryz.runUnderlying21,Tryz.sizeOf21,Tryz.isAgg21,Tryz.zeroValue21,(by kernel_rfl),(by kernel_rfl)⟩
end
section
open Go Go.Conc Go.ConcN Go.RowKit Go.Conc.Lib Go.ConcR.Gen Go.ConcN.Gen
open Go.ConcR (KK wgBlock WgAt stA smA rd wr mk Payload Aside2 DC0)
section
variable (P:Program) (R:World->World->Prop) (ty:TypeId) (Wg:Nat)
def nS(e:Mark)(m:Nat)(S:Goroutine->World->Prop)(g:Goroutine)(w:World):Prop:=
 g.status=.running/\∃a,stepG P true g w=.go a w #[mk e]/\Goes P true R DC0 S m a w
def akd(S:Goroutine->World->Prop)(g:Goroutine)(w:World):Prop:=
 g.status=.running/\∀v:Nat,v<2147483647->WgAt ty Wg w (v*KK) 0->
  ∃a,stepG P true g w=.go a (w.setCell (stA Wg) (.int .u64 ((v+1)*KK))) #[rd (stA Wg),wr (stA Wg)]/\
   (v=0->Goes P true R DC0 (nS P R (.read ⟨Wg,1,none⟩) 120 (nS P R .enable 3 S)) 120 a (w.setCell (stA Wg) (.int .u64 ((v+1)*KK))))/\
   (v≠0->Goes P true R DC0 (nS P R .enable 3 S) 120 a (w.setCell (stA Wg) (.int .u64 ((v+1)*KK))))
end
section
variable {P:Program} {L:WgLink} {R:World->World->Prop} {Wg:Nat} {S:Goroutine->World->Prop}
 {b₀:Frame} {a₀:Act} {ops₀:Array Oper} {i₀:Nat} {rest₀:List Nat} {k₀:List Item} {cs:List Frame}
def atg (H:WgLib P L) (b:∀w d,WgLive L.tWg Wg w->R w d->WgLive L.tWg Wg d)
  (l:∀w,WgLive L.tWg Wg w->S (G (b₀.at (a₀.put ((ops₀[i₀]?).bind (·.dst)) (.tuple #[])) (.inRegion ops₀ rest₀::k₀)) cs) w)
  (w:World) (a:WgLive L.tWg Wg w) :
  Goes P true R DC0 (nS P R .disable 60 (akd P R L.tWg Wg S)) 30
   (G ((base L.add).at ⟨#[.pointer (some ⟨Wg,0,none⟩),.int .i64 1,undef,undef,undef,undef,undef,undef,undef,undef,undef,undef,undef,undef,undef,undef,undef,undef,undef,undef,undef,undef,undef,undef,undef,undef,undef,undef,undef,undef,undef,undef,undef,undef,undef,undef,undef,undef,undef,undef,undef,undef,undef,undef,undef,undef,undef,undef,undef,undef,undef,undef,undef,undef,undef,undef,undef,undef,undef,undef,undef,undef,undef,undef,undef,undef,undef,undef,undef,undef,undef,undef,undef,undef,undef,undef,undef,undef,undef,undef,undef,undef,undef,undef,undef,undef,undef,undef,undef,undef,undef,undef,undef,undef,undef,undef,undef,undef,undef,undef,undef,undef,undef,undef,undef,undef,undef,undef,undef,undef,undef,undef,undef,undef,undef,undef,undef],[]⟩ [.code (body_add L)]) (b₀.at a₀ (.inRegion ops₀ (i₀::rest₀)::k₀)::cs)) w:=by
 lib_facts
 simp only[body_add,addFn,ql]
 u_c jp (b _ _) a
 u_cond true (b _ _) a
 u_c jp (b _ _) a
 u_c jp (b _ _) a
 u_reg (b _ _) a
 u_op (b _ _) a
 u_op (b _ _) a
 u_c ef (b _ _) a
 u_cond false (b _ _) a
 u_c rA (b _ _) a
 u_c jp (b _ _) a
 u_reg (b _ _) a
 refine qv (λd c=> ?_);replace a:=b _ _ a c;clear c;refine⟨rfl,_,uL .disable (by simp) rfl rfl (by k_ne) rfl H.f_disable (x_disable_n L) (x_disable_b L) (x_disable_x L) (x_disable_f L), ?_⟩
 walk_nrm
 u_c ef (b _ _) a
 u_reg (b _ _) a
 u_defer (b _ _) a
 u_c ef (b _ _) a
 u_c jp (b _ _) a
 u_reg (b _ _) a
 u_op (b _ _) a
 u_c ef (b _ _) a
 u_c jp (b _ _) a
 u_c jp (b _ _) a
 u_reg (b _ _) a
 u_bub (b _ _) a
 u_c ef (b _ _) a
 u_cond false (b _ _) a
 u_c rA (b _ _) a
 u_c jp (b _ _) a
 u_reg (b _ _) a
 u_op (b _ _) a
 u_op (b _ _) a
 u_op (b _ _) a
 u_op (b _ _) a
 u_op (b _ _) a
 u_op (b _ _) a
 u_call H.f_uAdd (nm_uAdd L) uAddFn (b _ _) a
 u_c jp (b _ _) a
 u_reg (b _ _) a
 u_op (b _ _) a
 u_c ef (b _ _) a
 u_c jp (b _ _) a
 u_reg (b _ _) a
 u_op (b _ _) a
 u_op (b _ _) a
 u_op (b _ _) a
 u_op (b _ _) a
 refine qv (λd c=> ?_);replace a:=b _ _ a c;clear c;refine⟨rfl,λv B g=> ?_⟩;rcases oE v with rfl|o
 .replace g:WgAt L.tWg Wg d 0 0:=by simpa using g
  have z:(((0:Nat):Int)+1)*KK=KK:=by simp
  rw[z];have m:IntKind.u64.wrap (0+4294967296)=KK:=by decide
  refine⟨_,(stepG_add_atomic rfl rfl (by k_ne) rfl H.f_addU64 (x_addU64_n L) (x_addU64_b L) (x_addU64_x L) .u64 (x_addU64_f L) rfl rfl g.cellSt (g.thaw 0)).trans (by rw[m];rfl),λ_=> ?_,λh=>absurd rfl h⟩;replace a:WgLive L.tWg Wg (d.setCell (stA Wg) (.int .u64 KK)):=⟨_,_,g.setSt _⟩;clear g;simp only[KK] at a ⊢
  walk_nrm
  u_op (b _ _) a
  u_c ef (b _ _) a
  u_c sb (b _ _) a
  u_leave1 H.f_uAdd (b _ _) a
  u_op (b _ _) a
  u_c ef (b _ _) a
  u_c jp (b _ _) a
  u_c jp (b _ _) a
  u_reg (b _ _) a
  u_op (b _ _) a
  u_op (b _ _) a
  u_op (b _ _) a
  u_op (b _ _) a
  u_skip (b _ _) a
  u_skip (b _ _) a
  u_op (b _ _) a
  u_c ef (b _ _) a
  u_cond false (b _ _) a
  u_c rA (b _ _) a
  u_c jp (b _ _) a
  u_reg (b _ _) a
  u_op (b _ _) a
  u_op (b _ _) a
  u_op (b _ _) a
  u_op (b _ _) a
  u_c ef (b _ _) a
  u_c jp (b _ _) a
  u_reg (b _ _) a
  u_op (b _ _) a
  u_op (b _ _) a
  u_op (b _ _) a
  u_op (b _ _) a
  u_c ef (b _ _) a
  u_c jp (b _ _) a
  u_c jp (b _ _) a
  u_reg (b _ _) a
  u_op (b _ _) a
  u_op (b _ _) a
  u_op (b _ _) a
  u_op (b _ _) a
  u_op (b _ _) a
  u_op (b _ _) a
  u_op (b _ _) a
  u_op (b _ _) a
  u_op (b _ _) a
  u_op (b _ _) a
  u_c ef (b _ _) a
  u_cond true (b _ _) a
  u_reg (b _ _) a
  u_op (b _ _) a
  u_op (b _ _) a
  u_op (b _ _) a
  u_conv H.underlying_tPU32 H.room_tU32 (WgLive.cell1 a).choose_spec (b _ _) a
  refine qv (λd c=> ?_);replace a:=b _ _ a c;clear c;refine⟨rfl,_,uv .read (by simp) rfl rfl (by k_ne) rfl H.f_raceRead (x_raceRead_n L) (x_raceRead_b L) (x_raceRead_x L) (x_raceRead_f L) (ad:=⟨Wg,1,none⟩) (by simp[Act.eval]), ?_⟩
  walk_nrm
  u_c ef (b _ _) a
  u_c jp (b _ _) a
  u_c jp (b _ _) a
  u_reg (b _ _) a
  u_op (b _ _) a
  u_op (b _ _) a
  u_c ef (b _ _) a
  u_cond false (b _ _) a
  u_c rA (b _ _) a
  u_c jp (b _ _) a
  u_c jp (b _ _) a
  u_reg (b _ _) a
  u_op (b _ _) a
  u_op (b _ _) a
  u_op (b _ _) a
  u_skip (b _ _) a
  u_skip (b _ _) a
  u_op (b _ _) a
  u_op (b _ _) a
  u_skip (b _ _) a
  u_skip (b _ _) a
  u_skip (b _ _) a
  u_skip (b _ _) a
  u_op (b _ _) a
  u_c ef (b _ _) a
  u_cond false (b _ _) a
  u_c rA (b _ _) a
  u_c jp (b _ _) a
  u_c jp (b _ _) a
  u_reg (b _ _) a
  u_op (b _ _) a
  u_op (b _ _) a
  u_op (b _ _) a
  u_skip (b _ _) a
  u_skip (b _ _) a
  u_op (b _ _) a
  u_c ef (b _ _) a
  u_cond true (b _ _) a
  u_c sb (b _ _) a
  refine qv (λd c=> ?_);replace a:=b _ _ a c;clear c;refine⟨rfl,_,stepG_unwind_entry (v:=.tuple #[]) (evs:=#[mk .enable]) rfl H.f_enable (x_enable_n L) (x_enable_b L) (x_enable_x L) (x_enable_f L) (by simp[Extern.Race.none_]) (by simp[mk]) (by simp[mk]), ?_⟩
  u_leave0 H.f_add (b _ _) a
  exact qv λi f=>l _ (b _ _ a f)
 .obtain⟨V,j⟩:∃V:Int,V=(v:Int)+1:=⟨_,rfl⟩;obtain⟨St,e⟩:∃St:Int,St=V*KK:=⟨_,rfl⟩;have k:IntKind.u64.wrap ((v:Int)*KK+4294967296)=St:=by rw[IntKind.wrap_u64,e,j];simp only[KK];omega
  rw[<-j,<-e];have C:St / 4294967296=V:=by rw[e];simp only[KK];omega
  have q:bits .and .u64 St 2147483648=0:=by rw[e,j];have:=st_flag (v+1) 0 (by omega) (by omega);simpa[KK] using this
  have A:bits .and .u64 St 2147483647=0:=by rw[e,j];have:=st_waiters (v+1) 0 (by omega) (by omega);simpa[KK] using this
  have u:IntKind.i32.wrap V=V:=by rw[IntKind.wrap_i32];omega
  have n:1<V:=by omega
  have p:V<2147483648:=by omega
  have s:(V ==1)=false:=by simp;omega
  have D:=bv (show ¬(V=1) by omega);have t:=bv (show ¬(V<0) by omega);have y:=de (show 0<V by omega);have x:(V ==0)=false:=by simp;omega
  have r:=bv (show ¬(V=0) by omega);refine⟨_,(stepG_add_atomic rfl rfl (by k_ne) rfl H.f_addU64 (x_addU64_n L) (x_addU64_b L) (x_addU64_x L) .u64 (x_addU64_f L) rfl rfl g.cellSt (g.thaw 0)).trans (by rw[k];rfl),λh=>absurd h (by omega),λ_=> ?_⟩;replace a:WgLive L.tWg Wg (d.setCell (stA Wg) (.int .u64 St)):=⟨_,_,g.setSt _⟩;clear g e j k
  walk_nrm
  u_op (b _ _) a
  u_c ef (b _ _) a
  u_c sb (b _ _) a
  u_leave1 H.f_uAdd (b _ _) a
  u_op (b _ _) a
  u_c ef (b _ _) a
  u_c jp (b _ _) a
  u_c jp (b _ _) a
  u_reg (b _ _) a
  u_op (b _ _) a
  u_op (b _ _) a
  u_op (b _ _) a
  u_op (b _ _) a
  u_skip (b _ _) a
  u_skip (b _ _) a
  u_op (b _ _) a
  u_c ef (b _ _) a
  u_cnd false (b _ _) a
  u_c rA (b _ _) a
  u_c jp (b _ _) a
  u_reg (b _ _) a
  u_op (b _ _) a
  u_op (b _ _) a
  u_op (b _ _) a
  u_op (b _ _) a
  u_c ef (b _ _) a
  u_c jp (b _ _) a
  u_reg (b _ _) a
  u_op (b _ _) a
  u_op (b _ _) a
  u_op (b _ _) a
  u_op (b _ _) a
  u_c ef (b _ _) a
  u_c jp (b _ _) a
  u_c jp (b _ _) a
  u_reg (b _ _) a
  u_op (b _ _) a
  u_op (b _ _) a
  u_op (b _ _) a
  u_op (b _ _) a
  u_op (b _ _) a
  u_op (b _ _) a
  u_op (b _ _) a
  u_op (b _ _) a
  u_op (b _ _) a
  u_op (b _ _) a
  u_c ef (b _ _) a
  u_cnd false (b _ _) a
  u_c rA (b _ _) a
  u_c jp (b _ _) a
  u_c jp (b _ _) a
  u_reg (b _ _) a
  u_op (b _ _) a
  u_op (b _ _) a
  u_c ef (b _ _) a
  u_cnd false (b _ _) a
  u_c rA (b _ _) a
  u_c jp (b _ _) a
  u_c jp (b _ _) a
  u_reg (b _ _) a
  u_op (b _ _) a
  u_op (b _ _) a
  u_op (b _ _) a
  u_skip (b _ _) a
  u_skip (b _ _) a
  u_op (b _ _) a
  u_op (b _ _) a
  u_skip (b _ _) a
  u_skip (b _ _) a
  u_skip (b _ _) a
  u_skip (b _ _) a
  u_op (b _ _) a
  u_c ef (b _ _) a
  u_cnd false (b _ _) a
  u_c rA (b _ _) a
  u_c jp (b _ _) a
  u_c jp (b _ _) a
  u_reg (b _ _) a
  u_op (b _ _) a
  u_op (b _ _) a
  u_op (b _ _) a
  u_skip (b _ _) a
  u_skip (b _ _) a
  u_op (b _ _) a
  u_c ef (b _ _) a
  u_cnd true (b _ _) a
  u_c sb (b _ _) a
  refine qv (λd c=> ?_);replace a:=b _ _ a c;clear c;refine⟨rfl,_,stepG_unwind_entry (v:=.tuple #[]) (evs:=#[mk .enable]) rfl H.f_enable (x_enable_n L) (x_enable_b L) (x_enable_x L) (x_enable_f L) (by simp[Extern.Race.none_]) (by simp[mk]) (by simp[mk]), ?_⟩
  u_leave0 H.f_add (b _ _) a
  exact qv λi f=>l _ (b _ _ a f)
end
end
section
open Go Go.Conc Go.ConcN Go.RowKit Go.Conc.Lib Go.ConcR.Gen Go.ConcN.Gen
open Go.ConcR (KK wgBlock WgAt stA smA rd wr mk Aside2 DC0)
section
variable (P:Program) (R:World->World->Prop) (ty:TypeId) (Wg:Nat) (amH S:Goroutine->World->Prop)
abbrev WKe:Goroutine->World->Prop:=nS P R .enable 12 (nS P R (.acquire (stA Wg)) 20 S)
def WW4(g:Goroutine)(w:World):Prop:=g.status=.running/\(WgAt ty Wg w 0 0->∃a,stepG P true g w=.go a w #[rd (stA Wg)]/\Goes P true R DC0 (WKe P R Wg S) 40 a w)
def WW3(g:Goroutine)(w:World):Prop:=g.status=.running/\g.offers=none/\
  ((∃b,WgAt ty Wg w b 0)->stepG P true g w=.go {g with status:=.blocked} w #[])/\
  (WgAt ty Wg w 0 1->∃a,stepG P true g w=.go a (w.setCell (smA Wg) (.int .u32 0)) (semEvents (smA Wg))/\Goes P true R DC0 (WW4 P R ty Wg S) 40 a (w.setCell (smA Wg) (.int .u32 0)))
def WW2(vs:Nat)(g:Goroutine)(w:World):Prop:=g.status=.running/\∀v:Nat,v<2147483648->WgAt ty Wg w (v*KK) 0->
  (v=vs->∃a,stepG P true g w=.go a (w.setCell (stA Wg) (.int .u64 (v*KK+1))) #[rd (stA Wg),wr (stA Wg)]/\Goes P true R DC0 (nS P R (.write ⟨Wg,1,none⟩) 60 (WW3 P R ty Wg S)) 120 a (w.setCell (stA Wg) (.int .u64 (v*KK+1))))/\
  (v≠vs->∃a,stepG P true g w=.go a w #[rd (stA Wg)]/\Goes P true R DC0 amH 60 a w)
def WW1(g:Goroutine)(w:World):Prop:=g.status=.running/\∀v:Nat,v<2147483648->WgAt ty Wg w (v*KK) 0->∃a,stepG P true g w=.go a w #[rd (stA Wg)]/\
  (v=0->Goes P true R DC0 (WKe P R Wg S) 60 a w)/\(v≠0->Goes P true R DC0 (WW2 P R ty Wg amH S v) 120 a w)
end
def ake(L:WgLink)(Wg:Nat)(c:Frame)(cs:List Frame)(g:Goroutine)(w:World):Prop:=
 ∃T:Array Value,g=G ((base L.wait).at ⟨T,[]⟩ [.code (L7 L),.inLoop (L7 L),.inBlock 0]) (c::cs)/\T.size=84/\T[0]?=some (.pointer (some ⟨Wg,0,none⟩))/\WgLive L.tWg Wg w
section
variable {P:Program} {L:WgLink} {R:World->World->Prop} {Wg:Nat} {S:Goroutine->World->Prop}
 {b₀:Frame} {a₀:Act} {ops₀:Array Oper} {i₀:Nat} {rest₀:List Nat} {k₀:List Item} {cs:List Frame}
def amI(H:WgLib P L)(d:∀w a,WgLive L.tWg Wg w->R w a->WgLive L.tWg Wg a)(w:World)(b:WgLive L.tWg Wg w) :
  Goes P true R DC0 (nS P R .disable 3 (ake L Wg (b₀.at a₀ (.inRegion ops₀ (i₀::rest₀)::k₀)) cs)) 3
   (G ((base L.wait).at ⟨#[.pointer (some ⟨Wg,0,none⟩)]++(List.replicate 83 undef).toArray,[]⟩ [.code (body_wait L)]) (b₀.at a₀ (.inRegion ops₀ (i₀::rest₀)::k₀)::cs)) w:=by
 lib_facts
 simp only[body_wait,waitFn,ql]
 u_c jp (d _ _) b
 u_cond true (d _ _) b
 u_reg (d _ _) b
 refine qv (λa c=> ?_);replace b:=d _ _ b c;clear c;refine⟨rfl,_,uL .disable (by simp) rfl rfl (by k_ne) rfl H.f_disable (x_disable_n L) (x_disable_b L) (x_disable_x L) (x_disable_f L), ?_⟩
 walk_nrm
 u_c ef (d _ _) b
 u_c stepG_block (d _ _) b
 u_c stepG_loop (d _ _) b
 exact qv (λf e=>⟨_,rfl,by simp,by simp,d _ _ b e⟩)
def amJ (H:WgLib P L) (b:∀w i,WgLive L.tWg Wg w->R w i->WgLive L.tWg Wg i)
  (x:∀w,WgLive L.tWg Wg w->S (G (b₀.at (a₀.put ((ops₀[i₀]?).bind (·.dst)) (.tuple #[])) (.inRegion ops₀ rest₀::k₀)) cs) w)
  (g:Goroutine) (w:World) (h:ake L Wg (b₀.at a₀ (.inRegion ops₀ (i₀::rest₀)::k₀)) cs g w) :
  Goes P true R DC0 (WW1 P R L.tWg Wg (ake L Wg (b₀.at a₀ (.inRegion ops₀ (i₀::rest₀)::k₀)) cs) S) 30 g w:=by
 lib_facts
 obtain⟨T,rfl,q,t,a⟩:=h;obtain⟨v0,v1,v2,v3,v4,v5,v6,v7,v8,v9,aP,O,bo,z,ba,C,K,ao,bS,a8,a2,A,bL,c2,J,bx,bk,a4,bF,aa,Y,b0,y,bP,a0,N,bY,bO,bi,X,U,W,bt,a7,aU,Q,D,br,b9,bf,aM,bn,aL,af,E,b6,bl,b5,a5,bG,a3,bT,ay,b4,b7,B,I,M,bb,b8,bz,aY,bu,c0,a6,aJ,c3,a9,F,b3,bp,an,al,Z,rfl⟩:=array84 T q;simp only[List.getElem?_toArray,sV,lw] at t;subst t;simp only[L7,body_wait,waitFn,ql]
 u_c stepG_block (b _ _) a
 u_c jp (b _ _) a
 u_reg (b _ _) a
 u_op (b _ _) a
 u_op (b _ _) a
 u_op (b _ _) a
 u_call H.f_uLoad (nm_uLoad L) uLoadFn (b _ _) a
 u_c jp (b _ _) a
 u_reg (b _ _) a
 u_op (b _ _) a
 u_c ef (b _ _) a
 u_c jp (b _ _) a
 u_reg (b _ _) a
 u_op (b _ _) a
 u_op (b _ _) a
 u_op (b _ _) a
 refine qv (λi c=> ?_);replace a:=b _ _ a c;clear c;refine⟨rfl,λv hv f=> ?_⟩;rcases oE v with rfl|ax
 .replace f:WgAt L.tWg Wg i 0 0:=by simpa using f
  refine⟨_,stepG_load_atomic (v:=0) rfl rfl (by k_ne) rfl H.f_loadU64 (x_loadU64_n L) (x_loadU64_b L) (x_loadU64_x L) .u64 (x_loadU64_f L) rfl f.cellSt,λ_=> ?_,λh=>absurd rfl h⟩;clear f
  walk_nrm
  u_op (b _ _) a
  u_c ef (b _ _) a
  u_c sb (b _ _) a
  u_leave1 H.f_uLoad (b _ _) a
  u_op (b _ _) a
  u_c ef (b _ _) a
  u_c jp (b _ _) a
  u_reg (b _ _) a
  u_op (b _ _) a
  u_op (b _ _) a
  u_op (b _ _) a
  u_op (b _ _) a
  u_c ef (b _ _) a
  u_c jp (b _ _) a
  u_reg (b _ _) a
  u_op (b _ _) a
  u_op (b _ _) a
  u_op (b _ _) a
  u_op (b _ _) a
  u_c ef (b _ _) a
  u_c jp (b _ _) a
  u_c jp (b _ _) a
  u_reg (b _ _) a
  u_op (b _ _) a
  u_op (b _ _) a
  u_c ef (b _ _) a
  u_cond true (b _ _) a
  u_c jp (b _ _) a
  u_cond true (b _ _) a
  u_c jp (b _ _) a
  u_reg (b _ _) a
  refine qv (λi c=> ?_);replace a:=b _ _ a c;clear c;refine⟨rfl,_,uL .enable (by simp) rfl rfl (by k_ne) rfl H.f_enable (x_enable_n L) (x_enable_b L) (x_enable_x L) (x_enable_f L), ?_⟩
  walk_nrm
  u_c ef (b _ _) a
  u_reg (b _ _) a
  u_op (b _ _) a
  u_conv H.underlying_tWgP H.room_tWg (WgLive.cell0 a).choose_spec (b _ _) a
  refine qv (λi c=> ?_);replace a:=b _ _ a c;clear c;refine⟨rfl,_,uv .acquire (by simp) rfl rfl (by k_ne) rfl H.f_acquire (x_acquire_n L) (x_acquire_b L) (x_acquire_x L) (x_acquire_f L) (by simp[Act.eval,stA]), ?_⟩
  walk_nrm
  u_c ef (b _ _) a
  u_c jp (b _ _) a
  u_c jp (b _ _) a
  u_reg (b _ _) a
  u_op (b _ _) a
  u_op (b _ _) a
  u_op (b _ _) a
  u_op (b _ _) a
  u_op (b _ _) a
  u_op (b _ _) a
  u_op (b _ _) a
  u_op (b _ _) a
  u_skip (b _ _) a
  u_skip (b _ _) a
  u_op (b _ _) a
  u_c ef (b _ _) a
  u_cond false (b _ _) a
  u_c rA (b _ _) a
  u_c sb (b _ _) a
  u_leave0 H.f_wait (b _ _) a
  exact qv λl j=>x _ (b _ _ a j)
 .obtain⟨V,p⟩:∃V:Int,(v:Int)*KK=V:=⟨_,rfl⟩;have a1:V / 4294967296=(v:Int):=by rw[<-p];simp only[KK];omega
  have b1:bits .and .u64 V 2147483648=0:=by rw[<-p];have:=st_flag v 0 (by omega) (by omega);simpa[KK] using this
  have b2:bits .and .u64 V 2147483647=0:=by rw[<-p];have:=st_waiters v 0 (by omega) (by omega);simpa[KK] using this
  have c1:IntKind.i32.wrap (v:Int)=(v:Int):=by rw[IntKind.wrap_i32];omega
  have w1:IntKind.u64.wrap (V+1)=V+1:=by rw[IntKind.wrap_u64,<-p];simp only[KK];omega
  have q3:=bv (show ¬((v:Int)<0) by omega);have q4:=de (show 0<(v:Int) by omega);have q5:((v:Int) ==0)=false:=by simp;omega
  have q6:=bv (show ¬((v:Int)=0) by omega);rw[p] at f;refine⟨_,stepG_load_atomic (v:=V) rfl rfl (by k_ne) rfl H.f_loadU64 (x_loadU64_n L) (x_loadU64_b L) (x_loadU64_x L) .u64 (x_loadU64_f L) rfl f.cellSt,λh0=>absurd h0 (by omega),λ_=> ?_⟩;clear f
  walk_nrm
  u_op (b _ _) a
  u_c ef (b _ _) a
  u_c sb (b _ _) a
  u_leave1 H.f_uLoad (b _ _) a
  u_op (b _ _) a
  u_c ef (b _ _) a
  u_c jp (b _ _) a
  u_reg (b _ _) a
  u_op (b _ _) a
  u_op (b _ _) a
  u_op (b _ _) a
  u_op (b _ _) a
  u_c ef (b _ _) a
  u_c jp (b _ _) a
  u_reg (b _ _) a
  u_op (b _ _) a
  u_op (b _ _) a
  u_op (b _ _) a
  u_op (b _ _) a
  u_c ef (b _ _) a
  u_c jp (b _ _) a
  u_c jp (b _ _) a
  u_reg (b _ _) a
  u_op (b _ _) a
  u_op (b _ _) a
  u_c ef (b _ _) a
  u_cnd false (b _ _) a
  u_c rA (b _ _) a
  u_c jp (b _ _) a
  u_reg (b _ _) a
  u_op (b _ _) a
  u_op (b _ _) a
  u_op (b _ _) a
  u_op (b _ _) a
  u_op (b _ _) a
  u_op (b _ _) a
  u_call H.f_uCas (nm_uCas L) uCasFn (b _ _) a
  u_c jp (b _ _) a
  u_reg (b _ _) a
  u_op (b _ _) a
  u_c ef (b _ _) a
  u_c jp (b _ _) a
  u_reg (b _ _) a
  u_op (b _ _) a
  u_op (b _ _) a
  u_op (b _ _) a
  u_op (b _ _) a
  u_op (b _ _) a
  refine qv (λl j=> ?_);replace a:=b _ _ a j;clear j;refine⟨rfl,λv' bw f=>⟨λe=> ?_,λe=> ?_⟩⟩
  .subst e;rw[p] at f ⊢;refine⟨_,stepG_cas_hit (v:=V) (n:=V+1) rfl rfl (by k_ne) rfl H.f_casU64 (x_casU64_n L) (x_casU64_b L) (x_casU64_x L) .u64 (x_casU64_f L) rfl rfl rfl f.cellSt (f.thaw 0), ?_⟩;replace a:WgLive L.tWg Wg (l.setCell (stA Wg) (.int .u64 (V+1))):=⟨_,_,f.setSt _⟩;clear f
   walk_nrm
   u_op (b _ _) a
   u_c ef (b _ _) a
   u_c sb (b _ _) a
   u_leave1 H.f_uCas (b _ _) a
   u_c ef (b _ _) a
   u_cond true (b _ _) a
   u_c jp (b _ _) a
   u_c jp (b _ _) a
   u_reg (b _ _) a
   u_op (b _ _) a
   u_op (b _ _) a
   u_op (b _ _) a
   u_op (b _ _) a
   u_c ef (b _ _) a
   u_cond true (b _ _) a
   u_reg (b _ _) a
   u_op (b _ _) a
   u_op (b _ _) a
   u_op (b _ _) a
   u_conv H.underlying_tPU32 H.room_tU32 (WgLive.cell1 a).choose_spec (b _ _) a
   refine qv (λm d=> ?_);replace a:=b _ _ a d;clear d;refine⟨rfl,_,uv .write (by simp) rfl rfl (by k_ne) rfl H.f_raceWrite (x_raceWrite_n L) (x_raceWrite_b L) (x_raceWrite_x L) (x_raceWrite_f L) (ad:=⟨Wg,1,none⟩) (by simp[Act.eval]), ?_⟩
   walk_nrm
   u_c ef (b _ _) a
   u_c jp (b _ _) a
   u_reg (b _ _) a
   u_op (b _ _) a
   u_c ef (b _ _) a
   u_c jp (b _ _) a
   u_c jp (b _ _) a
   u_reg (b _ _) a
   u_op (b _ _) a
   u_op (b _ _) a
   u_op (b _ _) a
   u_op (b _ _) a
   u_skip (b _ _) a
   u_op (b _ _) a
   u_c ef (b _ _) a
   u_cond false (b _ _) a
   u_c rA (b _ _) a
   u_c jp (b _ _) a
   u_reg (b _ _) a
   u_op (b _ _) a
   u_op (b _ _) a
   u_op (b _ _) a
   u_op (b _ _) a
   refine qv (λm d=> ?_);replace a:=b _ _ a d;clear d;refine⟨rfl,rfl,λ⟨st,f⟩=>stepG_semacquire_wait rfl rfl rfl H.f_semacquire (x_semacquire_n L) (x_semacquire_b L) (x_semacquire_x L) (x_semacquire_f L) (by simp[Act.eval,smA]) f.cellSm,λs=> ?_⟩;refine⟨_,(stepG_semacquire (n:=1) rfl rfl (by k_ne) rfl H.f_semacquire (x_semacquire_n L) (x_semacquire_b L) (x_semacquire_x L) (x_semacquire_f L) (by simp[Act.eval,smA]) s.cellSm (by decide) (s.thaw 1)).trans rfl, ?_⟩;replace a:WgLive L.tWg Wg (m.setCell (smA Wg) (.int .u32 0)):=⟨_,_,s.setSm 0⟩;clear s
   walk_nrm
   u_c ef (b _ _) a
   u_c jp (b _ _) a
   u_reg (b _ _) a
   u_op (b _ _) a
   u_op (b _ _) a
   u_op (b _ _) a
   u_call H.f_uLoad (nm_uLoad L) uLoadFn (b _ _) a
   u_c jp (b _ _) a
   u_reg (b _ _) a
   u_op (b _ _) a
   u_c ef (b _ _) a
   u_c jp (b _ _) a
   u_reg (b _ _) a
   u_op (b _ _) a
   u_op (b _ _) a
   u_op (b _ _) a
   refine qv (λu o=> ?_);replace a:=b _ _ a o;clear o;refine⟨rfl,λf=>⟨_,stepG_load_atomic (v:=0) rfl rfl (by k_ne) rfl H.f_loadU64 (x_loadU64_n L) (x_loadU64_b L) (x_loadU64_x L) .u64 (x_loadU64_f L) rfl f.cellSt, ?_⟩⟩;clear f
   walk_nrm
   u_op (b _ _) a
   u_c ef (b _ _) a
   u_c sb (b _ _) a
   u_leave1 H.f_uLoad (b _ _) a
   u_op (b _ _) a
   u_op (b _ _) a
   u_c ef (b _ _) a
   u_c jp (b _ _) a
   u_cond true (b _ _) a
   u_c jp (b _ _) a
   u_reg (b _ _) a
   refine qv (λr k=> ?_);replace a:=b _ _ a k;clear k;refine⟨rfl,_,uL .enable (by simp) rfl rfl (by k_ne) rfl H.f_enable (x_enable_n L) (x_enable_b L) (x_enable_x L) (x_enable_f L), ?_⟩
   walk_nrm
   u_c ef (b _ _) a
   u_reg (b _ _) a
   u_op (b _ _) a
   u_conv H.underlying_tWgP H.room_tWg (WgLive.cell0 a).choose_spec (b _ _) a
   refine qv (λr k=> ?_);replace a:=b _ _ a k;clear k;refine⟨rfl,_,uv .acquire (by simp) rfl rfl (by k_ne) rfl H.f_acquire (x_acquire_n L) (x_acquire_b L) (x_acquire_x L) (x_acquire_f L) (by simp[Act.eval,stA]), ?_⟩
   walk_nrm
   u_c ef (b _ _) a
   u_c jp (b _ _) a
   u_c jp (b _ _) a
   u_reg (b _ _) a
   u_op (b _ _) a
   u_c ef (b _ _) a
   u_cond false (b _ _) a
   u_c rA (b _ _) a
   u_c sb (b _ _) a
   u_leave0 H.f_wait (b _ _) a
   exact qv λl j=>x _ (b _ _ a j)
  .refine⟨_,stepG_cas_miss (v:=(v':Int)*KK) (old:=V) (n:=V+1) rfl rfl (by k_ne) rfl H.f_casU64 (x_casU64_n L) (x_casU64_b L) (x_casU64_x L) .u64 (x_casU64_f L) rfl rfl rfl f.cellSt (f.thaw 0) (by rw[<-p];simp only[KK];omega), ?_⟩;clear f
   walk_nrm
   u_op (b _ _) a
   u_c ef (b _ _) a
   u_c sb (b _ _) a
   u_leave1 H.f_uCas (b _ _) a
   u_c ef (b _ _) a
   u_cond false (b _ _) a
   u_c rA (b _ _) a
   u_c stepG_inBlock (b _ _) a
   u_c stepG_inLoop (b _ _) a
   exact qv λm d=>⟨_,rfl,by simp,by simp,b _ _ a d⟩
end
end
section
open Go Go.Conc Go.ConcN Go.RowKit Go.Conc.Lib Go.ConcR.Gen Go.ConcN.Gen
open Go.ConcR (KK wgBlock WgAt stA smA rd wr mk Payload DC0)
section
variable {P:Program} {R:World->World->Prop} {Wg:Nat}
def apZ:aaU Wg (mk (.read ⟨Wg,1,none⟩)):=⟨_,rfl,.inl rfl⟩
def amK:aaU Wg (mk (.write ⟨Wg,1,none⟩)):=⟨_,rfl,.inr rfl⟩
def nA{D i:World->World->Array Event->Prop}{St c:Goroutine->World->Prop}{main:Bool}(k:∀w d e,D w d e->i w d e)(f:∀g w,St g w->c g w) :
  ∀{n:Nat} {g:Goroutine} {w:World},Goes P main R D St n g w->Goes P main R i c n g w
 |0,_,_,h=>λa b=>f _ _ (h a b)
 |n+1,g,w,h=>by
  rcases h with h|⟨l,h⟩
  .exact .inl λa b=>f _ _ (h a b)
  .refine .inr ⟨l,λa b=> ?_⟩;have:=h a b;cases j:stepG P main g a with
   |go m d e=>
    rw[j,tj] at this;rw[tj];exact⟨k _ _ _ this.1,nA k f this.2⟩
   |_=>rw[j] at this;exact this.elim
def avT{D:World->World->Array Event->Prop}(b:n<=X)(h:Goes P main R D St n g w):Goes P main R D St X g w:=by
 induction b with
 |refl=>exact h
 |step _ a=>exact a.more
def dsd{es:Array Event}(h:DC0 w w' es):DSd Wg w w' es:=⟨h.1,by rw[h.2];simp⟩
def agV{e:Mark}(q:aaU Wg (mk e))(s:∀g w,St g w->V g w)(k:∀w,R w w)(l:∀a b c,R a b->R b c->R a c) :
  ∀{n:Nat} {g:Goroutine} {w:World},Goes P true R DC0 (nS P R e m St) n g w->Goes P true R (DSd Wg) V (n+(m+1)) g w:=by
 have stop:∀{g:Goroutine} {w:World},(∀d,R w d->nS P R e m St g d)->Goes P true R (DSd Wg) V (m+1) g w:=λ{g w} h=>by
  refine .inr ⟨(h w (k w)).1,λd i=> ?_⟩;obtain⟨-,p,f,j⟩:=h d i;rw[f,tj];exact⟨⟨rfl,by simp;exact q⟩,nA (λ_ _ _ x=>dsd x) s j⟩
 intro n
 induction n with
 |zero=>intro g w h;rw[ls];exact stop h
 |succ n r=>
  intro g w h;rcases h with h|⟨o,h⟩
  .exact avT (by omega) (stop h)
  .rw[Nat.succ_add];refine .inr ⟨o,λd i=> ?_⟩;have:=h d i;cases f:stepG P true g d with
   |go p t u=>
    rw[f,tj] at this;rw[tj];exact⟨dsd this.1,r this.2⟩
   |_=>rw[f] at this;exact this.elim
end
section
variable [Payload] {P:Program} {ty:TypeId} {Wg C n:Nat} {R S:ak}
def aau(a:∀g w,St g w->V g w)(h:Goes P true (RM ty Wg C n R S) DC0 St m g w):GP P ty Wg C n R S V m g w:=nA (λ_ _ _ x=>dsd x) a h
def aze{F:ak->ak->Goroutine->World->Prop}(a:∀g w,Goes P true (RM ty Wg C n R S) DC0 St m g w->F R S g w)(h:nS P (RM ty Wg C n R S) (.acquire (stA Wg)) m St g w):ayt P Wg R S F g w:=
 ⟨h.1,let⟨b,e,k⟩:=h.2;⟨b,e,a _ _ k⟩⟩
section
variable {St:Goroutine->World->Prop} {F A:ak->ak->Goroutine->World->Prop} {amH:Goroutine->World->Prop} (hF:∀g w,Goes P true (RM ty Wg C n R S) DC0 St 20 g w->F R S g w) (hA:∀g w,amH g w->A R S g w)
include hF in
theorem axk(h:WKe P (RM ty Wg C n R S) Wg St g w):MKe P ty Wg C n R S F g w:=
 ⟨h.1,let⟨a,e,k⟩:=h.2;⟨a,e,_,aau (λ_ _ x=>aze hF x) k⟩⟩
include hF in
theorem aBw(h:WW4 P (RM ty Wg C n R S) ty Wg St g w):MW4 P ty Wg C n R S F g w:=
 ⟨h.1,λa=>let⟨b,e,k⟩:=h.2 a;⟨b,e,_,aau (λ_ _ x=>axk hF x) k⟩⟩
include hF in
theorem aBx(h:WW3 P (RM ty Wg C n R S) ty Wg St g w):MW3 P ty Wg C n R S F g w:=
 ⟨h.1,h.2.1,h.2.2.1,λa=>let⟨b,e,k⟩:=h.2.2.2 a;⟨b,e,_,aau (λ_ _ x=>aBw hF x) k⟩⟩
include hF hA in
theorem aBy{v:Nat}(h:WW2 P (RM ty Wg C n R S) ty Wg amH St v g w):MW2 P ty Wg C n R S A F v g w:=
 ⟨h.1,λd f c=>⟨λe=>let⟨b,a,k⟩:=(h.2 d f c).1 e;⟨b,a,_,agV amK (λ_ _ x=>aBx hF x) (jM.refl _ _ _) (λ_ _ _=>jM.trans) k⟩,
  λe=>let⟨b,a,k⟩:=(h.2 d f c).2 e;⟨b,a,_,aau hA k⟩⟩⟩
include hF hA in
theorem aBz(h:WW1 P (RM ty Wg C n R S) ty Wg amH St g w):MW1 P ty Wg C n R S A F g w:=
 ⟨h.1,λv c b=>let⟨f,e,d,a⟩:=h.2 v c b;⟨f,e,λe=>⟨_,aau (λ_ _ x=>axk hF x) (d e)⟩,λe=>⟨_,aau (λ_ _ x=>aBy hF hA x) (a e)⟩⟩⟩
include hA in
theorem aBA(h:nS P (RM ty Wg C n R S) .disable m amH g w):MKd P ty Wg C n R S A g w:=
 ⟨h.1,let⟨a,e,k⟩:=h.2;⟨a,e,_,aau hA k⟩⟩
end
section
variable {val:Nat->Value} {j:Nat} {Next:ak->Goroutine->World->Prop} {St:Goroutine->World->Prop}
def ath(a:∀g w,Goes P true (RM ty Wg C n R S) DC0 St m g w->∃T,GM P ty Wg C n R (MGo P ty Wg C n val j Next R) T S g w)(h:nS P (RM ty Wg C n R S) .enable m St g w):ayu P ty Wg C n val j Next R S g w:=
 ⟨h.1,let⟨b,e,k⟩:=h.2;⟨b,e,a _ _ k⟩⟩
def aBB(b:∀g w,Goes P true (RM ty Wg C n R S) DC0 St 3 g w->∃T,GM P ty Wg C n R (MGo P ty Wg C n val j Next R) T S g w)(h:akd P (RM ty Wg C n R S) ty Wg St g w):MA1 P ty Wg C n val j Next R S g w:=
 ⟨h.1,λv f d=>by
  obtain⟨k,e,i,c⟩:=h.2 v f d;refine⟨k,e, ?_⟩;by_cases a:v=0
  .exact⟨_,agV apZ (λ_ _ x=>ath b x) (jM.refl _ _ _) (λ_ _ _=>jM.trans) (i a)⟩
  .exact⟨_,aau (λ_ _ x=>ath b x) (c a)⟩⟩
def azf(a:∀g w,Goes P true (RM ty Wg C n R S) DC0 St 3 g w->∃T,GM P ty Wg C n R (MGo P ty Wg C n val j Next R) T S g w)(h:nS P (RM ty Wg C n R S) .disable m (akd P (RM ty Wg C n R S) ty Wg St) g w):arY P ty Wg C n val j Next R S g w:=
 ⟨h.1,let⟨b,e,k⟩:=h.2;⟨b,e,_,aau (λ_ _ x=>aBB a x) k⟩⟩
end
end
end
end Go.Proofs.YtepfjblhjlefiaaGreatDoor