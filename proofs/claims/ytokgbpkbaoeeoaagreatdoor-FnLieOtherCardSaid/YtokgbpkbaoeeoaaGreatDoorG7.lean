/- A part. -/
import Derived.Test.YtokgbpkbaoeeoaaGreatDoorG6
import Derived.RangeFuncNested
import Derived.RangeFuncBound
import Derived.RangeFuncCalls
import Derived.RangeFuncLeaves
import Derived.Shelf.Abstract
import Derived.Shelf.RegionOpen
import Derived.OwnWalkIn
import Derived.TacticsInMore
import Derived.LoopNIn
import Derived.LoopIn
import Derived.Laws.BytesString
set_option maxRecDepth 100000
set_option maxHeartbeats 8000000
set_option linter.all false
open Go Go.RowKit Go.Proofs.Tryz Go.Proofs.YtokgbpkbaoeeoaaGreatDoor
variable {s:dy} {Z R fI g hi hi' k:Nat} {key n:Int} {V:Type} {Y X W U S:Value} {w w':World} {l':List iY} {f p:ByteArray} {cs:List Value} {x:Int × ByteArray}
namespace Go.Proofs.YtokgbpkbaoeeoaaGreatDoor
def rZ:=@_root_.List.find?_cons
def sI:=@_root_.beq_self_eq_true
def sV:=@_root_.Bool.and_eq_false_iff
def tz:=@_root_.List.getElem?_cons_zero
def tL:=@_root_.List.length_eq_one_iff
def ue:=@_root_.List.mem_map_of_mem
def uE:=@_root_.Go.RowKit.Below.alloc
def vk:=@_root_.Int.mul_le_mul_of_nonneg_left
def vx:=@_root_.List.filterMap_cons
def wt:=@_root_.List.length_pos_of_mem
def wG:=@_root_.Int.emod_add_mul_ediv
def wO:=@_root_.List.mem_of_getLast?
section
variable {β:Bool}
open Go.RowKit
def fF(key:Int)(no:Int)(l:List ByteArray):List Pk:=
 if h:l=[] then[] else⟨no,gJ key (l.take 4)⟩::fF key (no+1) (l.drop 4)
termination_by l.length
decreasing_by
 have:0<l.length:=List.length_pos_iff.2 h;rw[qj];omega
def iK(key a:Int):fF key a []=[]:=by rw[fF];rfl
def mW(key a:Int){l:List ByteArray}(h:0<l.length):fF key a l=⟨a,gJ key (l.take 4)⟩::fF key (a+1) (l.drop 4):=by
 rw[fF,dif_neg (by rintro rfl;simp at h)]
open Classical in
noncomputable def oQ(l:List Pk):List Sp:=if ∀s∈dw l,spP s then eJ (dw l) [] else[]
def aoe(l:List Pk):IOf l (oQ l):=by
 unfold oQ;by_cases h:∀s∈dw l,spP s
 .rw[du h];exact .inl ⟨h,rfl⟩
 .rw[be h];exact .inr ⟨h,rfl⟩
noncomputable def adl(key:Int)(s:dy)(t:List Nd):List Pk:=fF key (fh s.pk) (aaM key (oQ s.pk) t)
def afv(key:Int)(s:dy)(t:List Nd):Prop:=(s.pk++adl key s t).length<=20/\fh s.pk+(adl key s t).length-1<=99/\eB s<=20/\s.lg.length<9
noncomputable def abH(key:Int)(s:dy)(by_:Int)(t:List Nd):dy:=⟨s.pk++adl key s t,s.sn++[kF (eB s) key t],s.lg++[⟨by_,eB s⟩]⟩
structure af8 (w wr:World) (va vb vc:Value) (gm:Nat) (vp vs vl:Value) (pk:List Pk) (sn:List Sn) (lg:List Hd) (H:Nat):Prop where
 k0:bg wr w.heap.size 27 #[va,vb,vc]
 k1:bg wr (w.heap.size+1) 27 #[.slice none 0 0,.slice none 0 0,.slice none 0 0]
 m:bg wr gm 27 #[vp,vs,vl]
 op:bF wr w.heap.size H pk [vp]
 os:bR wr w.heap.size H sn [vs]
 ol:dH wr w.heap.size H lg [vl]
 bl:Below w.heap.size w wr
 gm1:w.heap.size+1<gm
 gm2:gm<wr.heap.size
 hH:H<=wr.heap.size
def af8.below{wr : World}{c : Value}{e:List Pk}{b:List Sn}{d:List Hd}(h:af8 w wr Y X W Z U S c e b d R)(a:Below wr.heap.size wr w'):af8 w w' Y X W Z U S c e b d R:=
 ⟨ak h.k0 a,ak h.k1 a,ak h.m a,bF.ar.below h.op a h.hH,bR.ar.below h.os a h.hH,dH.ar.below h.ol a h.hH,ag h.bl a,h.gm1,bd h.gm2 a.size,ap h.hH a.size⟩
def af8.up{wr : World}{c : Value}{e:List Pk}{b:List Sn}{d:List Hd}{H' : Nat}(h:af8 w wr Y X W Z U S c e b d R)(a:R<=H')(f:H'<=wr.heap.size):af8 w wr Y X W Z U S c e b d H':=
 ⟨h.k0,h.k1,h.m,bF.ar.wide h.op (am _) a,bR.ar.wide h.os (am _) a,dH.ar.wide h.ol (am _) a,h.bl,h.gm1,h.gm2,f⟩
def aBz:Value->Nat
 |.slice _ n _=>n
 |_=>0
def asQ(key:Int)(s:dy)(by_:Int)(t:List Nd)(w:World)(e:Ending)(w':World):Prop:=
 ∃c b a q r,e=.returned (.tuple #[.agg #[c,b,a],.bool q])/\fg w' w.heap.size w'.heap.size r c b a/\((q=true/\afv key s t/\r=abH key s by_ t)\/(q=false/\¬afv key s t/\r=s))/\Below w.heap.size w w'
def akc (key:Int) (hk:1<=key/\key<=99) (s:dy) (u:Int) (bq:cf u) (t:List Nd) (ht:∀x∈t,dN x.b=true) (hl:t.length<=10) (hs:amB 1000000 s) (eb:(dw s.pk).length<=10000) (bL:kQ s<=1000000)
  (va vb vc vt:Value) (w:World) (lo hi bf kL:Nat) (h:fg w lo hi s va vb vc) (aV:hi<=w.heap.size) (h1:fX w bf kL t [vt]) (ml:kL<=w.heap.size) :
  Calls (ah β) 30 #[.int .i64 key,.agg #[va,vb,vc],.int .i64 u,vt] w (asQ key s u t w):=by
 replace ht:=ab ht;have HS:=ab hs;have HK:=ab hk;replace bq:=ab bq;clear hs;obtain⟨A,a,rfl⟩:=h.pk.form;obtain⟨B,b,rfl⟩:=h.sn.form;obtain⟨C,c,rfl⟩:=h.lg.form;obtain⟨D,d,rfl⟩:=h1.form;have e7:s.pk.length<=1000000:=by
  have h1:=dV (f:=bPk) (l:=s.pk);unfold kQ at bL;omega
 have en:s.sn.length<=1000000:=by
  have h1:=dV (f:=bSn) (l:=s.sn);unfold kQ at bL;omega
 have ee:s.lg.length<=1000000:=by unfold kQ at bL;omega
 go_enter Ak,ntmps30;go_wp2;generalize hG:(w.alloc (.cells #[.slice A s.pk.length a,.slice B s.sn.length b,.slice C s.lg.length c] 27)).alloc (.cells #[.slice none 0 0,.slice none 0 0,.slice none 0 0] 27)=w0 at *;obtain⟨aL,jo,k0,dn,eQ,k1,dG,eD⟩:=pW hG;clear hG;have c6:=h.below aL aV;refine(fC s _ _ _ w0 lo hi c6.l (by omega) (by omega)).mono ?_;rintro e w1 ⟨vp,vs,vl,rfl,oc,b1⟩;obtain⟨Ap,cp,rfl⟩:=oc.pk.form;obtain⟨As,cs,rfl⟩:=oc.sn.form;obtain⟨Al,cl,rfl⟩:=oc.lg.form;replace k0:=ak k0 b1;replace dn:=k0.cell;replace eQ:=k0.frozen;replace k1:=ak k1 b1;replace dG:=k1.cell;replace eD:=k1.frozen;replace aL:=ag aL b1;have c1:=ab oc;have z1:=b1.size;clear oc c6;have ax:=av w1 (.cells #[.slice Ap s.pk.length cp,.slice As s.sn.length cs,.slice Al s.lg.length cl] 27);have d7:=(ak k0 ax).cell;go_wp2;clear ax d7;generalize hG:w1.alloc (.cells #[.slice Ap s.pk.length cp,.slice As s.sn.length cs,.slice Al s.lg.length cl] 27)=w2 at *;obtain⟨N,em,m0,od,d6⟩:=mB hG;clear hG;replace k0:=ak k0 N;replace dn:=k0.cell;replace eQ:=k0.frozen;replace k1:=ak k1 N;replace dG:=k1.cell;replace eD:=k1.frozen;have al:=c1.out.below N (am _);have P:af8 w w2 (.slice A s.pk.length a) (.slice B s.sn.length b) (.slice C s.lg.length c) w1.heap.size (.slice Ap s.pk.length cp) (.slice As s.sn.length cs) (.slice Al s.lg.length cl) s.pk s.sn s.lg w1.heap.size:=
  ⟨k0,k1,m0,bF.ar.wide al.pk (by omega) (am _),bR.ar.wide al.sn (by omega) (am _),dH.ar.wide al.lg (by omega) (am _),ag aL N,by omega,by omega,N.size⟩
 obtain⟨E,cg⟩:∃E,E=w1.heap.size:=⟨_,rfl⟩;rw[<-cg] at P ⊢;have n:=ab P;have bX:=h.below (ag aL N) aV;have HST:=ab bX;clear cg P al c1 k0 k1 m0 dn dG od eQ eD d6 aL N b1;refine(akb s HS.out _ _ _ w2 lo hi bX.l (by have:=n.out.bl.size;omega)).mono ?_;rintro e w3 ⟨rfl,b3⟩;have aT:=n.out.below b3;have cw:=ab aT;have bi:=HST.out.below b3 (by have:=n.out.bl.size;omega);have cO:=ab bi;have dn:=aT.k0.cell;have z3:=aT.bl.size;clear aT n HST bX b3;go_wp2;refine(ad7 s.pk _ w3 lo hi (by omega) (bF.t bi.pk) (by omega) (oQ s.pk) (aoe _)).mono ?_;rintro e w4 ⟨vi,rfl,oi,b4⟩;clear bi;have c0:=(aoe s.pk).ix;have ca:=((oi.deep (avI c0) 0).sl (eg _)).1;have bb:=cw.out.below b4;have ck:=ab bb;have cz:=fX.ar.wide (fX.ar.below h1 bb.bl ml) (eg bf) (show kL<=w4.heap.size by have:=bb.bl.size;omega);obtain⟨Ai,ci,rfl⟩:=oi.form;clear bb cw dn oi c0 b4;have aI:Hid (afv key s t↔((s.pk++fF key (fh s.pk) (aaM key (oQ s.pk) t)).length<=20/\fh s.pk+(fF key (fh s.pk) (aaM key (oQ s.pk) t)).length-1<=99/\eB s<=20/\s.lg.length<9)):=ab Iff.rfl;have b8:Hid (abH key s u t=⟨s.pk++fF key (fh s.pk) (aaM key (oQ s.pk) t),s.sn++[kF (eB s) key t],s.lg++[⟨u,eB s⟩]⟩):=ab rfl;have cZ : -9223372036854775807<=fh s.pk/\fh s.pk<=1000001:=by
  rcases pv s.pk.length with hz|hz
  .rw[qh.1 hz];show _<=(1:Int)/\(1:Int)<=_;omega
  .obtain⟨z,cb,dd⟩:=wA hz;have e2:=HS.out.1 z (db cb);obtain⟨es,v,_,hg,_⟩:=(cO.out.l).pk.alo z (db cb);unfold cf at hg;unfold fh;rw[dd];show _<=z.no+1/\z.no+1<=_;omega
 have cS : -9223372036854775807<=eB s/\eB s<=1000001:=by
  have hm:=aka (l:=s.lg) (b:=1000001) (by omega) λx hx=>by have:=HS.out.2.2 x hx;omega
  unfold eB;cases d4:s.sn.getLast? with
  |none=>show _<=gj s.lg/\gj s.lg<=_;omega
  |some x=>
   have:=HS.out.2.1 x (wO d4);show _<=max (gj s.lg) (x.no+1)/\max (gj s.lg) (x.no+1)<=_;omega
 clear cO;have cC:(aaM key (oQ s.pk) t).length<=400:=by
  have a1:=acL (key:=key) (ix:=oQ s.pk) (aae t) [];have a2:=adj (t:=t) ht.out;show(oN key (oQ s.pk) [] (aae t)).length<=_;simp only[mT,mc] at a1;omega
 have a7:=mf (key:=key) (ix:=oQ s.pk) ht.out;have an:=ab (amt (β:=β) key HK.out t ht.out (by omega) (oQ s.pk) _ _ w4 0 w4.heap.size (am _) cz ca);clear cz ca;revert a7 cC b8 aI an;generalize aaM key (oQ s.pk) t=pieces;revert cZ;generalize fh s.pk=n0;revert cS;generalize eB s=s0;intro cS cZ aI b8 cC a7 an;go_wp2;refine an.out.mono ?_;rintro e w5 ⟨vq,rfl,oq,b5⟩;clear an;have cG:=(oq.deep (λx hx=>mg (a7 x hx)) 0).sl (eg _);have bx:=ck.out.below b5;have cY:=bx.up (H':=w5.heap.size) bx.hH (am _);obtain⟨Aq,cq,rfl⟩:=oq.form;have b0:=ab (And.intro cG (And.intro a7 cY));clear ck cG a7 bx cY oq b5;go_wp2;go_loopw [11,13] (λnn pp wr=>∃(no:Int) (j:List ByteArray) (o:List Pk) (vp:Value),nn=.int .i64 no/\s.pk++fF key n0 pieces=o++fF key no j/\no=n0+((o.length:Int)-s.pk.length)/\o.length+j.length<=s.pk.length+pieces.length/\s.pk.length<=o.length/\w5.heap.size<=wr.heap.size/\dE wr 0 w5.heap.size j [pp]/\(∀x∈j,bA (bs x))/\af8 w wr (.slice A s.pk.length a) (.slice B s.sn.length b) (.slice C s.lg.length c) E vp (.slice As s.sn.length cs) (.slice Al s.lg.length cl) o s.sn s.lg wr.heap.size) (λ_ pp _=>aBz pp)
 case atStart=>exact⟨n0,pieces,s.pk,_,rfl,rfl,by omega,am _,am _,am _,b0.out.1,b0.out.2.1,b0.out.2.2⟩
 case round=>
  clear b0;obtain⟨no,j,o,ei,rfl,ch,c2,d3,ec,d2,hr,hp,P⟩:=hrel;obtain⟨Ar,cr,rfl⟩:=hr.form;obtain⟨Q,O,rfl⟩:=P.op.form;have bl:=ab ch;have bS:=ab c2;have e6 : -9223372036854775807<=no/\no<=9000000:=by omega
  have HR:=ab hr;have HP:=ab hp;have n:=ab P;have ep:=hr.len_.2.1;have dp:=hr.len_.2.2;unfold maxLen at dp;clear ch c2 hr hp P;by_cases iG:0<j.length
  .have t1:decide (0<j.length)=true:=dk iG;have od:=n.out.m.cell 0;by_cases h4:j.length<=4
   case' pos=>
    have t2:=dk (show(j.length:Int)<=4 by omega);have g2:((j.length:Nat):Int)<=(cr:Int):=by omega
    have q1:=am j.length;have q2:j.take j.length=j.take 4:=by rw[pu (am _),pu h4]
    have q3:j.drop j.length=j.drop 4:=by rw[rE (am _),rE h4]
   case' neg=>
    have t2:=da (show ¬((j.length:Int)<=4) by omega);have g2:((4:Nat):Int)<=(cr:Int):=by omega
    have q1:4<=j.length:=by omega
    have q2:=@rfl _ (j.take 4);have q3:=@rfl _ (j.drop 4)
   all_goals
    have bt:∀x∈j.take 4,bA (bs x):=λx hx=>HP.out x (qf hx);have cd:∀x∈j.drop 4,bA (bs x):=λx hx=>HP.out x (uX hx);have bz:=HR.out.agI q1;rw[q2] at bz;have bJ:=HR.out.an8 q1;rw[q3] at bJ;have Y:=mW key no iG;have ce:(j.take 4).length<=4:=by rw[ef];omega
    have c3:=afn (key:=key) bt;have d0:(gJ key (j.take 4)).length<=4:=by rw[aaC];exact ce
    have bw:w5.heap.size<=wr.heap.size:=d2;have bk:cf no:=by unfold cf;omega
    have cc:=λ(y:World) (hy:Below wr.heap.size wr y)=>amq (β:=β) no key HK.out (j.take 4) bt (by omega) _ y 0 w5.heap.size (ap bw hy.size) (dE.ar.below bz hy bw)
    have ao:=ab cc;have ct:=ab bJ;have HST:=ab Y;have bT:=ab c3;have dB:=ab cd;have d9:Hid ((j.drop 4).length+1<=j.length):=ab (by rw[qj];omega);clear cc bJ Y c3 bz q2 q3 ce bt cd;revert d0;revert bT;revert HST;revert ao;generalize gJ key (j.take 4)=L;intro ao HST bT d0;go_wp2;have aH:=ae od;refine aC 9 [0,1,2,3,4,5,6] [7,8] (h:= ?_);simp only[pick,List.map,gt,gE];repeat(go_big_quiet_step (fail))
    refine ip ?_;clear aH;apply Exists.intro;apply aY (λv w'=>∃A c,v=.agg #[.int .i64 no,.slice A L.length c]/\aJ nA 63 w' wr.heap.size (.slice A L.length c) L)
    .rfl
    .exact λv x y ⟨A,c,e,h⟩ hle=>⟨A,c,e,h.below hle⟩
    .intro x R Qx r;replace r:=ab r;clear R;go_wp2;refine(ao.out x.to x.ok).mono ?_;rintro e wy ⟨vy,rfl,oy,br⟩;obtain⟨Ay,cy,rfl⟩:=oy.form;go_wp2;exact r.out _ _ br ⟨_,_,rfl,oy.base x.ok.size⟩
    intro u7;apply aY (λv w'=>∃g A c,v=.slice (some ⟨g,0,none⟩) 1 1/\bg w' g 36 #[.int .i64 no,.slice A L.length c]/\aJ nA 63 w' wr.heap.size (.slice A L.length c) L)
    .rfl
    .exact λv x y ⟨g,A,c,e,hk,h⟩ hle=>⟨g,A,c,e,ak hk hle,h.below hle⟩
    .intro x R Qx r;replace r:=ab r;obtain⟨A5,c5,rfl,ho⟩:=R.1 (by kernel_rfl);go_wp2;have ba:=av x.to (.cells #[.int .i64 no,.slice A5 L.length c5] 36);exact r.out _ _ ba ⟨_,_,_,rfl,bg.new _ _ _,ho.below ba⟩
    intro u8;refine aQ ?_;intro w6 gZ xx cU R;dsimp only[dQ] at R;try rw[cU] at R
    clear cU xx;obtain⟨⟨g8,A8,c8,rfl,a8,o8⟩, -⟩:=R;simp only[List.drop];have z6:=gZ.size;have U:=n.out.below gZ;have cW:=dE.ar.below ct.out gZ bw;have aa:Hid (lh w6 wr.heap.size w6.heap.size ⟨no,L⟩ [.int .i64 no,.slice A8 L.length c8]):=ab ⟨_,rfl,bk,o8.aaL bT.out (by omega) λg hg=>(o8.at_ hg).2⟩;have b9:=ab a8;have k:=ab U;have dm:=ab cW;have zb:=U.bl.size;clear n gZ o8 a8 U cW ct ao od HR;go_wp2_with(at_builtin;refine gX ?_);refine⟨?_,trivial⟩;refine iz lh.ar (by decide) (v:=.slice Q o.length O) rfl (.tmp 35) (.tmp 42) 23 rfl aei ⟨no,L⟩ rfl k.out.op rfl b9.out rfl (by simp[Value.oneCell']) (show wr.heap.size<=w6.heap.size by omega) aa.out (am _) (by omega) (by omega) ?_;intro v9 Z o9 I c4;obtain⟨K,J,rfl⟩:=o9.form;rw[aE,mp] at o9;rw[aE,mp];have m:=k.out.op;have z9:=I.size;have bn:=k.out.gm1;have dD:=k.out.gm2;have q:=dJ m I k.out.m (by decide);have ds:Z.cell? ⟨E,0,none⟩=some (.slice Q o.length O):=q.cell 0;have dK:=q.frozen 0;have mD:=q.bG 0 (.slice K (o.length+1) J);simp only[dj,ge,io] at mD;have a5:af8 w (Z.setCell ⟨E,0,none⟩ (.slice K (o.length+1) J)) _ _ _ E (.slice K (o.length+1) J) (.slice As s.sn.length cs) (.slice Al s.lg.length cl) (o++[⟨no,L⟩]) s.sn s.lg (Z.setCell ⟨E,0,none⟩ (.slice K (o.length+1) J)).heap.size:=
     ⟨cj (dJ m I k.out.k0 (by decide)) (p:=⟨E,0,none⟩) _ (by dsimp only;omega),cj (dJ m I k.out.k1 (by decide)) (p:=⟨E,0,none⟩) _ (by dsimp only;omega),mD,
      by simp only[bv];exact cL bF.ar o9 q (by decide) 0 _,
      by simp only[bv];exact bR.ar.wide (cL bR.ar (jP m I bR.ar k.out.os (by decide)) q (by decide) 0 _) (am _) (by omega),
      by simp only[bv];exact dH.ar.wide (cL dH.ar (jP m I dH.ar k.out.ol (by decide)) q (by decide) 0 _) (am _) (by omega),
      (k.out.bl.trans (I.below k.out.bl.size λi hi hs=>by have:=m.ob hs;omega)).setCell (by dsimp only;omega) _,bn,by simp only[bv];omega,am _⟩
    have cn:dE (Z.setCell ⟨E,0,none⟩ (.slice K (o.length+1) J)) 0 w5.heap.size (j.drop 4) _:=cL dE.ar (jP m I dE.ar dm.out (by decide)) q (by decide) 0 _;have a0:=ab a5;have dx:=ab cn;have d8:Hid (w5.heap.size<=(Z.setCell ⟨E,0,none⟩ (.slice K (o.length+1) J)).heap.size):=ab (by simp only[bv];omega);clear a5 cn mD m q;go_wp2;go_roundw
    case rel=>exact⟨no+1,j.drop 4,o++[⟨no,L⟩],_,rfl,by rw[bl.out,HST.out,tc];rfl,by have:=bS.out;rw[aE,mp];omega,by have:=d9.out;rw[aE,mp];omega,by rw[aE,mp];omega,d8.out,by have:=dx.out;first|(simpa only[tZ,tp] using this)|(simp only[be (show ¬cr=4 by omega),Addr.add] at this;simpa using this),dB.out,a0.out⟩
    simp[aBz];omega
  .have hz:j=[]:=qh.1 (by omega);subst hz;have kh:s.pk++fF key n0 pieces=o:=by rw[bl.out,iK,su]
   have a6:afv key s t↔(o.length<=20/\no-1<=99/\s0<=20/\s.lg.length<9):=by
    refine aI.out.trans ?_;rw[kh];have e:(o.length:Int)=s.pk.length+(fF key n0 pieces).length:=by rw[<-kh,aE];omega
    have:=bS.out;constructor
    .rintro⟨a1,a2,a3,a4⟩;exact⟨a1,by omega,a3,a4⟩
    .rintro⟨a1,a2,a3,a4⟩;exact⟨a1,by omega,a3,a4⟩
   have cN:abH key s u t=⟨o,s.sn++[kF s0 key t],s.lg++[⟨u,s0⟩]⟩:=by rw[b8.out,kh]
   have b2:=ab a6;have dC:=ab cN;have er:o.length<=2000000:=by omega
   clear kh a6 cN aI b8 bl bS HR HP d3;have cm:=n.out.m.cell;have dn:=n.out.k0.cell;have bk:cf (no-1):=by unfold cf;omega
   unfold cf at bk;rcases(by omega:(o.length<=20/\no-1<=99/\s0<=20/\s.lg.length<9)\/¬o.length<=20\/(o.length<=20/\¬no-1<=99)\/(o.length<=20/\no-1<=99/\¬s0<=20)\/(o.length<=20/\no-1<=99/\s0<=20/\¬s.lg.length<9)) with hc|hc|hc|hc|hc
   .have t3:=da (show ¬((20:Int)<(o.length:Int)) by omega);have t4:=da (show ¬(99<no-1) by omega);have t5:=da (show ¬(20<s0) by omega);have t6:=da (show ¬((9:Int)<=(s.lg.length:Int)) by omega);have HY:=ab (b2.out.2 hc);clear hc;clear b2;go_wp2;have co:=cm 1;have HC:=ab (λ(y:World) (hy:Below wr.heap.size wr y)=>apU (β:=β) s0 key HK.out (by unfold cf;omega) t ht.out (by omega) _ y bf kL (by have:=hy.size;have:=n.out.bl.size;omega) (fX.ar.below h1 (ag n.out.bl hy) ml));have aH:=ae co;refine aC 7 [0,1,2,3,4] [5,6] (h:= ?_);simp only[pick,List.map,gt,gE];repeat(go_big_quiet_step (fail))
    refine ip ?_;clear aH;apply Exists.intro;apply aY (λv w'=>∃A c,v=.agg #[.int .i64 s0,.slice A (kF s0 key t).all.length c]/\fQ w' wr.heap.size w'.heap.size (kF s0 key t).all [.slice A (kF s0 key t).all.length c])
    .rfl
    .exact λv x y ⟨A,c,e,h⟩ hle=>⟨A,c,e,fQ.ar.wide (fQ.ar.below h hle (am _)) (am _) hle.size⟩
    .intro x R Qx r;replace r:=ab r;clear R;go_wp2;refine(HC.out x.to x.ok).mono ?_;rintro e wy ⟨vy,rfl,oy,br⟩;obtain⟨Ay,cy,rfl⟩:=oy.form;go_wp2;exact r.out _ _ br ⟨_,_,rfl,fQ.ar.wide oy x.ok.size (am _)⟩
    intro u5;apply aY (λv w'=>∃g A c,v=.slice (some ⟨g,0,none⟩) 1 1/\bg w' g 41 #[.int .i64 s0,.slice A (kF s0 key t).all.length c]/\fQ w' wr.heap.size w'.heap.size (kF s0 key t).all [.slice A (kF s0 key t).all.length c])
    .rfl
    .exact λv x y ⟨g,A,c,e,hk,h⟩ hle=>⟨g,A,c,e,ak hk hle,fQ.ar.wide (fQ.ar.below h hle (am _)) (am _) hle.size⟩
    .intro x R Qx r;replace r:=ab r;obtain⟨A5,c5,rfl,ho⟩:=R.1 (by kernel_rfl);go_wp2;have ba:=av x.to (.cells #[.int .i64 s0,.slice A5 (kF s0 key t).all.length c5] 41);exact r.out _ _ ba ⟨_,_,_,rfl,bg.new _ _ _,fQ.ar.wide (fQ.ar.below ho ba (am _)) (am _) ba.size⟩
    intro u6;refine aQ ?_;intro w6 gZ xx cU R;dsimp only[dQ] at R;try rw[cU] at R
    clear cU xx;obtain⟨⟨g8,A8,c8,rfl,a8,o8⟩, -⟩:=R;simp only[List.drop];have z6:=gZ.size;have U:=n.out.below gZ;have aa:Hid (mE w6 wr.heap.size w6.heap.size (kF s0 key t) [.int .i64 s0,.slice A8 (kF s0 key t).all.length c8]):=ab ⟨_,rfl,by show cf s0;unfold cf;omega,o8⟩;have b9:=ab a8;have k:=ab U;have zb:=U.bl.size;clear n gZ o8 a8 U cm co dn HC;go_wp2_with(at_builtin;refine gX ?_);refine⟨?_,trivial⟩;refine iz mE.ar (by decide) (v:=.slice As s.sn.length cs) rfl (.tmp 72) (.tmp 77) 24 rfl aek (kF s0 key t) rfl k.out.os rfl b9.out rfl (by simp[Value.oneCell']) (show wr.heap.size<=w6.heap.size by omega) aa.out (am _) (by omega) (by omega) ?_;intro v9 Z o9 I c4;obtain⟨K,J,rfl⟩:=o9.form;rw[aE,mp] at o9;rw[aE,mp];have m:=k.out.os;have z9:=I.size;have bn:=k.out.gm1;have dD:=k.out.gm2;have q:=dJ m I k.out.m (by decide);have ds:Z.cell? ⟨E,1,none⟩=some (.slice As s.sn.length cs):=q.cell 1;have dK:=q.frozen 1;have mD:=q.bG 1 (.slice K (s.sn.length+1) J);simp only[dj,ge,io] at mD;have a5:af8 w (Z.setCell ⟨E,1,none⟩ (.slice K (s.sn.length+1) J)) (.slice A s.pk.length a) (.slice B s.sn.length b) (.slice C s.lg.length c) E (.slice Q o.length O) (.slice K (s.sn.length+1) J) (.slice Al s.lg.length cl) o (s.sn++[kF s0 key t]) s.lg (Z.setCell ⟨E,1,none⟩ (.slice K (s.sn.length+1) J)).heap.size:=
     ⟨cj (dJ m I k.out.k0 (by decide)) (p:=⟨E,1,none⟩) _ (by dsimp only;omega),cj (dJ m I k.out.k1 (by decide)) (p:=⟨E,1,none⟩) _ (by dsimp only;omega),mD,
      by simp only[bv];exact bF.ar.wide (cL bF.ar (jP m I bF.ar k.out.op (by decide)) q (by decide) 1 _) (am _) (by omega),
      by simp only[bv];exact cL bR.ar o9 q (by decide) 1 _,
      by simp only[bv];exact dH.ar.wide (cL dH.ar (jP m I dH.ar k.out.ol (by decide)) q (by decide) 1 _) (am _) (by omega),
      (k.out.bl.trans (I.below k.out.bl.size λi hi hs=>by have:=m.ob hs;omega)).setCell (by dsimp only;omega) _,bn,by simp only[bv];omega,am _⟩
    have a0:=ab a5;clear a5 m q;have cR:=mD.cell;clear mD o9 I c4 k aa b9;go_wp2_with(at_builtin;refine gX ?_);refine⟨?_,trivial⟩;obtain⟨W,bZ⟩:∃W,W=Z.setCell ⟨E,1,none⟩ (.slice K (s.sn.length+1) J):=⟨_,rfl⟩;have bO:W.heap.size=Z.heap.size:=by rw[bZ];simp only[bv]
    have e1:w6.heap.size<=W.heap.size:=by rw[bO];exact z9
    rw[<-bZ] at a0 cR ⊢;clear bZ;generalize hG:W.alloc (.cells #[.int .i64 u,.int .i64 s0] 65)=w11 at *;obtain⟨af,e9,q0,d5,d1⟩:=mB hG;clear hG;rw[bO] at q0;clear bO;have H:=a0.out.below af;have m:=H.ol;refine iz (bV.ar pB) (by decide) (v:=.slice Al s.lg.length cl) rfl (.tmp 81) (.tmp 85) 25 rfl aic (⟨u,s0⟩:Hd) rfl m rfl q0 rfl (by simp[Value.oneCell']) (show W.heap.size<=w11.heap.size from af.size) ⟨rfl,bq.out,by show cf s0;unfold cf;omega⟩ (am _) (by omega) (by omega) ?_;intro ev a9 X M dc;obtain⟨G,F,rfl⟩:=X.form;rw[aE,mp] at X;rw[aE,mp];have S:=dJ m M H.m (by decide);have V:=dJ m M H.k1 (by decide);have et:=S.cell;have eo:=S.frozen;have el:=V.cell;have ea:=V.frozen;have ay:=jP m M bF.ar H.op (by decide);have aZ:=jP m M bR.ar H.os (by decide);have ad:Below w.heap.size w a9:=H.bl.trans (M.below H.bl.size λi hi hs=>by have:=m.ob hs;omega);have ej:=M.size;have ew:=af.size;have HF:=ab (And.intro ay (And.intro aZ (And.intro X (And.intro ad (And.intro S V)))));clear ay aZ X ad S V m H a0 cR af q0 d5 d1 M dc;go_wp2;obtain⟨ay,aZ,X,ad,S,V⟩:=HF.out;have e8:=S.bG 2 (.slice G (s.lg.length+1) F);have b6:=cj V (p:=⟨E,2,none⟩) (.slice G (s.lg.length+1) F) (by dsimp only;omega);have k4:=((b6.bG 0 (.slice Q o.length O)).bG 1 (.slice K (s.sn.length+1) J)).bG 2 (.slice G (s.lg.length+1) F);simp only[dj,ge,io] at k4;have bp:=k4.cell;have bo:∀{β:Type} {D:gG β} {T:List TypeId} {y:β} {cs:List Value},dL D T->27∉T->D a9 w.heap.size a9.heap.size y cs->D ((((a9.setCell ⟨E,2,none⟩ (.slice G (s.lg.length+1) F)).setCell ⟨w.heap.size+1,0,none⟩ (.slice Q o.length O)).setCell ⟨w.heap.size+1,1,none⟩ (.slice K (s.sn.length+1) J)).setCell ⟨w.heap.size+1,2,none⟩ (.slice G (s.lg.length+1) F)) w.heap.size ((((a9.setCell ⟨E,2,none⟩ (.slice G (s.lg.length+1) F)).setCell ⟨w.heap.size+1,0,none⟩ (.slice Q o.length O)).setCell ⟨w.heap.size+1,1,none⟩ (.slice K (s.sn.length+1) J)).setCell ⟨w.heap.size+1,2,none⟩ (.slice G (s.lg.length+1) F)).heap.size y cs:=λ{_ _ _ _ _} hD hT hy=>by
     simp only[bv];exact cL hD (cL hD (cL hD (cL hD hy S hT 2 _) b6 hT 0 _) (b6.bG 0 _) hT 1 _) ((b6.bG 0 _).bG 1 _) hT 2 _
    refine pb (v:=.tuple #[.agg #[.slice Q o.length O,.slice K (s.sn.length+1) J,.slice G (s.lg.length+1) F],.bool true]) (by simp[results,results30,go_sem,bp]) rfl ⟨_,_,_,true,abH key s u t,rfl, ?_,.inl ⟨rfl,HY.out,rfl⟩,(((ad.setCell (by dsimp only;omega) _).setCell (by simp) _).setCell (by simp) _).setCell (by simp) _⟩;rw[dC.out];exact⟨bo bF.ar (by decide) (bF.ar.wide ay (am _) (by omega)),bo bR.ar (by decide) (bR.ar.wide aZ (am _) (by omega)),bo dH.ar (by decide) X⟩
   all_goals
    have HN:Hid (¬afv key s t):=ab λh=>by have:=b2.out.1 h;omega
    first|have t3:=dk (show(20:Int)<(o.length:Int) by omega)|have t3:=da (show ¬((20:Int)<(o.length:Int)) by omega)
    first|have t4:=dk (show 99<no-1 by omega)|(try have t4:=da (show ¬(99<no-1) by omega))
    first|have t5:=dk (show 20<s0 by omega)|(try have t5:=da (show ¬(20<s0) by omega))
    try have t6:=dk (show(9:Int)<=(s.lg.length:Int) by omega)
    clear hc;clear b2;go_wp2;have c7:=h.below n.out.bl aV;refine(fC s _ _ _ wr lo hi c7.l (by have:=n.out.bl.size;omega) (by omega)).mono ?_;rintro e w7 ⟨v1,v2,v3,rfl,oc,b7⟩;obtain⟨A1,cv,rfl⟩:=oc.pk.form;obtain⟨A2,c9,rfl⟩:=oc.sn.form;obtain⟨A3,cD,rfl⟩:=oc.lg.form;have kr:=ak n.out.k1 b7;have ek:=kr.cell;have e5:=kr.frozen;have z7:=n.out.bl.size;have e0:=ag n.out.bl b7;clear cm dn c7;go_wp2;have k4:=((kr.bG 0 (.slice A1 s.pk.length cv)).bG 1 (.slice A2 s.sn.length c9)).bG 2 (.slice A3 s.lg.length cD);simp only[dj,ge,io] at k4;have bp:=k4.cell;refine pb (v:=.tuple #[.agg #[.slice A1 s.pk.length cv,.slice A2 s.sn.length c9,.slice A3 s.lg.length cD],.bool false]) (by simp[results,results30,go_sem,bp]) rfl ⟨_,_,_,false,s,rfl, ?_,.inr ⟨rfl,HN.out,rfl⟩,((e0.setCell (by simp) _).setCell (by simp) _).setCell (by simp) _⟩;simp only[bv];have e3:=n.out.k1.lt;exact oc.go (λb ex e4=>by
     have bc:b≠w.heap.size+1:=by omega
     rw[jn _ _ _ _ bc,jn _ _ _ _ bc,jn _ _ _ _ bc]) (by omega) (am _)
end
section
variable {β:Bool}
open Go.RowKit
inductive eL:dy->Prop
 |nil:eL ⟨[],[],[]⟩
 |save {s:dy} {b:Int} {t:List Nd}:eL s->b=1\/b=2->kV t->afv 7 s t->eL (abH 7 s b t)
structure WfS (s:dy):Prop where
 pl:s.pk.length<=20
 pn:∀p∈s.pk,(1<=p.no/\p.no<=99)/\p.its.length<=4/\∀x∈p.its,x.b.size<=8
 sl:s.sn.length=s.lg.length
 sn:∀x∈s.sn,(1<=x.no/\x.no<=20)/\x.all.length<=6/\∀y∈x.all,y.p.size<=3/\y.ns.length<=40
 ll:s.lg.length<=9
 lg:∀h∈s.lg,(1<=h.b/\h.b<=2)/\1<=h.s/\h.s<=20
def jQ(key:Int):∀(n:Nat) (no:Int) (l:List ByteArray),l.length<=n->∀p∈fF key no l,no<=p.no/\p.no<no+(fF key no l).length/\∃c:List ByteArray,p.its=gJ key c/\1<=c.length/\c.length<=4/\∀x∈c,x∈l
 |0,no,l,h,p,a=>by rw[qh.1 (by omega:l.length=0),iK] at a;cases a
 |n+1,no,l,h,p,a=>by
  rcases pv l.length with d|d
  .rw[qh.1 d,iK] at a;cases a
  .rw[mW key no d] at a ⊢;rw[fi];rcases mu.1 a with rfl|a
   .exact⟨vC _,by show no<_;omega,l.take 4,rfl,by rw[ef];omega,by rw[ef];omega,λx b=>qf b⟩
   .obtain⟨k,j,c,e,g,i,f⟩:=jQ key n (no+1) (l.drop 4) (by rw[qj];omega) p a;exact⟨by omega,by omega,c,e,g,i,λx b=>uX (f x b)⟩
def amF{l:List Pk}(h:∀p∈l,1<=p.no):1<=fh l:=by
 unfold fh;cases a:l.getLast? with
 |none=>show(1:Int)<=0+1;omega
 |some p=>have:=h p (wO a);show(1:Int)<=p.no+1;omega
def adI:∀(l:List Hd) (a:Int),1<=a->1<=l.foldl (λa h=>max a (h.s+1)) a
 |[],a,ha=>ha
 |x::l,a,ha=>adI l (max a (x.s+1)) (by omega)
def amG(s:dy):1<=eB s:=by
 have a:1<=gj s.lg:=adI s.lg 1 (by omega);unfold eB;cases s.sn.getLast? with
 |none=>exact a
 |some x=>show 1<=max (gj s.lg) (x.no+1);omega
def ake{s:ByteArray}(h:bA (bs s)):(jv key s).b.size<=8:=by
 show(rR (gT (bs s))).size<=8;rw[<-aM,ahJ,ajg h];exact aau.1
def aaE{t:List Nd}(h:kV t):∀x∈t,dN x.b=true:=λx a=>(h.1 x a).2
def WfS.saved{b:Int}{t:List Nd}(h:WfS s)(D:b=1\/b=2)(j:kV t)(A:afv 7 s t):WfS (abH 7 s b t):=by
 obtain⟨r,F,n,E⟩:=A;have i:=amG s;refine⟨r,λp d=> ?_, ?_,λx a=> ?_, ?_,λy g=> ?_⟩
 .rcases mx.1 d with d|d
  .exact h.pn p d
  .obtain⟨k,o,c,m,v,w,B⟩:=jQ 7 _ _ _ (am _) p d;have C:=amF (l:=s.pk) λp d=>(h.pn p d).1.1;refine⟨⟨by omega, ?_⟩,by rw[m,aaC];exact w,λx a=> ?_⟩
   .have e:(adl 7 s t).length=(fF 7 (fh s.pk) (aaM 7 (oQ s.pk) t)).length:=rfl;omega
   .rw[m] at a;obtain⟨q,u,rfl⟩:=adi.1 a;exact ake (mf (aaE j) q (B q u))
 .show(s.sn++[_]).length=(s.lg++[_]).length;rw[aE,aE,h.sl];rfl
 .rcases mx.1 a with a|a
  .exact h.sn x a
  .rw[mw.1 a];refine⟨⟨i,n⟩,by show(t.map (gh 7)).length<=6;rw[qg];exact j.2.1,λy g=> ?_⟩;obtain⟨f,z,rfl⟩:=pe.1 g;have k:=j.1 f z;have o:=lX k.1;have m:=acI f.b;have v:=(jO k.2).1;exact⟨by show f.p.size<=3;omega,by show((im f.b).map _).length<=40;rw[qg];omega⟩
 .show(s.lg++[_]).length<=9;rw[aE,mp];omega
 .rcases mx.1 g with g|g
  .exact h.lg y g
  .rw[mw.1 g];exact⟨by show 1<=b/\b<=2;omega,i,n⟩
def eL.wf(h:eL s):WfS s:=by
 induction h with
 |nil=>exact⟨eg _,λp a=>(by cases a),rfl,λp a=>(by cases a),eg _,λp a=>(by cases a)⟩
 |save _ e d c b=>exact b.saved e d c
def jy{a:Type}{f:a->Nat}{b:Nat}:∀{l:List a},(∀x∈l,f x<=b)->eu f l<=l.length*(b+1)
 |[],_=>pa (uW _).symm
 |x::l,h=>by
  have g:=h x (by simp);have d:=jy (f:=f) (b:=b) (l:=l) λy c=>h y (by simp[c]);have e:eu f (x::l)=eu f l+1+f x:=by unfold eu;simp only[fi,ru,vJ];omega
  rw[e,fi,rv];omega
def WfS.small(h:WfS s):amB 1000000 s:=⟨λp a=>by have:=(h.pn p a).1;omega,λx c=>by have:=(h.sn x c).1;omega,λy b=>by have:=(h.lg y b).2;omega⟩
def akf:∀l:List Pk,(∀p∈l,p.its.length<=4)->(dw l).length<=l.length*4
 |[],_=>eg _
 |p::l,hl=>by
  have b:=akf l λq a=>hl q (by simp[a]);have d:=hl p (by simp);show(aaa p++dw l).length<=_;have c:(aaa p).length=p.its.length:=qg _;rw[aE,fi,rv];omega
def WfS.dw(h:WfS s):(dw s.pk).length<=10000:=by
 have b:=akf s.pk λp a=>(h.pn p a).2.1;have:=h.pl;omega
def WfS.auA(h:WfS s):kQ s<=10000:=by
 have e:eu bPk s.pk<=s.pk.length*(36+1):=jy λp b=>by
  have c:eu bIt p.its<=p.its.length*(8+1):=jy λx a=>(h.pn p b).2.2 x a;have:=(h.pn p b).2.1;show eu bIt p.its<=36;omega
 have f:eu bSn s.sn<=s.sn.length*(264+1):=jy λx a=>by
  have c:eu bLs x.all<=x.all.length*(43+1):=jy λy d=>by
   have:=(h.sn x a).2.2 y d;show y.p.size+y.ns.length<=43;omega
  have:=(h.sn x a).2.1;show eu bLs x.all<=264;omega
 have:=h.pl;have:=h.sl;have:=h.ll;unfold kQ;omega
end
section
variable {β:Bool}
open Go.RowKit
def pkd(p:Pk):iY:=(p.no,p.its.map λx=>(x.n,x.b))
def kH(l:List Pk):List iY:=l.map pkd
open Classical in
noncomputable def jz(l:List ByteArray):ByteArray×Bool:=if dN (rR (iV l))=true/\im (rR (iV l))=l then(rR (iV l),true) else(⟨#[]⟩,false)
def amH(key:Int)(l:List iY)(ns:List Int):Prop:=∀n∈ns,(cP key l n).2=true
noncomputable def oT(key:Int)(l:List iY)(ns:List Int):List ByteArray:=ns.map λn=>(cP key l n).1
open Classical in
noncomputable def jA(key:Int)(l:List iY)(x:Ls):Option Nd:=if amH key l x.ns/\(jz (oT key l x.ns)).2=true then some ⟨x.p,(jz (oT key l x.ns)).1⟩ else none
noncomputable def fY(key:Int)(l:List iY)(xs:List Ls):List Nd:=xs.filterMap (jA key l)
def aaN(g f:ByteArray):Bool:=(bs g++[47]).isPrefixOf (bs f)
def agT(t:List Nd):Prop:=t.length<=6/\∀i x,t[i]?=some x->af1 x/\(∀y,0<i->t[i-1]?=some y->Op.bytesLess y.p.toList x.p.toList=true)/\∀k y,k<i->t[k]?=some y->aaN y.p x.p=false
open Classical in
noncomputable def ig(key:Int)(l:List iY)(xs:List Ls):Option (List Nd):=if(∀x∈xs,(jA key l x).isSome=true)/\agT (fY key l xs) then some (fY key l xs) else none
noncomputable def fA(key:Int)(s:dy)(no:Int):Option (List Nd):=match s.sn.find? (λx=>x.no ==no) with
 |some x=>ig key (kH s.pk) x.all
 |none=>none
def nS{key nm:Int}:∀{l:List iY},(cP key l nm).2=true↔∃p∈l,(iH key p.2 nm).2=true
 |[]=>by simp[cP]
 |p::l=>by
  show(if(iH key p.2 nm).2=true then((iH key p.2 nm).1,true) else cP key l nm:ByteArray×Bool).2=true↔_;by_cases h:(iH key p.2 nm).2=true
  .rw[du h];exact⟨λ_=>⟨p,by simp,h⟩,λ_=>rfl⟩
  .rw[be h,nS];constructor
   .rintro⟨q,a,b⟩;exact⟨q,by simp[a],b⟩
   .rintro⟨q,a,b⟩;rcases mu.1 a with rfl|a
    .exact absurd b h
    .exact⟨q,a,b⟩
def afw{nm:Int}:∀{l:List (Int×ByteArray)} {k:Nat} {x:Int×ByteArray},eH nm l=k->l[k]?=some x->x.1=nm
 |[],k,x,_,h=>by simp at h
 |y::l,k,x,h,hx=>by
  have h:(if y.1=nm then 0 else let j:=eH nm l;if j<0 then -1 else j+1:Int)=k:=h;by_cases a:y.1=nm
  .rw[du a] at h;obtain rfl:k=0:=by omega
   simp at hx;subst hx;exact a
  .rw[be a] at h;by_cases b:eH nm l<0
   .have h:(if eH nm l<0 then -1 else eH nm l+1:Int)=k:=h;rw[du b] at h;omega
   .have h:(if eH nm l<0 then -1 else eH nm l+1:Int)=k:=h;rw[be b] at h;obtain⟨m,rfl⟩:∃m,k=m+1:=⟨k-1,by omega⟩;exact afw (l:=l) (k:=m) (by omega) (by simpa using hx)
def aog{nm : Int}{l:List (Int×ByteArray)}(h:eH nm l=k)(a:l[k]?=some x):iH key l nm=ik key x:=by
 unfold iH;rw[h,show((k:Nat):Int).toNat=k from rfl,a];show(if((k:Nat):Int)<0 then _ else _)=_;rw[be (by omega)]
def apW{nm : Int}{l:List (Int×ByteArray)}(h:eH nm l=-1):iH key l nm=(⟨#[]⟩,false):=by
 unfold iH;rw[h];split
 .rw[du (by omega)]
 .rfl
def afx{nm : Int}{l:List (Int×ByteArray)}(h:(iH key l nm).2=true):∃(k:Nat) (x:Int×ByteArray),eH nm l=k/\l[k]?=some x/\x.1=nm/\iH key l nm=ik key x:=by
 rcases acA nm l with a|⟨k,x,a,b⟩
 .rw[apW a] at h;cases h
 .exact⟨k,x,a,b,afw a b,aog a b⟩
def amI(h:(ik key x).2=true):bA (bs (ik key x).1)/\bN key (bs (ik key x).1)=x.1:=by
 unfold ik at h ⊢;split
 .rename_i a;exact⟨agE a.1,a.2⟩
 .rename_i a;rw[be a] at h;cases h
def amJ{nm : Int}{l:List (Int×ByteArray)}(h:(iH key l nm).2=true):bA (bs (iH key l nm).1)/\bN key (bs (iH key l nm).1)=nm:=by
 obtain⟨k,x,d,c,b,a⟩:=afx h;rw[a] at h ⊢;have:=amI h;exact⟨this.1,this.2.trans b⟩
def mn{key nm:Int}:∀{l:List iY},(cP key l nm).2=true->bA (bs (cP key l nm).1)/\bN key (bs (cP key l nm).1)=nm
 |[],h=>by cases h
 |p::l,h=>by
  have e:cP key (p::l) nm=if(iH key p.2 nm).2=true then((iH key p.2 nm).1,true) else cP key l nm:=rfl
  rw[e] at h ⊢;by_cases a:(iH key p.2 nm).2=true
  .rw[du a];exact amJ a
  .rw[be a] at h ⊢;exact mn h
def asU{x y k m r:Int}(g:r+999999999989*k=15*x+55433)(l:r+999999999989*m=15*y+55433)(j:0<=x/\x<282429536481)(i:0<=y/\y<282429536481):x=y:=by
 have a:15*(x-y)=999999999989*(k-m):=by
  rw[Int.mul_sub 999999999989];generalize 999999999989*k=A at *;generalize 999999999989*m=B at *;omega
 clear g l;generalize k-m=d at *;have f:x-y<282429536481/\ -282429536481<x-y:=by clear a;omega
 have e:x-y=0->x=y:=by clear a;omega
 clear j i;generalize x-y=z at *;have c:d<5:=by
  refine Int.lt_of_not_ge λh=> ?_;have:=vk h (show(0:Int)<=999999999989 by decide);rw[<-a] at this;clear a;omega
 have b : -5<d:=by
  refine Int.lt_of_not_ge λh=> ?_;have:=vk h (show(0:Int)<=999999999989 by decide);rw[<-a] at this;clear a;omega
 have:d=-4\/d=-3\/d=-2\/d=-1\/d=0\/d=1\/d=2\/d=3\/d=4:=by clear a f e;omega
 rcases this with rfl|rfl|rfl|rfl|rfl|rfl|rfl|rfl|rfl<;>(first|(exact e (by omega))|(exfalso;clear c b f e;omega))
def asV{x y:Int}(b:0<=x/\x<282429536481)(d:0<=y/\y<282429536481)(h:(15*x+55433) % 999999999989=(15*y+55433) % 999999999989):x=y:=by
 have a:=wG (15*x+55433) 999999999989;have c:=wG (15*y+55433) 999999999989;rw[h] at a;exact asU a c b d
def abI{a b:List Nat}(c:bA a)(d:bA b)(h:bN 7 a=bN 7 b):a=b:=by
 have i:=acj c;have f:=acj d;have e:∀l,bN 7 l=(15*(code l:Int)+55433) % 999999999989:=λl=>by
  unfold bN;rw[show(code l:Int)*(2*7+1)+7*7919=15*(code l:Int)+55433 by clear h i f;generalize (code l:Int)=z;omega]
 rw[e,e] at h;have j:(code a:Int)<282429536481:=by clear h e;omega
 have g:(code b:Int)<282429536481:=by clear h e;omega
 have k:(code a:Int)=code b:=asV ⟨Int.natCast_nonneg _,j⟩ ⟨Int.natCast_nonneg _,g⟩ h;refine apa c.2 d.2 ?_;show code a=code b;exact Int.ofNat_inj.1 k
def apX{nm:Int}{l : List iY}(h:(cP 7 l nm).2=true)(e:(cP 7 l' nm).2=true):(cP 7 l nm).1=(cP 7 l' nm).1:=by
 obtain⟨a,b⟩:=mn h;obtain⟨c,d⟩:=mn e;exact nt (abI a c (b.trans d.symm))
def apY{l : List iY}(c:∀nm,(cP 7 l' nm).2=true->(cP 7 l nm).2=true){b:List Int}(h:amH 7 l' b):amH 7 l b/\oT 7 l b=oT 7 l' b:=
 ⟨λn a=>c n (h n a),vu λn a=>apX (c n (h n a)) (h n a)⟩
def amK{l : List iY}(d:∀nm,(cP 7 l' nm).2=true->(cP 7 l nm).2=true){x:Ls}{y:Nd}(h:jA 7 l' x=some y):jA 7 l x=some y:=by
 unfold jA at h ⊢;split at h
 .rename_i b;obtain⟨c,a⟩:=apY d b.1;rw[du ⟨c,by rw[a];exact b.2⟩,a];exact h
 .cases h
def adJ{l l':List iY}(e:∀nm,(cP 7 l' nm).2=true->(cP 7 l nm).2=true):∀{xs:List Ls},(∀x∈xs,(jA 7 l' x).isSome=true)->(∀x∈xs,(jA 7 l x).isSome=true)/\fY 7 l xs=fY 7 l' xs
 |[],_=>⟨λx g=>(by cases g),rfl⟩
 |x::xs,h=>by
  obtain⟨y,d⟩:=rM.1 (h x (by simp));have b:=amK e d;obtain⟨f,c⟩:=adJ e (xs:=xs) λz a=>h z (by simp[a]);refine⟨λz a=> ?_, ?_⟩
  .rcases mu.1 a with rfl|a
   .rw[b];rfl
   .exact f z a
  .unfold fY at c ⊢;rw[vx,vx,d,b,c]
def amL{l : List iY}(d:∀nm,(cP 7 l' nm).2=true->(cP 7 l nm).2=true){xs:List Ls}{t:List Nd}(h:ig 7 l' xs=some t):ig 7 l xs=some t:=by
 unfold ig at h ⊢;split at h
 .rename_i b;obtain⟨c,a⟩:=adJ d b.1;rw[du ⟨c,by rw[a];exact b.2⟩,a];exact h
 .cases h
def amM{x:It}:pg key x↔(ik key (x.n,x.b)).2=true:=by
 have e:∀s,(fN s).2=true↔oA (bs s)=some (bs (fN s).1):=λs=>by
  unfold fN oA;rw[ahK];by_cases h:bA (vP (bs s))/\gT (vP (bs s))=bs s
  .rw[du h,du h];simp only[tJ];rw[ahK]
  .rw[be h,be h];simp
 unfold pg ik;constructor
 .rintro⟨p,c,f⟩;have d:(fN x.b).2=true:=by
   unfold fN;rw[ahK];unfold oA at c;split at c
   .rename_i b;rw[du b]
   .cases c
  have a:=(e x.b).1 d;rw[c] at a;have a:=dq a;rw[du ⟨d,by rw[<-a];exact f⟩]
 .intro h;split at h
  .rename_i b;exact⟨_,(e x.b).1 b.1,b.2⟩
  .cases h
def asW{s:ByteArray}(h:bA (bs s)):pg key (jv key s):=⟨bs s,by show oA (bs (rR (gT (bs s))))=_;rw[ahJ,ajh h],rfl⟩
def aoh(p:Pk)(i:Nat):(pkd p).2[i]?=(p.its[i]?).map λx=>(x.n,x.b):=by show(p.its.map _)[i]?=_;rw[qO]
def afy{nm : Int}{p:Pk}(c:∀x∈p.its,pg key x)(h:eH nm (pkd p).2=k):(iH key (pkd p).2 nm).2=true:=by
 rcases acA nm (pkd p).2 with b|⟨e,x,b,a⟩
 .omega
 .rw[aog b a];rw[aoh] at a;obtain⟨y,d,rfl⟩:=jt.1 a;exact amM.1 (c y (db d))
def akg{nm:Int}:∀{l a:List (Int×ByteArray)},l.map (·.1)=a.map (·.1)->eH nm l=eH nm a
 |[],[],_=>rfl
 |[],_::_,h=>by simp at h
 |_::_,[],h=>by simp at h
 |x::l,y::a,h=>by
  simp only[ru,ql] at h;show(if x.1=nm then 0 else let j:=eH nm l;if j<0 then -1 else j+1:Int)=(if y.1=nm then 0 else let j:=eH nm a;if j<0 then -1 else j+1:Int);rw[h.1,akg h.2]
def apZ{β : Type}(g:V->β)(f:V->V)(c:∀x,g (f x)=g x)(l:List V)(i:Nat):(sG l i f).map g=l.map g:=by
 unfold sG;split
 .rename_i x b;apply tN;intro j;rw[qO,qO];by_cases a:i=j
  .subst a;rw[rB (aB b),b];simp[c]
  .rw[rT a]
 .rfl
def avU(m:∀p∈s.pk,∀x∈p.its,pg 7 x)(L:jw)(nm:Int)(h:(cP 7 (kH (dM s L).pk) nm).2=true):(cP 7 (kH s.pk) nm).2=true:=by
 have same:(dM s L).pk=s.pk->(cP 7 (kH s.pk) nm).2=true:=λe=>by rw[e] at h;exact h
 by_cases l:L.k=1
 .rw[aag l] at h;obtain⟨p,c,f⟩:=nS.1 h;refine nS.2 ⟨p, ?_,f⟩;obtain⟨q,g,rfl⟩:=pe.1 c;exact ue ((rI.1 g).1)
 by_cases d:L.k=2
 .by_cases b:0<=L.n/\L.n<=s.lg.length
  .exact same (by rw[oP d b])
  .exact same (by rw[mS d b])
 by_cases j:L.k=3
 .rw[abD j] at h;obtain⟨p,c,f⟩:=nS.1 h;obtain⟨q,g,rfl⟩:=pe.1 c;obtain⟨r,a,rfl⟩:=pe.1 g;obtain⟨k,x,n, -, -, -⟩:=afx f;refine nS.2 ⟨pkd r,ue a,afy (m r a) (k:=k) ?_⟩;rw[<-n];refine akg ?_;show(r.its.map _).map _=((fS L r).its.map _).map _;rw[ul,ul];unfold fS;split
  .exact(apZ (λx:It=>x.n) (λx=>(⟨x.n,L.b⟩:It)) (λ_=>rfl) r.its L.m.toNat).symm
  .rfl
 by_cases i:L.k=4
 .by_cases b:0<=L.n/\L.n<s.lg.length
  .exact same (by rw[abE i b])
  .exact same (by rw[mU i b])
 exact same (by rw[abF l d j i])
def eL.items(h:eL s):∀p∈s.pk,∀x∈p.its,pg 7 x:=by
 induction h with
 |nil=>exact λp a=>(by cases a)
 |save _ l d k i=>
  intro p a x b;rcases mx.1 a with a|a
  .exact i p a x b
  .obtain⟨n,j,c,e,m,o,f⟩:=jQ 7 _ _ _ (am _) p a;rw[e] at b;obtain⟨q,g,rfl⟩:=adi.1 b;exact asW (mf (aaE d) q (f q g))
def eL.one(h:eL s):∀p∈s.pk,1<=p.its.length:=by
 induction h with
 |nil=>exact λp a=>(by cases a)
 |save _ m l i b=>
  intro p a;rcases mx.1 a with a|a
  .exact b p a
  .obtain⟨j,g,c,e,d,k,f⟩:=jQ 7 _ _ _ (am _) p a;rw[e,aaC];exact d
def adK{e:Type}(q:e->Bool)(f:Int->Bool)(a:e->Int)(n:Int)(i:∀x,q x=f (a x)):∀{l:List e} {x:e},(l.filter q).find? (λx=>a x ==n)=some x->l.find? (λx=>a x ==n)=some x
 |[],x,h=>by simp at h
 |y::l,x,h=>by
  rw[rZ];by_cases d:a y=n
  .rw[show(a y ==n)=true from nF.2 d];by_cases c:q y=true
   .rw[se,du c,rZ,show(a y ==n)=true from nF.2 d] at h;exact h
   .exfalso;have j:=List.mem_of_find?_eq_some h;have g:=List.find?_some h;have b:=(rI.1 j).2;rw[i] at b c;rw[nF.1 g] at b;rw[d] at c;exact c b
  .rw[show(a y ==n)=false from de.2 d];refine adK q f a n i (l:=l) ?_;by_cases c:q y=true
   .rw[se,du c,rZ,show(a y ==n)=false from de.2 d] at h;exact h
   .rw[se,be c] at h;exact h
def azf(L:jw){x:Sn}(h:(dM s L).sn.find? (λx=>x.no ==key)=some x):s.sn.find? (λx=>x.no ==key)=some x:=by
 by_cases d:L.k=1
 .rw[aag d] at h;exact h
 by_cases b:L.k=2
 .by_cases a:0<=L.n/\L.n<=s.lg.length
  .rw[oP b a] at h;exact adK (λx:Sn=>!((s.lg.drop L.n.toNat).any λh=>h.s ==x.no)) (λm=>!((s.lg.drop L.n.toNat).any λh=>h.s ==m)) (λx:Sn=>x.no) key (λ_=>rfl) h
  .rw[mS b a] at h;exact h
 by_cases e:L.k=3
 .rw[abD e] at h;exact h
 by_cases c:L.k=4
 .by_cases a:0<=L.n/\L.n<s.lg.length
  .rw[abE c a] at h;exact h
  .rw[mU c a] at h;exact h
 rw[abF d b e c] at h;exact h
def BB(h:eL s)(L:jw){t:List Nd}(a:fA 7 (dM s L) key=some t):fA 7 s key=some t:=by
 unfold fA at a ⊢;split at a
 .rename_i x b;rw[azf L b];exact amL (avU h.items L) a
 .cases a
end
section
variable {β:Bool}
open Go.RowKit Go.Shelf
attribute [local go_sem] Oper.semAt_some
def KpB(n₀ Bs:Nat)(A B:World):Prop:=Below n₀ A B/\B.heap[Bs]?=A.heap[Bs]?
def KpB.refl{n₀ : Nat}{A:World}:KpB n₀ Z A A:=⟨fd _ _,rfl⟩
def KpB.t{n₀ : Nat}{A B C:World}(h:KpB n₀ Z A B)(k:KpB n₀ Z B C):KpB n₀ Z A C:=⟨h.1.trans k.1,k.2.trans h.2⟩
end
section
variable {β:Bool}
open Go.RowKit
def aBH(x:Hd):Prop:=(1<=x.b/\x.b<=2)/\1<=x.s/\x.s<=20
end
section
variable {β:Bool}
open Go.RowKit
def mX(l:List Int)(g p s hi:Nat)(w:World)(v:Rd w s hi g l p)(x:p<=100000) :
  Calls (ah β) 32 #[.pointer (some ⟨g,0,none⟩)] w (apF w s hi g l p):=by
 go_enter Ah,ntmps32;go_wp2;refine(di _ _ _ _ _ _ 40 v (by omega)).mono ?_;rintro e a ⟨m,rfl,⟨_,y⟩,q,o⟩;by_cases r:m=0
 .have t:(m ==0)=true:=nF.2 r;go_wp2;have rl:dE (a.alloc (.cells #[.string ⟨#[]⟩,.string ⟨#[102]⟩,.string ⟨#[97,47]⟩,.string ⟨#[97,98]⟩,.string ⟨#[97,47,98,47,99]⟩,.string ⟨#[47,97]⟩] 9)) a.heap.size (a.alloc (.cells #[.string ⟨#[]⟩,.string ⟨#[102]⟩,.string ⟨#[97,47]⟩,.string ⟨#[97,98]⟩,.string ⟨#[97,47,98,47,99]⟩,.string ⟨#[47,97]⟩] 9)).heap.size [⟨#[]⟩,⟨#[102]⟩,⟨#[97,47]⟩,⟨#[97,98]⟩,⟨#[97,47,98,47,99]⟩,⟨#[47,97]⟩] [.slice (some ⟨a.heap.size,0,none⟩) 6 6]:=
   (aJ.deep (F:=iJ) (acB (F:=iJ) (bg.new a 9 #[.string ⟨#[]⟩,.string ⟨#[102]⟩,.string ⟨#[97,47]⟩,.string ⟨#[97,98]⟩,.string ⟨#[97,47,98,47,99]⟩,.string ⟨#[47,97]⟩]) rfl (am _) rfl (by simp[maxLen])) (oJ (by decide)) a.heap.size).sl (am _)
  have n:=(q).alloc (.cells #[.string ⟨#[]⟩,.string ⟨#[102]⟩,.string ⟨#[97,47]⟩,.string ⟨#[97,98]⟩,.string ⟨#[97,47,98,47,99]⟩,.string ⟨#[47,97]⟩] 9);have d:=(o).alloc (.cells #[.string ⟨#[]⟩,.string ⟨#[102]⟩,.string ⟨#[97,47]⟩,.string ⟨#[97,98]⟩,.string ⟨#[97,47,98,47,99]⟩,.string ⟨#[47,97]⟩] 9);generalize (a).alloc (.cells #[.string ⟨#[]⟩,.string ⟨#[102]⟩,.string ⟨#[97,47]⟩,.string ⟨#[97,98]⟩,.string ⟨#[97,47,98,47,99]⟩,.string ⟨#[47,97]⟩] 9)=w3 at *;refine(aib _ (by simp) _ _ _ _ _ _ _ _ w3 n (by omega) rl).mono ?_;rintro e u ⟨k,f,rfl,c,b⟩;have j:(k).size<=9:=aia (by decide) k f;replace d:=(d).trans b λi _ e=>e;go_wp2;go_ret;exact⟨k,_,rfl,j,c,by omega,d⟩
 .have t:(m ==0)=false:=de.2 r;go_wp2;have rl:dE (a.alloc (.cells #[.string ⟨#[97]⟩,.string ⟨#[98]⟩,.string ⟨#[99,47,97]⟩,.string ⟨#[99,47,98]⟩,.string ⟨#[100,47,97]⟩,.string ⟨#[101]⟩,.string ⟨#[97,47,98]⟩,.string ⟨#[100]⟩] 9)) a.heap.size (a.alloc (.cells #[.string ⟨#[97]⟩,.string ⟨#[98]⟩,.string ⟨#[99,47,97]⟩,.string ⟨#[99,47,98]⟩,.string ⟨#[100,47,97]⟩,.string ⟨#[101]⟩,.string ⟨#[97,47,98]⟩,.string ⟨#[100]⟩] 9)).heap.size [⟨#[97]⟩,⟨#[98]⟩,⟨#[99,47,97]⟩,⟨#[99,47,98]⟩,⟨#[100,47,97]⟩,⟨#[101]⟩,⟨#[97,47,98]⟩,⟨#[100]⟩] [.slice (some ⟨a.heap.size,0,none⟩) 8 8]:=
   (aJ.deep (F:=iJ) (acB (F:=iJ) (bg.new a 9 #[.string ⟨#[97]⟩,.string ⟨#[98]⟩,.string ⟨#[99,47,97]⟩,.string ⟨#[99,47,98]⟩,.string ⟨#[100,47,97]⟩,.string ⟨#[101]⟩,.string ⟨#[97,47,98]⟩,.string ⟨#[100]⟩]) rfl (am _) rfl (by simp[maxLen])) (oJ (by decide)) a.heap.size).sl (am _)
  have n:=(q).alloc (.cells #[.string ⟨#[97]⟩,.string ⟨#[98]⟩,.string ⟨#[99,47,97]⟩,.string ⟨#[99,47,98]⟩,.string ⟨#[100,47,97]⟩,.string ⟨#[101]⟩,.string ⟨#[97,47,98]⟩,.string ⟨#[100]⟩] 9);have d:=(o).alloc (.cells #[.string ⟨#[97]⟩,.string ⟨#[98]⟩,.string ⟨#[99,47,97]⟩,.string ⟨#[99,47,98]⟩,.string ⟨#[100,47,97]⟩,.string ⟨#[101]⟩,.string ⟨#[97,47,98]⟩,.string ⟨#[100]⟩] 9);generalize (a).alloc (.cells #[.string ⟨#[97]⟩,.string ⟨#[98]⟩,.string ⟨#[99,47,97]⟩,.string ⟨#[99,47,98]⟩,.string ⟨#[100,47,97]⟩,.string ⟨#[101]⟩,.string ⟨#[97,47,98]⟩,.string ⟨#[100]⟩] 9)=w3 at *;refine(aib _ (by simp) _ _ _ _ _ _ _ _ w3 n (by omega) rl).mono ?_;rintro e u ⟨k,f,rfl,c,b⟩;have j:(k).size<=9:=aia (by decide) k f;replace d:=(d).trans b λi _ e=>e;go_wp2;go_ret;exact⟨k,_,rfl,j,c,by omega,d⟩
def asX(w:World)(lo hi g:Nat)(l:List Int)(p:Nat)(e:Ending)(w':World):Prop:=∃s q,e=.returned (.string s)/\s.size<=1000/\Rd w' lo hi g l q/\q<=p+30/\bj (λb=>b=g) w w'
def acO(a b:ByteArray):(a++b).size=a.size+b.size:=by rw[<-aM,iQ,aE,aM,aM]
def asY(w:World)(n:Int):∃t:ByteArray,t.size=1/\Sem.run (ah β) (convert 22 9 (.slice (some ⟨w.heap.size,0,none⟩) 1 1)) (w.alloc (.cells #[.int .u8 n] 5))=.ok (.string t) (w.alloc (.cells #[.int .u8 n] 5)):=by
 refine⟨([n].foldl (λr n=>r.push (UInt8.ofNat n.toNat)) ByteArray.empty),rfl, ?_⟩;rw[run_convert_bytes_string _ _ _ 5 _ _ _ xj qU5 qU9];refine run_bytesToString _ _ 1 1 [n] ?_;have c:=(bg.new w 5 #[.int .u8 n]).cell 0;refine run_loadCells_list (a:=⟨w.heap.size,0,none⟩) (cs:=[.int .u8 n]) (w:=w.alloc (.cells #[.int .u8 n] 5)) (P:=(ah β)) (λj v b=> ?_)
 match j,b with
 |0,b=>
  cases b;exact c
def adL(l:List Int)(g p V hi:Nat)(w:World)(hr:Rd w V hi g l p)(hp:p<=100000) :
  Calls (ah β) 33 #[.pointer (some ⟨g,0,none⟩)] w (asX w V hi g l p):=by
 go_enter Ag,ntmps33;go_wp2;refine(di _ _ _ _ _ _ 5 hr (by omega)).mono ?_;rintro e w2 ⟨m,rfl,⟨_,hm⟩,Q,T⟩;have al:=hm (by omega);obtain⟨mm,rfl⟩:=qn (show 0<=m by omega);clear hm;go_wp2;go_loopw [3,4] (λtt H wr=>∃(j q:Nat) (x:ByteArray),j<=4/\H=.int .i64 j/\tt=.string x/\x.size+9*j<=36/\Rd wr V hi g l q/\q+j<=p+5/\bj (λb=>b=g) w wr) (λ_ H _=>(intOf H).toNat)
 case atStart=>exact⟨mm,_,⟨#[]⟩,by omega,rfl,rfl,by show 0+_<=_;omega,Q,by omega,T⟩
 case round=>
  clear Q T;obtain⟨j,q,x,hj,rfl,rfl,hx,rd,U⟩:=hrel;obtain⟨ao,U⟩:=U;by_cases h0:j=0
  .subst h0;go_wp2;refine(di _ _ _ _ _ _ 4 rd (by omega)).mono ?_;rintro e w3 ⟨m2,rfl,⟨_,a7⟩,r,A⟩;clear a7;have E:=U.trans A λi _ e=>e;have a4:x.size<=60:=by omega
   have ad:x.size<=36:=by omega
   clear rd A hx;by_cases X:m2=0
   .have t1:(m2 ==0)=true:=nF.2 X;clear X;go_wp2;refine(di _ _ _ _ _ _ 12 r (by omega)).mono ?_;rintro e w5 ⟨m5,rfl,⟨_,N⟩,K,S⟩;have a9:=N (by omega);obtain⟨n5,rfl⟩:=qn (show 0<=m5 by omega);have R:=E.trans S λi _ e=>e;clear N S E r;go_wp2;go_loopw [3,5] (λtt H wr=>∃(j W:Nat) (y:ByteArray),j<=11/\H=.int .i64 j/\tt=.string y/\y.size+j<=47/\Rd wr V hi g l W/\W+j<=p+18/\bj (λb=>b=g) w wr) (λ_ H _=>(intOf H).toNat)
    case atStart=>exact⟨n5,_,x,by omega,rfl,rfl,by omega,K,by omega,R⟩
    case round=>
     clear K R;obtain⟨j,W,y,f,rfl,rfl,hy,G,ay,C⟩:=hrel;by_cases O:j=0
     .subst O;have a8:y.size<=60:=by omega
      clear hy;have a1:W<=p+20:=by omega
      by_cases a3:40<(y).size
      case' pos=>
       have t4:=dk (show(40:Int)<((y).size:Int) by omega);have g2:(40:Int)<=((y).size:Int):=by omega
       obtain⟨z,n,o⟩:∃z,z=(y).extract 0 40/\z.size=40:=⟨_,rfl,by rw[afk _ (by omega)]⟩;have P:=ab n;go_wp2;rw[<-P.out];clear n P
      case' neg=>
       have t4:=da (show ¬((40:Int)<((y).size:Int)) by omega);go_wp2;have o:=a8;obtain⟨z,n⟩:∃z,z=y:=⟨_,rfl⟩;rw[<-n] at o ⊢;clear n
      all_goals
       refine(di _ _ _ _ _ _ 60 G (by omega)).mono ?_;rintro e Y ⟨d,rfl,⟨_,D⟩,a,s⟩;have c:=(C).trans s λi _ e=>e;clear D s;by_cases k:d=0
       .have t5:(d ==0)=true:=nF.2 k;clear k;go_wp2;go_ret;exact⟨_,_,rfl,by rw[acO];have:(⟨#[65]⟩:ByteArray).size=1:=rfl;omega,a,by omega,c⟩
       .have t5:(d ==0)=false:=de.2 k;by_cases u:d=1
        .have t6:(d ==1)=true:=nF.2 u;clear k u;go_wp2;refine(afi ⟨#[97,98,99,100,101]⟩ 9 (by decide) (by decide) (by decide) Y).mono ?_;rintro e w5 ⟨⟨t,rfl,ht⟩,rfl⟩;go_wp2;go_ret;exact⟨t,_,rfl,by omega,a,by omega,c⟩
        .have t6:(d ==1)=false:=de.2 u;clear k u;go_wp2;go_ret;exact⟨_,_,rfl,by omega,a,by omega,c⟩
     .have t7:=dk (show(0:Int)<(j:Int) by omega);obtain⟨B,I⟩:∃y,y=j-1:=⟨_,rfl⟩;have e7:(j:Int)-1=((B:Nat):Int):=by omega
      have iG:0<(j:Int):=by omega
      have f:j=B+1:=by omega
      clear I O;have v:=ab f;clear f;go_wp2;refine(di _ _ _ _ _ _ 26 G (by omega)).mono ?_;rintro e w7 ⟨m7,rfl,⟨_,L⟩,Z,M⟩;have ax:=L (by omega);have a6:=C.trans M λi _ e=>e;clear L M C G;have a5:=Z.alloc (.cells #[.int .u8 (97+m7)] 5);have a2:=a6.alloc (.cells #[.int .u8 (97+m7)] 5);obtain⟨t,ht,af⟩:=asY (β:=β) w7 (97+m7);go_wp2;go_roundw
      case rel=>exact⟨B,_,y++t,by have:=v.out;omega,rfl,rfl,by rw[acO,ht];have:=v.out;omega,a5,by have:=v.out;omega,a2⟩
      simp[intOf];have:=v.out;omega
   .have t1:(m2 ==0)=false:=de.2 X;clear X;have a1:q+1<=p+20:=by omega
    by_cases a3:40<(x).size
    case' pos=>
     have t4:=dk (show(40:Int)<((x).size:Int) by omega);have g2:(40:Int)<=((x).size:Int):=by omega
     obtain⟨z,n,o⟩:∃z,z=(x).extract 0 40/\z.size=40:=⟨_,rfl,by rw[afk _ (by omega)]⟩;have P:=ab n;go_wp2;rw[<-P.out];clear n P
    case' neg=>
     have t4:=da (show ¬((40:Int)<((x).size:Int)) by omega);go_wp2;have o:=a4;obtain⟨z,n⟩:∃z,z=x:=⟨_,rfl⟩;rw[<-n] at o ⊢;clear n
    all_goals
     refine(di _ _ _ _ _ _ 60 r (by omega)).mono ?_;rintro e Y ⟨d,rfl,⟨_,D⟩,a,s⟩;have c:=(E).trans s λi _ e=>e;clear D s;by_cases k:d=0
     .have t5:(d ==0)=true:=nF.2 k;clear k;go_wp2;go_ret;exact⟨_,_,rfl,by rw[acO];have:(⟨#[65]⟩:ByteArray).size=1:=rfl;omega,a,by omega,c⟩
     .have t5:(d ==0)=false:=de.2 k;by_cases u:d=1
      .have t6:(d ==1)=true:=nF.2 u;clear k u;go_wp2;refine(afi ⟨#[97,98,99,100,101]⟩ 9 (by decide) (by decide) (by decide) Y).mono ?_;rintro e w5 ⟨⟨t,rfl,ht⟩,rfl⟩;go_wp2;go_ret;exact⟨t,_,rfl,by omega,a,by omega,c⟩
      .have t6:(d ==1)=false:=de.2 u;clear k u;go_wp2;go_ret;exact⟨_,_,rfl,by omega,a,by omega,c⟩
  .have t1:=dk (show(0:Int)<(j:Int) by omega);have an:x.size<=36:=by omega
   obtain⟨B,I⟩:∃y,y=j-1:=⟨_,rfl⟩;have u:(j:Int)-1=((B:Nat):Int):=by omega
   have iG:0<(j:Int):=by omega
   have f:j=B+1:=by omega
   clear I h0;have v:=ab f;clear f;go_wp2;have rl:dE (wr.alloc (.cells #[.string ⟨#[97,98,99]⟩,.string ⟨#[104,101,108,108,111]⟩,.string ⟨#[119,111,114,108,100]⟩,.string ⟨#[97,97,97,97]⟩,.string ⟨#[107,101,101,112]⟩,.string ⟨#[122,122]⟩,.string ⟨#[98,97,99,107,117,112]⟩,.string ⟨#[113]⟩] 9)) wr.heap.size (wr.alloc (.cells #[.string ⟨#[97,98,99]⟩,.string ⟨#[104,101,108,108,111]⟩,.string ⟨#[119,111,114,108,100]⟩,.string ⟨#[97,97,97,97]⟩,.string ⟨#[107,101,101,112]⟩,.string ⟨#[122,122]⟩,.string ⟨#[98,97,99,107,117,112]⟩,.string ⟨#[113]⟩] 9)).heap.size [⟨#[97,98,99]⟩,⟨#[104,101,108,108,111]⟩,⟨#[119,111,114,108,100]⟩,⟨#[97,97,97,97]⟩,⟨#[107,101,101,112]⟩,⟨#[122,122]⟩,⟨#[98,97,99,107,117,112]⟩,⟨#[113]⟩] [.slice (some ⟨wr.heap.size,0,none⟩) 8 8]:=
    (aJ.deep (F:=iJ) (acB (F:=iJ) (bg.new wr 9 #[.string ⟨#[97,98,99]⟩,.string ⟨#[104,101,108,108,111]⟩,.string ⟨#[119,111,114,108,100]⟩,.string ⟨#[97,97,97,97]⟩,.string ⟨#[107,101,101,112]⟩,.string ⟨#[122,122]⟩,.string ⟨#[98,97,99,107,117,112]⟩,.string ⟨#[113]⟩]) rfl (am _) rfl (by simp[maxLen])) (oJ (by decide)) wr.heap.size).sl (am _)
   have r:=(rd).alloc (.cells #[.string ⟨#[97,98,99]⟩,.string ⟨#[104,101,108,108,111]⟩,.string ⟨#[119,111,114,108,100]⟩,.string ⟨#[97,97,97,97]⟩,.string ⟨#[107,101,101,112]⟩,.string ⟨#[122,122]⟩,.string ⟨#[98,97,99,107,117,112]⟩,.string ⟨#[113]⟩] 9);have nz:=(U).alloc (.cells #[.string ⟨#[97,98,99]⟩,.string ⟨#[104,101,108,108,111]⟩,.string ⟨#[119,111,114,108,100]⟩,.string ⟨#[97,97,97,97]⟩,.string ⟨#[107,101,101,112]⟩,.string ⟨#[122,122]⟩,.string ⟨#[98,97,99,107,117,112]⟩,.string ⟨#[113]⟩] 9);generalize (wr).alloc (.cells #[.string ⟨#[97,98,99]⟩,.string ⟨#[104,101,108,108,111]⟩,.string ⟨#[119,111,114,108,100]⟩,.string ⟨#[97,97,97,97]⟩,.string ⟨#[107,101,101,112]⟩,.string ⟨#[122,122]⟩,.string ⟨#[98,97,99,107,117,112]⟩,.string ⟨#[113]⟩] 9)=w3 at *;refine(aib _ (by simp) _ _ _ _ _ _ _ _ w3 r (by omega) rl).mono ?_;rintro e v3 ⟨s3,J,rfl,a0,A⟩;have aa:(s3).size<=9:=aia (by decide) s3 J;replace nz:=(nz).trans A λi _ e=>e;clear J rl;go_wp2;go_roundw
   case rel=>exact⟨B,_,x++s3,by have:=v.out;omega,rfl,rfl,by rw[acO];have:=v.out;omega,a0,by have:=v.out;omega,nz⟩
   simp[intOf];have:=v.out;omega
end
section
variable {β:Bool}
open Go.RowKit
def ap0(w:World)(lo hi g:Nat)(l:List Int)(p:Nat)(e:Ending)(w':World):Prop:=∃v a q,e=.returned v/\aJ nB 102 w' w.heap.size v a/\(∀y∈a,nB.good y)/\a.length<=7/\Rd w' lo hi g l q/\q<=p+300/\bj (λb=>b=g) w w'
def akh(l:List Int)(g p O hi:Nat)(w:World)(hr:Rd w O hi g l p)(hp:p<=50000) :
  Calls (ah β) 57 #[.pointer (some ⟨g,0,none⟩)] w (ap0 w O hi g l p):=by
 have ax:=hr.lt;go_enter zT,ntmps57;go_wp2;have W:=hr.alloc (.cells #[] 102);have D:=(bj.refl (λb=>b=g) w).alloc (.cells #[] 102);have H:aJ nB 102 (w.alloc (.cells #[] 102)) w.heap.size (.slice (some ⟨w.heap.size,0,none⟩) 0 0) []:=(eG.new w 102 (am _)).own 2;generalize w.alloc (.cells #[] 102)=w0 at *;refine(di _ _ _ _ _ _ 6 W (by omega)).mono ?_;rintro e w1 ⟨m,rfl,⟨_,hm⟩,a2,G⟩;have ay:=hm (by omega);obtain⟨mm,rfl⟩:=qn (show 0<=m by omega);have Z:=H.fE G λb r e=>by have:=(H.at_ r).1;omega
 replace D:=D.trans G λi _ e=>e;clear hm W G H;go_wp2;go_loopw [3,4] (λtt jj wr=>∃(j q:Nat) (n:List Nd),j<=5/\jj=.int .i64 j/\aJ nB 102 wr w.heap.size tt n/\kV n/\Rd wr O hi g l q/\q+40*j<=p+201/\bj (λb=>b=g) w wr) (λ_ jj _=>(intOf jj).toNat)
 case atStart=>exact⟨mm,_,[],by omega,rfl,Z,kV.nil,a2,by omega,D⟩
 case round=>
  clear Z a2 D;obtain⟨j,q,n,hj,rfl,K,L,rd,hq,T⟩:=hrel;obtain⟨A,c,rfl⟩:=K.form;replace L:=ab L;have ao:=T.size;by_cases h0:j=0
  .subst h0;have z:=ab (aaD L.out);have af:n.length<=6:=L.out.2.1;go_wp2;refine(di _ _ _ _ _ _ 40 rd (by omega)).mono ?_;rintro e N ⟨P,rfl,⟨_,a9⟩,a,k⟩;have o:=K.fE k λb r e=>by have:=(K.at_ r).1;omega
   have d:=T.trans k λi _ e=>e;clear a9 rd K k T;by_cases R:P=0
   .have t5:(P ==0)=true:=nF.2 R;clear R;go_wp2;refine(mX l g (q+1) O hi N a (by omega)).mono ?_;rintro e w3 ⟨s,q3,rfl,a8,B,a7,x⟩;have J:=o.fE x λb r e=>by have:=(o.at_ r).1;omega
    have Q:=d.trans x λi _ e=>e;have I:=Q.size;clear a o d;go_wp2_with(at_builtin;refine cx (F:=nB) (v:=.slice A n.length c) rfl (.tmp 29) (.tmp 33) 44 rfl oL ⟨s,⟨#[97]⟩⟩ rfl J rfl rfl (by omega) I ?_;intro va wa oa a0 al;obtain⟨Aa,ca,rfl⟩:=oa.form;simp only[aE,fi,mT,mc] at oa);go_ret;refine⟨_,n++[⟨s,⟨#[97]⟩⟩],q3,rfl,by simpa using oa,λy M=> ?_,by simp;omega,B.fE a0 λb r e=> ?_,by omega,Q.trans a0 λb r e=> ?_⟩
    .rcases mx.1 M with M|M
     .exact z.out y M
     .rw[mw.1 M];exact⟨by show s.size<=maxLen;unfold maxLen;omega,by show(⟨#[97]⟩:ByteArray).size<=maxLen;decide⟩
    .have:=(J.at_ e).1;have:=B.hi_;omega
    .have:=(J.at_ e).1;omega
   .have t5:(P ==0)=false:=de.2 R;by_cases e1:P=1
    .have t6:(P ==1)=true:=nF.2 e1;clear R e1;by_cases a1:n.length=0
     .have t7:=da (show ¬(0<n.length) by omega);clear a1;go_wp2;go_ret;exact⟨_,n,q+1,rfl,o,z.out,by omega,a,by omega,d⟩
     .have t7:=dk (show 0<n.length by omega);have iG:0<n.length:=by omega
      obtain⟨y0,U⟩:=aq iG;obtain⟨Y,c',e⟩:=aJ.some_ o iG;simp only[oE] at e;obtain⟨rfl, -,rfl⟩:=e;have an:=(o.at_ rfl).1;have G:N.cell? ⟨Y,1,none⟩=some (.string y0.b):=by
       have:=aJ.cell o (j:=1) U rfl;simpa using this
      have aH:=aJ.frozen o rfl 1;have C:=aJ.put o (j:=1) (u:=.string ⟨#[65]⟩) (y:=⟨y0.p,⟨#[65]⟩⟩) U (by decide) rfl;rw[uW,mc] at C;have HP:=ab C;have E:bj (λb=>b=Y) N (N.setCell ⟨Y,1,none⟩ (.string ⟨#[65]⟩)):=(bj.refl (λb=>b=Y) N).setCell (p:=⟨Y,1,none⟩) (.inl rfl) _;replace E:=ab E;replace U:=ab U;clear C a1;go_wp2;go_ret;refine⟨_,n.set 0 ⟨y0.p,⟨#[65]⟩⟩,q+1,rfl,HP.out,λy M=> ?_,by rw[rb];omega,a.fE E.out λb r e=> ?_,by omega,d.trans E.out λb r e=> ?_⟩
      .rcases th M with h1|rfl
       .exact z.out y h1
       .exact⟨(z.out y0 (db U.out)).1,by show(⟨#[65]⟩:ByteArray).size<=maxLen;decide⟩
      .have:=a.hi_;omega
      .omega
    .have t6:(P ==1)=false:=de.2 e1;clear R e1;go_wp2;go_ret;exact⟨_,n,q+1,rfl,o,z.out,by omega,a,by omega,d⟩
  .have iG:0<(j:Int):=by omega
   obtain⟨j',ad⟩:∃y,y=j-1:=⟨_,rfl⟩;have e1:(j:Int)-1=((j':Nat):Int):=by omega
   have f:j=j'+1:=by omega
   replace f:=ab f;clear ad h0;go_wp2;refine(mX l g q O hi wr rd (by omega)).mono ?_;rintro e N ⟨s,q2,rfl,a8,a,aI,k⟩;have o:=K.fE k λb r e=>by have:=(K.at_ r).1;omega
   have d:=T.trans k λi _ e=>e;clear rd K k T;go_wp2;refine(adL l g q2 O hi N a (by omega)).mono ?_;rintro e w3 ⟨t,q3,rfl,ht,B,a7,x⟩;have J:=o.fE x λb r e=>by have:=(o.at_ r).1;omega
   have Q:=d.trans x λi _ e=>e;have r3:=(J.deep (aaD L.out) w.heap.size).sl (am _);clear a o x d;go_wp2;refine(adH n s t (by unfold maxLen;omega) (by unfold maxLen;omega) _ w3 w.heap.size w3.heap.size r3 (am _) (by have:=L.out.2.1;omega)).mono ?_;rintro e w4 ⟨v4,zs,a6,rfl,o4,a3,b4⟩;have I:=Q.size;have aa:=o4.base I;have a4:=J.below b4;have X:=B.fE (bj.aN (S:=λ_=>False) b4) λ_ _ h=>h;have V:=Q.trans (bj.aN (S:=λ_=>False) b4) λ_ _ h=>h.elim;have a5:=ab a3;obtain⟨A4,c4,rfl⟩:=o4.form;clear a3 B Q J o4 r3;cases a6
   .go_wp2;go_roundw
    case rel=>exact⟨j',q3,n,by have:=f.out;omega,rfl,a4,L.out,X,by have:=f.out;omega,V⟩
    simp[intOf];have:=f.out;omega
   .go_wp2;go_roundw
    case rel=>exact⟨j',q3,zs,by have:=f.out;omega,rfl,aa,a5.out,X,by have:=f.out;omega,V⟩
    simp[intOf];have:=f.out;omega
def asZ(w:World)(lo hi g:Nat)(l:List Int)(p:Nat)(e:Ending)(w':World):Prop:=∃v a q,e=.returned v/\aJ nB 102 w' w.heap.size v a/\kV a/\Rd w' lo hi g l q/\q<=p+300/\bj (λb=>b=g) w w'
theorem aki(l:List Int)(g p m hi:Nat)(w:World)(z:Rd w m hi g l p)(y:p<=50000) :
  Calls (ah β) 28 #[.pointer (some ⟨g,0,none⟩)] w (asZ w m hi g l p):=by
 go_enter Am,ntmps28;go_wp2;refine(akh l g p m hi w z y).mono ?_;rintro e n ⟨D,s,q,rfl,k,f,v,j,o,b⟩;obtain⟨A,c,rfl⟩:=k.form;have C:=b.size;have t:=(k.deep f w.heap.size).sl (am _);clear f;go_wp2;refine(abC s _ n w.heap.size n.heap.size t (am _)).mono ?_;rintro e B ⟨⟨rfl,r⟩|rfl,i⟩
 .have u:=ab r;have x:=k.below i;have d:=j.fE (bj.aN (S:=λ_=>False) i) λ_ _ h=>h;have a:=b.trans (bj.aN (S:=λ_=>False) i) λ_ _ h=>h.elim;clear r;go_wp2;go_ret;exact⟨_,s,q,rfl,x,u.out,d,o,a⟩
 .have d:=j.fE (bj.aN (S:=λ_=>False) i) λ_ _ h=>h;have a:=b.trans (bj.aN (S:=λ_=>False) i) λ_ _ h=>h.elim;go_wp2;go_ret;exact⟨_,[⟨⟨#[97]⟩,⟨#[104,101,108,108,111]⟩⟩],q,rfl,acB (F:=nB) (xs:=[⟨⟨#[97]⟩,⟨#[104,101,108,108,111]⟩⟩]) (bg.new B 102 #[.string ⟨#[97]⟩,.string ⟨#[104,101,108,108,111]⟩]) rfl a.size rfl (by simp[maxLen]),kV.one ⟨by decide,by decide⟩,d.alloc _,o,a.alloc _⟩
end
section
variable {β:Bool}
open Go.RowKit
def fg.set(h:fg w Z hi s Y X W){cs:Array Value}(a:bg w g 27 cs)(i:Nat)(u:Value):fg (w.setCell ⟨g,i,none⟩ u) Z hi s Y X W:=
 ⟨cL bF.ar h.pk a (by decide) i u,cL bR.ar h.sn a (by decide) i u,cL dH.ar h.lg a (by decide) i u⟩
def fg.wide(h:fg w Z hi s Y X W)(b:fI<=Z)(a:hi<=hi'):fg w fI hi' s Y X W:=h.go (λ_ _ _=>rfl) b a
def fg.form(h:fg w Z hi s Y X W):(∃A a,Y=.slice A s.pk.length a)/\(∃B b,X=.slice B s.sn.length b)/\∃C c,W=.slice C s.lg.length c:=⟨h.pk.form,h.sn.form,h.lg.form⟩
def fg.fE(h:fg w Z hi s Y X W){S:Nat->Prop}(e:bj S w w')(c:∀b,Z<=b->b<hi->b<w.heap.size/\¬S b):fg w' Z hi s Y X W:=
 h.go (λb d a=>e.block b (c b d a).1 (c b d a).2) (am _) (am _)
def as0{cs:Array Value}(h:cs.size=3):∃a b c,cs=#[a,b,c]:=by
 obtain⟨l⟩:=cs
 match l,h with
 |[a,b,c],_=>exact⟨a,b,c,rfl⟩
def lF(w:World)(g:Nat)(a b c:Value):bj (λx=>x=g) w (((w.setCell ⟨g,0,none⟩ a).setCell ⟨g,1,none⟩ b).setCell ⟨g,2,none⟩ c):=(((bj.refl (λx=>x=g) w).setCell (S:=λx=>x=g) (p:=⟨g,0,none⟩) (.inl rfl) a).setCell (S:=λx=>x=g) (p:=⟨g,1,none⟩) (.inl rfl) b).setCell (S:=λx=>x=g) (p:=⟨g,2,none⟩) (.inl rfl) c
section
variable {w:World} {lo hi g:Nat} {l:List Int} {N s ia ic bk:Nat} {fx:Bool} {ty:TypeId} {n:Nat} {S:Nat->Prop} {pre:List Nat}
def abJ(u:Value)(x:aK w lo hi g l N s ia ic bk fx ty n S pre):Prop:=
 ∃d c a q r L H,u=.tuple #[.agg #[d,c,a],.bool q]/\fg x.to L H r d c a/\(∀b,L<=b->b<H->x.free b)/\w.heap.size<=L/\H<=x.to.heap.size/\(q=true->eL r)
def abJ.le{u:Value}{x y:aK w lo hi g l N s ia ic bk fx ty n S pre}(h:abJ u x)(a:aK.le x y):abJ u y:=by
 obtain⟨j,o,k,q,r,L,H,rfl,f,e,p,i,m⟩:=h;exact⟨j,o,k,q,r,L,H,rfl,f.go (λb d c=>a.fE.block b (e b d c).1 (a.not (e b d c))) (am _) (am _),λb d c=>a.free (e b d c),p,ap i a.fE.size,m⟩
def abJ.new{r:dy}{q:Bool}(x:aK w lo hi g l N s ia ic bk fx ty n S pre){w2:World}(d:Below x.to.heap.size x.to w2)(a:fg w2 x.to.heap.size w2.heap.size r Y X W)(j:q=true->eL r)(k:g<w.heap.size)(v:Value):abJ (.tuple #[.agg #[Y,X,W],.bool q]) (x.told d v):=by
 have f:=x.ok.size;exact⟨Y,X,W,q,r,_,_,rfl,a,λb o c=>⟨c,by omega,λe=>(by
  obtain⟨_,_,m,_,i⟩:=x.bx b e;have:=i.lt;omega),λe=>(by have:=x.sf b e;omega)⟩,f,am _,j⟩
def aim(x:aK w lo hi g l N s ia ic bk fx ty n S pre):Prop:=
 x.done=true/\∃b d c a q,x.box=some b/\x.res=some (.tuple #[.agg #[d,c,a],.bool q])/\bg x.to b ty #[d,c,a]
def aim.le{x y:aK w lo hi g l N s ia ic bk fx ty n S pre}(h:aim x)(a:aK.le x y):aim y:=by
 obtain⟨hd,b,d,m,k,q,i,e,j⟩:=h;obtain⟨o,c,f⟩:=a.full hd i j;exact⟨o,b,d,m,k,q,c,a.res _ e,f⟩
end
structure afz (u va vb vc:Value) (q:Bool):Prop where
 eq:u=.tuple #[.agg #[va,vb,vc],.bool q]
 a:∃A m c,va=.slice A m c
 b:∃A m c,vb=.slice A m c
 c:∃A m c,vc=.slice A m c
def afz.of{r:dy}{q:Bool}(h:fg w Z hi r Y X W):afz (.tuple #[.agg #[Y,X,W],.bool q]) Y X W q:=by
 obtain⟨⟨A,a,rfl⟩,⟨B,b,rfl⟩,C,c,rfl⟩:=h.form;exact⟨rfl,⟨_,_,_,rfl⟩,⟨_,_,_,rfl⟩,⟨_,_,_,rfl⟩⟩
def ap1(w:World)(lo hi g:Nat)(l:List Int)(p:Nat)(e:Ending)(w':World):Prop:=
 ∃d c a s q,e=.returned (.agg #[d,c,a])/\fg w' w.heap.size w'.heap.size s d c a/\eL s/\Rd w' lo hi g l q/\q<=p+700/\bj (λb=>b=g) w w'
structure ain (w wr:World) (lo hi g:Nat) (l:List Int) (q gs:Nat) (va vb vc tt:Value) (s:dy) (t:List Nd):Prop where
 k0:bg wr w.heap.size 27 #[.slice none 0 0,.slice none 0 0,.slice none 0 0]
 ks:bg wr gs 27 #[va,vb,vc]
 os:fg wr w.heap.size wr.heap.size s va vb vc
 sv:eL s
 ot:aJ nB 102 wr w.heap.size tt t
 ft:kV t
 rd:Rd wr lo hi g l q
 ch:bj (λb=>b=g) w wr
 gs1:w.heap.size<gs
 gw:g<w.heap.size
def ain.fE{wr : World}{l:List Int}{q gs : Nat}{t:List Nd}(h:ain w wr Z hi g l q gs Y X W U s t)(a:bj (λb=>b=g) wr w')(f:Rd w' Z hi g l R):ain w w' Z hi g l R gs Y X W U s t:=by
 have k:=h.gw;have c:=h.gs1;exact⟨aP h.k0 a (by omega),aP h.ks a (by omega),(h.os.fE a λb c d=>⟨d,by omega⟩).wide (am _) a.size,h.sv,h.ot.fE a λb j e=>by have:=(h.ot.at_ j).1;omega,h.ft,f,h.ch.trans a λi _ e=>e,c,k⟩
def ain.tree{wr : World}{l:List Int}{q gs:Nat}{t a:List Nd}(h:ain w wr Z hi g l q gs Y X W U s t)(c:aJ nB 102 wr w.heap.size S a)(b:kV a):ain w wr Z hi g l q gs Y X W S s a:=
 ⟨h.k0,h.ks,h.os,h.sv,c,b,h.rd,h.ch,h.gs1,h.gw⟩
def acP{t:List Nd}(h:kV t):∀x∈t,nB.good x:=aaD h
def aio(l:List Int)(g p X hi:Nat)(w:World)(hr:Rd w X hi g l p)(hp:p<=10000) :
  Calls (ah β) 13 #[.pointer (some ⟨g,0,none⟩)] w (ap1 w X hi g l p):=by
 have cd:=hr.lt;have cm:=hr.hi_;go_enter AF,ntmps13;go_wp2;have aL:Below w.heap.size w (((((w.alloc (.cells #[.slice none 0 0,.slice none 0 0,.slice none 0 0] 27)).alloc (.cells #[] 36)).alloc (.cells #[] 41)).alloc (.cells #[] 65)).alloc (.cells #[.slice (some ⟨w.heap.size+1,0,none⟩) 0 0,.slice (some ⟨w.heap.size+1+1,0,none⟩) 0 0,.slice (some ⟨w.heap.size+1+1+1,0,none⟩) 0 0] 27)):=cX (cX (cX (cX (av _ _) _) _) _) _;have k0:bg (((((w.alloc (.cells #[.slice none 0 0,.slice none 0 0,.slice none 0 0] 27)).alloc (.cells #[] 36)).alloc (.cells #[] 41)).alloc (.cells #[] 65)).alloc (.cells #[.slice (some ⟨w.heap.size+1,0,none⟩) 0 0,.slice (some ⟨w.heap.size+1+1,0,none⟩) 0 0,.slice (some ⟨w.heap.size+1+1+1,0,none⟩) 0 0] 27)) (w.heap.size) 27 #[.slice none 0 0,.slice none 0 0,.slice none 0 0]:=by
  have I:=bC (bC (bC (bC (bg.new w 27 #[.slice none 0 0,.slice none 0 0,.slice none 0 0]) (.cells #[] 36)) (.cells #[] 41)) (.cells #[] 65)) (.cells #[.slice (some ⟨w.heap.size+1,0,none⟩) 0 0,.slice (some ⟨w.heap.size+1+1,0,none⟩) 0 0,.slice (some ⟨w.heap.size+1+1+1,0,none⟩) 0 0] 27);exact I
 have k1:bg (((((w.alloc (.cells #[.slice none 0 0,.slice none 0 0,.slice none 0 0] 27)).alloc (.cells #[] 36)).alloc (.cells #[] 41)).alloc (.cells #[] 65)).alloc (.cells #[.slice (some ⟨w.heap.size+1,0,none⟩) 0 0,.slice (some ⟨w.heap.size+1+1,0,none⟩) 0 0,.slice (some ⟨w.heap.size+1+1+1,0,none⟩) 0 0] 27)) (w.heap.size+1) 36 #[]:=by
  have I:=bC (bC (bC (bg.new (w.alloc (.cells #[.slice none 0 0,.slice none 0 0,.slice none 0 0] 27)) 36 #[]) (.cells #[] 41)) (.cells #[] 65)) (.cells #[.slice (some ⟨w.heap.size+1,0,none⟩) 0 0,.slice (some ⟨w.heap.size+1+1,0,none⟩) 0 0,.slice (some ⟨w.heap.size+1+1+1,0,none⟩) 0 0] 27);simp only[oS] at I;exact I
 have k2:bg (((((w.alloc (.cells #[.slice none 0 0,.slice none 0 0,.slice none 0 0] 27)).alloc (.cells #[] 36)).alloc (.cells #[] 41)).alloc (.cells #[] 65)).alloc (.cells #[.slice (some ⟨w.heap.size+1,0,none⟩) 0 0,.slice (some ⟨w.heap.size+1+1,0,none⟩) 0 0,.slice (some ⟨w.heap.size+1+1+1,0,none⟩) 0 0] 27)) (w.heap.size+1+1) 41 #[]:=by
  have I:=bC (bC (bg.new ((w.alloc (.cells #[.slice none 0 0,.slice none 0 0,.slice none 0 0] 27)).alloc (.cells #[] 36)) 41 #[]) (.cells #[] 65)) (.cells #[.slice (some ⟨w.heap.size+1,0,none⟩) 0 0,.slice (some ⟨w.heap.size+1+1,0,none⟩) 0 0,.slice (some ⟨w.heap.size+1+1+1,0,none⟩) 0 0] 27);simp only[oS] at I;exact I
 have k3:bg (((((w.alloc (.cells #[.slice none 0 0,.slice none 0 0,.slice none 0 0] 27)).alloc (.cells #[] 36)).alloc (.cells #[] 41)).alloc (.cells #[] 65)).alloc (.cells #[.slice (some ⟨w.heap.size+1,0,none⟩) 0 0,.slice (some ⟨w.heap.size+1+1,0,none⟩) 0 0,.slice (some ⟨w.heap.size+1+1+1,0,none⟩) 0 0] 27)) (w.heap.size+1+1+1) 65 #[]:=by
  have I:=bC (bg.new (((w.alloc (.cells #[.slice none 0 0,.slice none 0 0,.slice none 0 0] 27)).alloc (.cells #[] 36)).alloc (.cells #[] 41)) 65 #[]) (.cells #[.slice (some ⟨w.heap.size+1,0,none⟩) 0 0,.slice (some ⟨w.heap.size+1+1,0,none⟩) 0 0,.slice (some ⟨w.heap.size+1+1+1,0,none⟩) 0 0] 27);simp only[oS] at I;exact I
 have k4:bg (((((w.alloc (.cells #[.slice none 0 0,.slice none 0 0,.slice none 0 0] 27)).alloc (.cells #[] 36)).alloc (.cells #[] 41)).alloc (.cells #[] 65)).alloc (.cells #[.slice (some ⟨w.heap.size+1,0,none⟩) 0 0,.slice (some ⟨w.heap.size+1+1,0,none⟩) 0 0,.slice (some ⟨w.heap.size+1+1+1,0,none⟩) 0 0] 27)) (w.heap.size+1+1+1+1) 27 #[.slice (some ⟨w.heap.size+1,0,none⟩) 0 0,.slice (some ⟨w.heap.size+1+1,0,none⟩) 0 0,.slice (some ⟨w.heap.size+1+1+1,0,none⟩) 0 0]:=by
  have I:=bg.new ((((w.alloc (.cells #[.slice none 0 0,.slice none 0 0,.slice none 0 0] 27)).alloc (.cells #[] 36)).alloc (.cells #[] 41)).alloc (.cells #[] 65)) 27 #[.slice (some ⟨w.heap.size+1,0,none⟩) 0 0,.slice (some ⟨w.heap.size+1+1,0,none⟩) 0 0,.slice (some ⟨w.heap.size+1+1+1,0,none⟩) 0 0];simp only[oS] at I;exact I
 have jo:w.heap.size+5<=(((((w.alloc (.cells #[.slice none 0 0,.slice none 0 0,.slice none 0 0] 27)).alloc (.cells #[] 36)).alloc (.cells #[] 41)).alloc (.cells #[] 65)).alloc (.cells #[.slice (some ⟨w.heap.size+1,0,none⟩) 0 0,.slice (some ⟨w.heap.size+1+1,0,none⟩) 0 0,.slice (some ⟨w.heap.size+1+1+1,0,none⟩) 0 0] 27)).heap.size:=by simp only[oS];omega
 generalize (((((w.alloc (.cells #[.slice none 0 0,.slice none 0 0,.slice none 0 0] 27)).alloc (.cells #[] 36)).alloc (.cells #[] 41)).alloc (.cells #[] 65)).alloc (.cells #[.slice (some ⟨w.heap.size+1,0,none⟩) 0 0,.slice (some ⟨w.heap.size+1+1,0,none⟩) 0 0,.slice (some ⟨w.heap.size+1+1+1,0,none⟩) 0 0] 27))=w0 at *;have dn:=k0.cell;have eQ:=k0.frozen;have dG:=k1.cell;have eD:=k1.frozen;have gW:=k2.cell;have jV:=k2.frozen;have bz:=k3.cell;have c0:=k3.frozen;have a7:=k4.cell;have ci:=k4.frozen;have bb:fg w0 w.heap.size w0.heap.size ⟨[],[],[]⟩ (.slice (some ⟨w.heap.size+1,0,none⟩) 0 0) (.slice (some ⟨w.heap.size+1+1,0,none⟩) 0 0) (.slice (some ⟨w.heap.size+1+1+1,0,none⟩) 0 0):=
  ⟨eG.aaL ⟨_,rfl,by omega,k1⟩ (am _),eG.aaL ⟨_,rfl,by omega,k2⟩ (am _),eG.aaL ⟨_,rfl,by omega,k3⟩ (am _)⟩
 have ay:bj (λb=>b=g) w w0:=bj.aN aL;have bn:=hr.fE (bj.aN (S:=λ_=>False) aL) λ_ _ h=>h;clear k1 k2 k3 dn dG gW bz a7 eQ eD jV c0 ci aL hr;refine(aki l g p X hi w0 bn (by omega)).mono ?_;rintro e w1 ⟨vt,t0,q1,rfl,ot,bx,b3,cC,J⟩;have k:ain w w1 X hi g l q1 (w.heap.size+1+1+1+1) (.slice (some ⟨w.heap.size+1,0,none⟩) 0 0) (.slice (some ⟨w.heap.size+1+1,0,none⟩) 0 0) (.slice (some ⟨w.heap.size+1+1+1,0,none⟩) 0 0) vt ⟨[],[],[]⟩ t0:=
  ⟨aP k0 J (by omega),aP k4 J (by omega),(bb.fE J λb h1 h2=>⟨h2,by omega⟩).wide (am _) J.size,eL.nil,ot.base (by omega),bx,b3,ay.trans J λi _ e=>e,by omega,cd⟩
 clear k0 k4 bb ay ot bx J bn;obtain⟨o,b4⟩:∃o,o=w.heap.size+1+1+1+1:=⟨_,rfl⟩;rw[<-b4] at k ⊢;clear b4;go_wp2;refine(di _ _ _ _ _ _ 5 k.rd (by omega)).mono ?_;rintro e w2 ⟨m,rfl,⟨_,hm⟩,bp,b2⟩;have ct:=hm (by omega);obtain⟨mm,rfl⟩:=qn (show 0<=m by omega);have b5:=ab (k.fE b2 bp);clear hm b3 bp b2 k;go_wp2;go_loopw [4,5] (λtt jj wr=>∃(j q:Nat) (s:dy) (t:List Nd) (O P U:Value),j<=4/\jj=.int .i64 j/\ain w wr X hi g l q o O P U tt s t/\q+60*j<=p+600) (λ_ jj _=>(intOf jj).toNat)
 case atStart=>exact⟨mm,_,_,_,_,_,_,by omega,rfl,b5.out,by omega⟩
 case round=>
  clear b5;obtain⟨j,q,s,t,O,P,U,hj,rfl,k,hq⟩:=hrel;obtain⟨⟨A,a,rfl⟩,⟨B,b,rfl⟩,C,c,rfl⟩:=k.os.form;obtain⟨T,d,rfl⟩:=k.ot.form;have bl:wr.cell? ⟨o,0,none⟩=some (.slice A s.pk.length a):=k.ks.cell 0;have ad:wr.cell? ⟨o,1,none⟩=some (.slice B s.sn.length b):=k.ks.cell 1;have bq:wr.cell? ⟨o,2,none⟩=some (.slice C s.lg.length c):=k.ks.cell 2;have c2:=k.gs1;have bJ:=k.gw;have cp:=k.ks.lt;have zr:=k.ch.size;have HD:=ab k;by_cases h0:j=0
  .subst h0;have dn:=k.k0.cell;have eQ:=k.k0.frozen;clear k;go_wp2;have k4:=((HD.out.k0.bG 0 (.slice A s.pk.length a)).bG 1 (.slice B s.sn.length b)).bG 2 (.slice C s.lg.length c);simp only[dj,ge,io] at k4;have a7:=k4.cell;refine pb (v:=.agg #[.slice A s.pk.length a,.slice B s.sn.length b,.slice C s.lg.length c]) (by simp[results,results13,go_sem,a7]) rfl ⟨_,_,_,s,q,rfl, ?_,HD.out.sv, ?_,by omega, ?_⟩
   .simp only[bv];exact((HD.out.os.set HD.out.k0 0 _).set (HD.out.k0.bG 0 _) 1 _).set ((HD.out.k0.bG 0 _).bG 1 _) 2 _
   .exact HD.out.rd.fE (lF _ _ _ _ _) λb G e=>by have:=HD.out.gw;omega
   .exact HD.out.ch.trans (lF _ _ _ _ _) λi hi e=>by omega
  .have t0:=dk (show 0<j by omega);clear k;have rd:=HD.out.rd;go_wp2;refine amm (N:=q+12) (s:=10) (ia:=9) (ic:=5) (bk:=wr.heap.size) (fx:=false) (ty:=27) (n:=3) (S:=λ_=>False) (pre:=[]) 12 q [1,4] [0,2,3,5,6,7,8,9,10,11] (by kernel_rfl) (by kernel_rfl) (by kernel_rfl) rd (am _) none (λb G=>by cases G) (λh=>by cases h) (λb G=>G.elim) (λb G=>by cases G) (.inl rfl) ?_;simp only[pick,List.map,gt,gE];repeat(go_big_quiet_step (fail))
   refine ip ?_;apply Exists.intro;apply aoa (λv=>v=.agg #[.slice A s.pk.length a,.slice B s.sn.length b,.slice C s.lg.length c])
   .rfl
   .intro x _ Z f;replace f:=ab f;have ca:=abB (x:=x) bl (by show o≠g;omega) (by show o≠_;omega) (λh=>h);have cb:=abB (x:=x) ad (by show o≠g;omega) (by show o≠_;omega) (λh=>h);have cc:=abB (x:=x) bq (by show o≠g;omega) (by show o≠_;omega) (λh=>h);go_wp2;exact f.out _ rfl
   intro ux;simp only[Act.put,dj,ge,io];apply avE (λv=>∃m:Int,v=.int .i64 m/\0<=m/\m<2)
   .rfl
   .intro x _ hN Z f;replace f:=ab f;go_wp2;refine(di _ _ _ _ _ _ 2 x.rd (by omega)).mono ?_;rintro e wy ⟨m,rfl,⟨_,q1⟩,ce,bX⟩;obtain⟨q2,q3⟩:=q1 (by omega);go_wp2;exact f.out _ _ ce bX ⟨m,rfl,q2,q3⟩
   intro u2;apply aoa (λv=>∃m:Int,v=.int .i64 m/\1<=m/\m<=2)
   .rfl
   .intro x z Z f;replace f:=ab f;obtain⟨m,rfl,q1,q2⟩:=z.1 (by kernel_rfl);go_wp2;exact f.out _ ⟨_,rfl,by omega,by omega⟩
   intro u3;apply avF (λv x=>abJ v x)
   .rfl
   .rfl
   .exact λv x y h hl=>h.le hl
   .intro x z Z f;replace f:=ab f;obtain⟨m3,rfl,i1,i2⟩:=z.1 (by kernel_rfl);cases z.2.2.1 (by kernel_rfl);clear z;have bo:∀b,w.heap.size<=b->b<wr.heap.size->b<wr.heap.size/\¬(b=g\/x.box=some b\/x.done=true/\False):=λb h1 h2=>⟨h2,λe=>by
     rcases e with e|e|e
     .have:=HD.out.gw;omega
     .rcases x.bw b e with e|e<;>omega
     .exact e.2⟩
    have ox:=HD.out.os.fE x.ok bo;have tx:=HD.out.ot.fE x.ok λb G=>(bo b (HD.out.ot.at_ G).1 (HD.out.ot.at_ G).2).2;have zx:=x.ok.size;have wf:=HD.out.sv.wf;have tr:=(tx.deep (acP HD.out.ft) 0).sl (eg _);go_wp2;refine(akc 7 (by omega) s m3 (by unfold cf;omega) t (aaE HD.out.ft) (by have:=HD.out.ft.2.1;omega) wf.small wf.dw (by have:=wf.auA;omega) _ _ _ _ x.to _ _ 0 x.to.heap.size ox zx tr (am _)).mono ?_;rintro e wy ⟨v1,v2,v3,qq,r,rfl,oy,bL,b0⟩;go_wp2;exact f.out _ _ b0 (abJ.new x b0 oy (λc4=>by
     rcases bL with⟨_,h1,rfl⟩|⟨h1,_⟩
     .exact HD.out.sv.save (by omega) HD.out.ft h1
     .rw[c4] at h1;cases h1) (by have:=HD.out.gw;omega) _)
   intro u5;simp only[Act.put,dj,ge,io];apply ah9 (λv u=>v=u/\∃O P U q,afz u O P U q)
   .rfl
   .intro x z Z f;replace f:=ab f;obtain⟨⟨v1,v2,v3,qq,r,L,H,rfl,ho,_⟩,K⟩:=z.1 (by kernel_rfl);clear z;go_wp2;exact f.out _ _ K ⟨rfl,_,_,_,_,afz.of ho⟩
   intro u6;simp only[Act.put,dj,ge,io];apply ah9 (λv u=>∃O P U q,afz u O P U q/\v=.agg #[O,P,U])
   .rfl
   .intro x z Z f;replace f:=ab f;obtain⟨u,K,rfl,v1,v2,v3,qq,E⟩:=z.1 (by kernel_rfl);have e:=E.eq;subst e;clear z;go_wp2;exact f.out _ _ K ⟨_,_,_,_,E,rfl⟩
   intro u7;simp only[Act.put,dj,ge,io];apply ah9 (λv u=>∃O P U q,afz u O P U q/\v=.bool q)
   .rfl
   .intro x z Z f;replace f:=ab f;obtain⟨u,K,rfl,v1,v2,v3,qq,E⟩:=z.2.1 (by kernel_rfl);have e:=E.eq;subst e;clear z;go_wp2;exact f.out _ _ K ⟨_,_,_,_,E,rfl⟩
   intro u8;simp only[Act.put,dj,ge,io];apply ast (cs:=#[.slice none 0 0,.slice none 0 0,.slice none 0 0])
   .rfl
   .rfl
   .decide
   .have:=HD.out.gw;omega
   .rfl
   .intro x Z f;replace f:=ab f;go_wp2;exact f.out
   intro u9;simp only[Act.put,dj,ge,io];apply asu (λx=>aim x)
   .rfl
   .exact λj hj=>(by cases hj)
   .exact λx y h hl=>h.le hl
   .intro x z aI Z f;replace f:=ab f;obtain⟨b6,rfl,co,a5⟩:=z.1 (by kernel_rfl);obtain⟨u,K,v1,v2,v3,qq,E,rfl⟩:=z.2.2.1 (by kernel_rfl);clear z;have e:=E.eq;subst e;obtain⟨A1,m1,c1,rfl⟩:=E.a;obtain⟨B1,k1,d1,rfl⟩:=E.b;obtain⟨C1,k2,d2,rfl⟩:=E.c;obtain⟨cy,cU,cs,c3,V⟩:=x.bx _ a5;obtain⟨ca,cb,cc,rfl⟩:=as0 c3;have ad:=V.cell;have cr:=V.frozen;go_wp2;exact f.out _ a5 _ (lF _ _ _ _ _) _ rfl (((V.bG 0 _).bG 1 _).bG 2 _) ⟨rfl,_,_,_,_,_,a5,K,((V.bG 0 _).bG 1 _).bG 2 _⟩
   .rfl
   simp only[Act.put,dj,ge,io];apply ah9 (λv u=>∃O P U q,afz u O P U q/\v=.bool q)
   .rfl
   .intro x z Z f;replace f:=ab f;obtain⟨u,K,v1,v2,v3,qq,E,rfl⟩:=z.2.2.1 (by kernel_rfl);clear z;go_wp2;exact f.out _ _ K ⟨_,_,_,_,E,rfl⟩
   intro cD;simp only[Act.put,dj,ge,io];refine ayR λx z=> ?_;simp only[dQ] at z;obtain⟨⟨u,K,v1,v2,v3,qq,E,rfl⟩,⟨aI,gy,cz,cn,cY,d0,br,ao,ky⟩,⟨cw,rfl,cl,aT⟩, -, -, -,⟨⟨x1,x2,x3,d4,r,L,H,rfl,oy,fy,hL,hH,M⟩,bi⟩, -⟩:=z;have e:=E.eq;subst e;rw[K] at ao bi;cases ao;cases bi;rw[br] at aT;cases aT;obtain⟨⟨A1,a1,rfl⟩,⟨B1,b1,rfl⟩,C1,c1,rfl⟩:=oy.form;have a2:bj (λb=>b=g) wr x.to:=x.ok.mono λb G e=>by
    rcases e with e|e|⟨_,e⟩
    .exact e
    .rcases x.bw b e with e|e<;>omega
    .exact e.elim
   have Q:=HD.out.fE a2 x.rd;have c7:x.q<=q+12:=x.lim;have zx:=a2.size;simp only[List.drop];clear K E aI br fy HD rd bl ad bq a2;revert zx;revert hH;revert oy;revert ky;revert c7;revert Q;generalize x.to=w4;generalize x.q=q4;clear x;intro Q cq ky oy hH zx;have HD:=ab Q;have cR:=Q.ks.lt;replace M:=ab M;clear Q;cases qq
   case' false=>
    clear ky oy M;go_wp2;revert HD;generalize w4=w5;intro HD
   case' true=>
    have bZ:=ky.cell;have c5:=HD.out.ks.cell;have bT:=HD.out.ks.frozen;have a8:=((HD.out.ks.bG 0 (.slice A1 r.pk.length a1)).bG 1 (.slice B1 r.sn.length b1)).bG 2 (.slice C1 r.lg.length c1);simp only[dj,ge,io] at a8;have R:=lF w4 o (.slice A1 r.pk.length a1) (.slice B1 r.sn.length b1) (.slice C1 r.lg.length c1);have ax:fg (((w4.setCell ⟨o,0,none⟩ (.slice A1 r.pk.length a1)).setCell ⟨o,1,none⟩ (.slice B1 r.sn.length b1)).setCell ⟨o,2,none⟩ (.slice C1 r.lg.length c1)) L H r (.slice A1 r.pk.length a1) (.slice B1 r.sn.length b1) (.slice C1 r.lg.length c1):=((oy.set HD.out.ks 0 _).set (HD.out.ks.bG 0 _) 1 _).set ((HD.out.ks.bG 0 _).bG 1 _) 2 _
    have W:ain w (((w4.setCell ⟨o,0,none⟩ (.slice A1 r.pk.length a1)).setCell ⟨o,1,none⟩ (.slice B1 r.sn.length b1)).setCell ⟨o,2,none⟩ (.slice C1 r.lg.length c1)) X hi g l q4 o (.slice A1 r.pk.length a1) (.slice B1 r.sn.length b1) (.slice C1 r.lg.length c1) (.slice T t.length d) r t:=
     ⟨aP HD.out.k0 R (by omega),a8,by simp only[bv];exact fg.wide ax (by omega) hH,M.out rfl,HD.out.ot.fE R λb G e=>by
       have:=aJ.deep HD.out.ot (acP HD.out.ft) 0;obtain⟨ds,k⟩:=this.blk G;have e':b=o:=e;subst e';exact absurd (cI HD.out.ks k) (by decide),HD.out.ft,HD.out.rd.fE R λb G e=>by omega,HD.out.ch.trans R λi hi e=>by have e':i=o:=e;omega,c2,bJ⟩
    replace W:=ab W;clear a8 R ax oy HD M;go_wp2;have HD:=W;clear W;revert HD;generalize ((w4.setCell ⟨o,0,none⟩ (.slice A1 r.pk.length a1)).setCell ⟨o,1,none⟩ (.slice B1 r.sn.length b1)).setCell ⟨o,2,none⟩ (.slice C1 r.lg.length c1)=w5;intro HD;clear bZ c5 bT ky
   all_goals
    refine(mX l g q4 X hi w5 HD.out.rd (by omega)).mono ?_;rintro e w6 ⟨sp,q6,rfl,cS,aZ,d5,b7⟩;have a4:=ab (HD.out.fE b7 aZ);clear aZ b7 HD;go_wp2;refine(adL l g q6 X hi w6 a4.out.rd (by omega)).mono ?_;rintro e w7 ⟨tx,q7,rfl,ck,al,cN,aH⟩;have F:=ab (a4.out.fE aH al);clear al aH a4;have r7:=((F.out.ot.deep (acP F.out.ft) 0).sl (eg _));replace r7:=ab r7;go_wp2;refine(adH t sp tx (by unfold maxLen;omega) (by unfold maxLen;omega) _ w7 0 w7.heap.size r7.out (am _) (by have:=F.out.ft.2.1;omega)).mono ?_;rintro e w8 ⟨v8,zs,put,rfl,o8,ba,b8⟩;have z7:=F.out.ch.size;have a3:=ab (F.out.fE (bj.aN (S:=λb=>b=g) b8) (F.out.rd.fE (bj.aN (S:=λ_=>False) b8) λ_ _ h=>h));have a6:=ab (And.intro (o8.base z7) ba);obtain⟨A8,c8,rfl⟩:=o8.form;clear F r7 o8 ba b8;cases put
    case' false=>
     clear a6;have a0:=a3
    case' true=>have a0:=ab (a3.out.tree a6.out.1 a6.out.2)
    all_goals
     clear a3;go_wp2;refine(di _ _ _ _ _ _ 3 (a0).out.rd (by omega)).mono ?_;rintro e c6 ⟨aa,rfl,⟨_,bS⟩,aV,bf⟩;have Y:=ab ((a0).out.fE bf aV);clear bS aV bf a0;by_cases m0:aa=0
     .have t5:(aa ==0)=true:=nF.2 m0;clear m0;go_wp2;refine(mX l g _ X hi c6 Y.out.rd (by omega)).mono ?_;rintro e bc ⟨c9,cg,rfl,cZ,bw,cW,bt⟩;have D:=ab (Y.out.fE bt bw);clear bw bt Y;have b9:=ab ((D.out.ot.deep (acP D.out.ft) 0).sl (eg _));go_wp2;refine(aj2 _ c9 _ bc 0 bc.heap.size b9.out (am _) (by have:=D.out.ft.2.1;omega)).mono ?_;rintro e d3 ⟨cG,ys,rfl,a9,an,af⟩;have ch:=D.out.ch.size;have bO:=ab ((D.out.fE (bj.aN (S:=λb=>b=g) af) (D.out.rd.fE (bj.aN (S:=λ_=>False) af) λ_ _ h=>h)).tree (a9.base ch) (D.out.ft.sub an));obtain⟨cO,cv,rfl⟩:=a9.form;clear D b9 a9 an af;go_wp2;go_roundw
      case rel=>exact⟨j-1,cg,_,_,_,_,_,by omega,by go_num,bO.out,by omega⟩
      simp[intOf];omega
     .have t5:(aa ==0)=false:=de.2 m0;clear m0;go_wp2;go_roundw
      case rel=>exact⟨j-1,_,_,_,_,_,_,by omega,by go_num,Y.out,by omega⟩
      simp[intOf];omega
end
section
variable {β:Bool}
open Go.RowKit
def agU:List ByteArray:=[⟨#[122,122]⟩,⟨#[98,46]⟩,⟨#[97,98,99,46]⟩,⟨#[104,101,108,108,111,46,46,46]⟩,⟨#[]⟩]
structure ap2 (L:jw) (nc:Nat):Prop where
 k:0<=L.k/\L.k<=5
 n:0<=L.n/\L.n<=20
 nl:L.k=2\/L.k=4->L.n<=nc
 m:0<=L.m/\L.m<=3
 b:L.b∈agU
def avW(w:World)(lo hi g:Nat)(l:List Int)(p nc:Nat)(e:Ending)(w':World):Prop:=
 ∃L q,e=.returned (.agg (nR L))/\ap2 L nc/\Rd w' lo hi g l q/\q<=p+10/\bj (λb=>b=g) w w'
def aaj(w:World)(g:Nat)(a b c d:Value):bj (λx=>x=g) w ((((w.setCell ⟨g,0,none⟩ a).setCell ⟨g,1,none⟩ b).setCell ⟨g,2,none⟩ c).setCell ⟨g,3,none⟩ d):=(lF w g a b c).setCell (S:=λx=>x=g) (p:=⟨g,3,none⟩) (.inl rfl) d
def ap3(w:World)(g k:Nat)(a b c d e f h:Value):bj (λx=>x=g\/x=k) w (((((((w.setCell ⟨g,0,none⟩ a).setCell ⟨g,1,none⟩ b).setCell ⟨g,2,none⟩ c).setCell ⟨k,0,none⟩ d).setCell ⟨k,1,none⟩ e).setCell ⟨k,2,none⟩ f).setCell ⟨k,3,none⟩ h):=((lF w g a b c).mono λ_ _ h=>.inl h).trans (aaj _ k d e f h) λi _ e=>.inr e
def amP(l:List Int)(g p lo hi:Nat)(w:World)(hr:Rd w lo hi g l p)(hp:p<=100000)(A B C:Option Addr)(na a nb b nc c:Nat)(b4:nc<=9) :
  Calls (ah β) 14 #[.pointer (some ⟨g,0,none⟩),.agg #[.slice A na a,.slice B nb b,.slice C nc c]] w (avW w lo hi g l p nc):=by
 have b9:=hr.lt;have b1:=hr.hi_;go_enter AE,ntmps14;go_wp2;generalize hG:(w.alloc (.cells #[.slice A na a,.slice B nb b,.slice C nc c] 27)).alloc (.cells #[.int .i64 0,.int .i64 0,.int .i64 0,.string ⟨#[]⟩] 29)=w0 at *;obtain⟨aL,jo,L,dn,eQ,E,dG,eD⟩:=pW hG;clear hG;have ad:bj (λb=>b=g) w w0:=bj.aN aL;have a3:=hr.fE (bj.aN (S:=λ_=>False) aL) λ_ _ h=>h;clear dn dG eQ eD aL hr;refine(di _ _ _ _ _ _ 5 a3 (by omega)).mono ?_;rintro e w1 ⟨m,rfl,⟨_,I⟩,ao,U⟩;have bc:=I (by omega);have al:=ad.trans U λi _ e=>e;replace L:=aP L U (by omega);replace E:=aP E U (by omega);clear I U ad a3;go_wp2;refine(di _ _ _ _ _ _ 5 ao (by omega)).mono ?_;rintro e w2 ⟨K,rfl,⟨_,I⟩,a6,Q⟩;have b8:=I (by omega);have a8:=al.trans Q λi _ e=>e;replace L:=aP L Q (by omega);replace E:=aP E Q (by omega);clear I Q al ao;go_wp2;refine(di _ _ _ _ _ _ 4 a6 (by omega)).mono ?_;rintro e W ⟨r,rfl,⟨_,I⟩,aa,T⟩;have b3:=I (by omega);have nz:=a8.trans T λi _ e=>e;replace L:=aP L T (by omega);replace E:=aP E T (by omega);clear I T a8 a6;go_wp2;have rl:dE (W.alloc (.cells #[.string ⟨#[122,122]⟩,.string ⟨#[98,46]⟩,.string ⟨#[97,98,99,46]⟩,.string ⟨#[104,101,108,108,111,46,46,46]⟩,.string ⟨#[]⟩] 9)) W.heap.size (W.alloc (.cells #[.string ⟨#[122,122]⟩,.string ⟨#[98,46]⟩,.string ⟨#[97,98,99,46]⟩,.string ⟨#[104,101,108,108,111,46,46,46]⟩,.string ⟨#[]⟩] 9)).heap.size [⟨#[122,122]⟩,⟨#[98,46]⟩,⟨#[97,98,99,46]⟩,⟨#[104,101,108,108,111,46,46,46]⟩,⟨#[]⟩] [.slice (some ⟨W.heap.size,0,none⟩) 5 5]:=
  (aJ.deep (F:=iJ) (acB (F:=iJ) (bg.new W 9 #[.string ⟨#[122,122]⟩,.string ⟨#[98,46]⟩,.string ⟨#[97,98,99,46]⟩,.string ⟨#[104,101,108,108,111,46,46,46]⟩,.string ⟨#[]⟩]) rfl (am _) rfl (by simp[maxLen])) (oJ (by decide)) W.heap.size).sl (am _)
 have a4:=(aa).alloc (.cells #[.string ⟨#[122,122]⟩,.string ⟨#[98,46]⟩,.string ⟨#[97,98,99,46]⟩,.string ⟨#[104,101,108,108,111,46,46,46]⟩,.string ⟨#[]⟩] 9);have D:=(nz).alloc (.cells #[.string ⟨#[122,122]⟩,.string ⟨#[98,46]⟩,.string ⟨#[97,98,99,46]⟩,.string ⟨#[104,101,108,108,111,46,46,46]⟩,.string ⟨#[]⟩] 9);have Z:=av (W) (.cells #[.string ⟨#[122,122]⟩,.string ⟨#[98,46]⟩,.string ⟨#[97,98,99,46]⟩,.string ⟨#[104,101,108,108,111,46,46,46]⟩,.string ⟨#[]⟩] 9);generalize (W).alloc (.cells #[.string ⟨#[122,122]⟩,.string ⟨#[98,46]⟩,.string ⟨#[97,98,99,46]⟩,.string ⟨#[104,101,108,108,111,46,46,46]⟩,.string ⟨#[]⟩] 9)=w5 at *;refine(aib _ (by simp) _ _ _ _ _ _ _ _ w5 a4 (by omega) rl).mono ?_;rintro e v5 ⟨y,a7,rfl,an,N⟩;replace D:=(D).trans N λi _ e=>e;clear rl;replace L:=aP (ak L Z) N (by omega);replace E:=aP (ak E Z) N (by omega);have z5:=D.size;clear Z N a4 aa nz;obtain⟨o,k⟩:∃o,o=v5.heap.size:=⟨_,rfl⟩;have ax:=av v5 (.cells #[.int .i64 m,.int .i64 (1+K),.int .i64 r,.string y] 29);have n:=bg.new v5 29 #[.int .i64 m,.int .i64 (1+K),.int .i64 r,.string y];have f:=D.alloc (.cells #[.int .i64 m,.int .i64 (1+K),.int .i64 r,.string y] 29);have j:=an.alloc (.cells #[.int .i64 m,.int .i64 (1+K),.int .i64 r,.string y] 29);have s:=ak L ax;have d:=ak E ax;have a9:=s.cell;have aV:w.heap.size+1<o:=by rw[k];exact E.lt
 have H:=ab (And.intro n (And.intro f (And.intro j (And.intro s d))));clear n f j s d ax L E an D;have ba:=Nat.le_of_lt_succ (Nat.lt_succ_of_lt aV);replace k:=ab k;by_cases V:m=2\/m=4
 case' pos=>
  rcases V with V|V
  all_goals
   first
    |have t1:(m ==2)=true:=nF.2 V
    |(have t1:(m ==2)=false:=de.2 (by omega);have t2:(m ==4)=true:=nF.2 V)
   clear V;go_wp2;rw[<-k.out];obtain⟨n,f,j,s,d⟩:=H.out;rw[<-k.out] at n;clear H a9 k;revert d;revert n;revert j;revert f;clear s;generalize v5.alloc (.cells #[.int .i64 m,.int .i64 (1+K),.int .i64 r,.string y] 29)=w7;intro f j n d;refine(di _ _ _ _ _ _ _ j (by omega)).mono ?_;rintro e w8 ⟨t,rfl,⟨_,I⟩,a5,R⟩;have b6:=I (by omega);have X:=f.trans R λi _ e=>e;replace n:=aP n R (by omega);replace d:=aP d R (by omega);clear I R f j;have cl:=n.cell;have fl:=n.frozen;have z:=n.bG 1 (.int .i64 t);simp only[dj,ge,io] at z;have z8:=X.size;have q:=cj d (p:=⟨o,1,none⟩) (.int .i64 t) (by dsimp only;omega);have cg:=(bj.refl (λx=>x=o) w8).setCell (S:=λx=>x=o) (p:=⟨o,1,none⟩) (.inl rfl) (.int .i64 t);have af:=X.trans cg λi hi e=>by have e':i=o:=e;omega
   have a2:=a5.fE cg λb hb e=>by omega
   have H9:=ab (And.intro af (And.intro a2 (And.intro z q)));clear cg af a2 z q X a5 d;go_wp2;obtain⟨f,j,z,d⟩:=H9.out;clear H9 cl fl n;revert d;revert z;revert j;revert f;generalize w8.setCell ⟨o,1,none⟩ (.int .i64 t)=w8';intro f j n d;have a1:((m:Int)=2\/(m:Int)=4)->t<=(nc:Int):=λ_=>by omega
   have Y:0<=t/\t<=20:=by omega
 case' neg=>
  have t1:(m ==2)=false:=de.2 (by omega);have t2:(m ==4)=false:=de.2 (by omega);have aH:=ab V;clear V;go_wp2;rw[<-k.out];obtain⟨n,f,j,s,d⟩:=H.out;rw[<-k.out] at n;clear H a9 t1 t2 k;revert d;revert n;revert j;revert f;clear s;generalize v5.alloc (.cells #[.int .i64 m,.int .i64 (1+K),.int .i64 r,.string y] 29)=w8';intro f j n d;have a1:(m=2\/m=4)->1+K<=(nc:Int):=λh=>absurd h aH.out;have Y:0<=1+K/\1+K<=20:=by omega
  generalize 1+K=t at *
 all_goals
  have aZ:=ab a1;clear a1;refine(di _ _ _ _ _ _ 24 j (by omega)).mono ?_;rintro e w9 ⟨m9,rfl,⟨_,aT⟩,ay,P⟩;have gM:=(f).trans P λi _ e=>e;have J:=aP n P (by omega);have q:=aP d P (by omega);have z9:=gM.size;clear aT P;by_cases m0:m9=0
  .have t9:(m9 ==0)=true:=nF.2 m0;clear m0;have G:=J.bG 0 (.int .i64 5);simp only[dj,ge,io] at G;have u:=cj q (p:=⟨o,0,none⟩) (.int .i64 5) (by dsimp only;omega);have O:=gM.trans (((bj.refl (λx=>x=o) w9).setCell (S:=λx=>x=o) (p:=⟨o,0,none⟩) (.inl rfl) (.int .i64 5))) λi hi e=>by have e':i=o:=e;omega
   have M:=ay.fE (((bj.refl (λx=>x=o) w9).setCell (S:=λx=>x=o) (p:=⟨o,0,none⟩) (.inl rfl) (.int .i64 5))) λb hb e=>by omega
   have aI:=J.cell;have bf:=J.frozen;have b5:=G.cell;have b7:=u.frozen;have b0:=u.cell;have H:=ab (And.intro G (And.intro u (And.intro O M)));clear G u O M J q;go_wp2;obtain⟨G,u,O,M⟩:=H.out;have k4:=(((u.bG 0 (.int .i64 5)).bG 1 (.int .i64 (t))).bG 2 (.int .i64 r)).bG 3 (.string y);simp only[dj,ge,io] at k4;have a0:=k4.cell;refine pb (v:=.agg #[.int .i64 5,.int .i64 (t),.int .i64 r,.string y]) (by simp[results,results14,go_sem,a0]) rfl ⟨⟨5,t,r,y⟩,_,rfl,⟨⟨show(0:Int)<=5 by omega,show(5:Int)<=5 by omega⟩,Y,(λh=>by have h:(5:Int)=2\/(5:Int)=4:=h;omega),by show 0<=r/\r<=3;omega,a7⟩,M.fE (aaj _ _ _ _ _ _) λb hb e=>by omega,by omega,O.trans (aaj _ _ _ _ _ _) λi hi e=>by omega⟩
  .have t9:(m9 ==0)=false:=de.2 m0;clear m0;have aI:=J.cell;have bb:=q.frozen;have b2:=q.cell;go_wp2;have k4:=(((q.bG 0 (.int .i64 (m))).bG 1 (.int .i64 (t))).bG 2 (.int .i64 r)).bG 3 (.string y);simp only[dj,ge,io] at k4;have a0:=k4.cell;refine pb (v:=.agg #[.int .i64 (m),.int .i64 (t),.int .i64 r,.string y]) (by simp[results,results14,go_sem,a0]) rfl ⟨⟨m,t,r,y⟩,_,rfl,⟨by show 0<=(m:Int)/\(m:Int)<=5;omega,Y,(λh=>aZ.out (by first|exact h|simp)),by show 0<=r/\r<=3;omega,a7⟩,ay.fE (aaj _ _ _ _ _ _) λb hb e=>by omega,by omega,gM.trans (aaj _ _ _ _ _ _) λi hi e=>by omega⟩
def avY(w:World)(e:Ending)(w':World):Prop:=
 ∃c b a s L,e=.returned (.tuple #[.agg #[c,b,a],.agg (nR L)])/\fg w' w.heap.size w'.heap.size s c b a/\eL s/\ap2 L s.lg.length/\Below w.heap.size w w'
def ad0(A:Option Addr)(n c:Nat)(l:List Int)(w:World)(h:bD iO 1 w 0 w.heap.size l [.slice A n c]) :
  Calls (ah β) 4 #[.slice A n c] w (avY w):=by
 go_enter qF4,ntmps4;go_wp2;generalize hG:(w.alloc (.cells #[.slice none 0 0,.slice none 0 0,.slice none 0 0] 27)).alloc (.cells #[.int .i64 0,.int .i64 0,.int .i64 0,.string ⟨#[]⟩] 29)=w0 at *;obtain⟨I,jo,Q,X,U,P,V,W⟩:=pW hG;refine(asr l A n c w0 0 w.heap.size (anV iO.loc h I (am _)) I.size).mono ?_;rintro e w1 ⟨g,rfl,hr,hg,t⟩;have al:=hr.lt;replace Q:=ak Q t;replace X:=Q.cell;replace U:=Q.frozen;replace P:=ak P t;replace V:=P.cell;replace W:=P.frozen;replace I:=ag I t;go_wp2;refine(aio _ g 0 _ _ w1 hr (by omega)).mono ?_;rintro e R ⟨va,vb,vc,s,q,rfl,os,J,a1,hq,o⟩;obtain⟨⟨u,E,rfl⟩,⟨z,B,rfl⟩,D,C,rfl⟩:=os.form;have m:=aP Q o (by omega);have f:=aP P o (by omega);have z2:=o.size;have z0:=t.size;have a6:Below w.heap.size w R:=I.trans (o.below I.size λi hi e=>by have e':i=g:=e;omega);have Z:=ab J;have a2:=J.wf.ll;have ax:=av R (.cells #[.slice u s.pk.length E,.slice z s.sn.length B,.slice D s.lg.length C] 27);have km:=(bg.new R 27 #[.slice u s.pk.length E,.slice z s.sn.length B,.slice D s.lg.length C]).cell;go_wp2;generalize hG:R.alloc (.cells #[.slice u s.pk.length E,.slice z s.sn.length B,.slice D s.lg.length C] 27)=w3 at *;obtain⟨O,aa,m0,od,ay⟩:=mB hG;replace m:=ak m O;replace a9:=m.cell;replace ao:=m.frozen;replace f:=ak f O;replace aI:=f.cell;replace aH:=f.frozen;have a0:=os.below O (am _);have a5:=a1.fE (bj.aN (S:=λ_=>False) O) λ_ _ h=>h;have T:=ag a6 O;have an:=abz (s:=3) (ty:=74) (S:=λb=>b=g) (pre:=[]) (od 0) (by dsimp only;omega);have af:=abz (s:=3) (ty:=74) (S:=λb=>b=g) (pre:=[]) (od 1) (by dsimp only;omega);have ad:=abz (s:=3) (ty:=74) (S:=λb=>b=g) (pre:=[]) (od 2) (by dsimp only;omega);refine amb 3 74 (λb=>b=g) [] 4 [0,1,2] [3] (by kernel_rfl) (by kernel_rfl) (by kernel_rfl) ?_;simp only[pick,List.map,gt,gE];repeat(go_big_quiet_step (fail))
 refine ip ?_;apply Exists.intro;apply ayL (λv x=>x.done=true/\∃L,v=.agg (nR L)/\ap2 L s.lg.length)
 .rfl
 .rfl
 .exact λj hj=>(by cases hj)
 .exact λv x y h a8=>⟨(a8.from_ h.1).1,h.2⟩
 .intro x _ N Qx G;replace G:=ab G;have a3:=x.till N;go_wp2;refine(amP _ g q _ _ x.to (a5.fE (bj.aN (S:=λ_=>False) a3) λ_ _ h=>h) (by omega) u z D _ E _ B _ C a2).mono ?_;rintro e wy ⟨L,q2,rfl,K,_,_,a4⟩;go_wp2;exact G.out _ _ (a4.mono λb hb e=>.inl e) ⟨rfl,L,rfl,K⟩
 intro aL;refine ayM λx hF=> ?_;simp only[dQ] at hF;obtain⟨⟨N,L,rfl,K⟩, -⟩:=hF;have d:bj (λb=>b=g) w3 x.to:=x.ok.mono λb _ h=>h.2;have F:=a0.fE d λb h1 h2=>⟨by omega,by omega⟩;have k:=aP m d (by omega);have a:=aP f d (by omega);have r:Below w.heap.size w x.to:=T.trans (d.below T.size λi hi e=>by have e':i=g:=e;omega);have U:=k.frozen;have W:=a.frozen;have X:=k.cell;have V:=a.cell;have zx:=d.size;simp only[List.drop];have H:=ab (And.intro F (And.intro k (And.intro a (And.intro r K))));revert H X V U W zx;generalize x.to=w4;intro U W X V zx H;go_wp2;obtain⟨F,k,a,r,K⟩:=H.out;have zk:=a.lt;have Y:=cj (cj (cj a (p:=⟨w.heap.size,0,none⟩) (.slice u s.pk.length E) (by dsimp only;omega)) (p:=⟨w.heap.size,1,none⟩) (.slice z s.sn.length B) (by dsimp only;omega)) (p:=⟨w.heap.size,2,none⟩) (.slice D s.lg.length C) (by dsimp only;omega);have k4:=(((Y.bG 0 (.int .i64 L.k)).bG 1 (.int .i64 L.n)).bG 2 (.int .i64 L.m)).bG 3 (.string L.b);simp only[dj,ge,io] at k4;have a7:=((k.bG 0 (.slice u s.pk.length E)).bG 1 (.slice z s.sn.length B)).bG 2 (.slice D s.lg.length C);have M:=cj (cj (cj (cj a7 (p:=⟨w.heap.size+1,0,none⟩) (.int .i64 L.k) (by dsimp only;omega)) (p:=⟨w.heap.size+1,1,none⟩) (.int .i64 L.n) (by dsimp only;omega)) (p:=⟨w.heap.size+1,2,none⟩) (.int .i64 L.m) (by dsimp only;omega)) (p:=⟨w.heap.size+1,3,none⟩) (.string L.b) (by dsimp only;omega);simp only[dj,ge,io] at M;have c4:=k4.cell;have c5:=M.cell;have h7:=ap3 w4 w.heap.size (w.heap.size+1) (.slice u s.pk.length E) (.slice z s.sn.length B) (.slice D s.lg.length C) (.int .i64 L.k) (.int .i64 L.n) (.int .i64 L.m) (.string L.b);have z7:=ap (show R.heap.size<=w4.heap.size by omega) h7.size;refine pb (v:=.tuple #[.agg #[.slice u s.pk.length E,.slice z s.sn.length B,.slice D s.lg.length C],.agg (nR L)]) (by simp[results,results4,go_sem,c4,c5,nR]) rfl ⟨_,_,_,s,L,rfl,(F.fE h7 λb h1 h2=>⟨by omega,by omega⟩).wide (by omega) z7,Z.out,K,r.trans (h7.below r.size λi hi e=>by have e':i=w.heap.size\/i=w.heap.size+1:=e;omega)⟩
end
section
variable {β:Bool}
open Go.RowKit
structure SmS (s:dy):Prop where
 pl:s.pk.length<=20
 pn:∀p∈s.pk,p.its.length<=4/\∀x∈p.its,x.b.size<=8
 sl:s.sn.length<=9
 sn:∀x∈s.sn,x.all.length<=6/\∀y∈x.all,y.p.size<=3/\y.ns.length<=40
 ll:s.lg.length<=9
def WfS.sm(h:WfS s):SmS s:=⟨h.pl,λp a=>(h.pn p a).2,by have:=h.sl;have:=h.ll;omega,λx b=>(h.sn x b).2,h.ll⟩
def SmS.auA(h:SmS s):kQ s<=10000:=by
 have e:eu bPk s.pk<=s.pk.length*(36+1):=jy λp b=>by
  have c:eu bIt p.its<=p.its.length*(8+1):=jy λx a=>(h.pn p b).2 x a;have:=(h.pn p b).1;show eu bIt p.its<=36;omega
 have f:eu bSn s.sn<=s.sn.length*(264+1):=jy λx a=>by
  have c:eu bLs x.all<=x.all.length*(43+1):=jy λy d=>by
   have:=(h.sn x a).2 y d;show y.p.size+y.ns.length<=43;omega
  have:=(h.sn x a).1;show eu bLs x.all<=264;omega
 have:=h.pl;have:=h.sl;have:=h.ll;unfold kQ;omega
def ap5{l:List V}{i:Nat}{f:V->V}{y:V}(h:y∈sG l i f):y∈l\/∃x,l[i]?=some x/\y=f x:=by
 unfold sG at h;split at h
 .rename_i x a;rcases th h with h|h
  .exact .inl h
  .exact .inr ⟨x,a,h⟩
 .exact .inl h
def SmS.lie(h:SmS s){l:jw}(j:l.b.size<=8):SmS (dM s l):=by
 by_cases g:l.k=1
 .rw[aag g];exact⟨ap (sj _ _) h.pl,λp b=>h.pn p ((rI.1 b).1),h.sl,h.sn,h.ll⟩
 by_cases f:l.k=2
 .by_cases c:0<=l.n/\l.n<=s.lg.length
  .rw[oP f c];exact⟨h.pl,h.pn,ap (sj _ _) h.sl,λx a=>h.sn x ((rI.1 a).1),ap (by rw[ef];omega) h.ll⟩
  .rw[mS f c];exact h
 by_cases i:l.k=3
 .rw[abD i];refine⟨by rw[qg];exact h.pl,λp b=> ?_,h.sl,h.sn,h.ll⟩;obtain⟨q,k,rfl⟩:=pe.1 b;have e:=h.pn q k;unfold fS;split
  .refine⟨by show(sG q.its _ _).length<=4;rw[nQ];exact e.1,λx a=> ?_⟩;rcases ap5 a with a|⟨y,m,rfl⟩
   .exact e.2 x a
   .exact j
  .exact e
 by_cases d:l.k=4
 .by_cases c:0<=l.n/\l.n<s.lg.length
  .rw[abE d c];exact⟨h.pl,h.pn,h.sl,h.sn,by show(sG s.lg _ _).length<=9;rw[nQ];exact h.ll⟩
  .rw[mU d c];exact h
 rw[abF g f i d];exact h
def ap2.bs{L:jw}(h:ap2 L Z):L.b.size<=8:=by
 have:=h.b;unfold agU at this;simp only[mu,rN,uj] at this;rcases this with e|e|e|e|e<;>rw[e]<;>decide
end
section
open Go.RowKit
def aip{z:Int}(a:0<=z)(b:z<3):wrap64 z=z:=by unfold wrap64;omega
def avZ{x:Hd}(h:aBH x):(lj x).b=3-x.b/\(lj x).s=x.s:=by
 have:=h.1;exact⟨aip (by omega) (by omega),rfl⟩
def amQ(x:V)(l:List V)(f:V->V):sG (x::l) 0 f=f x::l:=rfl
def amR(x:V)(l:List V)(n:Nat)(f:V->V):sG (x::l) (n+1) f=x::sG l n f:=by
 unfold sG;simp only[List.getElem?_cons_succ];cases l[n]?<;>rfl
def af9:Int->List Hd->Int
 |a,[]=>a
 |a,x::l=>af9 (a*64+21*x.b+x.s) l
def amS(l:List Hd):Int:=af9 0 l
def akk:∀{l:List Hd} {a b:Int},af9 a l=af9 b l->a=b
 |[],_,_,h=>h
 |x::l,a,b,h=>by
  have h:af9 (a*64+21*x.b+x.s) l=af9 (b*64+21*x.b+x.s) l:=h;have:=akk h;omega
def agV:∀{l:List Hd} {n:Nat} {a:Int},(∀x∈l,aBH x)->n<l.length->af9 a (sG l n lj)≠af9 a l
 |[],n,_,_,h=>by simp at h
 |x::l,0,a,hk,_=>λe=>by
  rw[amQ] at e;have e:af9 (a*64+21*(lj x).b+(lj x).s) l=af9 (a*64+21*x.b+x.s) l:=e;have:=akk e;obtain⟨i,g⟩:=avZ (hk x (by simp));have:=hk x (by simp);obtain⟨⟨c,d⟩,f,j⟩:=this;omega
 |x::l,n+1,a,hk,h=>λe=>by
  rw[amR] at e;exact agV (l:=l) (n:=n) (λy b=>hk y (by simp[b])) (by simpa using h) e
def av0(long sum:Int)(l:List Hd):Int×Int×Int:=if(l.length:Int)<long\/long<0 then(long,sum,1) else if amS (l.take long.toNat)=sum then((l.length:Int),amS l,0) else(long,sum,2)
end
section
variable {β:Bool}
open Go.RowKit
def aoi:∀(l:List Hd) (a:Int),a<=l.foldl (λa h=>max a (h.s+1)) a/\∀x∈l,x.s+1<=l.foldl (λa h=>max a (h.s+1)) a
 |[],a=>⟨vC _,λx b=>(by cases b)⟩
 |y::l,a=>by
  obtain⟨d,c⟩:=aoi l (max a (y.s+1));show a<=l.foldl (λa h=>max a (h.s+1)) (max a (y.s+1))/\∀x∈y::l,x.s+1<=l.foldl (λa h=>max a (h.s+1)) (max a (y.s+1));refine⟨by omega,λx b=> ?_⟩;rcases mu.1 b with rfl|b
  .omega
  .exact c x b
def av1 :∀x∈s.lg,x.s<eB s:=λx a=>by
 have b:x.s+1<=gj s.lg:=(aoi s.lg 1).2 x a;unfold eB;cases s.sn.getLast? with
 |none=>show x.s<gj s.lg;omega
 |some y=>show x.s<max (gj s.lg) (y.no+1);omega
def eL.asc(h:eL s):s.lg.Pairwise λa b=>a.s<b.s:=by
 induction h with
 |nil=>exact .nil
 |save j i g f c=>
  refine tW.2 ⟨c,tw _ _,λx e y d=> ?_⟩;rw[mw.1 d];exact av1 x e
def found(h:eL s){L:jw}(k:ap2 L s.lg.length) :
  (L.k=2->L.n<s.lg.length->av0 s.lg.length (amS s.lg) (dM s L).lg=((s.lg.length:Int),amS s.lg,1))/\
  (L.k=4->L.n<s.lg.length->av0 s.lg.length (amS s.lg) (dM s L).lg=((s.lg.length:Int),amS s.lg,2))/\
  (¬(L.k=2/\L.n<s.lg.length)->¬(L.k=4/\L.n<s.lg.length)->(dM s L).lg=s.lg):=by
 refine⟨λe b=> ?_,λf b=> ?_,λe f=> ?_⟩
 .by_cases g:0<=L.n
  .rw[oP e ⟨g,by omega⟩];unfold av0;rw[du (.inl (by rw[ef];omega))]
  .exfalso;have:=k.n.1;omega
 .have g:=k.n.1;rw[abE f ⟨g,b⟩];unfold av0;rw[be (by rw[nQ];omega),be];show ¬amS ((sG s.lg L.n.toNat lj).take (s.lg.length:Int).toNat)=_;rw[tf,pu (by rw[nQ];exact am _)];exact agV h.wf.lg (by omega)
 .by_cases i:L.k=1
  .rw[aag i]
  by_cases a:L.k=2
  .by_cases b:0<=L.n/\L.n<=s.lg.length
   .rw[oP a b];have:L.n.toNat=s.lg.length:=by
     by_cases d:L.n<s.lg.length
     .exact absurd ⟨a,d⟩ e
     .omega
    rw[this,gc]
   .rw[mS a b]
  by_cases j:L.k=3
  .rw[abD j]
  by_cases c:L.k=4
  .by_cases b:0<=L.n/\L.n<s.lg.length
   .exact absurd ⟨c,b.2⟩ f
   .rw[mU c b]
  rw[abF i a j c]
def agW{c:Type}(q:c->Bool)(a:c->Int)(n:Int)(d:∀x,a x=n->q x=true):∀l:List c,(l.filter q).find? (λx=>a x ==n)=l.find? (λx=>a x ==n)
 |[]=>rfl
 |y::l=>by
  rw[rZ];by_cases b:a y=n
  .rw[se,du (d y b),rZ,show(a y ==n)=true from nF.2 b]
  .rw[show(a y ==n)=false from de.2 b,<-agW q a n d l];by_cases e:q y=true
   .rw[se,du e,rZ,show(a y ==n)=false from de.2 b]
   .rw[se,be e]
def old(h:eL s){i : Nat}{x:Hd}(m:k<=s.lg.length)(hi:i<k)(c:s.lg[i]?=some x):fA 7 (dM s ⟨2,k,0,⟨#[]⟩⟩) x.s=fA 7 s x.s/\(dM s ⟨2,k,0,⟨#[]⟩⟩).lg=s.lg.take k:=by
 rw[oP rfl ⟨by show(0:Int)<=k;omega,by show(k:Int)<=_;omega⟩];refine⟨?_,rfl⟩;unfold fA;show(match(s.sn.filter λy=>!((s.lg.drop k).any λh=>h.s ==y.no)).find? (λy=>y.no ==x.s) with|some y=>ig 7 (kH s.pk) y.all|none=>none)=_
 suffices kZ:∀y:Sn,y.no=x.s->(!((s.lg.drop k).any λh=>h.s ==y.no))=true by
  rw[agW _ (λy:Sn=>y.no) x.s kZ s.sn];all_goals(cases s.sn.find? (λy=>y.no ==x.s)<;>rfl)
 intro y a;have a:y.no=x.s:=a;rw[a,uD,<-nf,vY];rintro⟨z,l,d⟩;have d:=nF.1 d;obtain⟨j,b⟩:=qW l;rw[tE] at b;have e:=rG.1 h.asc i (k+j) (aB c) (aB b) (by omega);have f:=(pi.1 c).2;have g:=(pi.1 b).2;rw[f,g] at e;omega
end
section
variable {β:Bool}
open Go.RowKit
def nC:∀(a b:List UInt8),(Op.bytesLess a b||a ==b)=!(Op.bytesLess b a)
 |[],[]=>by simp[Op.bytesLess]
 |[],_::_=>by simp[Op.bytesLess]
 |_::_,[]=>by simp[Op.bytesLess]
 |x::a,y::b=>by
  have j:=nC a b;by_cases i:x.toNat<y.toNat
  .have c:decide (x<y)=true:=dk (rK.2 i);have g:decide (y<x)=false:=da λh=>by have:=rK.1 h;omega
   have d:(y ==x)=false:=de.2 λh=>by rw[h] at i;omega
   simp[Op.bytesLess,c,g,d]
  .by_cases e:y.toNat<x.toNat
   .have c:decide (y<x)=true:=dk (rK.2 e);have g:decide (x<y)=false:=da λh=>by have:=rK.1 h;omega
    have d:(x ==y)=false:=de.2 λh=>by rw[h] at e;omega
    have f:(x::a ==y::b)=false:=de.2 λh=>by rw[ql] at h;rw[h.1] at e;omega
    rw[f];simp[Op.bytesLess,c,g,d]
   .obtain rfl:x=y:=sR.1 (by omega);have c:decide (x<x)=false:=da λh=>by have:=rK.1 h;omega
    have f:(x::a ==x::b)=(a ==b):=by rw[List.cons_beq_cons,sI,uI]
    rw[f];simp only[Op.bytesLess,c,uJ,sI,uI];exact j
def agX(s:ByteArray):bs s=s.toList.map UInt8.toNat:=by rw[rj];rfl
def kI{s:ByteArray}(h:k<s.size):s.toList[k]?=some (s[k]'h):=by
 rw[rj,fa];exact gn h
def mo(s:ByteArray):s.toList.length=s.size:=by rw[rj,qS];rfl
def agY{s:ByteArray}(h:ie s=true):(∃a,s.toList=[a])\/∃a c,s.toList=[a,47,c]:=by
 have e:=mo s;unfold ie at h;split at h
 .rename_i i;left;rw[i] at e;obtain⟨a,g⟩:=tL.1 e;exact⟨a,g⟩
 .split at h
  .rename_i j;right;simp only[ff,qT] at h;have d:=kI (s:=s) (k:=1) (by omega);have f:s[1]'(by omega)=47:=sR.1 (by rw[h.2.1];rfl);rw[f] at d;rw[j] at e
   match hs:s.toList,e,d with
   |[a,b,c],_,d=>
    simp at d;subst d;exact⟨a,c,rfl⟩
  .cases h
def amT{g : ByteArray}{a b:UInt8}{x y:List UInt8}(j:g.toList=a::x)(e:f.toList=b::y):jN g f=(decide (x.length≠y.length)&&(a ==b)):=by
 have l:=mo g;have i:=mo f;rw[j] at l;rw[e] at i;simp only[fi] at l i;have c:=kI (s:=g) (k:=0) (by omega);have d:=kI (s:=f) (k:=0) (by omega);rw[j] at c;rw[e] at d;simp only[tz,lP] at c d;unfold jN;rw[tP ⟨by omega,by omega⟩];by_cases h:g.size=f.size
 .rw[du h,da (by omega),ur]
 .rw[be h,dk (by omega),uI,<-c,<-d,rc,nF,nF,<-sR];omega
def agZ{g : ByteArray}(n:ie g=true)(m:ie f=true)(k:Op.bytesLess g.toList f.toList=true):aaN g f=jN g f:=by
 have e:aaN g f=(g.toList++[47]).isPrefixOf f.toList:=by
  unfold aaN;rw[agX,agX];generalize g.toList=x;generalize f.toList=y;have l:([47]:List Nat)=[(47:UInt8)].map UInt8.toNat:=rfl;rw[l,<-qZ];generalize x++[47]=x
  induction x generalizing y with
  |nil=>rfl
  |cons a x o=>
   cases y with
   |nil=>rfl
   |cons b y=>
    simp only[ru,List.isPrefixOf_cons₂,o]
    congr 1
    rw[rc,nF,nF,sR]
 rw[e];rcases agY n with⟨a,i⟩|⟨a,c,i⟩<;>rcases agY m with⟨b,j⟩|⟨b,d,j⟩<;>rw[amT i j,i,j]
 .simp[List.isPrefixOf]
 .simp[List.isPrefixOf]
 .rw[i,j] at k;have:(a ==b)=false:=by
   simp[Op.bytesLess] at k;exact de.2 λh=>by rw[h,rK] at k;omega
  simp[List.isPrefixOf,this]
 .simp[List.isPrefixOf]
def ap6{t:List Nd}:agT t↔ajW t:=by
 unfold agT ajW aoc;constructor
 .rintro⟨d,h⟩;refine⟨d,λi x a=>⟨(h i x a).1,(h i x a).2.1,λk y c b=> ?_⟩⟩;rw[<-agZ (h k y b).1.1 (h i x a).1.1 (aej (λi x a=>(h i x a).2.1) (i-k-1) k (by rw[show k+(i-k-1)+1=i by omega];exact a) b)];exact(h i x a).2.2 k y c b
 .rintro⟨d,h⟩;refine⟨d,λi x a=>⟨(h i x a).1,(h i x a).2.1,λk y c b=> ?_⟩⟩;rw[agZ (h k y b).1.1 (h i x a).1.1 (aej (λi x a=>(h i x a).2.1) (i-k-1) k (by rw[show k+(i-k-1)+1=i by omega];exact a) b)];exact(h i x a).2.2 k y c b
end
section
variable {β:Bool}
open Go.RowKit
def av2{l:List Pk}(h:l.Pairwise λa b=>a.no<b.no):∀p∈l,p.no<fh l:=by
 intro p j;unfold fh;obtain⟨z,c,e⟩:=wA (l:=l) (wt j);rw[e];show p.no<z.no+1;obtain⟨i,d⟩:=qW j;have g:=aB d;rcases pm i (l.length-1) with f|k
 .have:=rG.1 h i (l.length-1) g (by omega) f;rw[(pi.1 d).2,(pi.1 c).2] at this;omega
 .have:i=l.length-1:=by omega
  subst this;rw[c] at d;cases d;omega
def afA(key:Int):∀(n:Nat) (no:Int) (l:List ByteArray),l.length<=n->(fF key no l).Pairwise λa b=>a.no<b.no
 |0,no,l,h=>by rw[qh.1 (by omega:l.length=0),iK];exact .nil
 |n+1,no,l,h=>by
  rcases pv l.length with c|c
  .rw[qh.1 c,iK];exact .nil
  .rw[mW key no c];refine .cons (λp d=> ?_) (afA key n (no+1) (l.drop 4) (by rw[qj];omega));have:=(jQ key n (no+1) (l.drop 4) (by rw[qj];omega) p d).1;show no<p.no;omega
def eL.axt(h:eL s):s.pk.Pairwise λa b=>a.no<b.no:=by
 induction h with
 |nil=>exact .nil
 |save l k j g c=>
  refine tW.2 ⟨c,afA 7 _ _ _ (am _),λp d q e=> ?_⟩;have i:=av2 c p d;have f:=(jQ 7 _ _ _ (am _) q e).1;omega
def av3(h:s.sn.Pairwise λa b=>a.no<b.no):∀x∈s.sn,x.no<eB s:=by
 intro p k;obtain⟨z,c,e⟩:=wA (l:=s.sn) (wt k);have g:z.no<eB s:=by
  unfold eB;rw[e];show z.no<max (gj s.lg) (z.no+1);omega
 obtain⟨i,d⟩:=qW k;have j:=aB d;rcases pm i (s.sn.length-1) with f|m
 .have:=rG.1 h i (s.sn.length-1) j (by omega) f;rw[(pi.1 d).2,(pi.1 c).2] at this;omega
 .have:i=s.sn.length-1:=by omega
  subst this;rw[c] at d;cases d;exact g
def eL.aBR(h:eL s):s.sn.Pairwise λa b=>a.no<b.no:=by
 induction h with
 |nil=>exact .nil
 |save j i g f c=>
  refine tW.2 ⟨c,tw _ _,λx e y d=> ?_⟩;rw[mw.1 d];exact av3 c x e
def ag0{d:Type}(c:d->Int):∀{l:List d} {x:d},l.Pairwise (λa b=>c a<c b)->x∈l->l.find? (λy=>c y ==c x)=some x
 |[],_,_,h=>by cases h
 |y::l,x,hp,h=>by
  rw[rZ];rcases mu.1 h with rfl|h
  .rw[sI]
  .have e:=(sN.1 hp).1 x h;rw[show(c y ==c x)=false from de.2 (by omega)];exact ag0 c (sN.1 hp).2 h
def fj(l:List Pk):List Int:=l.flatMap λp=>p.its.map (·.n)
def aiq(l:List Pk):fj l=(dw l).map (·.n):=by
 unfold fj dw aaa;rw[List.map_flatMap]
 congr 1
 funext p
 rw[ul];rfl
def afB{n:Int}:∀{a:List Sp} {l:List Sp},(∀x∈a,¬x.p=0)->(∃x∈a,x.n=n)\/¬eK n l=0->¬eK n (eJ a l)=0
 |[],l,_,h=>by
  rcases h with⟨x,b,_⟩|h
  .cases b
  .exact h
 |y::a,l,hz,h=>by
  show ¬eK n (eJ a (fW y l))=0;refine afB (λx b=>hz x (by simp[b])) ?_;rw[adh];by_cases c:y.n=n
  .rw[du c];exact .inr (hz y (by simp))
  .rw[be c];rcases h with⟨x,b,d⟩|h
   .rcases mu.1 b with rfl|b
    .exact absurd d c
    .exact .inl ⟨x,b,d⟩
   .exact .inr h
def afC{n:Int}:∀{a:List Sp} {l:List Sp},(∀x∈a,¬x.n=n)->eK n (eJ a l)=eK n l
 |[],l,_=>rfl
 |y::a,l,h=>by
  show eK n (eJ a (fW y l))=_;rw[afC λx b=>h x (by simp[b]),adh,be (h y (by simp))]
def aoj{l:List Pk}(h:∀s∈dw l,spP s) :eK n (oQ l)=0↔n∉fj l:=by
 unfold oQ;rw[du h,aiq];constructor
 .intro d a;obtain⟨x,b,rfl⟩:=pe.1 a;exact afB (l:=[]) (λy c=>by have:=(h y c).2;omega) (.inl ⟨x,b,rfl⟩) d
 .intro a;rw[afC (l:=[]) λx b e=>a (pe.2 ⟨x,b,e⟩)];rfl
def aga{ix:List Sp}{o:List ByteArray}(h:o.Nodup):(dI key ix o p).Nodup:=by
 unfold dI;split
 .rename_i d;exact uB.2 ⟨h,by simp,λa c b f e=>by rw[mw.1 f] at e;rw[e] at c;exact d.2 c⟩
 .exact h
def afD{key:Int}{ix:List Sp}:∀{l o:List ByteArray},o.Nodup->(oN key ix o l).Nodup
 |[],_,h=>h
 |p::l,o,h=>afD (l:=l) (aga h)
def akl{key:Int}{ix:List Sp}{x:ByteArray}:∀{l o:List ByteArray},x∈o->x∈oN key ix o l
 |[],_,h=>h
 |p::l,o,h=>akl (l:=l) (by
  unfold dI;split
  .exact sq _ h
  .exact h)
def ag1{key:Int}{ix:List Sp}{x:ByteArray}:∀{l o:List ByteArray},(x∈o->eK (bN key (bs x)) ix=0)->x∈oN key ix o l->eK (bN key (bs x)) ix=0
 |[],_,h,hx=>h hx
 |p::l,o,h,hx=>ag1 (l:=l) (o:=dI key ix o p) (λa=>by
  unfold dI at a;split at a
  .rename_i b;rcases mx.1 a with a|a
   .exact h a
   .rw[mw.1 a];exact b.1
  .exact h a) hx
def akm{key:Int}{ix:List Sp}:∀{l o:List ByteArray},∀p∈l,¬eK (bN key (bs p)) ix=0\/p∈oN key ix o l
 |[],_,p,h=>by cases h
 |q::l,o,p,h=>by
  show _\/p∈oN key ix (dI key ix o q) l;rcases mu.1 h with rfl|h
  .by_cases b:eK (bN key (bs p)) ix=0
   .refine .inr (akl ?_);unfold dI;by_cases a:p∈o
    .rw[be λc=>c.2 a];exact a
    .rw[du ⟨b,a⟩];simp
   .exact .inl b
  .exact akm p h
def ap7(x:It):∀l:List It,(lA x l).Perm (x::l):=by
 intro l
 induction l with
 |nil=>exact .refl _
 |cons y l a=>
  unfold lA;split
  .exact .refl _
  .exact((a.cons y).trans (.swap _ _ _))
def amU(key:Int)(l:List ByteArray):(gJ key l).Perm (l.map (jv key)):=by
 induction l using ow with
 |h0=>exact .refl _
 |h1 l s a=>
  rw[oM,qZ];exact(ap7 _ _).trans ((a.cons _).trans (by simpa using(List.perm_append_singleton (jv key s) (l.map (jv key))).symm))
def acQ(key:Int):∀(n:Nat) (no:Int) (l:List ByteArray),l.length<=n->(fj (fF key no l)).Perm (l.map λp=>bN key (bs p))
 |0,no,l,h=>by rw[qh.1 (by omega:l.length=0),iK];exact .refl _
 |n+1,no,l,h=>by
  rcases pv l.length with a|a
  .rw[qh.1 a,iK];exact .refl _
  .rw[mW key no a];have c:=acQ key n (no+1) (l.drop 4) (by rw[qj];omega);have d:((gJ key (l.take 4)).map (·.n)).Perm ((l.take 4).map λp=>bN key (bs p)):=by
    have:=(amU key (l.take 4)).map (·.n);rw[ul] at this;exact this
   have b:=d.append c;rw[<-qZ,sU] at b;exact b
def ag2{d β:Type}{f:d->β}:∀{l:List d},l.Nodup->(∀x∈l,∀y∈l,f x=f y->x=y)->(l.map f).Nodup
 |[],_,_=>.nil
 |x::l,h,hf=>by
  obtain⟨k,j⟩:=ug.1 h;refine ug.2 ⟨λg=> ?_,ag2 j λa i b m=>hf a (by simp[i]) b (by simp[m])⟩;obtain⟨y,c,e⟩:=pe.1 g;exact k (hf x (by simp) y (by simp[c]) e.symm▸c)
def eL.dw(h:eL s):∀x∈dw s.pk,spP x:=λx a=>by
 obtain⟨p,b,a⟩:=qo.1 a;obtain⟨y,c,rfl⟩:=pe.1 a;have e:=(h.wf.pn p b).1;obtain⟨q,d,f⟩:=h.items p b y c;have:=mP (key:=7) (l:=q);exact⟨by show 0<=y.n/\y.n<=_;omega,by show 1<=p.no/\p.no<=99;omega⟩
structure Whole (s:dy):Prop where
 once:(fj s.pk).Nodup
 trees:∀x∈s.sn,∃t,kV t/\x=kF x.no 7 t/\∀f∈t,∀p∈im f.b,bN 7 (bs p)∈fj s.pk
def eL.whole(h:eL s):Whole s:=by
 induction h with
 |nil=>exact⟨.nil,λx d=>(by cases d)⟩
 |@save s b t C G r H u=>
  have m:=C.dw;have k:=mf (key:=7) (ix:=oQ s.pk) (aaE r);have g:=acQ 7 _ (fh s.pk) (aaM 7 (oQ s.pk) t) (am _);have i:fj (abH 7 s b t).pk=fj s.pk++fj (adl 7 s t):=by
   show fj (s.pk++adl 7 s t)=_;unfold fj;rw[sb]
  refine⟨?_,λx d=> ?_⟩
  .rw[i];refine uB.2 ⟨u.once, ?_,λa E c F e=> ?_⟩
   .refine g.nodup_iff.2 (ag2 (afD .nil) λx d y A e=>nt (abI (k x d) (k y A) e))
   .subst e;obtain⟨p,j,rfl⟩:=pe.1 (g.mem_iff.1 F);exact(aoj m).1 (ag1 (l:=aae t) (o:=[]) (λh=>by cases h) j) E
  .rcases mx.1 d with d|d
   .obtain⟨w,z,v,B⟩:=u.trees x d;exact⟨w,z,v,λf q p j=>by rw[i];exact sq _ (B f q p j)⟩
   .rw[mw.1 d];refine⟨t,r,rfl,λf q p j=> ?_⟩;rw[i];rcases akm (key:=7) (ix:=oQ s.pk) (o:=[]) p (qo.2 ⟨f,q,j⟩:p∈aae t) with n|n
    .refine sq _ (qL λD=>n ((aoj m).2 D))
    .exact sg _ (g.mem_iff.2 (pe.2 ⟨p,n,rfl⟩))
end
section
variable {β:Bool}
open Go.RowKit
def ap8{b:ByteArray}(h:dN b=true):jz (im b)=(b,true):=by
 unfold jz;rw[apH,aw3,du ⟨h,rfl⟩]
def ag3{nm:Int}:∀{l:List (Int×ByteArray)},(∃x∈l,x.1=nm)->∃k:Nat,eH nm l=k
 |[],⟨x,a,_⟩=>by cases a
 |y::l,⟨x,a,e⟩=>by
  show ∃k:Nat,(if y.1=nm then 0 else let j:=eH nm l;if j<0 then -1 else j+1:Int)=k;by_cases b:y.1=nm
  .rw[du b];exact⟨0,rfl⟩
  .rw[be b];rcases mu.1 a with rfl|a
   .exact absurd e b
   .obtain⟨k,c⟩:=ag3 ⟨x,a,e⟩;refine⟨k+1, ?_⟩;show(if eH nm l<0 then -1 else eH nm l+1:Int)=_;rw[c,be (by omega)];omega
def ag4{l:List Pk}(d:∀p∈l,∀x∈p.its,pg 7 x){nm:Int}:(cP 7 (kH l) nm).2=true↔nm∈fj l:=by
 rw[nS];constructor
 .rintro⟨p,a,g⟩;obtain⟨q,n,rfl⟩:=pe.1 a;obtain⟨k,x, -,b,f, -⟩:=afx g;rw[aoh] at b;obtain⟨y,c,rfl⟩:=jt.1 b;exact qo.2 ⟨q,n,pe.2 ⟨y,db c,f⟩⟩
 .intro h;obtain⟨p,a,j⟩:=qo.1 h;obtain⟨x,i,e⟩:=pe.1 j;obtain⟨k,m⟩:=ag3 (nm:=nm) (l:=(pkd p).2) ⟨(x.n,x.b),pe.2 ⟨x,i,rfl⟩,e⟩;exact⟨pkd p,ue a,afy (d p a) m⟩
def adM{l:List Pk}(f:∀p∈l,∀x∈p.its,pg 7 x)(d:bA (bs p))(h:bN 7 (bs p)∈fj l):cP 7 (kH l) (bN 7 (bs p))=(p,true):=by
 have c:=(ag4 f).2 h;obtain⟨a,b⟩:=mn c;have e:=nt (abI a d b);generalize cP 7 (kH l) (bN 7 (bs p))=r at c e;obtain⟨i,g⟩:=r;dsimp only at c e;rw[c,e]
def ap9{l:List Pk}(d:∀p∈l,∀x∈p.its,pg 7 x){f:Nd}(c:af1 f)(h:∀p∈im f.b,bN 7 (bs p)∈fj l):jA 7 (kH l) (gh 7 f)=some f:=by
 have b:=ma (jO c.2).2;have g:amH 7 (kH l) (gh 7 f).ns:=λn i=>by
  obtain⟨p,a,rfl⟩:=pe.1 i;rw[adM d (b p a) (h p a)]
 have e:oT 7 (kH l) (gh 7 f).ns=im f.b:=by
  unfold oT gh;rw[ul]
  conv=>rhs;rw[<-List.map_id (im f.b)]
  exact vu λp a=>by
   show(cP 7 (kH l) (bN 7 (bs p))).1=p;rw[adM d (b p a) (h p a)]
 unfold jA;rw[e,ap8 c.2,du ⟨g,rfl⟩];rfl
def aqa{l:List Pk}(e:∀p∈l,∀x∈p.its,pg 7 x){t:List Nd}(b:kV t)(h:∀f∈t,∀p∈im f.b,bN 7 (bs p)∈fj l):ig 7 (kH l) (t.map (gh 7))=some t:=by
 have c:∀f∈t,jA 7 (kH l) (gh 7 f)=some f:=λf a=>ap9 e (b.1 f a) (h f a);have d:fY 7 (kH l) (t.map (gh 7))=t:=by
  clear h b;unfold fY
  induction t with
  |nil=>rfl
  |cons f t k=>
   rw[ru,vx,c f (by simp)];show f::_=_;rw[k λg i=>c g (by simp[i])]
 unfold ig;rw[d,du ⟨λx j=>by
  obtain⟨f,a,rfl⟩:=pe.1 j;rw[c f a];rfl,ap6.2 (ajX.2 b)⟩]
def amW{l:List Pk}(c:∀p∈l,∀x∈p.its,pg 7 x){xs:List Ls}{x:Ls}(d:x∈xs)(e:n∈x.ns)(h:n∉fj l):ig 7 (kH l) xs=none:=by
 unfold ig;rw[be];rintro⟨a, -⟩;have a:=a x d;unfold jA at a;split at a
 .rename_i b;exact h ((ag4 c).1 (b.1 n e))
 .cases a
def ai5(s:dy)(no:Int):dy:=dM s ⟨1,no,0,⟨#[]⟩⟩
def kP(x:Sn):List Int:=x.all.flatMap λy=>y.ns
def afE{l:List Pk}(v:l.Pairwise λa b=>a.no<b.no)(B:(fj l).Nodup){p:Pk}(o:p∈l) :
  n∈fj (l.filter λq=>!(q.no ==p.no))↔n∈fj l/\n∉p.its.map (·.n):=by
 constructor
 .intro h;obtain⟨q,d,k⟩:=qo.1 h;obtain⟨g,c⟩:=rI.1 d;have c:q.no≠p.no:=by simpa using c
  refine⟨qo.2 ⟨q,g,k⟩,λs=>c ?_⟩;clear v c h d
  induction l with
  |nil=>cases g
  |cons y l C=>
   obtain⟨D,A,w⟩:=uB.1 (show(y.its.map (·.n)++fj l).Nodup from B);rcases mu.1 g with rfl|d<;>rcases mu.1 o with rfl|o
   .rfl
   .exact absurd rfl (w n k n (qo.2 ⟨p,o,s⟩))
   .exact absurd rfl (w n s n (qo.2 ⟨q,d,k⟩))
   .exact C A o d
 .rintro⟨h,s⟩;obtain⟨q,d,k⟩:=qo.1 h;refine qo.2 ⟨q,rI.2 ⟨d, ?_⟩,k⟩;rw[uD,de];intro e;have:q=p:=by
   obtain⟨i,x⟩:=qW d;obtain⟨j,z⟩:=qW o;have r:=aB x;have m:=aB z;have u:=(pi.1 x).2;have t:=(pi.1 z).2;rcases uA i j with f|rfl|f
   .have:=rG.1 v i j r m f;rw[u,t] at this;omega
   .rw[<-u,<-t]
   .have:=rG.1 v j i m r f;rw[u,t] at this;omega
  exact s (this▸k)
def other(h:eL s){p:Pk}(k:p∈s.pk){x:Sn}(r:x∈s.sn):(fA 7 (ai5 s p.no) x.no).isSome=true↔∀n∈kP x,n∉p.its.map (·.n):=by
 have d:=h.whole;obtain⟨t,w,i,z⟩:=d.trees x r;have e:ai5 s p.no=⟨s.pk.filter λq=>!(q.no ==p.no),s.sn,s.lg⟩:=aag rfl;have m:∀q∈s.pk.filter λq=>!(q.no ==p.no),∀y∈q.its,pg 7 y:=λq c=>h.items q (rI.1 c).1;have a:x.all=t.map (gh 7):=by rw[i];rfl
 rw[e];unfold fA;show(match s.sn.find? (λy=>y.no ==x.no) with|some y=>ig 7 (kH _) y.all|none=>none:Option (List Nd)).isSome=true↔_;rw[ag0 (λy:Sn=>y.no) h.aBR r];show(ig 7 (kH (s.pk.filter λq=>!(q.no ==p.no))) x.all).isSome=true↔_;constructor
 .intro o n A j;obtain⟨y,u,g⟩:=qo.1 A;rw[amW m u g λv=>((afE h.axt d.once k).1 v).2 j] at o;cases o
 .intro b;rw[a,aqa m w λf l q c=>(afE h.axt d.once k).2 ⟨z f l q c,b _ (qo.2 ⟨gh 7 f,by rw[a];exact ue l,pe.2 ⟨q,c,rfl⟩⟩)⟩];rfl
end
section
variable {β:Bool}
open Go.RowKit
def ag5(xs o:List Hd)(L M:Value)(w:World)(lo hi fI hi':Nat)(D:fP w lo hi xs [L])(I:fP w fI hi' o [M])(E:hi<=w.heap.size)(F:hi'<=w.heap.size)(b:Bool)(s:b=true↔xs=o) :
  Calls (ah β) 17 #[L,M] w λe Q=>e=.returned (.bool b)/\Below w.heap.size w Q:=by
 replace s:=ab s;obtain⟨A,c,rfl⟩:=D.form;obtain⟨B,d,rfl⟩:=I.form;obtain⟨_,hc,Y⟩:=D.len_;unfold maxLen at Y;go_enter AA,ntmps17;by_cases a:xs.length=o.length
 .have W:((xs.length:Int) !=o.length)=false:=by rw[qJ];omega
  replace a:=ab a;go_wp2;go_loopw [5] (λi wr=>∃k:Nat,k<=xs.length/\i=.int .i64 k/\xs.take k=o.take k/\Below w.heap.size w wr) (λi _=>xs.length-(intOf i).toNat)
  case atStart=>exact⟨0,eg _,rfl,rfl,fd _ _⟩
  case round=>
   obtain⟨k,hk,rfl,u,j⟩:=hrel;replace u:=ab u;by_cases C:k<xs.length
   .obtain⟨x,r⟩:=aq C;obtain⟨y,p⟩:=aq (l:=o) (k:=k) (by have:=a.out;omega);obtain⟨H,t,X,rfl,_,G,_,⟨rfl,S⟩,f⟩:=(fP.loc.below D j E).at_ r;have R:wr.cell? ⟨H,t+k*2,none⟩=some (.int .i64 x.b):=by simpa using f 0 _ rfl
    have a0:wr.cell? ⟨H,t+k*2+1,none⟩=some (.int .i64 x.s):=by simpa using f 1 _ rfl
    clear f;obtain⟨N,K,X,rfl,_,G,_,⟨rfl,T⟩,f⟩:=(fP.loc.below I j F).at_ p;have Z:wr.cell? ⟨N,K+k*2,none⟩=some (.int .i64 y.b):=by simpa using f 0 _ rfl
    have U:wr.cell? ⟨N,K+k*2+1,none⟩=some (.int .i64 y.s):=by simpa using f 1 _ rfl
    clear f;have V:(k:Int)<(o.length:Int):=by have:=a.out;omega
    replace r:=ab r;replace p:=ab p;by_cases g:x.b=y.b
    .have O:(x.b ==y.b)=true:=nF.2 g;by_cases m:x.s=y.s
     .have P:(x.s ==y.s)=true:=nF.2 m;have z:x=y:=by cases x;cases y;simp only[Hd.mk.injEq];exact⟨g,m⟩
      replace z:=ab z;clear g m;go_wp2
      go_quiet (fail)
      have v:=tK j nq;go_wp2;go_roundw
      case rel=>first|exact⟨k+1,by omega,by go_num,by rw[kw r.out,kw p.out,u.out,z.out],v⟩|((repeat apply Exists.intro);refine⟨?_,rfl⟩;exact⟨k+1,by omega,by go_num,by rw[kw r.out,kw p.out,u.out,z.out],v⟩)
      simp[intOf];omega
     .have P:(x.s ==y.s)=false:=de.2 m;have n:b=false:=by
       rw[<-nf,s.out];rintro rfl;exact m (ga Hd.s (dq (r.out.symm.trans p.out)))
      have q:=ab n;clear n;clear g m;go_wp2
      go_quiet (fail)
      go_wp2;go_ret;exact⟨aD q.out.symm,tK j _⟩
    .have O:(x.b ==y.b)=false:=de.2 g;have n:b=false:=by
      rw[<-nf,s.out];rintro rfl;exact g (ga Hd.b (dq (r.out.symm.trans p.out)))
     have q:=ab n;clear n;clear g;go_wp2
     go_quiet (fail)
     go_wp2;go_ret;exact⟨aD q.out.symm,tK j _⟩
   .obtain rfl:k=xs.length:=by omega
    have J:b=true:=by
     rw[s.out];have:=u.out
     rwa [gc,pu (by have:=a.out;omega)] at this
    have q:=ab J;clear J;go_wp2;go_ret;exact⟨aD q.out.symm,j⟩
 .have W:((xs.length:Int) !=o.length)=true:=by rw[rS];omega
  have n:b=false:=by
   rw[<-nf,s.out];rintro rfl;exact a rfl
  have q:=ab n;clear n;replace a:=ab a;go_wp2;go_ret;exact⟨aD q.out.symm,fd _ _⟩
def afF(x y:Pk)(M N:Value)(w:World)(lo hi G Q:Nat)(I:ju w lo hi x.its [M])(J:ju w G Q y.its [N])(V:hi<=w.heap.size)(ml:Q<=w.heap.size)(b:Bool)(r:b=true↔x=y) :
  Calls (ah β) 18 #[.agg #[.int .i64 x.no,M],.agg #[.int .i64 y.no,N]] w λe w'=>e=.returned (.bool b)/\Below w.heap.size w w':=by
 replace r:=ab r;obtain⟨A,c,rfl⟩:=bD.form I;obtain⟨A2,X,rfl⟩:=bD.form J;obtain⟨_,hc,hx⟩:=bD.len_ I;unfold maxLen at hx;go_enter Az,ntmps18;by_cases o:x.no=y.no
 .have W:(x.no !=y.no)=false:=by rw[qJ];exact o
  replace o:=ab o;by_cases a:x.its.length=y.its.length
  .have t1:((x.its.length:Int) !=y.its.length)=false:=by rw[qJ];omega
   replace a:=ab a;go_wp2;generalize O:(w.alloc (.cells #[.int .i64 x.no,.slice A x.its.length c] 36)).alloc (.cells #[.int .i64 y.no,.slice A2 y.its.length X] 36)=w0 at *;obtain⟨U,jo,E,dn,T,D,dG,eD⟩:=pW O;clear O;go_loopw [5] (λi wr=>∃k:Nat,k<=x.its.length/\i=.int .i64 k/\x.its.take k=y.its.take k/\Below w0.heap.size w0 wr) (λi _=>x.its.length-(intOf i).toNat)
   case atStart=>exact⟨0,eg _,rfl,rfl,fd _ _⟩
   case round=>
    obtain⟨k,hk,rfl,u,n⟩:=hrel;replace u:=ab u;replace E:=ak E n;replace dn:=E.cell;replace T:=E.frozen;replace D:=ak D n;replace dG:=D.cell;replace eD:=D.frozen;have v:=ag U n;by_cases H:k<x.its.length
    .obtain⟨p,t⟩:=aq H;obtain⟨q,s⟩:=aq (l:=y.its) (k:=k) (by have:=a.out;omega);obtain⟨P,z,es,rfl,_,F,_,⟨rfl,a1⟩,f⟩:=(ju.loc.below I v V).at_ t;have S:wr.cell? ⟨P,z+k*2,none⟩=some (.int .i64 p.n):=by simpa using f 0 _ rfl
     have a3:wr.cell? ⟨P,z+k*2+1,none⟩=some (.string p.b):=by simpa using f 1 _ rfl
     clear f;obtain⟨R,L,es,rfl,_,F,_,⟨rfl,a2⟩,f⟩:=(ju.loc.below J v ml).at_ s;have a0:wr.cell? ⟨R,L+k*2,none⟩=some (.int .i64 q.n):=by simpa using f 0 _ rfl
     have Y:wr.cell? ⟨R,L+k*2+1,none⟩=some (.string q.b):=by simpa using f 1 _ rfl
     clear f;have Z:(k:Int)<(y.its.length:Int):=by have:=a.out;omega
     replace t:=ab t;replace s:=ab s;by_cases d:p.n=q.n
     .have t2:(p.n ==q.n)=true:=nF.2 d;by_cases g:p.b=q.b
      .have t3:(p.b.toList ==q.b.toList)=true:=by rw[g,nF]
       have C:p=q:=by cases p;cases q;simp only[It.mk.injEq];exact⟨d,g⟩
       replace C:=ab C;clear d g;go_wp2
       go_quiet (fail)
       have B:=tK n nq;go_wp2;go_roundw
       case rel=>first|exact⟨k+1,by omega,by go_num,by rw[kw t.out,kw s.out,u.out,C.out],B⟩|((repeat apply Exists.intro);refine⟨?_,rfl⟩;exact⟨k+1,by omega,by go_num,by rw[kw t.out,kw s.out,u.out,C.out],B⟩)
       simp[intOf];omega
      .have t3:(p.b.toList ==q.b.toList)=false:=abn g;have j:b=false:=by
        rw[<-nf,r.out];rintro rfl;exact g (ga It.b (dq (t.out.symm.trans s.out)))
       have m:=ab j;clear j;clear d g;go_wp2
       go_quiet (fail)
       go_wp2;go_ret;exact⟨aD m.out.symm,tK v _⟩
     .have t2:(p.n ==q.n)=false:=de.2 d;have j:b=false:=by
       rw[<-nf,r.out];rintro rfl;exact d (ga It.n (dq (t.out.symm.trans s.out)))
      have m:=ab j;clear j;clear d;go_wp2
      go_quiet (fail)
      go_wp2;go_ret;exact⟨aD m.out.symm,tK v _⟩
    .obtain rfl:k=x.its.length:=by omega
     have K:b=true:=by
      rw[r.out];have:=u.out;rw[gc,pu (by have:=a.out;omega)] at this;have:=o.out;cases x;cases y;simp only[Pk.mk.injEq];exact⟨by assumption,by assumption⟩
     have m:=ab K;clear K;go_wp2;go_ret;exact⟨aD m.out.symm,v⟩
  .have t1:((x.its.length:Int) !=y.its.length)=true:=by rw[rS];omega
   have j:b=false:=by
    rw[<-nf,r.out];rintro rfl;exact a rfl
   have m:=ab j;clear j;replace a:=ab a;go_wp2;go_ret;exact⟨aD m.out.symm,by repeat(first|exact fd _ _|refine uE ?_ (by simp) _)⟩
 .have W:(x.no !=y.no)=true:=by rw[rS];exact o
  have j:b=false:=by
   rw[<-nf,r.out];rintro rfl;exact o rfl
  have m:=ab j;clear j;clear o;go_wp2;go_ret;exact⟨aD m.out.symm,by repeat(first|exact fd _ _|refine uE ?_ (by simp) _)⟩
def akn(xs a:List Int)(d c:Value)(w:World)(i hi fI hi':Nat)(k:bD nj 1 w i hi xs [d])(j:bD nj 1 w fI hi' a [c])(b:Bool)(g:b=true↔xs=a) :
  Calls (ah β) 50 #[d,c] w λe f=>e=.returned (.bool b)/\Below w.heap.size w f:=by
 refine(alO xs a d c w i hi fI hi' k j).mono ?_;rintro e f ⟨rfl,n,rfl⟩;refine⟨aD ?_,tK (fd _ _) _⟩;cases b
 .rw[tu,<-g];simp
 .rw[decide_eq_true_iff,<-g]
def afG(x y:Sn)(v1 P:Value)(w:World)(lo hi Z kL:Nat)(h1:fw w lo hi x.all [v1])(h2:fw w Z kL y.all [P])(W:hi<=w.heap.size)(ml:kL<=w.heap.size)(b:Bool)(B:b=true↔x=y) :
  Calls (ah β) 19 #[.agg #[.int .i64 x.no,v1],.agg #[.int .i64 y.no,P]] w λe w'=>e=.returned (.bool b)/\Below w.heap.size w w':=by
 replace B:=ab B;obtain⟨A,c,rfl⟩:=bD.form h1;obtain⟨A2,c2,rfl⟩:=bD.form h2;obtain⟨_,hc,hx⟩:=bD.len_ h1;unfold maxLen at hx;go_enter Ax,ntmps19;by_cases v:x.no=y.no
 .have t0:(x.no !=y.no)=false:=by rw[qJ];exact v
  replace v:=ab v;by_cases a:x.all.length=y.all.length
  .have t1:((x.all.length:Int) !=y.all.length)=false:=by rw[qJ];omega
   replace a:=ab a;go_wp2;generalize hG:(w.alloc (.cells #[.int .i64 x.no,.slice A x.all.length c] 41)).alloc (.cells #[.int .i64 y.no,.slice A2 y.all.length c2] 41)=w0 at *;obtain⟨aL,jo,S,dn,eQ,R,dG,eD⟩:=pW hG;clear hG;go_loopw [5] (λi wr=>∃k:Nat,k<=x.all.length/\i=.int .i64 k/\x.all.take k=y.all.take k/\Below w0.heap.size w0 wr) (λi _=>x.all.length-(intOf i).toNat)
   case atStart=>exact⟨0,eg _,rfl,rfl,fd _ _⟩
   case round=>
    obtain⟨k,hk,rfl,I,j⟩:=hrel;replace I:=ab I;replace S:=ak S j;replace dn:=S.cell;replace eQ:=S.frozen;replace R:=ak R j;replace dG:=R.cell;replace eD:=R.frozen;have u:=ag aL j;by_cases a0:k<x.all.length
    .obtain⟨p,Y⟩:=aq a0;obtain⟨q,U⟩:=aq (l:=y.all) (k:=k) (by have:=a.out;omega);obtain⟨b1,L,es,rfl,_,X,_,⟨P,rfl,a2,n⟩,g⟩:=(fw.loc.below h1 u W).at_ Y;obtain⟨A3,c3,rfl⟩:=bD.form n;have z:wr.cell? ⟨b1,L+k*2,none⟩=some (.string p.p):=by simpa using g 0 _ rfl
     have E:wr.cell? ⟨b1,L+k*2+1,none⟩=some (.slice A3 p.ns.length c3):=by simpa using g 1 _ rfl
     clear g;obtain⟨b2,iZ,es,rfl,_,X,_,⟨P,rfl,a3,m⟩,g⟩:=(fw.loc.below h2 u ml).at_ U;obtain⟨A4,c4,rfl⟩:=bD.form m;have D:wr.cell? ⟨b2,iZ+k*2,none⟩=some (.string q.p):=by simpa using g 0 _ rfl
     have C:wr.cell? ⟨b2,iZ+k*2+1,none⟩=some (.slice A4 q.ns.length c4):=by simpa using g 1 _ rfl
     clear g;have a1:(k:Int)<(y.all.length:Int):=by have:=a.out;omega
     have T:=ab Y;have O:=ab U;replace n:=ab n;replace m:=ab m;have r:=ab u.size;clear Y U;have f0:=dn 1;have g0:=dG 1;by_cases d:p.p=q.p
     .have t2:(p.p.toList ==q.p.toList)=true:=by rw[d,nF]
      have V:(p.p.toList !=q.p.toList)=false:=by rw[d,qJ]
      by_cases f:p.ns=q.ns
      .have Q:p=q:=by cases p;cases q;simp only[Ls.mk.injEq];exact⟨d,f⟩
       replace Q:=ab Q;replace f:=ab f;clear d;go_wp2;have J:=ae z;have G:=ae E;have H:=ae D;have N:=ae C;have M:=ae f0;have K:=ae g0;refine aR (by kernel_rfl) (by kernel_rfl) ?_;repeat(go_big_quiet_step (first|(go_at_call 50;refine dS (akn p.ns q.ns _ _ _ _ _ _ _ (lM.loc.below n.out (fB.ok _) (ap W r.out)) (lM.loc.below m.out (fB.ok _) (ap ml r.out)) true ?_);(simp only[tJ];exact f.out))))
       refine ip ?_;intro wq t;have F:=bH t;clear t J G H N M K;go_wp2;go_roundw
       case rel=>first|exact⟨k+1,by omega,by go_num,by rw[kw T.out,kw O.out,I.out,Q.out],j.trans (F.mono j.size)⟩|((repeat apply Exists.intro);refine⟨?_,rfl⟩;exact⟨k+1,by omega,by go_num,by rw[kw T.out,kw O.out,I.out,Q.out],j.trans (F.mono j.size)⟩)
       simp[intOf];omega
      .have o:b=false:=by
        rw[<-nf,B.out];rintro rfl;exact f (ga Ls.ns (dq (T.out.symm.trans O.out)))
       have s:=ab o;clear o;replace f:=ab f;clear d;go_wp2;have J:=ae z;have G:=ae E;have H:=ae D;have N:=ae C;have M:=ae f0;have K:=ae g0;refine aR (by kernel_rfl) (by kernel_rfl) ?_;repeat(go_big_quiet_step (first|(go_at_call 50;refine dS (akn p.ns q.ns _ _ _ _ _ _ _ (lM.loc.below n.out (fB.ok _) (ap W r.out)) (lM.loc.below m.out (fB.ok _) (ap ml r.out)) false ?_);(simp only[li,uR];exact f.out))))
       refine ip ?_;intro wq t;have F:=bH t;clear t J G H N M K;go_wp2;go_ret;exact⟨aD s.out.symm,u.trans (F.mono u.size)⟩
     .have t2:(p.p.toList ==q.p.toList)=false:=abn d;have V:(p.p.toList !=q.p.toList)=true:=by rw[bne,abn d];rfl
      have o:b=false:=by
       rw[<-nf,B.out];rintro rfl;exact d (ga Ls.p (dq (T.out.symm.trans O.out)))
      have s:=ab o;clear o;clear d;go_wp2;have J:=ae z;have G:=ae E;have H:=ae D;have N:=ae C;have M:=ae f0;have K:=ae g0;refine aR (by kernel_rfl) (by kernel_rfl) ?_;repeat(go_big_quiet_step (fail))
      refine ip ?_;intro wq t;have F:=bH t;clear t J G H N M K;go_wp2;go_ret;exact⟨aD s.out.symm,u.trans (F.mono u.size)⟩
    .obtain rfl:k=x.all.length:=by omega
     have ht:b=true:=by
      rw[B.out];have:=I.out;rw[gc,pu (by have:=a.out;omega)] at this;have:=v.out;cases x;cases y;simp only[Sn.mk.injEq];exact⟨by assumption,by assumption⟩
     have s:=ab ht;clear ht;go_wp2;go_ret;exact⟨aD s.out.symm,u⟩
  .have t1:((x.all.length:Int) !=y.all.length)=true:=by rw[rS];omega
   have o:b=false:=by
    rw[<-nf,B.out];rintro rfl;exact a rfl
   have s:=ab o;clear o;replace a:=ab a;go_wp2;go_ret;exact⟨aD s.out.symm,by repeat(first|exact fd _ _|refine uE ?_ (by simp) _)⟩
 .have t0:(x.no !=y.no)=true:=by rw[rS];exact v
  have o:b=false:=by
   rw[<-nf,B.out];rintro rfl;exact v rfl
  have s:=ab o;clear o;clear v;go_wp2;go_ret;exact⟨aD s.out.symm,by repeat(first|exact fd _ _|refine uE ?_ (by simp) _)⟩
def ai4(s t:dy)(va vb vc vd ve vf:Value)(w:World)(lo hi a0 kL:Nat)(hs:gb w lo hi s va vb vc)(ht:gb w a0 kL t vd ve vf)(x:hi<=w.heap.size)(y:kL<=w.heap.size)(b:Bool)(Q:b=true↔s=t) :
  Calls (ah β) 6 #[.agg #[va,vb,vc],.agg #[vd,ve,vf]] w λe w'=>e=.returned (.bool b)/\Below w.heap.size w w':=by
 replace Q:=ab Q;obtain⟨h1,h2,h3⟩:=hs;obtain⟨A,a,rfl⟩:=bD.form h1;obtain⟨B,bb,rfl⟩:=bD.form h2;obtain⟨C,c,rfl⟩:=bD.form h3;obtain⟨g1,g2,g3⟩:=ht;obtain⟨A2,a2,rfl⟩:=bD.form g1;obtain⟨B2,b2,rfl⟩:=bD.form g2;obtain⟨C2,c2,rfl⟩:=bD.form g3;obtain⟨_,hc,hx⟩:=bD.len_ h1;obtain⟨_,a6,a1⟩:=bD.len_ h2;unfold maxLen at hx a1;go_enter qF6,ntmps6;by_cases u:s.pk.length=t.pk.length
 .have t1:((s.pk.length:Int) !=t.pk.length)=false:=by rw[qJ];omega
  replace u:=ab u;by_cases r:s.sn.length=t.sn.length
  .have t2:((s.sn.length:Int) !=t.sn.length)=false:=by rw[qJ];omega
   replace r:=ab r;go_wp2;generalize hG:(w.alloc (.cells #[.slice A s.pk.length a,.slice B s.sn.length bb,.slice C s.lg.length c] 27)).alloc (.cells #[.slice A2 t.pk.length a2,.slice B2 t.sn.length b2,.slice C2 t.lg.length c2] 27)=w0 at *;obtain⟨o,jo,G,dn,eQ,E,dG,eD⟩:=pW hG;clear hG;by_cases R:s.lg=t.lg
   .replace R:=ab R;refine(ag5 s.lg t.lg _ _ _ lo hi a0 kL (fP.loc.below h3 o x) (fP.loc.below g3 o y) (ap x o.size) (ap y o.size) true (by simp only[tJ];exact R.out)).mono ?_;rintro e w1 ⟨rfl,F⟩;replace G:=ak G F;replace dn:=G.cell;replace eQ:=G.frozen;replace E:=ak E F;replace dG:=E.cell;replace eD:=E.frozen;replace o:=ag o F;clear F;go_wp2;go_loopw [5] (λi wr=>∃k:Nat,k<=s.pk.length/\i=.int .i64 k/\s.pk.take k=t.pk.take k/\Below w1.heap.size w1 wr) (λi _=>s.pk.length-(intOf i).toNat)
    case atStart=>exact⟨0,eg _,rfl,rfl,fd _ _⟩
    case round=>
     obtain⟨k,hk,rfl,D,f⟩:=hrel;replace D:=ab D;replace G:=ak G f;replace dn:=G.cell;replace eQ:=G.frozen;replace E:=ak E f;replace dG:=E.cell;replace eD:=E.frozen;have v:=ag o f;by_cases L:k<s.pk.length
     .obtain⟨p,Z⟩:=aq L;obtain⟨q,T⟩:=aq (l:=t.pk) (k:=k) (by have:=u.out;omega);obtain⟨F,N,es,rfl,_,X,_,⟨v2,rfl,a4,m⟩,g⟩:=(iw.loc.below h1 v x).at_ Z;obtain⟨A3,c3,rfl⟩:=bD.form m;have H:wr.cell? ⟨F,N+k*2,none⟩=some (.int .i64 p.no):=by simpa using g 0 _ rfl
      have O:wr.cell? ⟨F,N+k*2+1,none⟩=some (.slice A3 p.its.length c3):=by simpa using g 1 _ rfl
      clear g;obtain⟨b2,iZ,es,rfl,_,X,_,⟨v2,rfl,a5,j⟩,g⟩:=(iw.loc.below g1 v y).at_ T;obtain⟨A4,c4,rfl⟩:=bD.form j;have K:wr.cell? ⟨b2,iZ+k*2,none⟩=some (.int .i64 q.no):=by simpa using g 0 _ rfl
      have I:wr.cell? ⟨b2,iZ+k*2+1,none⟩=some (.slice A4 q.its.length c4):=by simpa using g 1 _ rfl
      clear g;have a3:(k:Int)<(t.pk.length:Int):=by have:=u.out;omega
      have HX:=ab Z;have Y:=ab T;replace m:=ab m;replace j:=ab j;have d:=ab v.size;clear Z T;have f0:=dn 0;have g0:=dG 0;by_cases n:p=q
      .replace n:=ab n;go_wp2;have aH:=ae H;have V:=ae O;have W:=ae K;have dB:=ae I;have gF:=ae f0;have lO:=ae g0;refine aR (by kernel_rfl) (by kernel_rfl) ?_;repeat(go_big_quiet_step (first|(go_at_call 18;refine dS (afF p q _ _ _ _ _ _ _ (ju.loc.below m.out (fB.ok _) (ap x d.out)) (ju.loc.below j.out (fB.ok _) (ap y d.out)) (ap x (ap d.out (fB.ok _).size)) (ap y (ap d.out (fB.ok _).size)) true ?_);(simp only[tJ];exact n.out))))
       refine ip ?_;intro wq J;have P:=bH J;clear J aH V W dB gF lO;go_wp2;go_roundw
       case rel=>first|exact⟨k+1,by omega,by go_num,by rw[kw HX.out,kw Y.out,D.out,n.out],f.trans (P.mono f.size)⟩|((repeat apply Exists.intro);refine⟨?_,rfl⟩;exact⟨k+1,by omega,by go_num,by rw[kw HX.out,kw Y.out,D.out,n.out],f.trans (P.mono f.size)⟩)
       simp[intOf];omega
      .have z:b=false:=by
        rw[<-nf,Q.out];rintro rfl;exact n (dq (HX.out.symm.trans Y.out))
       have M:=ab z;clear z;replace n:=ab n;go_wp2;have aH:=ae H;have V:=ae O;have W:=ae K;have dB:=ae I;have gF:=ae f0;have lO:=ae g0;refine aR (by kernel_rfl) (by kernel_rfl) ?_;repeat(go_big_quiet_step (first|(go_at_call 18;refine dS (afF p q _ _ _ _ _ _ _ (ju.loc.below m.out (fB.ok _) (ap x d.out)) (ju.loc.below j.out (fB.ok _) (ap y d.out)) (ap x (ap d.out (fB.ok _).size)) (ap y (ap d.out (fB.ok _).size)) false ?_);(simp only[li,uR];exact n.out))))
       refine ip ?_;intro wq J;have P:=bH J;clear J aH V W dB gF lO;go_wp2;go_ret;exact⟨aD M.out.symm,v.trans (P.mono v.size)⟩
     .obtain rfl:k=s.pk.length:=by omega
      have S:s.pk=t.pk:=by
       have:=D.out
       rwa [gc,pu (by have:=u.out;omega)] at this
      replace S:=ab S;clear D L hk;replace o:=v;clear v f;go_wp2;go_loopw [6] (λi wy=>∃k:Nat,k<=s.sn.length/\i=.int .i64 k/\s.sn.take k=t.sn.take k/\Below wr.heap.size wr wy) (λi _=>s.sn.length-(intOf i).toNat)
      case atStart=>exact⟨0,eg _,rfl,rfl,fd _ _⟩
      case round=>
       obtain⟨k,hk,rfl,D,f⟩:=hrel;replace D:=ab D;replace G:=ak G f;replace dn:=G.cell;replace eQ:=G.frozen;replace E:=ak E f;replace dG:=E.cell;replace eD:=E.frozen;have v:=ag o f;by_cases L:k<s.sn.length
       .obtain⟨p,Z⟩:=aq L;obtain⟨q,T⟩:=aq (l:=t.sn) (k:=k) (by have:=r.out;omega);obtain⟨F,N,es,rfl,_,X,_,⟨v2,rfl,a4,m⟩,g⟩:=(iy.loc.below h2 v x).at_ Z;obtain⟨A3,c3,rfl⟩:=bD.form m;have H:wr.cell? ⟨F,N+k*2,none⟩=some (.int .i64 p.no):=by simpa using g 0 _ rfl
        have O:wr.cell? ⟨F,N+k*2+1,none⟩=some (.slice A3 p.all.length c3):=by simpa using g 1 _ rfl
        clear g;obtain⟨b2,iZ,es,rfl,_,X,_,⟨v2,rfl,a5,j⟩,g⟩:=(iy.loc.below g2 v y).at_ T;obtain⟨A4,c4,rfl⟩:=bD.form j;have K:wr.cell? ⟨b2,iZ+k*2,none⟩=some (.int .i64 q.no):=by simpa using g 0 _ rfl
        have I:wr.cell? ⟨b2,iZ+k*2+1,none⟩=some (.slice A4 q.all.length c4):=by simpa using g 1 _ rfl
        clear g;have a3:(k:Int)<(t.sn.length:Int):=by have:=r.out;omega
        have HX:=ab Z;have Y:=ab T;replace m:=ab m;replace j:=ab j;have d:=ab v.size;clear Z T;have f0:=dn 1;have g0:=dG 1;by_cases n:p=q
        .replace n:=ab n;go_wp2;have aH:=ae H;have V:=ae O;have W:=ae K;have dB:=ae I;have gF:=ae f0;have lO:=ae g0;refine aR (by kernel_rfl) (by kernel_rfl) ?_;repeat(go_big_quiet_step (first|(go_at_call 19;refine dS (afG p q _ _ _ _ _ _ _ (fw.loc.below m.out (fB.ok _) (ap x d.out)) (fw.loc.below j.out (fB.ok _) (ap y d.out)) (ap x (ap d.out (fB.ok _).size)) (ap y (ap d.out (fB.ok _).size)) true ?_);(simp only[tJ];exact n.out))))
         refine ip ?_;intro wq J;have P:=bH J;clear J aH V W dB gF lO;go_wp2;go_roundw
         case rel=>first|exact⟨k+1,by omega,by go_num,by rw[kw HX.out,kw Y.out,D.out,n.out],f.trans (P.mono f.size)⟩|((repeat apply Exists.intro);refine⟨?_,rfl⟩;exact⟨k+1,by omega,by go_num,by rw[kw HX.out,kw Y.out,D.out,n.out],f.trans (P.mono f.size)⟩)
         simp[intOf];omega
        .have z:b=false:=by
          rw[<-nf,Q.out];rintro rfl;exact n (dq (HX.out.symm.trans Y.out))
         have M:=ab z;clear z;replace n:=ab n;go_wp2;have aH:=ae H;have V:=ae O;have W:=ae K;have dB:=ae I;have gF:=ae f0;have lO:=ae g0;refine aR (by kernel_rfl) (by kernel_rfl) ?_;repeat(go_big_quiet_step (first|(go_at_call 19;refine dS (afG p q _ _ _ _ _ _ _ (fw.loc.below m.out (fB.ok _) (ap x d.out)) (fw.loc.below j.out (fB.ok _) (ap y d.out)) (ap x (ap d.out (fB.ok _).size)) (ap y (ap d.out (fB.ok _).size)) false ?_);(simp only[li,uR];exact n.out))))
         refine ip ?_;intro wq J;have P:=bH J;clear J aH V W dB gF lO;go_wp2;go_ret;exact⟨aD M.out.symm,v.trans (P.mono v.size)⟩
       .obtain rfl:k=s.sn.length:=by omega
        have U:s.sn=t.sn:=by
         have:=D.out
         rwa [gc,pu (by have:=r.out;omega)] at this
        replace U:=ab U;clear D L hk;replace o:=v;clear v f;have ht:b=true:=by
         rw[Q.out];have h1:=S.out;have h2:=U.out;have h3:=R.out;cases s;cases t;simp only[dy.mk.injEq];exact⟨h1,h2,h3⟩
        have M:=ab ht;clear ht;go_wp2;go_ret;exact⟨aD M.out.symm,o⟩
   .replace R:=ab R;refine(ag5 s.lg t.lg _ _ _ lo hi a0 kL (fP.loc.below h3 o x) (fP.loc.below g3 o y) (ap x o.size) (ap y o.size) false (by simp only[li,uR];exact R.out)).mono ?_;rintro e w1 ⟨rfl,F⟩;have z:b=false:=by
     rw[<-nf,Q.out];rintro rfl;exact R.out rfl
    have M:=ab z;clear z;go_wp2;go_ret;exact⟨aD M.out.symm,ag o F⟩
  .have t2:((s.sn.length:Int) !=t.sn.length)=true:=by rw[rS];omega
   have z:b=false:=by
    rw[<-nf,Q.out];rintro rfl;exact r rfl
   have M:=ab z;clear z;clear r;go_wp2;go_ret;exact⟨aD M.out.symm,by repeat(first|exact fd _ _|refine uE ?_ (by simp) _)⟩
 .have t1:((s.pk.length:Int) !=t.pk.length)=true:=by rw[rS];omega
  have z:b=false:=by
   rw[<-nf,Q.out];rintro rfl;exact u rfl
  have M:=ab z;clear z;clear u;go_wp2;go_ret;exact⟨aD M.out.symm,by repeat(first|exact fd _ _|refine uE ?_ (by simp) _)⟩
end
section
variable {β:Bool}
open Go.RowKit
def bF.T{xs:List Pk}(h:bF w Z hi xs cs):eI 36 lh 2 w Z hi xs cs:=aO.slT lh.ar.loc (λh=>h) h
def bR.T{xs:List Sn}(h:bR w Z hi xs cs):eI 41 mE 2 w Z hi xs cs:=aO.slT mE.ar.loc (λh=>h) h
def dH.T{xs:List Hd}(h:dH w Z hi xs cs):eI 65 (bV pB) 2 w Z hi xs cs:=aO.slT (bV.ar pB).loc (λh=>h) h
def jT.T{xs:List Hd}(h:jT w Z hi xs cs):eI 65 (bV pB) 2 w Z hi xs cs:=by
 refine⟨jT.l h,λj b k n c e=> ?_⟩;obtain⟨A,o,rfl,a,p,r,d,f⟩:=h;obtain⟨g,i,rfl,m,q,l,s⟩:=f j;simp only[ql,oE,lP,qB,qx] at e;obtain⟨⟨rfl, -⟩, -, -⟩:=e;exact⟨i,l⟩
abbrev tPk:dL (eI 36 lh 2) [36,63]:=eI.ar lh.ar
abbrev tSn:dL (eI 41 mE 2) [41,67,3]:=eI.ar mE.ar
abbrev tHd:dL (eI 65 (bV pB) 2) [65]:=eI.ar (bV.ar pB)
structure jh (w:World) (lo hi:Nat) (s:dy) (va vb vc:Value):Prop where
 pk:eI 36 lh 2 w lo hi s.pk [va]
 sn:eI 41 mE 2 w lo hi s.sn [vb]
 lg:eI 65 (bV pB) 2 w lo hi s.lg [vc]
abbrev aD4:List TypeId:=[36,63,41,67,3,65]
def Typed.more{T U:List TypeId}{b:Nat}(h:Typed w T b)(d:∀t∈T,t∈U):Typed w U b:=by
 obtain⟨t,c,a⟩:=h;exact⟨t,d t c,a⟩
def jh.typed(h:jh w Z hi s Y X W)(g:∀b,Z<=b->b<hi->Typed w aD4 b->w'.heap[b]?=w.heap[b]?)(f:fI<=Z)(e:hi<=hi'):jh w' fI hi' s Y X W:=
 ⟨tPk.go (λb a c d=>g b a c (d.more (by decide))) f e h.pk,tSn.go (λb a c d=>g b a c (d.more (by decide))) f e h.sn,tHd.go (λb a c d=>g b a c (d.more (by decide))) f e h.lg⟩
def jh.go(h:jh w Z hi s Y X W)(f:∀b,Z<=b->b<hi->w'.heap[b]?=w.heap[b]?)(d:fI<=Z)(c:hi<=hi'):jh w' fI hi' s Y X W:=h.typed (λb a e _=>f b a e) d c
def jh.below{B : Nat}(h:jh w Z hi s Y X W)(a:Below B w w')(d:hi<=B):jh w' Z hi s Y X W:=h.go (λb _ c=>a.block b (by omega)) (am _) (am _)
def jh.wide(h:jh w Z hi s Y X W)(b:fI<=Z)(a:hi<=hi'):jh w fI hi' s Y X W:=h.go (λ_ _ _=>rfl) b a
def jh.l(h:jh w Z hi s Y X W):gb w Z hi s Y X W:=⟨bD.ayP lh.l h.pk.1,bD.ayP mE.l h.sn.1,h.lg.1⟩
def jh.form(h:jh w Z hi s Y X W):∃A a B b C c,Y=.slice A s.pk.length a/\X=.slice B s.sn.length b/\W=.slice C s.lg.length c:=by
 obtain⟨A,a,rfl⟩:=eI.form h.pk;obtain⟨B,b,rfl⟩:=eI.form h.sn;obtain⟨C,c,rfl⟩:=eI.form h.lg;exact⟨A,a,B,b,C,c,rfl,rfl,rfl⟩
def fg.t(h:fg w Z hi s Y X W):jh w Z hi s Y X W:=⟨bF.T h.pk,bR.T h.sn,dH.T h.lg⟩
def abK(w:World)(lo:Nat)(s:dy)(e:Ending)(w':World):Prop:=∃c a b,e=.returned (.agg #[c,a,b])/\jh w' lo w'.heap.size s c a b/\Below w.heap.size w w'
def as2{l:List V}{p:V->Bool}{x:V}(h:l[k]?=some x):(l.take (k+1)).any p=((l.take k).any p||p x):=by
 rw[kw h,List.any_append];simp
def ako(s:dy)(l:jw)(hk:l.k=2)(va vb vc:Value)(w:World)(F hi:Nat)(h:fg w F hi s va vb vc)(aV:hi<=w.heap.size)(hl:kQ s<=1099511627) :
  Calls (ah β) 21 #[.agg #[va,vb,vc],.int .i64 l.n] w (abK w F (dM s l)):=by
 obtain⟨h1,h2,h3⟩:=h;obtain⟨A,a,rfl⟩:=aO.form h1;obtain⟨B,b,rfl⟩:=aO.form h2;obtain⟨C,c,rfl⟩:=aO.form h3;obtain⟨_,c5,D⟩:=(bR.l h2).len_;obtain⟨_,c7,bi⟩:=(dH.l h3).len_;unfold maxLen at D bi;unfold kQ at hl;have bZ:=dV (f:=bSn) (l:=s.sn);have bJ:F<=hi:=by
  obtain⟨_,_,_,_,_,bq⟩:=h1;exact bq.le
 by_cases Z:0<=l.n/\l.n<=(s.lg.length:Int)
 .rw[oP hk Z];have kJ:(decide (0<=l.n)&&decide (l.n<=(s.lg.length:Int)))=true:=by rw[ff];exact⟨dk Z.1,dk Z.2⟩
  have Q:=ab kJ;obtain⟨d,a8⟩:=qn Z.1;have ax:l.n.toNat=d:=by omega
  rw[ax];have b1:d<=s.lg.length:=by omega
  rw[a8] at Q ⊢;have bl:l.n=((d:Nat):Int):=a8;clear kJ Z ax a8;have g1:¬(((d:Nat):Int)<0):=by omega
  have g2:((d:Nat):Int)<=(s.lg.length:Int):=by omega
  have g3:((d:Nat):Int)<=(c:Int):=by omega
  have K:fP w F hi (s.lg.drop d) [.slice (if c=d then C else Option.map (λx=>x.add (d*2)) C) (s.lg.length-d) (c-d)]:=bD.an8 (dH.l h3) b1;have bp:eI 65 (bV pB) 2 w F hi (s.lg.take d) [.slice C d c]:=eI.agI (dH.T h3) b1;obtain⟨AD,a9⟩:∃AD,(if c=d then C else Option.map (λx=>x.add (d*2)) C)=AD:=⟨_,rfl⟩;rw[a9] at K;clear bl;go_enter yl,ntmps21;go_wp2;generalize hG:(w.alloc (.cells #[.slice A s.pk.length a,.slice B s.sn.length b,.slice C s.lg.length c] 27)).alloc (.cells #[.slice none 0 0,.slice none 0 0,.slice none 0 0] 27)=w0 at *;obtain⟨aL,jo,k0,dn,eQ,k1,dG,eD⟩:=pW hG;clear hG;refine(lS ((d:Nat):Int) 0 s.lg.length w0).mono ?_;rintro e w1 ⟨rfl,rfl⟩;rw[Q.out];go_wp2;have a5:=k0.bG 2 (.slice C d c);simp only[dj,ge,io] at a5;have ba:=av (w0.setCell ⟨w.heap.size,2,none⟩ (.slice C d c)) (.cells #[] 41);have X:=ak a5 ba;have q1:=ak (cj k1 (p:=⟨w.heap.size,2,none⟩) (.slice C d c) (by dsimp only;omega)) ba;have aT:=ag (aL.setCell (p:=⟨w.heap.size,2,none⟩) (by dsimp only;omega) (.slice C d c)) ba;have an:=eG.new (w0.setCell ⟨w.heap.size,2,none⟩ (.slice C d c)) 41 (am _);have c0:((w0.setCell ⟨w.heap.size,2,none⟩ (.slice C d c)).alloc (.cells #[] 41)).heap.size=w0.heap.size+1:=by simp
  have P:iI mE 2 41 ((w0.setCell ⟨w.heap.size,2,none⟩ (.slice C d c)).alloc (.cells #[] 41)) F w.heap.size (.slice (some ⟨w0.heap.size,0,none⟩) 0 0) []:=iI.ajv (by
   have:=an;simp only[bv] at this;obtain⟨g,e,_,hk⟩:=this;cases e;exact⟨_,rfl,by omega,hk⟩)
  clear k0 k1 dn dG eQ eD a5 ba an;generalize (w0.setCell ⟨w.heap.size,2,none⟩ (.slice C d c)).alloc (.cells #[] 41)=w2 at *;have T:(s.lg.drop d).length=s.lg.length-d:=qj;have bS:=ab T;rw[<-T];rw[<-T] at K;clear T a9;obtain⟨o,W⟩:∃o,o=s.lg.drop d:=⟨_,rfl⟩;rw[<-W] at K ⊢;obtain⟨_,bO,bo⟩:=K.len_;unfold maxLen at bo;have HI:=ab (And.intro X (And.intro q1 aT));replace P:=ab P;replace W:=ab W;clear X q1 aT;go_loopw [6,7] (λoo ii wr=>∃k:Nat,k<=s.sn.length/\ii=.int .i64 k/\iI mE 2 41 wr F w.heap.size oo ((s.sn.take k).filter λx=>!(o.any λh=>h.s ==x.no))/\bg wr w.heap.size 27 #[.slice A s.pk.length a,.slice B s.sn.length b,.slice C d c]/\bg wr (w.heap.size+1) 27 #[.slice none 0 0,.slice none 0 0,.slice none 0 0]/\Below w.heap.size w wr) (λ_ ii _=>s.sn.length-(intOf ii).toNat)
  case atStart=>exact⟨0,eg _,rfl,P.out,HI.out⟩
  case round=>
   clear P HI;obtain⟨k,bx,rfl,L,X,q1,R⟩:=hrel;obtain⟨Ao,co,rfl⟩:=L.form;have cq:wr.cell? ⟨w.heap.size,1,none⟩=some (.slice B s.sn.length b):=X.cell 1;by_cases b9:k<s.sn.length
   .obtain⟨y,cN⟩:=aq b9;obtain⟨b',a4,S,e0,_,bz,_,⟨v2,rfl,bt,hr⟩,J⟩:=(iy.loc.below (bR.l h2) R aV).at_ cN;subst e0;obtain⟨A2,c2,rfl⟩:=bD.form hr;replace cN:=ab cN;replace L:=ab L;clear J hr;go_wp2;obtain⟨wo,bn⟩:∃wo,wo=wr:=⟨_,rfl⟩;subst bn;go_loopw [8,9] (λgg jj wr=>∃(j:Nat) (q:Bool),j<=o.length/\jj=.int .i64 j/\gg=.bool q/\q=((o.take j).any λh=>h.s ==y.no)/\Below wo.heap.size wo wr) (λ_ jj _=>o.length-(intOf jj).toNat)
    case atStart=>exact⟨0,false,eg _,rfl,rfl,rfl,fd _ _⟩
    case round=>
     obtain⟨j,q,hj,rfl,rfl,hq,t⟩:=hrel;replace hq:=ab hq;have D:=ag R t;have ad:=aU t cq;obtain⟨b2,iZ,S,e0,_,_,_,⟨v2,rfl,c1,hr⟩,J⟩:=(iy.loc.below (bR.l h2) D aV).at_ cN.out;simp only[lP,qB,qx] at e0;obtain⟨rfl,rfl⟩:=e0;obtain⟨A3,c3,rfl⟩:=bD.form hr;have ao:wr.cell? ⟨b',a4+k*2,none⟩=some (.int .i64 y.no):=by simpa using J 0 _ rfl
     have b4:wr.cell? ⟨b',a4+k*2+1,none⟩=some (.slice A3 y.all.length c3):=by simpa using J 1 _ rfl
     clear J hr;by_cases b5:j<o.length
     .obtain⟨z,a1⟩:=aq b5;obtain⟨b3,bb,S,e0,_,_,_,⟨rfl,c4⟩,G⟩:=(fP.loc.below K D aV).at_ a1;subst e0;have b0:wr.cell? ⟨b3,bb+j*2+1,none⟩=some (.int .i64 z.s):=by simpa using G 1 _ rfl
      have r:=as2 (p:=λh:Hd=>h.s ==y.no) a1;replace r:=ab r;clear G a1 b4;cases q
      .go_wp2;have aH:=ae ad;have aI:=ae ao;have bc:=ae b0;refine aC 15 [0,1,2,3,4,5,6,7,8,9,10,11,12,13,14] [] (h:= ?_);simp only[pick,List.map,gt,gE];repeat(go_big_quiet_step (fail))
       refine ip ?_;clear aH aI bc;apply Exists.intro;refine aQ ?_;intro wz hz xx cU hF;dsimp only[dQ] at hF;try rw[cU] at hF
       clear cU xx;simp only[List.drop];clear hF;go_wp2;go_roundw
       case rel=>exact⟨j+1,_,by omega,by go_num,rfl,by rw[r.out,<-hq.out];rfl,ag t hz⟩
       simp[intOf];omega
      .go_wp2;have aH:=ae ad;have aI:=ae ao;have bc:=ae b0;refine aC 15 [0,1,2,3,4,5,6,7,8,9,10,11,12,13,14] [] (h:= ?_);simp only[pick,List.map,gt,gE];repeat(go_big_quiet_step (fail))
       refine ip ?_;clear aH aI bc;apply Exists.intro;refine aQ ?_;intro wz hz xx cU hF;dsimp only[dQ] at hF;try rw[cU] at hF
       clear cU xx;simp only[List.drop];clear hF;go_wp2;go_roundw
       case rel=>exact⟨j+1,_,by omega,by go_num,rfl,by rw[r.out,<-hq.out];rfl,ag t hz⟩
       simp[intOf];omega
     .obtain rfl:j=o.length:=by omega
      have a2:=hq.out;rw[gc] at a2;have al:=ab a2;have zo:=t.size;have fD:=L.out.below mE.ar t;have U:=ak X t;have O:=ak q1 t;clear a2;cases q
      .have hp:(o.any λh=>h.s ==y.no)=false:=al.out.symm;have H:=kE (p:=λx:Sn=>o.any λh=>h.s ==x.no) cN.out hp;have HF:=ab H;obtain⟨m,m',S,l1,l2,l3,ay,⟨v5,rfl,bk,I⟩,n, -⟩:∃m m' S,F<=m/\m<=m'/\m'<=hi/\S.length=2/\mE wr m m' y S/\(∀j u,S[j]?=some u->wr.cell? ⟨b',a4+k*2+j,none⟩=some u)/\True:=by
        have aa:=bR.ar.below h2 D aV;obtain⟨g,c9,e9,g1,g2,g3,ds,bT⟩:=aO.some_ aa (by omega);simp only[oE,lP,qB,qx] at e9;obtain⟨⟨rfl,rfl⟩, -,rfl⟩:=e9;obtain⟨m,m',S,l1,l2,l3,ay,hE,n, -⟩:=aO.at_ mE.ar (by decide) aa cN.out;exact⟨m,m',S,l1,l2,l3,ay,hE,λj u hu=>by rw[mc];exact n j u hu,trivial⟩
       obtain⟨A6,c6,rfl⟩:=aO.form I;have a6:=n 1 _ rfl;rw[b4] at a6;simp only[lP,oE,true_and] at a6;obtain⟨rfl,rfl⟩:=a6;have b7:((s.sn.take k).filter λx=>!(o.any λh=>h.s ==x.no)).length<=s.sn.length:=ap (sj _ _) (by rw[ef];omega);have aZ:mE wr F wr.heap.size y [.int .i64 y.no,.slice A3 y.all.length c3]:=
        mE.ar.wide (⟨_,rfl,bk,I⟩:mE wr m m' y [.int .i64 y.no,.slice A3 y.all.length c3]) l1 (by have:=D.size;omega)
       have Y:=ab fD;have bf:=ab aZ;have a7:=ab D;have V:=ab (And.intro U O);clear fD aZ n I U O H L;obtain⟨M,hM⟩:∃M,M=((s.sn.take k).filter λx=>!(o.any λh=>h.s ==x.no)):=⟨_,rfl⟩;rw[<-hM] at Y HF b7 ⊢;clear hM;go_wp2_with(at_builtin;refine gX ?_);refine⟨?_,trivial⟩;refine ajP mE.ar (by decide) rfl (.tmp 57) (.tmp 63) 24 rfl aek y rfl Y.out rfl rfl (by simp[Value.oneCell']) bf.out (by omega) (by have:=a7.out.size;omega) ?_;intro v8 w8 o8 a0 bw;obtain⟨A8,c8,rfl⟩:=o8.form;simp only[aE,fi,mT,mc] at o8;go_wp2;go_roundw
       case rel=>
        have jk:∀b,(Value.slice Ao M.length co).ownBlock=some b->w.heap.size<=b/\∃ds,bg wr b 41 ds:=λb hb=>⟨(Y.out.at_ hb).1,Y.out.blk hb⟩;refine⟨k+1,by omega,by go_num,by rw[HF.out];exact o8,aP V.out.1 a0 λE=> ?_,aP V.out.2 a0 λE=> ?_,a7.out.trans (a0.below a7.out.size λi hi E=>by have:=(jk i E).1;omega)⟩
        .obtain⟨_,ds,hd⟩:=jk _ E;exact absurd (cI V.out.1 hd) (by decide)
        .obtain⟨_,ds,hd⟩:=jk _ E;exact absurd (cI V.out.2 hd) (by decide)
       case measure=>simp[intOf];omega
      .have hp:(o.any λh=>h.s ==y.no)=true:=al.out.symm;have H:=iW (p:=λx:Sn=>o.any λh=>h.s ==x.no) cN.out hp;have HF:=ab H;have a3:=ab (And.intro fD (And.intro U O));clear H hp fD U O;go_wp2;go_roundw
       case rel=>exact⟨k+1,by omega,by go_num,by rw[HF.out];exact a3.out.1,a3.out.2.1,a3.out.2.2,D⟩
       simp[intOf];omega
   .obtain rfl:k=s.sn.length:=by omega
    rw[gc] at L;have bL:=X.cell;have br:=X.frozen;have b6:=q1.cell;have bX:=q1.frozen;replace L:=ab L;go_wp2;obtain⟨wz,af⟩:∃wz,wz=((((wr.setCell ⟨w.heap.size,1,none⟩ (.slice Ao (s.sn.filter λx=>!(o.any λh=>h.s ==x.no)).length co)).setCell ⟨w.heap.size+1,0,none⟩ (.slice A s.pk.length a)).setCell ⟨w.heap.size+1,1,none⟩ (.slice Ao (s.sn.filter λx=>!(o.any λh=>h.s ==x.no)).length co)).setCell ⟨w.heap.size+1,2,none⟩ (.slice C d c)):=⟨_,rfl⟩;have G:bj (λb=>b=w.heap.size\/b=w.heap.size+1) wr wz:=by
     rw[af];exact((((bj.refl _ wr).setCell (.inl (.inl rfl)) _).setCell (.inl (.inr rfl)) _).setCell (.inl (.inr rfl)) _).setCell (.inl (.inr rfl)) _
    have N:Below w.heap.size w wz:=R.trans (G.below R.size λi hi E=>by rcases E with E|E<;>omega);have b8:iI mE 2 41 wz F w.heap.size (.slice Ao (s.sn.filter λx=>!(o.any λh=>h.s ==x.no)).length co) (s.sn.filter λx=>!(o.any λh=>h.s ==x.no)):=by
     refine L.out.fE mE.ar G (λb hb E=> ?_) (λb _ ht E=> ?_)
     .obtain⟨ds,hd⟩:=L.out.blk hb;rcases E with rfl|rfl
      .exact absurd (cI X hd) (by decide)
      .exact absurd (cI q1 hd) (by decide)
     .rcases E with rfl|rfl
      .exact df X (by decide) ht
      .exact df q1 (by decide) ht
    refine pb (v:=.agg #[.slice A s.pk.length a,.slice Ao (s.sn.filter λx=>!(o.any λh=>h.s ==x.no)).length co,.slice C d c]) (by simp[results,results21,go_sem,b6]) rfl ?_;rw[<-af,<-W.out];have zb:=N.size;exact⟨_,_,_,rfl,⟨tPk.wide (tPk.below (bF.T h1) N aV) (am _) (by omega),iI.sl b8 (by omega),by
     have:=tHd.wide (fI:=F) (hi':=wz.heap.size) (tHd.below bp N aV) (am _) (by omega);have e:(s.lg.take d).length=d:=by rw[ef];omega
     exact this⟩,N⟩
 .rw[mS hk Z];have kJ:(decide (0<=l.n)&&decide (l.n<=(s.lg.length:Int)))=false:=by
   rw[sV];by_cases h0:0<=l.n
   .exact .inr (da λh=>Z ⟨h0,h⟩)
   .exact .inl (da h0)
  have Q:=ab kJ;clear kJ Z;go_enter yl,ntmps21;go_wp2;generalize hG:(w.alloc (.cells #[.slice A s.pk.length a,.slice B s.sn.length b,.slice C s.lg.length c] 27)).alloc (.cells #[.slice none 0 0,.slice none 0 0,.slice none 0 0] 27)=w0 at *;obtain⟨aL,jo,k0,dn,eQ,k1,dG,eD⟩:=pW hG;clear hG;refine(lS l.n 0 s.lg.length w0).mono ?_;rintro e w1 ⟨rfl,rfl⟩;rw[Q.out];go_wp2;refine pb (v:=.agg #[.slice A s.pk.length a,.slice B s.sn.length b,.slice C s.lg.length c]) (by simp[results,results21,go_sem,dG]) rfl ⟨_,_,_,rfl, ?_,((aL.setCell (by first|omega|(dsimp only;omega)) _).setCell (by first|omega|(dsimp only;omega)) _).setCell (by first|omega|(dsimp only;omega)) _⟩;have hr:jh w F hi s (.slice A s.pk.length a) (.slice B s.sn.length b) (.slice C s.lg.length c):=⟨bF.T h1,bR.T h2,dH.T h3⟩;refine(hr.below (B:=w.heap.size) ?_ aV).wide (am _) ?_
  .exact((aL.setCell (by first|omega|(dsimp only;omega)) _).setCell (by first|omega|(dsimp only;omega)) _).setCell (by first|omega|(dsimp only;omega)) _
  .simp only[bv];omega
end
end Go.Proofs.YtokgbpkbaoeeoaaGreatDoor