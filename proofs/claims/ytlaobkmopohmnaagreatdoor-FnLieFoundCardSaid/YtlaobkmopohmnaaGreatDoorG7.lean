/- A part of the proof. -/
import Derived.Test.YtlaobkmopohmnaaGreatDoorG6
import Derived.Lib.IndexLaws
import Derived.Lib.Bytealg
import Derived.RangeFuncNested
import Derived.RangeFuncBound
import Derived.RangeFuncCalls
import Derived.RangeFuncLeaves
import Derived.Shelf.Abstract
import Derived.Shelf.RegionOpen
import Derived.OwnWalkIn
import Derived.TacticsInMore
import Derived.LoopNIn
import Derived.LoopIn
import Derived.OrdersIn
import Derived.Laws.BytesString
set_option maxRecDepth 100000
set_option maxHeartbeats 8000000
set_option linter.all false
open Go Go.RowKit Go.Proofs.Tryz Go.Proofs.YtlaobkmopohmnaaGreatDoor
variable {x:Ls} {Z W c hi k n n₀:Nat} {key:Int} {w w':World} {l l':List iP} {xs:List Ls} {dF:List Int} {s:ByteArray} {A:Option Addr} {Y X:Act→World→Prop}
namespace Go.Proofs.YtlaobkmopohmnaaGreatDoor
def se:=@_root_.List.find?_cons
def sj:=@_root_.Array.replicate_zero
def so:=@_root_.Array.replicate_succ
def sG:=@_root_.List.append_toArray
def sM:=@_root_.Go.RowKit.Below.alloc
def ta:=@_root_.List.push_toArray
def tp:=@_root_.beq_self_eq_true
def ul:=@_root_.Go.World.putObj_heap_other
def uo:=@_root_.List.getElem?_cons_zero
def uw:=@_root_.List.length_eq_one_iff
def uU:=@_root_.Int.mul_le_mul_of_nonneg_left
def uY:=@_root_.Go.OwnFrom.and
def vk:=@_root_.Go.callsIn_of_wp
def vU:=@_root_.Go.KeepsOthers.of_grownBy
def we:=@_root_.Int.emod_add_mul_ediv
def wt:=@_root_.List.mem_of_getLast?
def wC:=@_root_.List.mem_map_of_mem
def wF:=@_root_.List.filterMap_cons
def wG:=@_root_.Go.KeepsOthers.setCell
section
variable {β:Bool}
open Go.RowKit
def gh(key:Int)(no:Int)(l:List ByteArray):List Pk:=
 if h:l=[] then[] else⟨no,gW key (l.take 4)⟩::gh key (no+1) (l.drop 4)
termination_by l.length
decreasing_by
 have:0<l.length:=List.length_pos_iff.2 h;rw[qp];omega
def abh(key a:Int):gh key a []=[]:=by rw[gh];rfl
def adl(key a:Int){l:List ByteArray}(h:0<l.length):gh key a l=⟨a,gW key (l.take 4)⟩::gh key (a+1) (l.drop 4):=by
 rw[gh,dif_neg (by rintro rfl;simp at h)]
open Classical in
noncomputable def ack(l:List Pk):List Sp:=if ∀s∈ed l,spP s then fD (ed l) [] else[]
def anj(l:List Pk):IOf l (ack l):=by
 unfold ack;by_cases h:∀s∈ed l,spP s
 .rw[du h];exact .inl ⟨h,rfl⟩
 .rw[da h];exact .inr ⟨h,rfl⟩
noncomputable def ahC(key:Int)(s:dH)(t:List Nd):List Pk:=gh key (fZ s.pk) (abf key (ack s.pk) t)
def ae7(key:Int)(s:dH)(t:List Nd):Prop:=(s.pk++ahC key s t).length<=20/\fZ s.pk+(ahC key s t).length-1<=99/\fu s<=20/\s.lg.length<9
noncomputable def acS(key:Int)(s:dH)(by_:Int)(t:List Nd):dH:=⟨s.pk++ahC key s t,s.sn++[kJ (fu s) key t],s.lg++[⟨by_,fu s⟩]⟩
structure afC (w wr:World) (va vb vc:Value) (gm:Nat) (vp vs vl:Value) (pk:List Pk) (sn:List Sn) (lg:List Hd) (H:Nat):Prop where
 k0:aX wr w.heap.size 27 #[va,vb,vc]
 k1:aX wr (w.heap.size+1) 27 #[.slice none 0 0,.slice none 0 0,.slice none 0 0]
 m:aX wr gm 27 #[vp,vs,vl]
 op:bF wr w.heap.size H pk [vp]
 os:bV wr w.heap.size H sn [vs]
 ol:dD wr w.heap.size H lg [vl]
 bl:Below w.heap.size w wr
 gm1:w.heap.size+1<gm
 gm2:gm<wr.heap.size
 hH:H<=wr.heap.size
def afC.below{wr : World}{c i f:Value}{k g d:Value}{j:List Pk}{b:List Sn}{e:List Hd}(h:afC w wr c i f Z k g d j b e W)(a:Below wr.heap.size wr w'):afC w w' c i f Z k g d j b e W:=
 ⟨ah h.k0 a,ah h.k1 a,ah h.m a,bF.ar.below h.op a h.hH,bV.ar.below h.os a h.hH,dD.ar.below h.ol a h.hH,ag h.bl a,h.gm1,bd h.gm2 a.size,ap h.hH a.size⟩
def afC.up{wr : World}{c i f:Value}{k g d:Value}{j:List Pk}{b:List Sn}{e:List Hd}{H' : Nat}(h:afC w wr c i f Z k g d j b e W)(a:W<=H')(l:H'<=wr.heap.size):afC w wr c i f Z k g d j b e H':=
 ⟨h.k0,h.k1,h.m,bF.ar.wide h.op (am _) a,bV.ar.wide h.os (am _) a,dD.ar.wide h.ol (am _) a,h.bl,h.gm1,h.gm2,l⟩
def aAG:Value->Nat
 |.slice _ n _=>n
 |_=>0
def arR(key:Int)(s:dH)(by_:Int)(t:List Nd)(w:World)(e:Ending)(w':World):Prop:=
 ∃c b a q r,e=.returned (.tuple #[.agg #[c,b,a],.bool q])/\eT w' w.heap.size w'.heap.size r c b a/\((q=true/\ae7 key s t/\r=acS key s by_ t)\/(q=false/\¬ae7 key s t/\r=s))/\Below w.heap.size w w'
def ajq (key:Int) (hk:1<=key/\key<=99) (s:dH) (u:Int) (bo:cA u) (t:List Nd) (ht:∀x∈t,dN x.b=true) (hl:t.length<=10) (hs:alH 1000000 s) (e6:(ed s.pk).length<=10000) (bH:kq s<=1000000)
  (va vb vc vt:Value) (w:World) (lo hi bh jX:Nat) (h:eT w lo hi s va vb vc) (aR:hi<=w.heap.size) (h1:fM w bh jX t [vt]) (lM:jX<=w.heap.size) :
  Calls (ai β) 29 #[.int .i64 key,.agg #[va,vb,vc],.int .i64 u,vt] w (arR key s u t w):=by
 replace ht:=ab ht;have HS:=ab hs;have HK:=ab hk;replace bo:=ab bo;clear hs;obtain⟨A,a,rfl⟩:=h.pk.form;obtain⟨B,b,rfl⟩:=h.sn.form;obtain⟨C,c,rfl⟩:=h.lg.form;obtain⟨D,d,rfl⟩:=h1.form;have e5:s.pk.length<=1000000:=by
  have h1:=dQ (f:=bPk) (l:=s.pk);unfold kq at bH;omega
 have ej:s.sn.length<=1000000:=by
  have h1:=dQ (f:=bSn) (l:=s.sn);unfold kq at bH;omega
 have e7:s.lg.length<=1000000:=by unfold kq at bH;omega
 go_enter zU,ntmps29;go_wp2;generalize hG:(w.alloc (.cells #[.slice A s.pk.length a,.slice B s.sn.length b,.slice C s.lg.length c] 27)).alloc (.cells #[.slice none 0 0,.slice none 0 0,.slice none 0 0] 27)=w0 at *;obtain⟨aG,iw,k0,cN,dS,k1,bZ,dx⟩:=oK hG;clear hG;have cO:=h.below aG aR;refine(fh s _ _ _ w0 lo hi cO.l (by omega) (by omega)).mono ?_;rintro e w1 ⟨vp,vs,vl,rfl,oc,b1⟩;obtain⟨Ap,cp,rfl⟩:=oc.pk.form;obtain⟨As,cs,rfl⟩:=oc.sn.form;obtain⟨Al,cl,rfl⟩:=oc.lg.form;replace k0:=ah k0 b1;replace cN:=k0.cell;replace dS:=k0.frozen;replace k1:=ah k1 b1;replace bZ:=k1.cell;replace dx:=k1.frozen;replace aG:=ag aG b1;have bY:=ab oc;have z1:=b1.size;clear oc cO;have ax:=au w1 (.cells #[.slice Ap s.pk.length cp,.slice As s.sn.length cs,.slice Al s.lg.length cl] 27);have d2:=(ah k0 ax).cell;go_wp2;clear ax d2;generalize hG:w1.alloc (.cells #[.slice Ap s.pk.length cp,.slice As s.sn.length cs,.slice Al s.lg.length cl] 27)=w2 at *;obtain⟨ku,er,m0,ma,d1⟩:=nh hG;clear hG;replace k0:=ah k0 ku;replace cN:=k0.cell;replace dS:=k0.frozen;replace k1:=ah k1 ku;replace bZ:=k1.cell;replace dx:=k1.frozen;have b6:=bY.out.below ku (am _);have P:afC w w2 (.slice A s.pk.length a) (.slice B s.sn.length b) (.slice C s.lg.length c) w1.heap.size (.slice Ap s.pk.length cp) (.slice As s.sn.length cs) (.slice Al s.lg.length cl) s.pk s.sn s.lg w1.heap.size:=
  ⟨k0,k1,m0,bF.ar.wide b6.pk (by omega) (am _),bV.ar.wide b6.sn (by omega) (am _),dD.ar.wide b6.lg (by omega) (am _),ag aG ku,by omega,by omega,ku.size⟩
 obtain⟨E,cd⟩:∃E,E=w1.heap.size:=⟨_,rfl⟩;rw[<-cd] at P ⊢;have n:=ab P;have bB:=h.below (ag aG ku) aR;have HST:=ab bB;clear cd P b6 bY k0 k1 m0 cN bZ ma dS dx d1 aG ku b1;refine(ajp s HS.out _ _ _ w2 lo hi bB.l (by have:=n.out.bl.size;omega)).mono ?_;rintro e w3 ⟨rfl,b3⟩;have ao:=n.out.below b3;have ck:=ab ao;have bN:=HST.out.below b3 (by have:=n.out.bl.size;omega);have c2:=ab bN;have cN:=ao.k0.cell;have z3:=ao.bl.size;clear ao n HST bB b3;go_wp2;refine(adH s.pk _ w3 lo hi (by omega) (bF.t bN.pk) (by omega) (ack s.pk) (anj _)).mono ?_;rintro e w4 ⟨vi,rfl,oi,b4⟩;clear bN;have bT:=(anj s.pk).ix;have c6:=((oi.deep (auU bT) 0).sl (fa _)).1;have b0:=ck.out.below b4;have bX:=ab b0;have co:=fM.ar.wide (fM.ar.below h1 b0.bl lM) (fa bh) (show jX<=w4.heap.size by have:=b0.bl.size;omega);obtain⟨Ai,ci,rfl⟩:=oi.form;clear b0 ck cN oi bT b4;have ad:Hid (ae7 key s t↔((s.pk++gh key (fZ s.pk) (abf key (ack s.pk) t)).length<=20/\fZ s.pk+(gh key (fZ s.pk) (abf key (ack s.pk) t)).length-1<=99/\fu s<=20/\s.lg.length<9)):=ab Iff.rfl;have b8:Hid (acS key s u t=⟨s.pk++gh key (fZ s.pk) (abf key (ack s.pk) t),s.sn++[kJ (fu s) key t],s.lg++[⟨u,fu s⟩]⟩):=ab rfl;have cC : -9223372036854775807<=fZ s.pk/\fZ s.pk<=1000001:=by
  rcases qe s.pk.length with hz|hz
  .rw[qZ.1 hz];show _<=(1:Int)/\(1:Int)<=_;omega
  .obtain⟨z,c9,d7⟩:=wR hz;have e0:=HS.out.1 z (db c9);obtain⟨es,v,_,hg,_⟩:=(c2.out.l).pk.aqs z (db c9);unfold cA at hg;unfold fZ;rw[d7];show _<=z.no+1/\z.no+1<=_;omega
 have cz : -9223372036854775807<=fu s/\fu s<=1000001:=by
  have hm:=ajo (l:=s.lg) (b:=1000001) (by omega) λx hx=>by have:=HS.out.2.2 x hx;omega
  unfold fu;cases cZ:s.sn.getLast? with
  |none=>show _<=gb s.lg/\gb s.lg<=_;omega
  |some x=>
   have:=HS.out.2.1 x (wt cZ);show _<=max (gb s.lg) (x.no+1)/\max (gb s.lg) (x.no+1)<=_;omega
 clear c2;have ct:(abf key (ack s.pk) t).length<=400:=by
  have a1:=acg (key:=key) (ix:=ack s.pk) (acf t) [];have a2:=acQ (t:=t) ht.out;show(ace key (ack s.pk) [] (acf t)).length<=_;simp only[mc,lP] at a1;omega
 have a6:=nX (key:=key) (ix:=ack s.pk) ht.out;have af:=ab (alz (β:=β) key HK.out t ht.out (by omega) (ack s.pk) _ _ w4 0 w4.heap.size (am _) co c6);clear co c6;revert a6 ct b8 ad af;generalize abf key (ack s.pk) t=pieces;revert cC;generalize fZ s.pk=n0;revert cz;generalize fu s=s0;intro cz cC ad b8 ct a6 af;go_wp2;refine af.out.mono ?_;rintro e w5 ⟨vq,rfl,oq,b5⟩;clear af;have cv:=(oq.deep (λx hx=>lK (a6 x hx)) 0).sl (fa _);have bS:=bX.out.below b5;have cB:=bS.up (H':=w5.heap.size) bS.hH (am _);obtain⟨Aq,cq,rfl⟩:=oq.form;have aT:=ab (And.intro cv (And.intro a6 cB));clear bX cv a6 bS cB oq b5;go_wp2;go_loopw [11,13] (λnn pp wr=>∃(no:Int) (j:List ByteArray) (o:List Pk) (vp:Value),nn=.int .i64 no/\s.pk++gh key n0 pieces=o++gh key no j/\no=n0+((o.length:Int)-s.pk.length)/\o.length+j.length<=s.pk.length+pieces.length/\s.pk.length<=o.length/\w5.heap.size<=wr.heap.size/\dA wr 0 w5.heap.size j [pp]/\(∀x∈j,bD (bs x))/\afC w wr (.slice A s.pk.length a) (.slice B s.sn.length b) (.slice C s.lg.length c) E vp (.slice As s.sn.length cs) (.slice Al s.lg.length cl) o s.sn s.lg wr.heap.size) (λ_ pp _=>aAG pp)
 case atStart=>exact⟨n0,pieces,s.pk,_,rfl,rfl,by omega,am _,am _,am _,aT.out.1,aT.out.2.1,aT.out.2.2⟩
 case round=>
  clear aT;obtain⟨no,j,o,e8,rfl,ce,c0,cX,en,dp,hr,hp,P⟩:=hrel;obtain⟨Ar,cr,rfl⟩:=hr.form;obtain⟨Q,N,rfl⟩:=P.op.form;have bi:=ab ce;have bL:=ab c0;have e9 : -9223372036854775807<=no/\no<=9000000:=by omega
  have HR:=ab hr;have HP:=ab hp;have n:=ab P;have el:=hr.len_.2.1;have d9:=hr.len_.2.2;unfold maxLen at d9;clear ce c0 hr hp P;by_cases iq:0<j.length
  .have t1:decide (0<j.length)=true:=dj iq;have ma:=n.out.m.cell 0;by_cases h4:j.length<=4
   case' pos=>
    have t2:=dj (show(j.length:Int)<=4 by omega);have g2:((j.length:Nat):Int)<=(cr:Int):=by omega
    have q1:=am j.length;have q2:j.take j.length=j.take 4:=by rw[oS (am _),oS h4]
    have q3:j.drop j.length=j.drop 4:=by rw[rT (am _),rT h4]
   case' neg=>
    have t2:=bv (show ¬((j.length:Int)<=4) by omega);have g2:((4:Nat):Int)<=(cr:Int):=by omega
    have q1:4<=j.length:=by omega
    have q2:=@rfl _ (j.take 4);have q3:=@rfl _ (j.drop 4)
   all_goals
    have bt:∀x∈j.take 4,bD (bs x):=λx hx=>HP.out x (pr hx);have cb:∀x∈j.drop 4,bD (bs x):=λx hx=>HP.out x (uR hx);have bx:=HR.out.af3 q1;rw[q2] at bx;have bA:=HR.out.am1 q1;rw[q3] at bA;have X:=adl key no iq;have cc:(j.take 4).length<=4:=by rw[eg];omega
    have c1:=aeZ (key:=key) bt;have cV:(gW key (j.take 4)).length<=4:=by rw[aai];exact cc
    have bw:w5.heap.size<=wr.heap.size:=dp;have bz:cA no:=by unfold cA;omega
    have ca:=λ(y:World) (hy:Below wr.heap.size wr y)=>alv (β:=β) no key HK.out (j.take 4) bt (by omega) _ y 0 w5.heap.size (ap bw hy.size) (dA.ar.below bx hy bw)
    have an:=ab ca;have ch:=ab bA;have HST:=ab X;have bQ:=ab c1;have dd:=ab cb;have d5:Hid ((j.drop 4).length+1<=j.length):=ab (by rw[qp];omega);clear ca bA X c1 bx q2 q3 cc bt cb;revert cV;revert bQ;revert HST;revert an;generalize gW key (j.take 4)=L;intro an HST bQ cV;go_wp2;have aI:=ae ma;refine aD 9 [0,1,2,3,4,5,6] [7,8] (h:= ?_);simp only[pick,List.map,gn,gt];repeat(go_big_quiet_step (fail))
    refine ip ?_;clear aI;apply Exists.intro;apply bu (λv Z=>∃A c,v=.agg #[.int .i64 no,.slice A L.length c]/\aL mL 63 Z wr.heap.size (.slice A L.length c) L)
    .rfl
    .exact λv x y ⟨A,c,e,h⟩ hle=>⟨A,c,e,h.below hle⟩
    .intro x R Qx r;replace r:=ab r;clear R;go_wp2;refine(an.out x.to x.ok).mono ?_;rintro e wy ⟨vy,rfl,oy,br⟩;obtain⟨Ay,cy,rfl⟩:=oy.form;go_wp2;exact r.out _ _ br ⟨_,_,rfl,oy.base x.ok.size⟩
    intro u7;apply bu (λv Z=>∃g A c,v=.slice (some ⟨g,0,none⟩) 1 1/\aX Z g 54 #[.int .i64 no,.slice A L.length c]/\aL mL 63 Z wr.heap.size (.slice A L.length c) L)
    .rfl
    .exact λv x y ⟨g,A,c,e,hk,h⟩ hle=>⟨g,A,c,e,ah hk hle,h.below hle⟩
    .intro x R Qx r;replace r:=ab r;obtain⟨A5,c5,rfl,ho⟩:=R.1 (by kernel_rfl);go_wp2;have ba:=au x.to (.cells #[.int .i64 no,.slice A5 L.length c5] 54);exact r.out _ _ ba ⟨_,_,_,rfl,aX.new _ _ _,ho.below ba⟩
    intro u8;refine aS ?_;intro w6 iA xx dh R;dsimp only[dV] at R;try rw[dh] at R
    clear dh xx;obtain⟨⟨g8,A8,c8,rfl,a8,o8⟩, -⟩:=R;simp only[List.drop];have z6:=iA.size;have S:=n.out.below iA;have cS:=dA.ar.below ch.out iA bw;have aa:Hid (kI w6 wr.heap.size w6.heap.size ⟨no,L⟩ [.int .i64 no,.slice A8 L.length c8]):=ab ⟨_,rfl,bz,o8.aap bQ.out (by omega) λg hg=>(o8.at_ hg).2⟩;have b2:=ab a8;have k:=ab S;have d8:=ab cS;have zb:=S.bl.size;clear n iA o8 a8 S cS ch an ma HR;go_wp2_with(at_builtin;refine gI ?_);refine⟨?_,trivial⟩;refine gX kI.ar (by decide) (v:=.slice Q o.length N) rfl (.tmp 35) (.tmp 42) 23 rfl adV ⟨no,L⟩ rfl k.out.op rfl b2.out rfl (by simp[Value.oneCell']) (show wr.heap.size<=w6.heap.size by omega) aa.out (am _) (by omega) (by omega) ?_;intro v9 Y o9 I c3;obtain⟨K,J,rfl⟩:=o9.form;rw[aE,mu] at o9;rw[aE,mu];have m:=k.out.op;have z9:=I.size;have bk:=k.out.gm1;have ds:=k.out.gm2;have q:=dE m I k.out.m (by decide);have dc:Y.cell? ⟨E,0,none⟩=some (.slice Q o.length N):=q.cell 0;have dy:=q.frozen 0;have lX:=q.bc 0 (.slice K (o.length+1) J);simp only[de,ff,gc] at lX;have a7:afC w (Y.setCell ⟨E,0,none⟩ (.slice K (o.length+1) J)) _ _ _ E (.slice K (o.length+1) J) (.slice As s.sn.length cs) (.slice Al s.lg.length cl) (o++[⟨no,L⟩]) s.sn s.lg (Y.setCell ⟨E,0,none⟩ (.slice K (o.length+1) J)).heap.size:=
     ⟨bW (dE m I k.out.k0 (by decide)) (p:=⟨E,0,none⟩) _ (by dsimp only;omega),bW (dE m I k.out.k1 (by decide)) (p:=⟨E,0,none⟩) _ (by dsimp only;omega),lX,
      by simp only[be];exact cQ bF.ar o9 q (by decide) 0 _,
      by simp only[be];exact bV.ar.wide (cQ bV.ar (jB m I bV.ar k.out.os (by decide)) q (by decide) 0 _) (am _) (by omega),
      by simp only[be];exact dD.ar.wide (cQ dD.ar (jB m I dD.ar k.out.ol (by decide)) q (by decide) 0 _) (am _) (by omega),
      (k.out.bl.trans (I.below k.out.bl.size λi hi hs=>by have:=m.ob hs;omega)).setCell (by dsimp only;omega) _,bk,by simp only[be];omega,am _⟩
    have cI:dA (Y.setCell ⟨E,0,none⟩ (.slice K (o.length+1) J)) 0 w5.heap.size (j.drop 4) _:=cQ dA.ar (jB m I dA.ar d8.out (by decide)) q (by decide) 0 _;have a5:=ab a7;have d4:=ab cI;have d3:Hid (w5.heap.size<=(Y.setCell ⟨E,0,none⟩ (.slice K (o.length+1) J)).heap.size):=ab (by simp only[be];omega);clear a7 cI lX m q;go_wp2;go_roundw
    case rel=>exact⟨no+1,j.drop 4,o++[⟨no,L⟩],_,rfl,by rw[bi.out,HST.out,tf];rfl,by have:=bL.out;rw[aE,mu];omega,by have:=d5.out;rw[aE,mu];omega,by rw[aE,mu];omega,d3.out,by have:=d4.out;first|(simpa only[Nat.mul_one,tq] using this)|(simp only[da (show ¬cr=4 by omega),Addr.add] at this;simpa using this),dd.out,a5.out⟩
    simp[aAG];omega
  .have hz:j=[]:=qZ.1 (by omega);subst hz;have mR:s.pk++gh key n0 pieces=o:=by rw[bi.out,abh,sg]
   have a0:ae7 key s t↔(o.length<=20/\no-1<=99/\s0<=20/\s.lg.length<9):=by
    refine ad.out.trans ?_;rw[mR];have e:(o.length:Int)=s.pk.length+(gh key n0 pieces).length:=by rw[<-mR,aE];omega
    have:=bL.out;constructor
    .rintro⟨a1,a2,a3,a4⟩;exact⟨a1,by omega,a3,a4⟩
    .rintro⟨a1,a2,a3,a4⟩;exact⟨a1,by omega,a3,a4⟩
   have cH:acS key s u t=⟨o,s.sn++[kJ s0 key t],s.lg++[⟨u,s0⟩]⟩:=by rw[b8.out,mR]
   have aY:=ab a0;have dn:=ab cH;have eo:o.length<=2000000:=by omega
   clear mR a0 cH ad b8 bi bL HR HP cX;have cm:=n.out.m.cell;have cN:=n.out.k0.cell;have bz:cA (no-1):=by unfold cA;omega
   unfold cA at bz;rcases(by omega:(o.length<=20/\no-1<=99/\s0<=20/\s.lg.length<9)\/¬o.length<=20\/(o.length<=20/\¬no-1<=99)\/(o.length<=20/\no-1<=99/\¬s0<=20)\/(o.length<=20/\no-1<=99/\s0<=20/\¬s.lg.length<9)) with hc|hc|hc|hc|hc
   .have t3:=bv (show ¬((20:Int)<(o.length:Int)) by omega);have t4:=bv (show ¬(99<no-1) by omega);have t5:=bv (show ¬(20<s0) by omega);have t6:=bv (show ¬((9:Int)<=(s.lg.length:Int)) by omega);have HY:=ab (aY.out.2 hc);clear hc;clear aY;go_wp2;have cg:=cm 1;have HC:=ab (λ(y:World) (hy:Below wr.heap.size wr y)=>aoZ (β:=β) s0 key HK.out (by unfold cA;omega) t ht.out (by omega) _ y bh jX (by have:=hy.size;have:=n.out.bl.size;omega) (fM.ar.below h1 (ag n.out.bl hy) lM));have aI:=ae cg;refine aD 7 [0,1,2,3,4] [5,6] (h:= ?_);simp only[pick,List.map,gn,gt];repeat(go_big_quiet_step (fail))
    refine ip ?_;clear aI;apply Exists.intro;apply bu (λv Z=>∃A c,v=.agg #[.int .i64 s0,.slice A (kJ s0 key t).all.length c]/\fH Z wr.heap.size Z.heap.size (kJ s0 key t).all [.slice A (kJ s0 key t).all.length c])
    .rfl
    .exact λv x y ⟨A,c,e,h⟩ hle=>⟨A,c,e,fH.ar.wide (fH.ar.below h hle (am _)) (am _) hle.size⟩
    .intro x R Qx r;replace r:=ab r;clear R;go_wp2;refine(HC.out x.to x.ok).mono ?_;rintro e wy ⟨vy,rfl,oy,br⟩;obtain⟨Ay,cy,rfl⟩:=oy.form;go_wp2;exact r.out _ _ br ⟨_,_,rfl,fH.ar.wide oy x.ok.size (am _)⟩
    intro u5;apply bu (λv Z=>∃g A c,v=.slice (some ⟨g,0,none⟩) 1 1/\aX Z g 58 #[.int .i64 s0,.slice A (kJ s0 key t).all.length c]/\fH Z wr.heap.size Z.heap.size (kJ s0 key t).all [.slice A (kJ s0 key t).all.length c])
    .rfl
    .exact λv x y ⟨g,A,c,e,hk,h⟩ hle=>⟨g,A,c,e,ah hk hle,fH.ar.wide (fH.ar.below h hle (am _)) (am _) hle.size⟩
    .intro x R Qx r;replace r:=ab r;obtain⟨A5,c5,rfl,ho⟩:=R.1 (by kernel_rfl);go_wp2;have ba:=au x.to (.cells #[.int .i64 s0,.slice A5 (kJ s0 key t).all.length c5] 58);exact r.out _ _ ba ⟨_,_,_,rfl,aX.new _ _ _,fH.ar.wide (fH.ar.below ho ba (am _)) (am _) ba.size⟩
    intro u6;refine aS ?_;intro w6 iA xx dh R;dsimp only[dV] at R;try rw[dh] at R
    clear dh xx;obtain⟨⟨g8,A8,c8,rfl,a8,o8⟩, -⟩:=R;simp only[List.drop];have z6:=iA.size;have S:=n.out.below iA;have aa:Hid (lY w6 wr.heap.size w6.heap.size (kJ s0 key t) [.int .i64 s0,.slice A8 (kJ s0 key t).all.length c8]):=ab ⟨_,rfl,by show cA s0;unfold cA;omega,o8⟩;have b2:=ab a8;have k:=ab S;have zb:=S.bl.size;clear n iA o8 a8 S cm cg cN HC;go_wp2_with(at_builtin;refine gI ?_);refine⟨?_,trivial⟩;refine gX lY.ar (by decide) (v:=.slice As s.sn.length cs) rfl (.tmp 72) (.tmp 77) 24 rfl adY (kJ s0 key t) rfl k.out.os rfl b2.out rfl (by simp[Value.oneCell']) (show wr.heap.size<=w6.heap.size by omega) aa.out (am _) (by omega) (by omega) ?_;intro v9 Y o9 I c3;obtain⟨K,J,rfl⟩:=o9.form;rw[aE,mu] at o9;rw[aE,mu];have m:=k.out.os;have z9:=I.size;have bk:=k.out.gm1;have ds:=k.out.gm2;have q:=dE m I k.out.m (by decide);have dc:Y.cell? ⟨E,1,none⟩=some (.slice As s.sn.length cs):=q.cell 1;have dy:=q.frozen 1;have lX:=q.bc 1 (.slice K (s.sn.length+1) J);simp only[de,ff,gc] at lX;have a7:afC w (Y.setCell ⟨E,1,none⟩ (.slice K (s.sn.length+1) J)) (.slice A s.pk.length a) (.slice B s.sn.length b) (.slice C s.lg.length c) E (.slice Q o.length N) (.slice K (s.sn.length+1) J) (.slice Al s.lg.length cl) o (s.sn++[kJ s0 key t]) s.lg (Y.setCell ⟨E,1,none⟩ (.slice K (s.sn.length+1) J)).heap.size:=
     ⟨bW (dE m I k.out.k0 (by decide)) (p:=⟨E,1,none⟩) _ (by dsimp only;omega),bW (dE m I k.out.k1 (by decide)) (p:=⟨E,1,none⟩) _ (by dsimp only;omega),lX,
      by simp only[be];exact bF.ar.wide (cQ bF.ar (jB m I bF.ar k.out.op (by decide)) q (by decide) 1 _) (am _) (by omega),
      by simp only[be];exact cQ bV.ar o9 q (by decide) 1 _,
      by simp only[be];exact dD.ar.wide (cQ dD.ar (jB m I dD.ar k.out.ol (by decide)) q (by decide) 1 _) (am _) (by omega),
      (k.out.bl.trans (I.below k.out.bl.size λi hi hs=>by have:=m.ob hs;omega)).setCell (by dsimp only;omega) _,bk,by simp only[be];omega,am _⟩
    have a5:=ab a7;clear a7 m q;have cw:=lX.cell;clear lX o9 I c3 k aa b2;go_wp2_with(at_builtin;refine gI ?_);refine⟨?_,trivial⟩;obtain⟨U,bO⟩:∃U,U=Y.setCell ⟨E,1,none⟩ (.slice K (s.sn.length+1) J):=⟨_,rfl⟩;have bp:U.heap.size=Y.heap.size:=by rw[bO];simp only[be]
    have dF:w6.heap.size<=U.heap.size:=by rw[bp];exact z9
    rw[<-bO] at a5 cw ⊢;clear bO;generalize hG:U.alloc (.cells #[.int .i64 u,.int .i64 s0] 65)=w11 at *;obtain⟨bb,e2,q0,d0,cW⟩:=nh hG;clear hG;rw[bp] at q0;clear bp;have F:=a5.out.below bb;have m:=F.ol;refine gX (bU.ar oL) (by decide) (v:=.slice Al s.lg.length cl) rfl (.tmp 81) (.tmp 85) 25 rfl ahu (⟨u,s0⟩:Hd) rfl m rfl q0 rfl (by simp[Value.oneCell']) (show U.heap.size<=w11.heap.size from bb.size) ⟨rfl,bo.out,by show cA s0;unfold cA;omega⟩ (am _) (by omega) (by omega) ?_;intro ev a9 V O d6;obtain⟨H,G,rfl⟩:=V.form;rw[aE,mu] at V;rw[aE,mu];have M:=dE m O F.m (by decide);have W:=dE m O F.k1 (by decide);have ee:=M.cell;have ek:=M.frozen;have em:=W.cell;have ei:=W.frozen;have al:=jB m O bF.ar F.op (by decide);have aJ:=jB m O bV.ar F.os (by decide);have b9:Below w.heap.size w a9:=F.bl.trans (O.below F.bl.size λi hi hs=>by have:=m.ob hs;omega);have ea:=O.size;have ex:=bb.size;have HF:=ab (And.intro al (And.intro aJ (And.intro V (And.intro b9 (And.intro M W)))));clear al aJ V b9 M W m F a5 cw bb q0 d0 cW O d6;go_wp2;obtain⟨al,aJ,V,b9,M,W⟩:=HF.out;have ew:=M.bc 2 (.slice H (s.lg.length+1) G);have ay:=bW W (p:=⟨E,2,none⟩) (.slice H (s.lg.length+1) G) (by dsimp only;omega);have k4:=((ay.bc 0 (.slice Q o.length N)).bc 1 (.slice K (s.sn.length+1) J)).bc 2 (.slice H (s.lg.length+1) G);simp only[de,ff,gc] at k4;have bn:=k4.cell;have bl:∀{β:Type} {D:fW β} {T:List TypeId} {y:β} {cs:List Value},dI D T->27∉T->D a9 w.heap.size a9.heap.size y cs->D ((((a9.setCell ⟨E,2,none⟩ (.slice H (s.lg.length+1) G)).setCell ⟨w.heap.size+1,0,none⟩ (.slice Q o.length N)).setCell ⟨w.heap.size+1,1,none⟩ (.slice K (s.sn.length+1) J)).setCell ⟨w.heap.size+1,2,none⟩ (.slice H (s.lg.length+1) G)) w.heap.size ((((a9.setCell ⟨E,2,none⟩ (.slice H (s.lg.length+1) G)).setCell ⟨w.heap.size+1,0,none⟩ (.slice Q o.length N)).setCell ⟨w.heap.size+1,1,none⟩ (.slice K (s.sn.length+1) J)).setCell ⟨w.heap.size+1,2,none⟩ (.slice H (s.lg.length+1) G)).heap.size y cs:=λ{_ _ _ _ _} hD hT hy=>by
     simp only[be];exact cQ hD (cQ hD (cQ hD (cQ hD hy M hT 2 _) ay hT 0 _) (ay.bc 0 _) hT 1 _) ((ay.bc 0 _).bc 1 _) hT 2 _
    refine mx (v:=.tuple #[.agg #[.slice Q o.length N,.slice K (s.sn.length+1) J,.slice H (s.lg.length+1) G],.bool true]) (by simp[results,results29,go_sem,bn]) rfl ⟨_,_,_,true,acS key s u t,rfl, ?_,.inl ⟨rfl,HY.out,rfl⟩,(((b9.setCell (by dsimp only;omega) _).setCell (by simp) _).setCell (by simp) _).setCell (by simp) _⟩;rw[dn.out];exact⟨bl bF.ar (by decide) (bF.ar.wide al (am _) (by omega)),bl bV.ar (by decide) (bV.ar.wide aJ (am _) (by omega)),bl dD.ar (by decide) V⟩
   all_goals
    have HN:Hid (¬ae7 key s t):=ab λh=>by have:=aY.out.1 h;omega
    first|have t3:=dj (show(20:Int)<(o.length:Int) by omega)|have t3:=bv (show ¬((20:Int)<(o.length:Int)) by omega)
    first|have t4:=dj (show 99<no-1 by omega)|(try have t4:=bv (show ¬(99<no-1) by omega))
    first|have t5:=dj (show 20<s0 by omega)|(try have t5:=bv (show ¬(20<s0) by omega))
    try have t6:=dj (show(9:Int)<=(s.lg.length:Int) by omega)
    clear hc;clear aY;go_wp2;have c7:=h.below n.out.bl aR;refine(fh s _ _ _ wr lo hi c7.l (by have:=n.out.bl.size;omega) (by omega)).mono ?_;rintro e w7 ⟨v1,v2,v3,rfl,oc,b7⟩;obtain⟨A1,cn,rfl⟩:=oc.pk.form;obtain⟨A2,c4,rfl⟩:=oc.sn.form;obtain⟨A3,cu,rfl⟩:=oc.lg.form;have kr:=ah n.out.k1 b7;have ec:=kr.cell;have e4:=kr.frozen;have z7:=n.out.bl.size;have dB:=ag n.out.bl b7;clear cm cN c7;go_wp2;have k4:=((kr.bc 0 (.slice A1 s.pk.length cn)).bc 1 (.slice A2 s.sn.length c4)).bc 2 (.slice A3 s.lg.length cu);simp only[de,ff,gc] at k4;have bn:=k4.cell;refine mx (v:=.tuple #[.agg #[.slice A1 s.pk.length cn,.slice A2 s.sn.length c4,.slice A3 s.lg.length cu],.bool false]) (by simp[results,results29,go_sem,bn]) rfl ⟨_,_,_,false,s,rfl, ?_,.inr ⟨rfl,HN.out,rfl⟩,((dB.setCell (by simp) _).setCell (by simp) _).setCell (by simp) _⟩;simp only[be];have e1:=n.out.k1.lt;exact oc.go (λb ey e3=>by
     have bf:b≠w.heap.size+1:=by omega
     rw[io _ _ _ _ bf,io _ _ _ _ bf,io _ _ _ _ bf]) (by omega) (am _)
end
section
variable {β:Bool}
open Go.RowKit
inductive iM:dH->Prop
 |nil:iM ⟨[],[],[]⟩
 |save {s:dH} {b:Int} {t:List Nd}:iM s->b=1\/b=2->lH t->ae7 7 s t->iM (acS 7 s b t)
structure WfS (s:dH):Prop where
 pl:s.pk.length<=20
 pn:∀p∈s.pk,(1<=p.no/\p.no<=99)/\p.its.length<=4/\∀x∈p.its,x.b.size<=8
 sl:s.sn.length=s.lg.length
 sn:∀x∈s.sn,(1<=x.no/\x.no<=20)/\x.all.length<=6/\∀y∈x.all,y.p.size<=3/\y.ns.length<=40
 ll:s.lg.length<=9
 lg:∀h∈s.lg,(1<=h.b/\h.b<=2)/\1<=h.s/\h.s<=20
def nZ(key:Int):∀(n:Nat) (no:Int) (l:List ByteArray),l.length<=n->∀p∈gh key no l,no<=p.no/\p.no<no+(gh key no l).length/\∃c:List ByteArray,p.its=gW key c/\1<=c.length/\c.length<=4/\∀x∈c,x∈l
 |0,no,l,h,p,a=>by rw[qZ.1 (by omega:l.length=0),abh] at a;cases a
 |n+1,no,l,h,p,a=>by
  rcases qe l.length with d|d
  .rw[qZ.1 d,abh] at a;cases a
  .rw[adl key no d] at a ⊢;rw[fi];rcases pa.1 a with rfl|a
   .exact⟨uZ _,by show no<_;omega,l.take 4,rfl,by rw[eg];omega,by rw[eg];omega,λx b=>pr b⟩
   .obtain⟨k,j,c,e,g,i,f⟩:=nZ key n (no+1) (l.drop 4) (by rw[qp];omega) p a;exact⟨by omega,by omega,c,e,g,i,λx b=>uR (f x b)⟩
def alL{l:List Pk}(h:∀p∈l,1<=p.no):1<=fZ l:=by
 unfold fZ;cases a:l.getLast? with
 |none=>show(1:Int)<=0+1;omega
 |some p=>have:=h p (wt a);show(1:Int)<=p.no+1;omega
def adm:∀(l:List Hd) (a:Int),1<=a->1<=l.foldl (λa h=>max a (h.s+1)) a
 |[],a,ha=>ha
 |x::l,a,ha=>adm l (max a (x.s+1)) (by omega)
def alM(s:dH):1<=fu s:=by
 have a:1<=gb s.lg:=adm s.lg 1 (by omega);unfold fu;cases s.sn.getLast? with
 |none=>exact a
 |some x=>show 1<=max (gb s.lg) (x.no+1);omega
def ajt(h:bD (bs s)):(lJ key s).b.size<=8:=by
 show(rK (gC (bs s))).size<=8;rw[<-aN,agZ,aiz h];exact aab.1
def acT{t:List Nd}(h:lH t):∀x∈t,dN x.b=true:=λx a=>(h.1 x a).2
def WfS.saved{s:dH}{b:Int}{t:List Nd}(h:WfS s)(D:b=1\/b=2)(j:lH t)(A:ae7 7 s t):WfS (acS 7 s b t):=by
 obtain⟨r,F,n,E⟩:=A;have i:=alM s;refine⟨r,λp d=> ?_, ?_,λx a=> ?_, ?_,λy g=> ?_⟩
 .rcases oE.1 d with d|d
  .exact h.pn p d
  .obtain⟨k,o,c,m,v,w,B⟩:=nZ 7 _ _ _ (am _) p d;have C:=alL (l:=s.pk) λp d=>(h.pn p d).1.1;refine⟨⟨by omega, ?_⟩,by rw[m,aai];exact w,λx a=> ?_⟩
   .have e:(ahC 7 s t).length=(gh 7 (fZ s.pk) (abf 7 (ack s.pk) t)).length:=rfl;omega
   .rw[m] at a;obtain⟨q,u,rfl⟩:=acP.1 a;exact ajt (nX (acT j) q (B q u))
 .show(s.sn++[_]).length=(s.lg++[_]).length;rw[aE,aE,h.sl];rfl
 .rcases oE.1 a with a|a
  .exact h.sn x a
  .rw[ph.1 a];refine⟨⟨i,n⟩,by show(t.map (acj 7)).length<=6;rw[qh];exact j.2.1,λy g=> ?_⟩;obtain⟨f,z,rfl⟩:=qs.1 g;have k:=j.1 f z;have o:=lz k.1;have m:=ab4 f.b;have v:=(kW k.2).1;exact⟨by show f.p.size<=3;omega,by show((ki f.b).map _).length<=40;rw[qh];omega⟩
 .show(s.lg++[_]).length<=9;rw[aE,mu];omega
 .rcases oE.1 g with g|g
  .exact h.lg y g
  .rw[ph.1 g];exact⟨by show 1<=b/\b<=2;omega,i,n⟩
def iM.wf{s:dH}(h:iM s):WfS s:=by
 induction h with
 |nil=>exact⟨fa _,λp a=>(by cases a),rfl,λp a=>(by cases a),fa _,λp a=>(by cases a)⟩
 |save _ e d c b=>exact b.saved e d c
def jh{a:Type}{f:a->Nat}{b:Nat}:∀{l:List a},(∀x∈l,f x<=b)->eh f l<=l.length*(b+1)
 |[],_=>pb (uO _).symm
 |x::l,h=>by
  have g:=h x (by simp);have d:=jh (f:=f) (b:=b) (l:=l) λy c=>h y (by simp[c]);have e:eh f (x::l)=eh f l+1+f x:=by unfold eh;simp only[fi,sE,List.sum_cons];omega
  rw[e,fi,ry];omega
def WfS.small{s:dH}(h:WfS s):alH 1000000 s:=⟨λp a=>by have:=(h.pn p a).1;omega,λx c=>by have:=(h.sn x c).1;omega,λy b=>by have:=(h.lg y b).2;omega⟩
def aju:∀l:List Pk,(∀p∈l,p.its.length<=4)->(ed l).length<=l.length*4
 |[],_=>fa _
 |p::l,hl=>by
  have b:=aju l λq a=>hl q (by simp[a]);have d:=hl p (by simp);show(aa4 p++ed l).length<=_;have c:(aa4 p).length=p.its.length:=qh _;rw[aE,fi,ry];omega
def WfS.ed{s:dH}(h:WfS s):(ed s.pk).length<=10000:=by
 have b:=aju s.pk λp a=>(h.pn p a).2.1;have:=h.pl;omega
def WfS.au7{s:dH}(h:WfS s):kq s<=10000:=by
 have e:eh bPk s.pk<=s.pk.length*(36+1):=jh λp b=>by
  have c:eh bIt p.its<=p.its.length*(8+1):=jh λx a=>(h.pn p b).2.2 x a;have:=(h.pn p b).2.1;show eh bIt p.its<=36;omega
 have f:eh bSn s.sn<=s.sn.length*(264+1):=jh λx a=>by
  have c:eh bLs x.all<=x.all.length*(43+1):=jh λy d=>by
   have:=(h.sn x a).2.2 y d;show y.p.size+y.ns.length<=43;omega
  have:=(h.sn x a).2.1;show eh bLs x.all<=264;omega
 have:=h.pl;have:=h.sl;have:=h.ll;unfold kq;omega
end
section
variable {β:Bool}
open Go.RowKit
def pkd(p:Pk):iP:=(p.no,p.its.map λx=>(x.n,x.b))
def acU(l:List Pk):List iP:=l.map pkd
open Classical in
noncomputable def jU(l:List ByteArray):ByteArray×Bool:=if dN (rK (jN l))=true/\ki (rK (jN l))=l then(rK (jN l),true) else(⟨#[]⟩,false)
def ao1(key:Int)(l:List iP)(ns:List Int):Prop:=∀n∈ns,(df key l n).2=true
noncomputable def pQ(key:Int)(l:List iP)(ns:List Int):List ByteArray:=ns.map λn=>(df key l n).1
open Classical in
noncomputable def lN(key:Int)(l:List iP)(x:Ls):Option Nd:=if ao1 key l x.ns/\(jU (pQ key l x.ns)).2=true then some ⟨x.p,(jU (pQ key l x.ns)).1⟩ else none
noncomputable def gQ(key:Int)(l:List iP)(xs:List Ls):List Nd:=xs.filterMap (lN key l)
def acV(g f:ByteArray):Bool:=(bs g++[47]).isPrefixOf (bs f)
def anm(t:List Nd):Prop:=t.length<=6/\∀i x,t[i]?=some x->aht x/\(∀y,0<i->t[i-1]?=some y->Op.bytesLess y.p.toList x.p.toList=true)/\∀k y,k<i->t[k]?=some y->acV y.p x.p=false
open Classical in
noncomputable def kK(key:Int)(l:List iP)(xs:List Ls):Option (List Nd):=if(∀x∈xs,(lN key l x).isSome=true)/\anm (gQ key l xs) then some (gQ key l xs) else none
noncomputable def iN(key:Int)(s:dH)(no:Int):Option (List Nd):=match s.sn.find? (λx=>x.no ==no) with
 |some x=>kK key (acU s.pk) x.all
 |none=>none
def pR{key nm:Int}:∀{l:List iP},(df key l nm).2=true↔∃p∈l,(iz key p.2 nm).2=true
 |[]=>by simp[df]
 |p::l=>by
  show(if(iz key p.2 nm).2=true then((iz key p.2 nm).1,true) else df key l nm:ByteArray×Bool).2=true↔_;by_cases h:(iz key p.2 nm).2=true
  .rw[du h];exact⟨λ_=>⟨p,by simp,h⟩,λ_=>rfl⟩
  .rw[da h,pR];constructor
   .rintro⟨q,a,b⟩;exact⟨q,by simp[a],b⟩
   .rintro⟨q,a,b⟩;rcases pa.1 a with rfl|a
    .exact absurd b h
    .exact⟨q,a,b⟩
def ae8{nm:Int}:∀{l:List (Int×ByteArray)} {k:Nat} {x:Int×ByteArray},fG nm l=k->l[k]?=some x->x.1=nm
 |[],k,x,_,h=>by simp at h
 |y::l,k,x,h,hx=>by
  have h:(if y.1=nm then 0 else let j:=fG nm l;if j<0 then -1 else j+1:Int)=k:=h;by_cases a:y.1=nm
  .rw[du a] at h;obtain rfl:k=0:=by omega
   simp at hx;subst hx;exact a
  .rw[da a] at h;by_cases b:fG nm l<0
   .have h:(if fG nm l<0 then -1 else fG nm l+1:Int)=k:=h;rw[du b] at h;omega
   .have h:(if fG nm l<0 then -1 else fG nm l+1:Int)=k:=h;rw[da b] at h;obtain⟨m,rfl⟩:∃m,k=m+1:=⟨k-1,by omega⟩;exact ae8 (l:=l) (k:=m) (by omega) (by simpa using hx)
def ann{nm : Int}{l:List (Int×ByteArray)}{x:Int×ByteArray}(h:fG nm l=k)(a:l[k]?=some x):iz key l nm=gO key x:=by
 unfold iz;rw[h,show((k:Nat):Int).toNat=k from rfl,a];show(if((k:Nat):Int)<0 then _ else _)=_;rw[da (by omega)]
def ao2{nm : Int}{l:List (Int×ByteArray)}(h:fG nm l=-1):iz key l nm=(⟨#[]⟩,false):=by
 unfold iz;rw[h];split
 .rw[du (by omega)]
 .rfl
def ajv{nm : Int}{l:List (Int×ByteArray)}(h:(iz key l nm).2=true):∃(k:Nat) (x:Int×ByteArray),fG nm l=k/\l[k]?=some x/\x.1=nm/\iz key l nm=gO key x:=by
 rcases aca nm l with a|⟨k,x,a,b⟩
 .rw[ao2 a] at h;cases h
 .exact⟨k,x,a,b,ae8 a b,ann a b⟩
def alN{x:Int×ByteArray}(h:(gO key x).2=true):bD (bs (gO key x).1)/\cY key (bs (gO key x).1)=x.1:=by
 unfold gO at h ⊢;split
 .rename_i a;exact⟨agc a.1,a.2⟩
 .rename_i a;rw[da a] at h;cases h
def alO{nm : Int}{l:List (Int×ByteArray)}(h:(iz key l nm).2=true):bD (bs (iz key l nm).1)/\cY key (bs (iz key l nm).1)=nm:=by
 obtain⟨k,x,d,c,b,a⟩:=ajv h;rw[a] at h ⊢;have:=alN h;exact⟨this.1,this.2.trans b⟩
def od{key nm:Int}:∀{l:List iP},(df key l nm).2=true->bD (bs (df key l nm).1)/\cY key (bs (df key l nm).1)=nm
 |[],h=>by cases h
 |p::l,h=>by
  have e:df key (p::l) nm=if(iz key p.2 nm).2=true then((iz key p.2 nm).1,true) else df key l nm:=rfl
  rw[e] at h ⊢;by_cases a:(iz key p.2 nm).2=true
  .rw[du a];exact alO a
  .rw[da a] at h ⊢;exact od h
def arV{x y k m r:Int}(g:r+999999999989*k=15*x+55433)(l:r+999999999989*m=15*y+55433)(j:0<=x/\x<282429536481)(i:0<=y/\y<282429536481):x=y:=by
 have a:15*(x-y)=999999999989*(k-m):=by
  rw[Int.mul_sub 999999999989];generalize 999999999989*k=A at *;generalize 999999999989*m=B at *;omega
 clear g l;generalize k-m=d at *;have f:x-y<282429536481/\ -282429536481<x-y:=by clear a;omega
 have e:x-y=0->x=y:=by clear a;omega
 clear j i;generalize x-y=z at *;have c:d<5:=by
  refine Int.lt_of_not_ge λh=> ?_;have:=uU h (show(0:Int)<=999999999989 by decide);rw[<-a] at this;clear a;omega
 have b : -5<d:=by
  refine Int.lt_of_not_ge λh=> ?_;have:=uU h (show(0:Int)<=999999999989 by decide);rw[<-a] at this;clear a;omega
 have:d=-4\/d=-3\/d=-2\/d=-1\/d=0\/d=1\/d=2\/d=3\/d=4:=by clear a f e;omega
 rcases this with rfl|rfl|rfl|rfl|rfl|rfl|rfl|rfl|rfl<;>(first|(exact e (by omega))|(exfalso;clear c b f e;omega))
def arW{x y:Int}(b:0<=x/\x<282429536481)(d:0<=y/\y<282429536481)(h:(15*x+55433) % 999999999989=(15*y+55433) % 999999999989):x=y:=by
 have a:=we (15*x+55433) 999999999989;have c:=we (15*y+55433) 999999999989;rw[h] at a;exact arV a c b d
def alP{a b:List Nat}(c:bD a)(d:bD b)(h:cY 7 a=cY 7 b):a=b:=by
 have i:=abT c;have f:=abT d;have e:∀l,cY 7 l=(15*(code l:Int)+55433) % 999999999989:=λl=>by
  unfold cY;rw[show(code l:Int)*(2*7+1)+7*7919=15*(code l:Int)+55433 by clear h i f;generalize (code l:Int)=z;omega]
 rw[e,e] at h;have j:(code a:Int)<282429536481:=by clear h e;omega
 have g:(code b:Int)<282429536481:=by clear h e;omega
 have k:(code a:Int)=code b:=arW ⟨Int.natCast_nonneg _,j⟩ ⟨Int.natCast_nonneg _,g⟩ h;refine aoe c.2 d.2 ?_;show code a=code b;exact Int.ofNat_inj.1 k
def ao3{nm:Int}(h:(df 7 l nm).2=true)(e:(df 7 l' nm).2=true):(df 7 l nm).1=(df 7 l' nm).1:=by
 obtain⟨a,b⟩:=od h;obtain⟨c,d⟩:=od e;exact px (alP a c (b.trans d.symm))
def ao4(b:∀nm,(df 7 l' nm).2=true->(df 7 l nm).2=true)(h:ao1 7 l' dF):ao1 7 l dF/\pQ 7 l dF=pQ 7 l' dF:=
 ⟨λn a=>b n (h n a),wD λn a=>ao3 (b n (h n a)) (h n a)⟩
def alQ(d:∀nm,(df 7 l' nm).2=true->(df 7 l nm).2=true){y:Nd}(h:lN 7 l' x=some y):lN 7 l x=some y:=by
 unfold lN at h ⊢;split at h
 .rename_i b;obtain⟨c,a⟩:=ao4 d b.1;rw[du ⟨c,by rw[a];exact b.2⟩,a];exact h
 .cases h
def adn{l l':List iP}(e:∀nm,(df 7 l' nm).2=true->(df 7 l nm).2=true):∀{xs:List Ls},(∀x∈xs,(lN 7 l' x).isSome=true)->(∀x∈xs,(lN 7 l x).isSome=true)/\gQ 7 l xs=gQ 7 l' xs
 |[],_=>⟨λx g=>(by cases g),rfl⟩
 |x::xs,h=>by
  obtain⟨y,d⟩:=rE.1 (h x (by simp));have b:=alQ e d;obtain⟨f,c⟩:=adn e (xs:=xs) λz a=>h z (by simp[a]);refine⟨λz a=> ?_, ?_⟩
  .rcases pa.1 a with rfl|a
   .rw[b];rfl
   .exact f z a
  .unfold gQ at c ⊢;rw[wF,wF,d,b,c]
def alR(d:∀nm,(df 7 l' nm).2=true->(df 7 l nm).2=true){t:List Nd}(h:kK 7 l' xs=some t):kK 7 l xs=some t:=by
 unfold kK at h ⊢;split at h
 .rename_i b;obtain⟨c,a⟩:=adn d b.1;rw[du ⟨c,by rw[a];exact b.2⟩,a];exact h
 .cases h
def alS{x:It}:af7 key x↔(gO key (x.n,x.b)).2=true:=by
 have e:∀s,(fE s).2=true↔nI (bs s)=some (bs (fE s).1):=λs=>by
  unfold fE nI;rw[ahf];by_cases h:bD (vH (bs s))/\gC (vH (bs s))=bs s
  .rw[du h,du h];simp only[tK];rw[ahf]
  .rw[da h,da h];simp
 unfold af7 gO;constructor
 .rintro⟨p,c,f⟩;have d:(fE x.b).2=true:=by
   unfold fE;rw[ahf];unfold nI at c;split at c
   .rename_i b;rw[du b]
   .cases c
  have a:=(e x.b).1 d;rw[c] at a;have a:=dq a;rw[du ⟨d,by rw[<-a];exact f⟩]
 .intro h;split at h
  .rename_i b;exact⟨_,(e x.b).1 b.1,b.2⟩
  .cases h
def arX(h:bD (bs s)):af7 key (lJ key s):=⟨bs s,by show nI (bs (rK (gC (bs s))))=_;rw[agZ,aiA h],rfl⟩
def au8(p:Pk)(i:Nat):(pkd p).2[i]?=(p.its[i]?).map λx=>(x.n,x.b):=by show(p.its.map _)[i]?=_;rw[qN]
def alT{nm : Int}{p:Pk}(c:∀x∈p.its,af7 key x)(h:fG nm (pkd p).2=k):(iz key (pkd p).2 nm).2=true:=by
 rcases aca nm (pkd p).2 with b|⟨e,x,b,a⟩
 .omega
 .rw[ann b a];rw[au8] at a;obtain⟨y,d,rfl⟩:=lc.1 a;exact alS.1 (c y (db d))
def ajw{nm:Int}:∀{l a:List (Int×ByteArray)},l.map (·.1)=a.map (·.1)->fG nm l=fG nm a
 |[],[],_=>rfl
 |[],_::_,h=>by simp at h
 |_::_,[],h=>by simp at h
 |x::l,y::a,h=>by
  simp only[sE,qi] at h;show(if x.1=nm then 0 else let j:=fG nm l;if j<0 then -1 else j+1:Int)=(if y.1=nm then 0 else let j:=fG nm a;if j<0 then -1 else j+1:Int);rw[h.1,ajw h.2]
def ao5{a β:Type}(g:a->β)(f:a->a)(d:∀x,g (f x)=g x)(l:List a)(i:Nat):(sb l i f).map g=l.map g:=by
 unfold sb;split
 .rename_i x c;apply tL;intro j;rw[qN,qN];by_cases b:i=j
  .subst b;rw[rz (aB c),c];simp[d]
  .rw[rM b]
 .rfl
def au9{s:dH}(m:∀p∈s.pk,∀x∈p.its,af7 7 x)(L:iQ)(nm:Int)(h:(df 7 (acU (dJ s L).pk) nm).2=true):(df 7 (acU s.pk) nm).2=true:=by
 have same:(dJ s L).pk=s.pk->(df 7 (acU s.pk) nm).2=true:=λe=>by rw[e] at h;exact h
 by_cases l:L.k=1
 .rw[pK l] at h;obtain⟨p,c,f⟩:=pR.1 h;refine pR.2 ⟨p, ?_,f⟩;obtain⟨q,g,rfl⟩:=qs.1 c;exact wC ((sT.1 g).1)
 by_cases d:L.k=2
 .by_cases b:0<=L.n/\L.n<=s.lg.length
  .exact same (by rw[mN d b])
  .exact same (by rw[kR d b])
 by_cases j:L.k=3
 .rw[pL j] at h;obtain⟨p,c,f⟩:=pR.1 h;obtain⟨q,g,rfl⟩:=qs.1 c;obtain⟨r,a,rfl⟩:=qs.1 g;obtain⟨k,x,n, -, -, -⟩:=ajv f;refine pR.2 ⟨pkd r,wC a,alT (m r a) (k:=k) ?_⟩;rw[<-n];refine ajw ?_;show(r.its.map _).map _=((fK L r).its.map _).map _;rw[vO,vO];unfold fK;split
  .exact(ao5 (λx:It=>x.n) (λx=>(⟨x.n,L.b⟩:It)) (λ_=>rfl) r.its L.m.toNat).symm
  .rfl
 by_cases i:L.k=4
 .by_cases b:0<=L.n/\L.n<s.lg.length
  .exact same (by rw[pM i b])
  .exact same (by rw[kS i b])
 exact same (by rw[pN l d j i])
def iM.items{s:dH}(h:iM s):∀p∈s.pk,∀x∈p.its,af7 7 x:=by
 induction h with
 |nil=>exact λp a=>(by cases a)
 |save _ l d k i=>
  intro p a x b;rcases oE.1 a with a|a
  .exact i p a x b
  .obtain⟨n,j,c,e,m,o,f⟩:=nZ 7 _ _ _ (am _) p a;rw[e] at b;obtain⟨q,g,rfl⟩:=acP.1 b;exact arX (nX (acT d) q (f q g))
def iM.one{s:dH}(h:iM s):∀p∈s.pk,1<=p.its.length:=by
 induction h with
 |nil=>exact λp a=>(by cases a)
 |save _ m l i b=>
  intro p a;rcases oE.1 a with a|a
  .exact b p a
  .obtain⟨j,g,c,e,d,k,f⟩:=nZ 7 _ _ _ (am _) p a;rw[e,aai];exact d
def ado{e:Type}(q:e->Bool)(f:Int->Bool)(a:e->Int)(n:Int)(i:∀x,q x=f (a x)):∀{l:List e} {x:e},(l.filter q).find? (λx=>a x ==n)=some x->l.find? (λx=>a x ==n)=some x
 |[],x,h=>by simp at h
 |y::l,x,h=>by
  rw[se];by_cases d:a y=n
  .rw[show(a y ==n)=true from nf.2 d];by_cases c:q y=true
   .rw[rV,du c,se,show(a y ==n)=true from nf.2 d] at h;exact h
   .exfalso;have j:=List.mem_of_find?_eq_some h;have g:=List.find?_some h;have b:=(sT.1 j).2;rw[i] at b c;rw[nf.1 g] at b;rw[d] at c;exact c b
  .rw[show(a y ==n)=false from dk.2 d];refine ado q f a n i (l:=l) ?_;by_cases c:q y=true
   .rw[rV,du c,se,show(a y ==n)=false from dk.2 d] at h;exact h
   .rw[rV,da c] at h;exact h
def ayl{s:dH}(L:iQ){x:Sn}(h:(dJ s L).sn.find? (λx=>x.no ==key)=some x):s.sn.find? (λx=>x.no ==key)=some x:=by
 by_cases d:L.k=1
 .rw[pK d] at h;exact h
 by_cases b:L.k=2
 .by_cases a:0<=L.n/\L.n<=s.lg.length
  .rw[mN b a] at h;exact ado (λx:Sn=>!((s.lg.drop L.n.toNat).any λh=>h.s ==x.no)) (λm=>!((s.lg.drop L.n.toNat).any λh=>h.s ==m)) (λx:Sn=>x.no) key (λ_=>rfl) h
  .rw[kR b a] at h;exact h
 by_cases e:L.k=3
 .rw[pL e] at h;exact h
 by_cases c:L.k=4
 .by_cases a:0<=L.n/\L.n<s.lg.length
  .rw[pM c a] at h;exact h
  .rw[kS c a] at h;exact h
 rw[pN d b e c] at h;exact h
def Bb{s:dH}(h:iM s)(L:iQ){t:List Nd}(a:iN 7 (dJ s L) key=some t):iN 7 s key=some t:=by
 unfold iN at a ⊢;split at a
 .rename_i x b;rw[ayl L b];exact alR (au9 h.items L) a
 .cases a
end
section
variable {β:Bool}
open Go.RowKit
def mO:∀(a b:List UInt8),(Op.bytesLess a b||a ==b)=!(Op.bytesLess b a)
 |[],[]=>by simp[Op.bytesLess]
 |[],_::_=>by simp[Op.bytesLess]
 |_::_,[]=>by simp[Op.bytesLess]
 |x::a,y::b=>by
  have j:=mO a b;by_cases i:x.toNat<y.toNat
  .have c:decide (x<y)=true:=dj (rX.2 i);have g:decide (y<x)=false:=bv λh=>by have:=rX.1 h;omega
   have d:(y ==x)=false:=dk.2 λh=>by rw[h] at i;omega
   simp[Op.bytesLess,c,g,d]
  .by_cases e:y.toNat<x.toNat
   .have c:decide (y<x)=true:=dj (rX.2 e);have g:decide (x<y)=false:=bv λh=>by have:=rX.1 h;omega
    have d:(x ==y)=false:=dk.2 λh=>by rw[h] at e;omega
    have f:(x::a ==y::b)=false:=dk.2 λh=>by rw[qi] at h;rw[h.1] at e;omega
    rw[f];simp[Op.bytesLess,c,g,d]
   .obtain rfl:x=y:=uN.1 (by omega);have c:decide (x<x)=false:=bv λh=>by have:=rX.1 h;omega
    have f:(x::a ==x::b)=(a ==b):=by rw[List.cons_beq_cons,tp,vA]
    rw[f];simp only[Op.bytesLess,c,uB,tp,vA];exact j
def pS(h:k<s.size):s.toList[k]?=some (s[k]'h):=by
 rw[rj,ef];exact ge h
def acm(s:ByteArray):s.toList.length=s.size:=by rw[rj,qQ];rfl
end
section
variable {β:Bool}
open Go.RowKit
def ajx(s:ByteArray)(w:World) :
  Calls (ai β) 155 #[.string s,.int .u8 47] w λe a=>e=.returned (.int .i64 (Lib.indexByte s.data.toList 47))/\w=a:=by
 go_enter yy,ntmps155;go_wp2;rw[run_callFunc_extern yv (by kernel_rfl) (by kernel_rfl) (by kernel_rfl) (e:=Extern.BytealgIndexByte.indexByte) (by kernel_rfl),Lib.run_indexByteString];simp only[Result.andThen];rw[Oper.upon_value];go_wp2;go_ret;exact⟨rfl,rfl⟩
noncomputable def alU:Code:=gP (f150.body.getD .skip)
def aDi:Code->Code
 |.seq a _=>a
 |c=>c
def arY:Code->Code
 |.cond _ _ b=>b
 |c=>c
def aym:Code->Code
 |.block _ b=>b
 |c=>c
noncomputable def aAO:Code:=cf (cf (cf alU))
noncomputable def aAP:Code:=arY (cf (arY (cf (aym (aDi (cf (cf alU)))))))
noncomputable def xIx:Func:={f150 with body:=some ((Code.region 0 #[⟨some 4,Op.assign (Operand.const (Value.int IntKind.i64 0)),3,"strings.go:28",#[],none⟩] false).seq ((Code.region 1 #[⟨some 14,Op.move (Operand.tmp 1),9,"strings.go:29",#[],none⟩,⟨some 15,Op.call ⟨Callee.builtin Builtin.len,#[Operand.tmp 14],#[9]⟩,3,"strings.go:29",#[⟨0,Ground.data⟩],none⟩,⟨some 5,Op.assign (Operand.tmp 15),3,"strings.go:29",#[⟨1,Ground.data⟩,⟨0,Ground.phase⟩,⟨1,Ground.phase⟩],none⟩] false).seq ((Code.block 0 ((Code.region 2 #[⟨some 17,Op.move (Operand.tmp 5),3,"strings.go:31",#[],none⟩,⟨some 18,Op.binOp BinOp.eql 3 (Operand.tmp 17) (Operand.const (Value.int IntKind.i64 0)) 3,4,"strings.go:31",#[⟨0,Ground.data⟩],none⟩,⟨some 19,Op.move (Operand.tmp 18),4,"strings.go:31",#[⟨1,Ground.data⟩],none⟩,⟨some 20,Op.move (Operand.tmp 1),9,"strings.go:31",#[⟨2,Ground.guard⟩],some (2,false)⟩,⟨some 21,Op.move (Operand.tmp 0),9,"strings.go:31",#[⟨2,Ground.guard⟩],some (2,false)⟩,⟨some 22,Op.binOp BinOp.eql 9 (Operand.tmp 20) (Operand.tmp 21) 9,4,"strings.go:31",#[⟨3,Ground.data⟩,⟨4,Ground.data⟩,⟨2,Ground.guard⟩],some (2,false)⟩,⟨some 23,Op.pick (Operand.tmp 19) (Operand.const (Value.bool true)) (Operand.tmp 22),4,"strings.go:31",#[⟨2,Ground.data⟩,⟨5,Ground.data⟩],none⟩,⟨some 16,Op.assign (Operand.tmp 23),4,"strings.go:31",#[⟨6,Ground.data⟩,⟨2,Ground.chain⟩],none⟩] false).seq (Code.cond (Operand.tmp 16) ((Code.region 3 #[⟨some 4,Op.assign (Operand.const (Value.int IntKind.i64 0)),3,"strings.go:32",#[],none⟩] false).seq Code.ret) ((Code.region 4 #[⟨some 25,Op.move (Operand.tmp 5),3,"strings.go:33",#[],none⟩,⟨some 26,Op.binOp BinOp.eql 3 (Operand.tmp 25) (Operand.const (Value.int IntKind.i64 1)) 3,4,"strings.go:33",#[⟨0,Ground.data⟩],none⟩,⟨some 24,Op.assign (Operand.tmp 26),4,"strings.go:33",#[⟨1,Ground.data⟩],none⟩] false).seq (Code.cond (Operand.tmp 24) ((Code.region 5 #[⟨some 27,Op.move (Operand.tmp 0),9,"strings.go:34",#[],none⟩,⟨some 28,Op.move (Operand.tmp 1),9,"strings.go:34",#[],none⟩,⟨some 29,Op.index 9 (Operand.tmp 28) (Operand.const (Value.int IntKind.i64 0)),5,"strings.go:34",#[⟨1,Ground.data⟩],none⟩,⟨some 30,Op.call ⟨Callee.value (Operand.func 155),#[Operand.tmp 27,Operand.tmp 29],#[9,5]⟩,3,"strings.go:34",#[⟨0,Ground.data⟩,⟨2,Ground.data⟩],none⟩,⟨some 4,Op.assign (Operand.tmp 30),3,"strings.go:34",#[⟨3,Ground.data⟩,⟨3,Ground.chain⟩,⟨0,Ground.phase⟩,⟨1,Ground.phase⟩,⟨2,Ground.phase⟩,⟨3,Ground.phase⟩],none⟩] false).seq Code.ret) aAP))))).seq aAO)))}
def arZ:f150.body.map gP=xIx.body:=by
 unfold xIx aAP aAO alU gP
 kernel_rfl
def alV:(ai β).funcs[150]?=some xIx:=by
 refine(akA β (by decide) (by decide)).trans ?_;have e:Option.map pf (prog.funcs[150]?)=Option.map pf (some f150):=jp _ func150;rw[e,qr];unfold pf;rw[arZ];rfl
@[go_sem] theorem aAQ(args:Array Value)(w:World):(callFunc 150 args).run (ai β) w=.ok (.enter 150 args) w:=by
 have a:=cJ func150;exact lr alV a rfl args w
def ava(s:ByteArray)(w:World) :
  Calls (ai β) 150 #[.string s,.string ⟨#[47]⟩] w λe g=>e=.returned (.int .i64 (Lib.indexByte s.data.toList 47))/\w=g:=by
 have d:xIx.ntmps=143:=ntmps150;have c:xIx.results=#[.tmp 4]:=results150;by_cases a:s.toList=[47]
 .have f:([47] ==s.toList)=true:=by rw[a];rfl
  have b:Lib.indexByte s.data.toList 47=0:=by
   rw[show s.data.toList=s.toList by rw[rj],a];rfl
  replace b:=ab b;go_enter alV,d;go_wp2;exact mx (v:=.int .i64 0) (by simp[results,c,go_sem]) rfl ⟨by rw[b.out],rfl⟩
 .have f:([47] ==s.toList)=false:=dk.2 λe=>a e.symm;go_enter alV,d;go_wp2;refine(ajx s w).mono ?_;rintro e i ⟨rfl,rfl⟩;go_wp2;exact mx (v:=.int .i64 (Lib.indexByte s.data.toList 47)) (by simp[results,c,go_sem]) rfl ⟨rfl,rfl⟩
open Classical in
noncomputable def dz(s:ByteArray):ByteArray×ByteArray×Bool:=if Lib.indexByte s.data.toList 47<0 then(s,⟨#[]⟩,false) else(s.extract 0 (Lib.indexByte s.data.toList 47).toNat,s.extract ((Lib.indexByte s.data.toList 47).toNat+1) s.size,true)
def ajy(s:ByteArray):Lib.indexByte s.data.toList 47=-1\/∃k:Nat,Lib.indexByte s.data.toList 47=k/\k<s.size:=by
 rcases Int.lt_or_le (Lib.indexByte s.data.toList 47) 0 with h|h
 .left;have:=Lib.indexByte_ge s.data.toList 47;omega
 .right;obtain⟨k,a⟩:=qk h;refine⟨k,a, ?_⟩;have:=aB (Lib.indexByte_some a).1;rw[qQ] at this;exact this
def ayn(s:ByteArray)(g:s.size<=maxLen)(w:World) :
  Calls (ai β) 143 #[.string s,.string ⟨#[47]⟩] w λe f=>e=.returned (.tuple #[.string (dz s).1,.string (dz s).2.1,.bool (dz s).2.2])/\Below w.heap.size w f:=by
 unfold maxLen at g;have HC:=ab (ava (β:=β) s w);rcases ajy s with h|⟨k,h,n⟩
 .have b:dz s=(s,⟨#[]⟩,false):=by unfold dz;rw[du (by omega)]
  have a:=ab b;rw[h] at HC;go_enter xB,ntmps143;go_wp2;refine HC.out.mono ?_;rintro e d ⟨rfl,rfl⟩;go_wp2
  go_ret3
  rw[a.out];exact⟨rfl,fd _ _⟩
 .have b:dz s=(s.extract 0 k,s.extract (k+1) s.size,true):=by unfold dz;rw[da (by omega),h];rfl
  have a:=ab b;rw[h] at HC;have l:=dj (show 0<=(k:Int) by omega);go_enter xB,ntmps143;go_wp2;refine HC.out.mono ?_;rintro e d ⟨rfl,rfl⟩;go_wp2;refine aD 12 [0,1,2,3,4,5,6,7,8,9,10,11] [] (h:= ?_);simp only[pick,List.map,gn,gt];repeat(go_big_quiet_step (fail))
  refine ip ?_;apply Exists.intro;refine aS ?_;intro o j m i c;dsimp only[dV] at c;try rw[i] at c
  simp only[List.drop];go_wp2
  go_ret3
  rw[a.out];exact⟨rfl,j⟩
def aAR(s:ByteArray)(c:s.size<=maxLen)(w:World) :
  Calls (ai β) 126 #[.string s,.string ⟨#[47]⟩] w λe a=>e=.returned (.tuple #[.string (dz s).1,.string (dz s).2.1,.bool (dz s).2.2])/\Below w.heap.size w a:=by
 go_enter yM,ntmps126;go_wp2;refine(ayn s c w).mono ?_;rintro e d ⟨rfl,b⟩;go_wp2
 go_ret3
 exact⟨rfl,b⟩
def acn(s:ByteArray):Bool:=if h:s.size=1 then nm (s[0]'(by omega)).toNat else false
def pT(s:ByteArray)(m:s.size<=maxLen)(w:World) :
  Calls (ai β) 127 #[.string s] w λe l=>e=.returned (.bool (acn s))/\w=l:=by
 unfold maxLen at m;by_cases d:s.size=1
 .have a:0<s.size:=by omega
  have k:((s.size:Int) ==1)=true:=by rw[d];rfl
  have b:acn s=nm (s[0]'a).toNat:=by unfold acn;rw[tW d]
  rw[b];clear b;by_cases g:97<=(s[0]'a).toNat
  .by_cases i:(s[0]'a).toNat<=101
   .have e:nm (s[0]'a).toNat=true:=by unfold nm;rw[dj g,dj i];rfl
    have c:=ab e;clear e;have j:=dj (show((s[0]'a).toNat:Int)<=101 by omega);have f:=dj (show 97<=((s[0]'a).toNat:Int) by omega);go_enter wT,ntmps127;go_wp2;go_ret;exact⟨by rw[c.out];rfl,rfl⟩
   .have e:nm (s[0]'a).toNat=false:=by unfold nm;rw[bv i,Bool.and_false]
    have c:=ab e;clear e;have j:=bv (show ¬(((s[0]'a).toNat:Int)<=101) by omega);have f:=dj (show 97<=((s[0]'a).toNat:Int) by omega);go_enter wT,ntmps127;go_wp2;go_ret;exact⟨by rw[c.out];rfl,rfl⟩
  .have e:nm (s[0]'a).toNat=false:=by unfold nm;rw[bv g,uW]
   have c:=ab e;clear e;have f:=bv (show ¬(97<=((s[0]'a).toNat:Int)) by omega);go_enter wT,ntmps127;go_wp2;go_ret;exact⟨by rw[c.out];rfl,rfl⟩
 .have k:((s.size:Int) ==1)=false:=dk.2 (by omega);have b:acn s=false:=by unfold acn;rw[dif_neg d]
  have n:=ab b;clear b;go_enter wT,ntmps127;go_wp2;go_ret;exact⟨by rw[n.out];rfl,rfl⟩
def acW :acn s=match s.toList with|[a]=>nm a.toNat|_=>false:=by
 have c:=acm s;unfold acn;split
 .rename_i h;rw[h] at c;obtain⟨a,d⟩:=uw.1 c;have:=pS (s:=s) (k:=0) (by omega);rw[d] at this ⊢;simp only[uo,me] at this;rw[<-this]
 .rename_i h
  match hs:s.toList,c with
  |[],_=>rfl
  |[a],c=>exact absurd c.symm h
  |a::b::l,_=>rfl
def ae9 :jl s=match s.toList with|[a]=>nm a.toNat|[a,b,c]=>nm a.toNat&&(decide (b=47)&&nm c.toNat)|_=>false:=by
 have e:=acm s;unfold jl;split
 .rename_i h;rw[h] at e;obtain⟨a,m⟩:=uw.1 e;have:=pS (s:=s) (k:=0) (by omega);rw[m] at this ⊢;simp only[uo,me] at this;rw[<-this]
 .rename_i n;split
  .rename_i j;have i:=pS (s:=s) (k:=0) (by omega);have g:=pS (s:=s) (k:=1) (by omega);have f:=pS (s:=s) (k:=2) (by omega)
   match hs:s.toList,e,i,g,f with
   |[a,b,c],_,i,g,f=>
    simp at i g f;show _=(nm a.toNat&&(decide (b=47)&&nm c.toNat));rw[i,g,f]
    congr 2
    rw[uE,<-uN];exact Iff.rfl
   |[],e,_,_,_=>simp at e;omega
   |[a],e,_,_,_=>simp at e;omega
   |[a,b],e,_,_,_=>simp at e;omega
   |a::b::c::d::l,e,_,_,_=>simp at e;omega
  .rename_i j
   match hs:s.toList,e with
   |[],_=>rfl
   |[a],e=>exact absurd e.symm n
   |[a,b],_=>rfl
   |[a,b,c],e=>exact absurd e.symm j
   |a::b::c::d::l,_=>rfl
def ajz(s:ByteArray)(a b:Nat):(s.extract a b).toList=(s.toList.take b).drop a:=by
 rw[rj,rj,vV,tU,vK,List.take_drop];by_cases h:a<=b
 .congr 2;omega
 .have:b-a=0:=by omega
  rw[this,rT (by simp;omega),rT (by simp;omega)]
def ajA(s:ByteArray):jl s=(acn (dz s).1&&(!(dz s).2.2||acn (dz s).2.1)):=by
 have hd:s.data.toList=s.toList:=by rw[rj]
 rcases ajy s with h|⟨k,h,f⟩
 .have i:dz s=(s,⟨#[]⟩,false):=by unfold dz;rw[du (by omega)]
  rw[i];show _=(acn s&&true);rw[uC,acW,ae9];have m:=Lib.indexByte_none h;rw[hd] at m
  match hs:s.toList with
  |[]=>rfl
  |[a]=>rfl
  |[a,b]=>rfl
  |[a,b,c]=>
   have:=m 1;rw[hs] at this;have j:b≠47:=by simpa using this
   show(nm a.toNat&&(decide (b=47)&&nm c.toNat))=false;rw[bv j];simp
  |a::b::c::d::l=>rfl
 .have i:dz s=(s.extract 0 k,s.extract (k+1) s.size,true):=by unfold dz;rw[da (by omega),h];rfl
  rw[i];show _=(acn (s.extract 0 k)&&(false||acn (s.extract (k+1) s.size)));rw[uB,acW,acW,ajz,ajz,ae9,rN,<-acm,gE];obtain⟨e,g⟩:=Lib.indexByte_some h;rw[hd] at e g;rw[<-acm] at f
  match hs:s.toList,k,e,g,f with
  |[],_,_,_,f=>simp at f
  |[a],0,e,_,_=>
   simp at e;subst e;rfl
  |[a],k+1,_,_,f=>simp at f
  |[a,b],0,_,_,_=>rfl
  |[a,b],1,_,_,_=>simp
  |[a,b],k+2,_,_,f=>simp at f;omega
  |[a,b,c],0,e,_,_=>
   simp at e;subst e;rfl
  |[a,b,c],1,e,_,_=>
   simp at e;subst e;simp
  |[a,b,c],2,e,g,_=>
   have:=g 1 (by omega);have j:b≠47:=by simpa using this
   simp[j]
  |[a,b,c],k+3,_,_,f=>simp at f;omega
  |a::b::c::d::l,0,_,_,_=>rfl
  |a::b::c::d::l,1,_,_,_=>simp
  |a::b::c::d::l,k+2,_,_,_=>simp
def pU(s:ByteArray)(j:s.size<=maxLen)(w:World) :
  Calls (ai β) 95 #[.string s] w λe l=>e=.returned (.bool (jl s))/\Below w.heap.size w l:=by
 have d:(dz s).1.size<=maxLen/\(dz s).2.1.size<=maxLen:=by
  unfold dz;split
  .exact⟨j,fa _⟩
  .refine⟨?_, ?_⟩
   .show(s.extract _ _).size<=_;rw[<-aN,dv,qp,eg,aN];omega
   .show(s.extract _ _).size<=_;rw[<-aN,dv,qp,eg,aN];omega
 have c:=ab (ajA s);have HC:=ab (aAR (β:=β) s j w);generalize dz s=r at c HC d;obtain⟨a,b,q⟩:=r;dsimp only at c HC d;have n:=ab d.1;have m:=ab d.2;go_enter yZ,ntmps95;go_wp2;refine HC.out.mono ?_;rintro e i ⟨rfl,g⟩;go_wp2;refine(pT a n.out i).mono ?_;rintro e o ⟨rfl,rfl⟩;cases k:acn a
 .rw[k] at c;go_wp2;go_ret;exact⟨by rw[c.out];simp,g⟩
 .rw[k] at c;cases q
  .go_wp2;go_ret;exact⟨by rw[c.out];simp,g⟩
  .go_wp2;refine(pT b m.out i).mono ?_;rintro e o ⟨rfl,rfl⟩;cases f:acn b<;>rw[f] at c<;>clear f
   .go_wp2;go_ret;exact⟨by rw[c.out];simp,g⟩
   .go_wp2;go_ret;exact⟨by rw[c.out];simp,g⟩
end
section
variable {β:Bool}
open Go.RowKit
def ano{t : ByteArray}(h:s=t):(s.toList ==t.toList)=true:=by subst h;exact tp _
def alW(xs f:List ByteArray)(L O:Value)(w:World)(T hi H K:Nat)(C:dA w T hi xs [L])(I:dA w H K f [O])(D:hi<=w.heap.size)(E:K<=w.heap.size)(q:Bool)(j:q=true↔xs=f) :
  Calls (ai β) 93 #[L,O] w λe R=>e=.returned (.bool q)/\Below w.heap.size w R:=by
 have v:=ab j;clear j;obtain⟨A,c,rfl⟩:=C.form;obtain⟨B,d,rfl⟩:=I.form;obtain⟨_,hc,Z⟩:=C.len_;unfold maxLen at Z;go_enter zd,ntmps93;by_cases a:xs.length=f.length
 .have X:((xs.length:Int) !=f.length)=false:=by rw[qI];omega
  replace a:=ab a;go_wp2;go_loopw [13] (λi wr=>∃k:Nat,k<=xs.length/\i=.int .i64 k/\xs.take k=f.take k/\Below w.heap.size w wr) (λi _=>xs.length-(intOf i).toNat)
  case atStart=>exact⟨0,fa _,rfl,rfl,fd _ _⟩
  case round=>
   obtain⟨k,hk,rfl,g,b⟩:=hrel;have P:=ab g;clear g;by_cases u:k<xs.length
   .obtain⟨x,p⟩:=aq u;obtain⟨y,n⟩:=aq (l:=f) (k:=k) (by have:=a.out;omega);obtain⟨b1,Y,rfl,_,_,U,M⟩:=lD (dA.ar.below C b D) p;obtain⟨b2,jb,rfl,_,_,V,N⟩:=lD (dA.ar.below I b E) n;have W:(k:Int)<(f.length:Int):=by have:=a.out;omega
    replace p:=ab p;replace n:=ab n;by_cases g:x=y
    .have Q:=ano g;have z:xs.take (k+1)=f.take (k+1):=by rw[lE p.out,lE n.out,P.out,g]
     replace z:=ab z;clear g;go_wp2;have F:=ae M;have G:=ae N;refine aQ (by kernel_rfl) (by kernel_rfl) ?_;repeat(go_big_quiet_step (fail))
     refine ip ?_;intro S r;have j:=bG r;clear r F G;go_wp2;go_roundw
     case rel=>exact⟨k+1,by omega,by go_num,z.out,ag b j⟩
     simp[intOf];omega
    .have Q:=aaX (s:=y) (t:=x) g;have o:q=false:=by
      rw[<-mT,v.out];rintro rfl;exact g (dq (p.out.symm.trans n.out))
     have m:=ab o;clear o g;go_wp2;have F:=ae M;have G:=ae N;refine aQ (by kernel_rfl) (by kernel_rfl) ?_;repeat(go_big_quiet_step (fail))
     refine ip ?_;intro S r;have j:=bG r;clear r F G;go_wp2;go_ret;exact⟨aF m.out.symm,ag b j⟩
   .obtain rfl:k=xs.length:=by omega
    have J:q=true:=by
     rw[v.out];have:=P.out
     rwa [gE,oS (by have:=a.out;omega)] at this
    have m:=ab J;clear J;go_wp2;go_ret;exact⟨aF m.out.symm,b⟩
 .have X:((xs.length:Int) !=f.length)=true:=by rw[rL];omega
  have o:q=false:=by
   rw[<-mT,v.out];rintro rfl;exact a rfl
  have m:=ab o;clear o;replace a:=ab a;go_wp2;go_ret;exact⟨aF m.out.symm,fd _ _⟩
end
section
variable {β:Bool}
open Go.RowKit
def avb(p s:ByteArray):(bs p).isPrefixOf (bs s)=true↔p.size<=s.size/\s.extract 0 p.size=p:=by
 rw[List.isPrefixOf_iff_prefix,List.prefix_iff_eq_take,aN];constructor
 .intro h;have a:=jp List.length h;rw[eg,aN,aN] at a;exact⟨by omega,px (by rw[dv,rN];exact h.symm)⟩
 .rintro⟨-,h⟩;have:=jp bs h;rw[dv,rN] at this;exact this.symm
def ahE(s p:ByteArray)(m:s.size<=100)(l:p.size<=100)(w:World)(q:Bool)(k:q=(bs p).isPrefixOf (bs s)) :
  Calls (ai β) 129 #[.string s,.string p] w λe j=>e=.returned (.bool q)/\w=j:=by
 have b:q=true↔p.size<=s.size/\s.extract 0 p.size=p:=by rw[k,avb]
 replace b:=ab b;by_cases f:p.size<=s.size
 .have i:decide (p.size<=s.size)=true:=dj f;by_cases d:s.extract 0 p.size=p
  .have g:=ano d;have a:q=true:=b.out.2 ⟨f,d⟩;have c:=ab a;go_enter xh,ntmps129;go_wp2;go_ret;exact⟨by rw[c.out];rfl,rfl⟩
  .have g:=aaX (s:=p) (t:=s.extract 0 p.size) d;have a:q=false:=by
    rw[<-mT,b.out];exact λh=>d h.2
   have c:=ab a;go_enter xh,ntmps129;go_wp2;go_ret;exact⟨by rw[c.out];rfl,rfl⟩
 .have i:decide (p.size<=s.size)=false:=bv f;have a:q=false:=by
   rw[<-mT,b.out];exact λh=>f h.1
  have c:=ab a;go_enter xh,ntmps129;go_wp2;go_ret;exact⟨by rw[c.out];rfl,rfl⟩
def ajB(s p:ByteArray)(d:s.size<=100)(b:p.size<=100)(w:World)(q:Bool)(a:q=(bs p).isPrefixOf (bs s)) :
  Calls (ai β) 98 #[.string s,.string p] w λe c=>e=.returned (.bool q)/\w=c:=by
 replace a:=ab a;go_enter yX,ntmps98;go_wp2;refine(ahE s p d b w q a.out).mono ?_;rintro e f ⟨rfl,rfl⟩;go_wp2;go_ret;exact⟨rfl,rfl⟩
def aAS:bs ⟨#[47]⟩=[47]:=rfl
def ao6(y f:Nd)(n:y.p.size<=3)(l:f.p.size<=3)(g:Nat)(w:World)(i:w.cell? ⟨g,0,none⟩=some (.string f.p)) :
  Calls (ai β) 97 #[.agg #[.string y.p,.string y.b],.pointer (some ⟨g,0,none⟩)] w λe j=>e=.returned (.bool (acV y.p f.p))/\Below w.heap.size w j:=by
 have d:=au w (.cells #[.string y.p,.string y.b] 106);have k:(w.alloc (.cells #[.string y.p,.string y.b] 106)).cell? ⟨g,0,none⟩=some (.string f.p):=(qx (d.block g (eK i))).trans i;have a:(y.p++⟨#[47]⟩:ByteArray).size<=100:=by
  rw[<-aN,iF,aE,aN,aAS,mu];omega
 have b:acV y.p f.p=(bs (y.p++⟨#[47]⟩)).isPrefixOf (bs f.p):=by rw[iF,aAS];unfold acV;exact Eq.refl _
 replace b:=ab b;replace a:=ab a;go_enter xM,ntmps97;go_wp2;have c:f.p.size<=100:=by omega
 have HC:=ajB (β:=β) f.p (y.p++⟨#[47]⟩) c a.out (w.alloc (.cells #[.string y.p,.string y.b] 106)) (acV y.p f.p) b.out;refine HC.mono ?_;rintro e m ⟨rfl,rfl⟩;go_wp2;go_ret;exact⟨rfl,d⟩
def avc:aa3 (β:=β) 97:=adC xM (by kernel_rfl) rfl
def ahF(f:Nd)(H:f.p.size<=3)(xs:List Nd)(n:Nat)(Q:n<=xs.length)(o:∀y∈xs.take n,y.p.size<=3)(A:Option Addr)(c g:Nat)(w:World)(L hi:Nat)(h:fM w L hi xs [.slice A xs.length c])(K:hi<=w.heap.size)(C:w.cell? ⟨g,0,none⟩=some (.string f.p)) :
  Calls (ai β) 128 #[.slice A n c,.func (.func 97) #[] #[.pointer (some ⟨g,0,none⟩)]] w λe B=>∃j:Int,e=.returned (.int .i64 j)/\((0<=j/\∃k y,k<n/\xs[k]?=some y/\acV y.p f.p=true)\/(j=-1/\∀k y,k<n->xs[k]?=some y->acV y.p f.p=false))/\Below w.heap.size w B:=by
 obtain⟨_,P,J⟩:=h.1.len_;unfold maxLen at J;have t:=eK C;replace o:=ab o;go_enter yL,ntmps128;go_wp2;go_loopw [8] (λi wr=>∃k:Nat,k<=n/\i=.int .i64 k/\(∀j y,j<k->xs[j]?=some y->acV y.p f.p=false)/\Below w.heap.size w wr) (λi _=>n-(intOf i).toNat)
 case atStart=>exact⟨0,fa _,rfl,λj y E=>absurd E (sS j),fd _ _⟩
 case round=>
  obtain⟨k,N,rfl,a,r⟩:=hrel;replace a:=ab a;have z:wr.cell? ⟨g,0,none⟩=some (.string f.p):=(qx (r.block g t)).trans C;by_cases q:k<n
  .obtain⟨x,p⟩:=aq (l:=xs) (k:=k) (by omega);obtain⟨b,I,rfl,_,_,F,G,M⟩:=lI (fM.ar.below h r K) p;have s:x.p.size<=3:=o.out x (by
    have:(xs.take n)[k]?=some x:=by rw[qD,du q];exact p
    exact db this)
   replace p:=ab p;have O:=avc (β:=β) (#[.agg #[.string x.p,.string x.b]]++#[.pointer (some ⟨g,0,none⟩)]) wr;go_wp2;refine(ao6 x f s H g wr z).mono ?_;rintro e B ⟨rfl,m⟩;replace m:=ag r m;cases d:acV x.p f.p
   .have u:∀j y,j<k+1->xs[j]?=some y->acV y.p f.p=false:=λj y E v=>by
     rcases pm j k with D|D
     .exact a.out j y D v
     .obtain rfl:j=k:=by omega
      rw[p.out] at v;cases v;exact d
    replace u:=ab u;go_wp2;go_roundw
    case rel=>exact⟨k+1,by omega,by go_num,u.out,m⟩
    simp[intOf];omega
   .replace d:=ab d;go_wp2;go_ret;exact⟨k,rfl,.inl ⟨by omega,k,x,q,p.out,d.out⟩,m⟩
  .obtain rfl:k=n:=by omega
   go_wp2;go_ret;exact⟨-1,rfl,.inr ⟨rfl,a.out⟩,r⟩
def oF(f:Nd)(l:f.p.size<=3)(xs:List Nd)(n:Nat)(r:n<=xs.length)(b:∀y∈xs.take n,y.p.size<=3)(A:Option Addr)(c g:Nat)(w:World)(i hi:Nat)(h:fM w i hi xs [.slice A xs.length c])(s:hi<=w.heap.size)(p:w.cell? ⟨g,0,none⟩=some (.string f.p)) :
  Calls (ai β) 96 #[.slice A n c,.func (.func 97) #[] #[.pointer (some ⟨g,0,none⟩)]] w λe m=>∃q:Bool,e=.returned (.bool q)/\((q=true/\∃k y,k<n/\xs[k]?=some y/\acV y.p f.p=true)\/(q=false/\∀k y,k<n->xs[k]?=some y->acV y.p f.p=false))/\Below w.heap.size w m:=by
 replace b:=ab b;go_enter yY,ntmps96;go_wp2;refine(ahF f l xs n r b.out A c g w i hi h s p).mono ?_;rintro e u ⟨j,rfl,t,d⟩;rcases t with⟨o,a⟩|⟨rfl,a⟩
 .have v:decide (0<=j)=true:=dj o;replace a:=ab a;go_wp2;go_ret;exact⟨true,rfl,.inl ⟨rfl,a.out⟩,d⟩
 .replace a:=ab a;go_wp2;go_ret;exact⟨false,rfl,.inr ⟨rfl,a.out⟩,d⟩
end
section
variable {β:Bool}
open Go.RowKit
def eW(l:List ByteArray):List UInt8:=l.flatMap λs=>s.data.toList
def agl(l:List ByteArray):(eW l).map UInt8.toNat=jN l:=by
 unfold eW jN;rw[List.map_flatMap];rfl
def afa(l:List ByteArray):∀b∈jN l,b<256:=λb a=>by
 obtain⟨s,_,a⟩:=sJ.1 a;exact aqw b a
def ao7(l:List ByteArray):(⟨(eW l).toArray⟩:ByteArray)=rK (jN l):=px (by
 rw[amR (afa l),<-agl];rfl)
def abi{l:List ByteArray}{x:ByteArray}(h:l[k]?=some x):eW (l.take (k+1))=eW (l.take k)++x.data.toList:=by
 rw[lE h];unfold eW;rw[tw];simp
def acX:∀{l:List ByteArray},(∀s∈l,s.size<=8)->(eW l).length<=8*l.length
 |[],_=>fa _
 |x::l,h=>by
  have b:=acX (l:=l) λs a=>h s (by simp[a]);have d:=h x (by simp);show(x.data.toList++eW l).length<=_;have c:x.data.toList.length=x.size:=by rw[qQ];rfl
  rw[aE,fi];omega
def gj(h:bD (bs s)):1<=s.size/\s.size<=8:=by have:=h.1;rw[aN] at this;exact this
def ar0(x:ByteArray):x.data.toList.length=x.size:=by rw[qQ];rfl
def awD(x:ByteArray)(l:List UInt8):Lib.byteCells l++Lib.strCells x=Lib.byteCells (l++x.data.toList):=by
 simp[Lib.byteCells,Lib.strCells]
def ayo(l:List ByteArray)(u:∀s∈l,bD (bs s))(hl:l.length<=2147483647)(v:Value)(w:World)(lo hi:Nat)(h:dA w lo hi l [v])(aR:hi<=w.heap.size) :
  Calls (ai β) 91 #[v,.string ⟨#[]⟩] w λe w'=>e=.returned (.string (rK (jN l)))/\Below w.heap.size w w':=by
 obtain⟨A,c,rfl⟩:=h.form;obtain⟨_,hc,M⟩:=h.len_;unfold maxLen at M;replace u:=ab u;rcases pm l.length 2 with I|oI
 .rcases qe l.length with N|N
  .obtain rfl:=qZ.1 N;go_enter xv,ntmps91;go_wp2;exact mx (v:=.string ⟨#[]⟩) (by simp[results,results91,go_sem]) rfl ⟨rfl,fd _ _⟩
  .obtain⟨x,rfl⟩:=uw.1 (show l.length=1 by omega);obtain⟨b,o,rfl,_,_,F,H⟩:=lD h (k:=0) rfl;rw[tu] at H;have Q:rK (jN [x])=x:=by show rK (bs x++[])=x;rw[sg,azE]
   replace Q:=ab Q;go_enter xv,ntmps91;go_wp2;exact mx (v:=.string x) (by simp[results,results91,go_sem]) rfl ⟨by rw[Q.out],fd _ _⟩
 .have t0:((l.length:Int) ==0)=false:=dk.2 (by omega);have t1:((l.length:Int) ==1)=false:=dk.2 (by omega);go_enter xv,ntmps91;go_wp2
  go_loop [5,41] (λnn D=>∃k:Nat,k<=l.length/\D=.int .i64 k/\nn=.int .i64 (eW (l.take k)).length/\(eW (l.take k)).length<=8*k) (λ_ D=>l.length-(intOf D).toNat)
  case atStart=>exact⟨0,fa _,rfl,rfl,fa _⟩
  case round=>
   obtain⟨k,hk,rfl,rfl,C⟩:=hrel;by_cases I:k<l.length
   .obtain⟨x,L⟩:=aq I;obtain⟨b,o,rfl,_,_,F,H⟩:=lD h L;have S:=(gj (u.out x (db L))).2;have d:(eW (l.take (k+1))).length=(eW (l.take k)).length+x.size:=by rw[abi L,aE,ar0]
    have HST:=ab d;clear d L;obtain⟨n,E⟩:∃n,n=(eW (l.take k)).length:=⟨_,rfl⟩;rw[<-E] at C HST ⊢;clear E;have t3:=bv (show ¬(9223372036854775807-(n:Int)<(x.size:Int)) by omega);go_wp2
    go_round
    case rel=>exact⟨k+1,by omega,by go_num,by rw[HST.out];go_num,by rw[HST.out];omega⟩
    simp[intOf];omega
   .obtain rfl:k=l.length:=by omega
    rw[gE] at C ⊢;obtain⟨n,E⟩:∃n,n=(eW l).length:=⟨_,rfl⟩;rw[<-E] at C ⊢;have HN:=ab E;clear E;go_wp2;generalize t:w.alloc (.cells #[.pointer none,.slice none 0 0] 179)=w0;have Y:w0.heap[w.heap.size]?=some (.cells #[.pointer none,.slice none 0 0] 179 (0,0)):=by
     rw[<-t];show(w.heap.push _)[w.heap.size]?=_;rw[qX]
    have z:Below w.heap.size w w0:=by rw[<-t];exact(fd _ w).alloc (am _) _
    refine(am5 w.heap.size w.heap.size n w0 (am _) Y z.size (by omega)).mono ?_;rintro e w2 ⟨rfl,f,g⟩;replace g:=z.trans g;clear z Y t;obtain⟨x,a⟩:=aq (l:=l) (k:=0) (by omega);obtain⟨b,o,rfl,_,_,F,H⟩:=lD (dA.ar.below h g aR) a;rw[tu] at H;have S:=(gj (u.out x (db a))).2;have d:x.data.toList=eW (l.take 1):=by rw[abi (k:=0) a];simp[eW]
    have J:1<=x.size:=(gj (u.out x (db a))).1;have T:=ab J;have q:x=l.headD ⟨#[]⟩:=by
     cases l with
     |nil=>simp at a
     |cons y m=>simp at a;rw[a];rfl
    replace q:=ab q;have HST:=ab d;clear d a J;go_wp2;refine(pF w.heap.size w.heap.size [] x w2 (.inr (.of f)) (by show 0+x.size<=_;omega) g.size).mono ?_;rintro e w3 ⟨rfl,r,p⟩;replace p:=g.trans p;have Z:([]:List Value)++Lib.strCells x=Lib.byteCells (eW (l.take 1)):=by
     have:=awD x [];rw[qV,HST.out] at this;exact this
    rw[Z] at r;clear g f Z H HST;go_wp2;have R:l.length-1+1=l.length:=by omega
    go_loopw [65] (λD wr=>∃k:Nat,k+1<=l.length/\D=.int .i64 k/\Lib.IsBuilderF 179 5 w.heap.size w.heap.size (Lib.byteCells (eW (l.take (k+1)))) wr/\Below w.heap.size w wr) (λD _=>l.length-(intOf D).toNat)
    case atStart=>exact⟨0,by omega,rfl,.inr r,p⟩
    case round=>
     clear r p;obtain⟨k,hk,rfl,f,i⟩:=hrel;have V:(Lib.byteCells (eW (l.take (k+1)))).length<=8*l.length:=by
      rw[rO];refine ap (acX λs hs=>(gj (u.out s (pr hs))).2) ?_;rw[eg];omega
     by_cases a3:k<l.length-1
     .obtain⟨y,O⟩:=aq (l:=l) (k:=k+1) (by omega);obtain⟨b1,a0,U,_,_,a2,d0⟩:=lD (dA.ar.below h i aR) O;simp only[me,qA,qw] at U;obtain⟨rfl,rfl⟩:=U;rw[show o+(k+1)=o+1+k by omega] at d0;have a1:=(gj (u.out y (db O))).2;have d:=abi O;have HST:=ab d;clear d O;go_wp2;refine(pF w.heap.size w.heap.size _ ⟨#[]⟩ wr f (by show _+0<=_;omega) i.size).mono ?_;rintro e w4 ⟨rfl,B,j⟩;replace j:=i.trans j;have W:Lib.byteCells (eW (l.take (k+1)))++Lib.strCells ⟨#[]⟩=Lib.byteCells (eW (l.take (k+1))):=sg _;rw[W] at B;clear f i W;go_wp2;refine(pF w.heap.size w.heap.size _ y w4 (.inr B) (by omega) j.size).mono ?_;rintro e w5 ⟨rfl,G,K⟩;replace K:=j.trans K;rw[awD,<-HST.out] at G;clear B j;go_wp2;go_roundw
      case rel=>exact⟨k+1,by omega,by go_num,.inr G,K⟩
      simp[intOf];omega
     .obtain rfl:k=l.length-1:=by omega
      rw[R,gE] at f;have P:eW l≠[]:=by
       intro N;have M:x.data.toList <+: eW l:=by
        obtain⟨y,m,rfl⟩:∃y m,l=y::m:=by
         cases l with
         |nil=>simp at oI
         |cons y m=>exact⟨y,m,rfl⟩
        have e:=q.out;show x.data.toList <+: _;have e:x=y:=e;rw[e];exact⟨eW m,by simp[eW]⟩
       rw[N] at M;have:=List.prefix_nil.1 M;have X:=ar0 x;rw[this] at X;have:=T.out;simp at X;omega
      have HJ:=ab (ao7 l);go_wp2;refine(acL w.heap.size w.heap.size (eW l) wr f P).mono ?_;rintro e w5 ⟨rfl, -,K⟩;go_wp2;exact mx (v:=.string ⟨(eW l).toArray⟩) (by simp[results,results91,go_sem]) rfl ⟨by rw[HJ.out],i.trans K⟩
end
section
variable {β:Bool}
open Go.RowKit Go.Shelf
attribute [local go_sem] Oper.semAt_some
def nu(xs:List Hd)(k:Nat):List (Int×Hd):=(List.range k).map λj=>(((xs.length-1-j:Nat):Int),xs[xs.length-1-j]?.getD ⟨0,0⟩)
def alX(xs:List Hd)(k:Nat):nu xs (k+1)=nu xs k++[(((xs.length-1-k:Nat):Int),xs[xs.length-1-k]?.getD ⟨0,0⟩)]:=by simp[nu,uQ]
def ahG(xs:List Hd)(k:Nat):(nu xs k).length=k:=by simp[nu]
def ao8(xs:List Hd):((nu xs xs.length).map (·.2)).reverse=xs:=by
 apply List.ext_getElem
 .simp[nu]
 .intro i b a;simp only[nu,vO,List.getElem_reverse,List.getElem_map,qh,List.length_range,List.getElem_range,Function.comp_apply];have e:xs.length-1-(xs.length-1-i)=i:=by omega
  rw[e,jn a,qo]
abbrev ar1(x:Int×Hd):Array Value:=#[.int .i64 x.1,.agg #[.int .i64 x.2.b,.int .i64 x.2.s]]
def KpB(n₀ Bs:Nat)(A B:World):Prop:=Below n₀ A B/\B.heap[Bs]?=A.heap[Bs]?
def KpB.refl{A:World}:KpB n₀ Z A A:=⟨fd _ _,rfl⟩
def KpB.t{A B C:World}(h:KpB n₀ Z A B)(k:KpB n₀ Z B C):KpB n₀ Z A C:=⟨h.1.trans k.1,k.2.trans h.2⟩
@[go_sem] def aEw:=aA (β:=β) func52 (by decide) rfl
@[go_sem] def aEx:=aA (β:=β) func71 (by decide) rfl
def ajC(F:Fence)(n:Nat)(g:F.fn 52)(d:F.round=none)(a:Option Addr)(b cap:Nat)(w:World) :
  CallsIn F n (ai β) 52 #[.slice a b cap] w λe f=>e=.returned (.func (.func 71) #[] #[.pointer (some ⟨w.heap.size,0,none⟩)])/\f=w.alloc (.cells #[.slice a b cap] 25):=by
 refine vk zK rfl g ?_ d;simp only[ntmps52,rR,fi,mc,Nat.reduceAdd,Nat.reduceSub,so,sj,ta,sG,qV,qM];gi_wp2;go_ret;exact⟨rfl,rfl⟩
def ahH (F:Fence) (n:Nat) (X:F.fn 71) (C:F.round=none) (hn:1<=n) (l j n₀:Nat) (A:Option Addr) (c T hi:Nat) (xs:List Hd) (aR:hi<=n₀) (J K:List (Int×Hd)->World->Prop)
  (Z:∀a x W,J a W->a.length<xs.length->YieldAt F (n-1) (ai β) l (ar1 x) W λe W'=>
   (e=.returned (.bool true)/\J (a++[x]) W'/\KpB n₀ j W W')\/(e=.returned (.bool false)/\K (a++[x]) W'))
  (W:World) (q:Boxed W j 25 (.slice A xs.length c)) (M:cx W T hi xs [.slice A xs.length c]) (V:J [] W) :
  CallsIn F n (ai β) 71 #[.func (.yield l) #[] #[],.pointer (some ⟨j,0,none⟩)] W λe W'=>(∃v,e=.returned v)/\
   ((∃O,O=nu xs xs.length/\J O W')\/(∃a,(∃k,a=nu xs k)/\K a W')):=by
 obtain⟨_,iY,S⟩:=bC.len_ M;unfold maxLen at S;refine vk xP rfl X ?_ C;simp only[ntmps71,rR,fi,mc,Nat.reduceAdd,Nat.reduceSub,so,sj,ta,sG,qV,qM];have U:=q.cell;gi_wp2
 gi_loopw [3] (λi wr=>∃k:Nat,k<=xs.length/\i=.int .i64 ((xs.length:Int)-1-k)/\J (nu xs k) wr/\KpB n₀ j W wr)
  (λi _=>(intOf i+1).toNat)
 case atStart=>exact⟨0,fa _,by simp,V,KpB.refl⟩
 case round=>
  obtain⟨k,hk,rfl,o,D⟩:=hrel;have G:Boxed wr j 25 (.slice A xs.length c):=D.2.trans q;have Q:=G.cell;clear U;by_cases B:k<xs.length
  .obtain⟨x,t⟩:=aq (l:=xs) (k:=xs.length-1-k) (by omega);obtain⟨N,p,es,w,_,R,_,⟨rfl,Y⟩,g⟩:=(cx.loc.below M D.1 aR).at_ t;subst w;have u:wr.cell? ⟨N,p+(xs.length-1-k)*2,none⟩=some (.int .i64 x.b):=by simpa using g 0 _ rfl
   have H:wr.cell? ⟨N,p+(xs.length-1-k)*2+1,none⟩=some (.int .i64 x.s):=by simpa using g 1 _ rfl
   clear g;have s:(xs.length:Int)-1-k=((xs.length-1-k:Nat):Int):=by omega
   rw[s];have f:xs[xs.length-1-k]?.getD ⟨0,0⟩=x:=by rw[t];rfl
   obtain⟨i,d⟩:∃i,i=xs.length-1-k:=⟨_,rfl⟩;have b:=alX xs k;rw[<-d] at t u H f b ⊢;rw[f] at b;have m:=ab b;have P:=ab d;have a0:i<xs.length:=by omega
   clear b d s f t;obtain⟨fn,L,r,I,hy,hR⟩:=Z _ ((i:Int),x) wr o (by rw[ahG];exact B);dsimp only[ar1] at hy;gi_wp2;refine hR.mono ?_;rintro e W3 (⟨rfl,E,z⟩|⟨rfl,y⟩)
   .gi_wp2;go_roundw
    case rel=>exact⟨k+1,by omega,by have:=P.out;congr 1;omega,by rw[m.out];exact E,D.t z⟩
    have:=P.out;first|(simp[intOf];done)|(simp[intOf];omega)
   .gi_wp2;refine mx (results_none rfl _ _ _) rfl ?_;exact⟨⟨_,rfl⟩,.inr ⟨_,⟨k+1,m.out.symm⟩,y⟩⟩
  .obtain rfl:k=xs.length:=by omega
   have s:(xs.length:Int)-1-xs.length=-1:=by omega
   rw[s];gi_wp2
   go_end0
   exact⟨⟨_,rfl⟩,.inl ⟨_,rfl,o⟩⟩
def afb (F:Fence) (n:Nat) (r:F.fn 71) (e:F.round=none) (p:1<=n) (a n₀:Nat) (A:Option Addr) (c i hi:Nat) (xs:List Hd) (w:World) (b:a<w.heap.size) (d:n₀<=w.heap.size) (j:hi<=n₀)
  (s:Boxed w a 25 (.slice A xs.length c)) (t:cx w i hi xs [.slice A xs.length c]) :
  SeqStopsK F n (ai β) 71 #[.pointer (some ⟨a,0,none⟩)] ar1 (KpB n₀ a) (λq=>q=nu xs xs.length) (λf=>∃k,f=nu xs k) xs.length w:=λl J o W g _ _ u m=>
 ahH F n r e p l a n₀ A c i hi xs j J o u W ((g.block a b).trans s) (cx.loc.below t (g.mono d) j) m
def LkL(lo:Nat)(W:World):Option Addr->List Hd->Prop
 |p,[]=>p=none
 |p,x::xs=>∃(b:Nat) (q:Option Addr),p=some ⟨b,0,none⟩/\lo<=b/\aX W b 101 #[.int .i64 x.b,.int .i64 x.s,.pointer q]/\LkL lo W q xs
def LkL.go{a:Nat}{A B:World}(h:∀b o,a<=b->A.heap[b]?=some (.cells o 101 (0,0))->B.heap[b]?=A.heap[b]?):∀{p:Option Addr} {c:List Hd},LkL a A p c->LkL a B p c
 |_,[],hl=>hl
 |_,_::_,⟨b,q,hp,hb,hk,hr⟩=>⟨b,q,hp,hb,(h b _ hb hk).trans hk,LkL.go h hr⟩
def LkL.below{A B:World}(h:Below A.heap.size A B){p:Option Addr}{xs:List Hd}(c:LkL Z A p xs):LkL Z B p xs:=LkL.go (λb _ _ a=>h.block b (dl.1 a).1) c
def LkL.ar2{c eY:Nat}{W:World}(h:eY<=c):∀{p:Option Addr} {a:List Hd},LkL c W p a->LkL eY W p a
 |_,[],hl=>hl
 |_,_::_,⟨b,q,hp,hb,hk,hr⟩=>⟨b,q,hp,ap h hb,hk,LkL.ar2 h hr⟩
def avd{β:Type}(B:Nat)(k:Nat)(f:β->List Hd):Own (λs W=>∃p,Boxed W B 67 (.pointer p)/\LkL k W p (f s)):=λs X Y c g d a=>by
 obtain⟨p,j,e⟩:=g;exact⟨p,boxed_own B 67 (λ(_:Unit)=>Value.pointer p) () X Y c j d a,LkL.go (λb o _ i=>grownBy_keeps_cells d a i rfl) e⟩
def ao9(F:Fence)(n:Nat)(G:F.fn 22)(h4:F.fn 52)(U:F.fn 71)(j:F.round=none)(hn:6<=n)(xs:List Hd)(A:Option Addr)(c T hi:Nat)(w:World)(I:cx w T hi xs [.slice A xs.length c])(Z:hi<=w.heap.size) :
  CallsIn F n (ai β) 22 #[.slice A xs.length c] w λe W'=>∃p,e=.returned (.pointer p)/\LkL w.heap.size W' p xs/\Below w.heap.size w W':=by
 have M:1<=n:=by omega
 refine callsIn_of_wp_marks zZ rfl G ?_ j;simp only[ntmps22,rR,fi,mc,Nat.reduceAdd,Nat.reduceSub,so,sj,ta,sG,qV,qM]
 gi_wp2_with (gi_at_call 52;refine(ajC F (n-1) h4 j _ _ _ _).mono ?_;rintro e w' ⟨rfl,rfl⟩)
 have S:=(Boxed.new w 67 (.pointer none)).alloc (.cells #[.slice A xs.length c] 25);have v:=Boxed.new (w.alloc (.cells #[.pointer none] 67)) 25 (.slice A xs.length c);simp only[mp] at v;have k:Below w.heap.size w ((w.alloc (.cells #[.pointer none] 67)).alloc (.cells #[.slice A xs.length c] 25)):=((fd _ w).alloc (am _) _).alloc (by simp) _;have E:((w.alloc (.cells #[.pointer none] 67)).alloc (.cells #[.slice A xs.length c] 25)).heap.size=w.heap.size+2:=by simp
 obtain⟨W0,B⟩:∃W0,(w.alloc (.cells #[.pointer none] 67)).alloc (.cells #[.slice A xs.length c] 25)=W0:=⟨_,rfl⟩;try simp only[mp]
 rw[B] at S v k E ⊢;refine wpIn_rangeFunc_ownH j M (gf:=71) (lb:=#[.pointer (some ⟨w.heap.size+1,0,none⟩)]) rfl U (enters_of xP (by kernel_rfl) rfl)
  (afb F (n-1) U j (by omega) (w.heap.size+1) w.heap.size A c T hi xs W0 (by omega) (by omega) Z v (cx.loc.below I k Z)) KpB.t
  (λW l o o' hl h I hw=>⟨belowK_b (w:=w) (am _) W l o o' (by omega) h I hw,ul (by omega)⟩) (fd _ _) (λ_=>rfl)
  (λi W=>((∃p,Boxed W w.heap.size 67 (.pointer p)/\LkL (w.heap.size+2) W p ((i.map (·.2)).reverse))/\Boxed W (w.heap.size+1) 25 (.slice A xs.length c))/\Below w.heap.size w W)
  (λ_ _ _=>False)
  (uY (uY (Own.from (avd _ _ _) _) (Own.from (boxed_own _ _ _) _)) (ownFrom_below (am _) (by omega)))
  (λ_ _ _ _ _ O _ _=>O)
  ⟨⟨⟨none,S,rfl⟩,v⟩,k⟩
  (λx C W=>∃s,w.heap.size+1<s/\aX W s 65 #[.int .i64 x.2.b,.int .i64 x.2.s]/\C={tmps:=#[.slice A xs.length c,undef,.pointer none,.pointer (some ⟨w.heap.size,0,none⟩),undef,.pointer (some ⟨s,0,none⟩),.slice A xs.length c,.func (.func 71) #[] #[.pointer (some ⟨w.heap.size+1,0,none⟩)],.int .i64 x.1,.agg #[.int .i64 x.2.b,.int .i64 x.2.s],undef,undef,undef,undef,undef],defers:=[]})
  (λx C _ X Y a0 O hg V=>by obtain⟨s,M,Q,G⟩:=O;exact⟨s,M,(grownBy_keeps_cells hg (λr e=>(V r e).2) Q rfl).trans Q,G⟩)
  ?assign ?body ?done ?stop
 case assign=>
  rintro l i x W K ⟨⟨⟨p,d,f⟩,g⟩,a⟩ u;gi_wp2;have m:=g.lt;exact u _ _ ((KeepsOthers.alloc _ _).from _) ⟨(fd _ W).alloc a.size _,rH _ _ _ m⟩ ⟨⟨⟨p,d.alloc _,f.below (sM (fd _ _) (am _) _)⟩,g.alloc _⟩,a.alloc a.size _⟩ ⟨W.heap.size,m,aX.new _ _ _,rfl⟩
 case body=>
  rintro l i x C W hl ⟨r,V⟩ ⟨⟨⟨p,d,f⟩,g⟩,a⟩ ⟨s,a1,R,rfl⟩ m;have cS:=d.cell;have fS:=d.frozen;have a2:=R.cell 0;have a3:=R.cell 1;have q:=d.alloc (.cells #[.int .i64 x.2.b,.int .i64 x.2.s,.pointer p] 101);have L:=g.alloc (.cells #[.int .i64 x.2.b,.int .i64 x.2.s,.pointer p] 101);have bN:=aX.new W 101 #[.int .i64 x.2.b,.int .i64 x.2.s,.pointer p];have z:=f.below (sM (fd _ _) (am _) (.cells #[.int .i64 x.2.b,.int .i64 x.2.s,.pointer p] 101));have t:Below w.heap.size W (W.alloc (.cells #[.int .i64 x.2.b,.int .i64 x.2.s,.pointer p] 101)):=(fd _ W).alloc a.size _;have P:KeepsOthers W (W.alloc (.cells #[.int .i64 x.2.b,.int .i64 x.2.s,.pointer p] 101)):=KeepsOthers.alloc _ _;have H:=g.lt;have N:(W.alloc (.cells #[.int .i64 x.2.b,.int .i64 x.2.s,.pointer p] 101)).heap[w.heap.size+1]?=W.heap[w.heap.size+1]?:=rH _ _ _ H;have a4:=q.cell;have a5:=q.frozen;gi_wp2;have e2:((i++[x]).map (·.2)).reverse=x.2::(i.map (·.2)).reverse:=by simp
  exact⟨(P.trans (wG _ _ _)).from _,⟨t.setCell (p:=⟨w.heap.size,0,none⟩) (am _) _,(io _ _ _ _ (by dsimp only;omega)).trans N⟩,
   ⟨⟨some ⟨W.heap.size,0,none⟩,q.set _,by
     rw[e2];exact⟨W.heap.size,p,rfl,by omega,bW bN _ (by dsimp only;omega),z.go λb o hb J=>io _ _ _ _ (by dsimp only;omega)⟩⟩,L.other (by omega) _⟩,(a.trans t).setCell (p:=⟨w.heap.size,0,none⟩) (am _) _⟩
 case done=>
  rintro D zs W hD rfl ⟨⟨⟨p,d,f⟩,g⟩,a⟩ u;have cS:=d.cell;gi_wp2;refine⟨by simp,.inl ⟨_,_,rfl,run_takeDeferred u, ?_⟩⟩;have y:=belowK_b (w:=w) (am _) W D _ (.deferred none) (by omega) u rfl rfl;exact⟨_,results_tmp rfl _ _ _,p,rfl,by rw[ao8] at f;exact(f.go λb o hb J=>ul (by rintro rfl;rw[u] at J;cases J)).ar2 (by omega),a.trans y⟩
 case stop=>
  rintro D c i W _ _ h _;exact h.elim
end
section
variable {β:Bool}
open Go.RowKit
def acY:Op->Bool
 |.move .. | .assign .. | .load .. | .slice .. | .buildSlice .. | .store .. =>true
 |.call c=>match c.callee with
  |.builtin .append=>true
  |_=>false
 |_=>false
def ar3{P:Program}{o:Oper}(h:acY o.op=true){ρ:Operand->Value}{i:Next}(d:(execOp ρ o).run P w=.ok i w'):(∃v,i=.value v)\/i=.skip:=by
 obtain⟨dst,op,j,k,after,g⟩:=o;cases op<;>simp only[acY,kw] at h
 case call c=>
  obtain⟨a,args,e⟩:=c;cases a with
  |value x=>cases h
  |invoke x n=>cases h
  |builtin b=>
   cases b<;>first
    |(exfalso;cases h;done)
    |(revert d
      simp only[execOp,resolve,invoke,builtin,tN,uf,uu];generalize (Sem.run P (Builtin.append_ _ _ _) w:Result _)=r;cases r with
      |ok v f=>simp only[Result.andThen];intro d;cases d;exact .inl ⟨_,rfl⟩
      |halt x f=>simp[Result.andThen])
 all_goals
  revert d;simp only[execOp,tN,uf]
 all_goals
  first
   |(intro d;cases d;exact .inl ⟨_,rfl⟩)
   |(generalize (Sem.run P _ w:Result _)=r
     cases r with
     |ok v f=>simp only[Result.andThen];intro d;cases d;first|exact .inl ⟨_,rfl⟩|exact .inr rfl
     |halt x f=>simp[Result.andThen])
section
variable {F:Fence} {m:Nat} {P:Program} {Q:Exit->Act->World->Prop} {md:Region.Mode} {ops:Array Oper}
def ave{o:Oper}{a:Act}{r:Result Next}(e:∀b c,r=.ok b c->(∃v,b=.value v)\/b=.skip)(d:∀a w,Y a w->X a w)(h:o.upon P a Y Q r):o.uponIn F m P a X Q r:=by
 cases r with
 |ok b c=>
  rcases e b c rfl with⟨v,rfl⟩|rfl
  .exact d _ _ h
  .exact d _ _ h
 |halt x c=>cases x<;>first|exact h|exact h.elim
def avf(k:∀f,F.fn f)(p:∀o∈ops,acY o.op=true)(n:¬LetsOut Q){i:Nat}(j:∀a w,Y a w->X a w){a:Act}(h:wpOp P ops Q i Y a w):wpOpIn F m P ops Q i X a w:=by
 unfold wpOp at h;unfold wpOpIn;cases e:ops[i]? with
 |none=>rw[e] at h;exact j _ _ h
 |some o=>
  rw[e] at h;have b:=p o (qH e);dsimp only at h ⊢;split
  .rename_i d;rw[du d] at h;rcases h with h|h
   .refine⟨λf _=>k f, ?_⟩;rw[Oper.semAt_plain F _ _ (by intro c g;rw[g] at b;cases b)];exact ave (λr q l=>ar3 b l) j h
   .exact absurd h.2 n
  .rename_i d;rw[da d] at h;exact⟨λf _=>k f,j _ _ h⟩
def ajD(e:∀f,F.fn f)(d:∀o∈ops,acY o.op=true)(c:¬LetsOut Q):∀(k:Nat) (b:Array Bool) (a:Act) (w:World),wpAny P md ops Q k b a w->wpAnyIn F m P md ops Q k b a w
 |0,_,_,_,h=>h
 |k+1,b,a,w,h=>⟨h.1,λi g=>avf e d c (λa w h=>ajD e d c k _ a w h) (h.2 i g)⟩
end
section
variable {F:Fence} {m:Nat} {P:Program} {Q:Exit->Act->World->Prop} {X:Type} [Nonempty X] [bg X]
def ajE (A:∀f,F.fn f) {l:List Oper} (e:(l.all λo=>acY o.op)=true) (s:¬LetsOut Q) {g:Act} (to:X->World) (le:X->X->Prop) (j:∀x,le x x) (n:Nat) (k c:List Nat) (v:P.follows .mixedOrders=true) (z:ag6 l n k c=true) (p:adz l.toArray n g.tmps.size=true)
  (a:X) (b:∀m,m<=n->bg.live m a) (d:∀i,i<n->bg.pend i a) (t:to a=w.drew)
  (h:wpQuiet P l.toArray (λr=>∃x,r=to x) (λy=>∃u,cK P l.toArray to le (wpList P l.toArray Q (l.drop n)) (pick l c) [] u y) ((pick l k).map (·.2)) g):(Code.region Z l.toArray true).wpIn F m P Q g w:=
 wpIn_region_any v (ajD A (λo q=>lw.1 e o (by simpa using q)) s _ _ _ _ (aiG to le j n k c z p a b d t h))
def afD (r:∀f,F.fn f) {l:List Oper} (b:(l.all λo=>acY o.op)=true) (i:¬LetsOut Q) {c:Act} (n:Nat) (d a:List Nat) (k:P.follows .mixedOrders=true) (q:ag6 l n d a=true) (e:adz l.toArray n c.tmps.size=true)
  (h:wpQuiet P l.toArray (λg=>∃x:fg w,g=x.to) (λp=>∃j:List (iu (fg w)),cK P l.toArray (fg.to (w:=w)) (fg.le (w:=w)) (wpList P l.toArray Q (l.drop n)) (pick l a) [] j p) ((pick l d).map (·.2)) c):(Code.region Z l.toArray true).wpIn F m P Q c w:=
 ajE r b i (fg.to (w:=w)) (fg.le (w:=w)) fg.le_refl n d a k q e ⟨w.drew,⟨rfl,rfl,rfl,am _,λ_ _=>rfl⟩⟩ (λ_ _=>trivial) (λ_ _=>trivial) rfl h
end
end
section
variable {β:Bool}
open Go.RowKit Go.Shelf
attribute [local go_sem] Oper.semAt_some
def Prs(l:List Nat):Nat->List (Nat×Nat)->Nat->Prop
 |a,[],b=>a=b
 |a,x::xs,b=>a<l.length/\x=(a,atL l a)/\Prs l (atL l a) xs b
def Prs.snoc{l:List Nat}:∀{a:Nat} {c:List (Nat×Nat)} {b:Nat},Prs l a c b->b<l.length->Prs l a (c++[(b,atL l b)]) (atL l b)
 |a,[],b,h,h1=>by
  have h:a=b:=h;subst h;exact⟨h1,rfl,rfl⟩
 |a,x::c,b,⟨h2,h3,h4⟩,h1=>⟨h2,h3,h4.snoc h1⟩
def Prs.len{l:List Nat}:∀{a:Nat} {c:List (Nat×Nat)} {b:Nat},Prs l a c b->a+c.length<=b
 |a,[],b,h=>by
  have h:a=b:=h;simp;omega
 |a,x::c,b,⟨h1,_,h⟩=>by
  have:=h.len;have:=(fp h1).1;simp only[fi];omega
def Prs.ends{l:List Nat}:∀{a:Nat} {c:List (Nat×Nat)} {b:Nat},Prs l a c b->dG l a (c.map λx=>(x.2:Int)) b
 |a,[],b,h=>h
 |a,x::c,b,⟨h1,e,h⟩=>⟨h1,by rw[e],h.ends⟩
def dZ(s:ByteArray)(xs:List (Nat×Nat)):List ByteArray:=xs.map λx=>s.extract x.1 x.2
def Prs.pieces{l:List Nat}:∀{a:Nat} {c:List (Nat×Nat)} {b:Nat},Prs l a c b->dZ s c=cG s a (c.map λx=>(x.2:Int))
 |a,[],b,h=>rfl
 |a,x::c,b,⟨h1,e,h⟩=>by
  show s.extract x.1 x.2::dZ s c=s.extract a (x.2:Int).toNat::cG s (x.2:Int).toNat _;rw[e,sA,h.pieces]
def Prs.cut{xs:List (Nat×Nat)}(h:Prs (bs s) 0 xs s.size):dZ s xs=ki s:=by
 rw[h.pieces,am3 h.ends]
def wV(h:Below w.heap.size w w'):w.grownBy w' none:=⟨h.os,h.tape,h.output,h.size,λk a _=>h.block k a⟩
def apa {W : World} {B : Nat} {t e:TypeId} {v v':Value} {m : Nat} {xs z:List Value}
  (A:Boxed W B t v) (n:t≠e) (d:W.ownsRow Z e c v k xs) (u:n₀<=W.heap.size) (y:n₀<=Z) (E:n₀<=B)
  (b:w.ownsRow Z e c v' m z) (a:W.grownBy w v.ownBlock) :
  Boxed w B t v/\Boxed (w.setCell ⟨B,0,none⟩ v') B t v'/\(w.setCell ⟨B,0,none⟩ v').ownsRow Z e c v' m z/\KeepsOthers W (w.setCell ⟨B,0,none⟩ v')/\Below n₀ W (w.setCell ⟨B,0,none⟩ v')/\(∀k,k<Z->k<W.heap.size->k≠B->(w.setCell ⟨B,0,none⟩ v').heap[k]?=W.heap[k]?):=by
 have i:Boxed w B t v:=A.kept a (A.not_row n d);have l:∀j,v.ownBlock=some j->Z<=j:=λj f=>by
  rcases d.2 with⟨rfl,_⟩|⟨g,cap,s,rfl,D,_,_⟩
  .simp[Value.ownBlock] at f
  .obtain rfl:g=j:=by simpa[Value.ownBlock] using f
   exact D
 refine⟨i,i.set v',b.kept (grownBy_setCell' w B v') (.inr (i.not_row n b).symm), ?_, ?_, ?_⟩
 .refine(vU a λj o f C=> ?_).trans (wG _ _ _);rcases d.2 with⟨rfl,_⟩|⟨g,cap,s,rfl,_,x,_⟩
  .simp[Value.ownBlock] at f
  .obtain rfl:g=j:=by simpa[Value.ownBlock] using f
   rw[x] at C;cases C;rfl
 .exact((fd n₀ W).grown a u λj f=>ap y (l j f)).setCell (p:=⟨B,0,none⟩) E v'
 .intro k F r q;exact(io _ _ _ k q).trans (a.block k r λf=>by have:=l k f.symm;omega)
def apb{v:Value}(h:aZ (λb=>v.ownBlock=some b) w w'):w.grownBy w' v.ownBlock:=⟨h.os,h.tape,h.output,h.size,λk c a=>h.block k c λe=>a e.symm⟩
structure PrC (n:Nat) where
 p:Nat×Nat
 le:p.1<=p.2/\p.2<=n
abbrev ayr{n:Nat}(x:PrC n):Array Value:=#[.int .i64 x.p.1,.int .i64 x.p.2]
abbrev mP{n:Nat}(xs:List (PrC n)):List (Nat×Nat):=xs.map PrC.p
def ar5 (n:Nat) (hn:2<=n) (l j n₀:Nat) (s:ByteArray) (V:s.size<=1000000) (J H:List (PrC s.size)->World->Prop) (W:World) (T:AbidesFrom W.heap.size J)
  (Q:∀b x W,J b W->b.length<s.size->YieldAt Fence.wide (n-1) (ai β) l (ayr x) W λe W'=>
   (e=.returned (.bool true)/\J (b++[x]) W'/\KpB n₀ j W W')\/(e=.returned (.bool false)/\H (b++[x]) W'))
  (p:Boxed W j 9 (.string s)) (U:n₀<=W.heap.size) (N:J [] W) :
  CallsIn Fence.wide n (ai β) 141 #[.func (.yield l) #[] #[],.pointer (some ⟨j,0,none⟩)] W λe W'=>(∃v,e=.returned v)/\
   ((∃M,Prs (bs s) 0 (mP M) s.size/\J M W')\/(∃b,(∃m,Prs (bs s) 0 (mP b) m)/\H b W')):=by
 refine vk xC rfl trivial ?_ rfl;simp only[ntmps141,rR,fi,mc,Nat.reduceAdd,Nat.reduceSub,so,sj,ta,sG,qV,qM];have Z:=p.lt;have S:Fence.wide.fn 142:=trivial;have Y:1<=n:=by omega
 gi_wp2
 gi_loopw [3] (λi wr=>∃(k:Nat) (f:List (PrC s.size)),k<=s.size/\i=.int .i64 k/\Prs (bs s) 0 (mP f) k/\J f wr/\KpB n₀ j W wr/\W.heap.size<=wr.heap.size) (λi _=>s.size-(intOf i).toNat)
 case atStart=>exact⟨0,[],fa _,rfl,rfl,N,KpB.refl,am _⟩
 case round=>
  obtain⟨k,f,hk,rfl,A,o,I,R⟩:=hrel;have D:Boxed wr j 9 (.string s):=I.2.trans p;have O:=D.cell;by_cases g:k<s.size
  .gi_wp2_with (gi_at_call 142;refine(callsIn_wide.2 (auk s k g V wr)).mono ?_;rintro e t ⟨rfl,u⟩)
   have y:J f t:=T f wr t none o (wV u) (λr e=>by cases e);have z:KpB n₀ j W t:=I.t ⟨u.mono (by omega),u.block j (by omega)⟩;have P:=u.size;have F:=A.snoc (by rw[aN];exact g);have B:=fp (l:=bs s) (a:=k) (by rw[aN];exact g);rw[aN] at B;obtain⟨fn,K,w,G,L,X⟩:=Q f ⟨(k,atL (bs s) k),by show k<=atL (bs s) k/\atL (bs s) k<=s.size;omega⟩ t y (by have:=A.len;rw[qh] at this;omega);dsimp only[ayr] at L;rw[L];have d:Prs (bs s) 0 (mP (f++[⟨(k,atL (bs s) k),by show k<=atL (bs s) k/\atL (bs s) k<=s.size;omega⟩])) (atL (bs s) k):=by
    show Prs (bs s) 0 (List.map PrC.p (f++_)) _;rw[tF];exact F
   replace d:=ab d;gi_wp2;refine X.mono ?_;rintro e W3 (⟨rfl,C,q⟩|⟨rfl,E⟩)
   .gi_wp2;go_roundw
    case rel=>exact⟨atL (bs s) k,_,by omega,rfl,d.out,C,z.t q,by have:=q.1.size;omega⟩
    simp[intOf];omega
   .gi_wp2;refine mx (results_none rfl _ _ _) rfl ?_;exact⟨⟨_,rfl⟩,.inr ⟨_,⟨_,d.out⟩,E⟩⟩
  .obtain rfl:k=s.size:=by omega
   gi_wp2
   go_end0
   exact⟨⟨_,rfl⟩,.inl ⟨_,A,o⟩⟩
def alY(n:Nat)(k:2<=n)(a n₀:Nat)(s:ByteArray)(i:s.size<=1000000)(w:World)(b:a<w.heap.size)(c:n₀<=w.heap.size)(p:Boxed w a 9 (.string s)) :
  SeqStopsK Fence.wide n (ai β) 141 #[.pointer (some ⟨a,0,none⟩)] ayr (KpB n₀ a) (λo:List (PrC s.size)=>Prs (bs s) 0 (mP o) s.size) (λd=>∃m,Prs (bs s) 0 (mP d) m) s.size w:=λl J j W e f _ q g=>
 ar5 n k l a n₀ s i J j W f q ((e.block a b).trans p) (ap c e.size) g
def avg(n:Nat)(s:ByteArray)(w:World) :
  CallsIn Fence.wide n (ai β) 125 #[.string s] w λe a=>e=.returned (.func (.func 141) #[] #[.pointer (some ⟨w.heap.size,0,none⟩)])/\a=w.alloc (.cells #[.string s] 9):=by
 refine vk yN rfl trivial ?_ rfl;simp only[ntmps125,rR,fi,mc,Nat.reduceAdd,Nat.reduceSub,so,sj,ta,sG,qV,qM];gi_wp2;go_ret;exact⟨rfl,rfl⟩
def apc(n:Nat)(hn:6<=n)(s:ByteArray)(G:dN s=true)(w:World) :
  CallsIn Fence.wide n (ai β) 94 #[.string s] w λe W'=>∃v,e=.returned v/\aL iy 9 W' w.heap.size v (ki s)/\Below w.heap.size w W':=by
 have h1:1<=n:=by omega
 have aa:Fence.wide.fn 92:=trivial;have aG:Fence.wide.fn 125:=trivial;have ad:s.size<=40:=by unfold dN at G;rw[ga] at G;exact sZ G.1
 have H:s.size<=maxLen:=by unfold maxLen;omega
 have HS:=ab G;replace H:=ab H;refine callsIn_of_wp_marks zc rfl trivial ?_ rfl;simp only[ntmps94,rR,fi,mc,Nat.reduceAdd,Nat.reduceSub,so,sj,ta,sG,qV,qM]
 gi_wp2_with (first|(gi_at_call 92;refine(callsIn_wide.2 (nk s H.out _)).mono ?_;rintro e w' ⟨rfl,rfl⟩;rw[HS.out])|(gi_at_call 125;refine(avg (n-1) s _).mono ?_;rintro e w' ⟨rfl,rfl⟩))
 have bS:=((Boxed.new w 9 (.string s)).alloc (.cells #[.slice none 0 0] 83)).alloc (.cells #[.string s] 9);have bO:=(Boxed.new (w.alloc (.cells #[.string s] 9)) 83 (.slice none 0 0)).alloc (.cells #[.string s] 9);have S:=Boxed.new ((w.alloc (.cells #[.string s] 9)).alloc (.cells #[.slice none 0 0] 83)) 9 (.string s);simp only[mp] at bO S;have N:Below w.heap.size w (((w.alloc (.cells #[.string s] 9)).alloc (.cells #[.slice none 0 0] 83)).alloc (.cells #[.string s] 9)):=(((fd _ w).alloc (am _) _).alloc (by simp) _).alloc (by simp;omega) _;have hz:(((w.alloc (.cells #[.string s] 9)).alloc (.cells #[.slice none 0 0] 83)).alloc (.cells #[.string s] 9)).heap.size=w.heap.size+3:=by simp
 obtain⟨W0,V⟩:∃W0,((w.alloc (.cells #[.string s] 9)).alloc (.cells #[.slice none 0 0] 83)).alloc (.cells #[.string s] 9)=W0:=⟨_,rfl⟩;try simp only[mp]
 rw[V] at bS bO S N hz ⊢;refine wpIn_rangeFunc_ownH rfl h1 (gf:=141) (lb:=#[.pointer (some ⟨w.heap.size+1+1,0,none⟩)]) rfl trivial (enters_of xC (by kernel_rfl) rfl)
  (alY (n-1) (by omega) (w.heap.size+1+1) w.heap.size s (by omega) W0 (by omega) (by omega) S) KpB.t
  (λW l o o' hl h hc hw=>⟨belowK_b (w:=w) (am _) W l o o' (by omega) h hc hw,ul (by omega)⟩) (fd _ _) (λ_=>rfl)
  (λb W=>(((∃v,Boxed W (w.heap.size+1) 83 v/\W.ownsRow W0.heap.size 9 1 v b.length (eb iy (dZ s (mP b)))/\True)/\Boxed W w.heap.size 9 (.string s))/\Boxed W (w.heap.size+1+1) 9 (.string s))/\Below w.heap.size w W)
  (λ_ _ _=>False)
  (uY (uY (uY (Own.from (holdsRow_own W0.heap.size (w.heap.size+1) 83 9 1 (λb:List (PrC s.size)=>b.length) (λb=>eb iy (dZ s (mP b))) (λ_ _=>True)) _) (Own.from (boxed_own _ _ _) _)) (Own.from (boxed_own _ _ _) _)) (ownFrom_below (am _) (by omega)))
  (λ_ _ _ _ _ G _ _=>G)
  ⟨⟨⟨⟨_,bO,ut _ _ _ _,trivial⟩,bS⟩,S⟩,N⟩
  (λx Z W=>Z={tmps:=#[.string s,.pointer (some ⟨w.heap.size,0,none⟩),.slice none 0 0,.pointer (some ⟨w.heap.size+1,0,none⟩),.int .i64 x.p.1,.int .i64 x.p.2,.string s,.bool true,.bool false,.string s,.func (.func 141) #[] #[.pointer (some ⟨w.heap.size+1+1,0,none⟩)],.int .i64 x.p.1,.int .i64 x.p.2,undef,undef,undef,undef,undef,undef,undef,undef],defers:=[]})
  (λx Z _ X Y af G hg hr=>G)
  ?assign ?body ?done ?stop
 case assign=>
  rintro l b x W K ⟨⟨⟨⟨v,f,d, -⟩,t⟩,u⟩,i⟩ O;gi_wp2;exact O _ _ ((KeepsOthers.refl _).from _) KpB.refl ⟨⟨⟨⟨v,f,d,trivial⟩,t⟩,u⟩,i⟩ rfl
 case body=>
  rintro l b x Z W hl ⟨r,hr⟩ ⟨⟨⟨⟨v,f,d, -⟩,t⟩,u⟩,i⟩ rfl al;obtain⟨⟨B,z⟩,m,q⟩:=x;dsimp only at m q ⊢;have a1:dZ s (mP (b++[⟨(B,z),m,q⟩]))=dZ s (mP b)++[s.extract B z]:=by simp[dZ,mP]
  have cO:W.cell? ⟨w.heap.size+1,0,none⟩=some v:=f.cell;have cS:W.cell? ⟨w.heap.size,0,none⟩=some (.string s):=t.cell;have I:=adW (β:=β);have a0:=i.size;gi_wp2;have aI:=ae cO;have aJ:=ae cS;refine afD (λ_=>trivial) (by kernel_rfl) (by rintro⟨a,w,h⟩;exact h) 6 [0,1,2,3,4] [5] I (by kernel_rfl) (by kernel_rfl) ?_;simp only[pick,List.map,gn,gt];repeat(go_big_quiet_step (fail))
  refine ip ?_;apply Exists.intro;apply bu (akK W.heap.size 9 #[.string (s.extract B z)])
  .rfl
  .exact λv x y h a8=>h.keep a8
  .intro x _ Qx hQ;go_wp2;exact hQ _ _ (au _ _) (akK.new _ _ _ x.ok.size)
  intro v5;refine aS ?_;intro w2 p xx dh hF;dsimp only[dV] at hF;try rw[dh] at hF
  obtain⟨⟨g,rfl,hg,a2⟩, -⟩:=hF;simp only[List.drop];have ax:=p.size;have ao:l<W.heap.size:=(dl.1 hr).1;have L:=aey d p;have a5:Boxed w2 (w.heap.size+1) 83 v:=(p.block _ f.lt).trans f;obtain⟨A,c,rfl⟩:=gT d;refine af2 (F:=iy) (base:=W0.heap.size) (v:=.slice A b.length c) (xs:=dZ s (mP b)) rfl (.tmp 13) (.tmp 18) 83 rfl ab3 (s.extract B z) rfl (by unfold aL;rw[show(dZ s (mP b)).length=b.length from by simp[dZ,mP]];exact L) rfl a2 rfl (by rw[show(dZ s (mP b)).length=b.length from by simp[dZ,mP]];omega) (by omega) ?_;intro v3 w3 R mK a9;have ay:(dZ s (mP b)++[s.extract B z]).length=(b++[(⟨(B,z),m,q⟩:PrC s.size)]).length:=by simp[dZ,mP]
  unfold aL at R;rw[<-a1,show(dZ s (mP (b++[⟨(B,z),m,q⟩]))).length=(b++[(⟨(B,z),m,q⟩:PrC s.size)]).length from by simp[dZ,mP]] at R;obtain⟨Q,P,mS,iA,a6,a4⟩:=apa (W:=w2) (n₀:=w.heap.size) a5 (by decide) L (by omega) (by omega) (by omega) R (apb mK);have aR:=Q.cell;have an:=Q.frozen;obtain⟨A3,c3,rfl⟩:=gT R;go_wp2;have a7:KeepsOthers W w2:=vU (wV p) λj o ej _=>by cases ej
  have C:∀k,k<W0.heap.size->k≠w.heap.size+1->(w3.setCell ⟨w.heap.size+1,0,none⟩ (.slice A3 (b++[(⟨(B,z),m,q⟩:PrC s.size)]).length c3)).heap[k]?=W.heap[k]?:=λk hk T=>(a4 k hk (by omega) T).trans (p.block k (by omega));have J:=(p.mono a0).trans a6;simp only[aE,fi,mc,lP] at P mS iA C J;refine⟨(a7.trans iA).from _,⟨J,C _ (by omega) (by omega)⟩,⟨⟨⟨_,P, ?_,trivial⟩,(C _ (by omega) (by omega)).trans t⟩,(C _ (by omega) (by omega)).trans u⟩,i.trans J⟩;simp only[aE,fi,mc,lP];exact mS
 case done=>
  rintro D zs W hD a3 ⟨⟨⟨⟨v,f,d, -⟩,t⟩,u⟩,i⟩ O;have cO:=f.cell;obtain⟨A,c,rfl⟩:=gT d;gi_wp2;refine⟨by simp,.inl ⟨_,_,rfl,run_takeDeferred O, ?_⟩⟩;have U:=belowK_b (w:=w) (am _) W D _ (.deferred none) (by omega) O rfl rfl;have E:=a3.cut;have M:(ki s).length=zs.length:=by rw[<-E];simp[dZ,mP]
  refine⟨_,results_tmp rfl _ _ _,_,rfl, ?_,i.trans U⟩;have:=ownsRow_putObj d (.deferred none) O rfl;unfold aL;rw[M,<-E];exact aiI this (by omega)
 case stop=>
  rintro D c b W _ _ h _;exact h.elim
def ar6(s:ByteArray)(a:dN s=true)(w:World) :
  Calls (ai β) 94 #[.string s] w λe W'=>∃v,e=.returned v/\aL iy 9 W' w.heap.size v (ki s)/\Below w.heap.size w W':=
 callsIn_wide.1 (apc 6 (am _) s a w)
end
section
variable {β:Bool}
open Go.RowKit
def apd{l:List ByteArray}(a:dN (rK (jN l))=true)(b:ki (rK (jN l))=l):jU l=(rK (jN l),true):=by unfold jU;rw[du ⟨a,b⟩]
def ar7{l:List ByteArray}(h:¬(dN (rK (jN l))=true/\ki (rK (jN l))=l)):jU l=(⟨#[]⟩,false):=by unfold jU;rw[da h]
def avh(l:List ByteArray)(b:∀s∈l,bD (bs s)):(rK (jN l)).size<=8*l.length:=by
 rw[<-aN,amR (afa l),<-agl,qh];exact acX λs a=>(gj (b s a)).2
def ape(l:List ByteArray)(y:∀s∈l,bD (bs s))(J:l.length<=2147483647)(v:Value)(w:World)(p hi:Nat)(h:dA w p hi l [v])(A:hi<=w.heap.size) :
  Calls (ai β) 73 #[v] w λe D=>e=.returned (.tuple #[.string (jU l).1,.bool (jU l).2])/\Below w.heap.size w D:=by
 have m:=avh l y;have d:(rK (jN l)).size<=maxLen:=by unfold maxLen;omega
 have n:=ab (λH E=>apd (l:=l) H E);have g:=ab (ar7 (l:=l));have t:=ab (ayo (β:=β) l y J v w p hi h A);generalize rK (jN l)=s at n g t m d;generalize jU l=r at n g ⊢;go_enter zu,ntmps73;go_wp2;refine t.out.mono ?_;rintro e B ⟨rfl,f⟩;go_wp2;refine(nk (β:=β) s d _).mono ?_;rintro e O ⟨rfl,rfl⟩;by_cases a:dN s=true
 .rw[a];go_wp2;refine(ar6 (β:=β) s a _).mono ?_;rintro e N ⟨F,rfl,I,j⟩;have k:∀x∈ki s,x.size<=maxLen:=λx i=>by have:=(gj (nR (kW a).2 x i)).2;unfold maxLen;omega
  have C:=iv.sl (aL.deep I k B.heap.size) (am _);have G:=j.size;have z:=f.size;have L:=dA.ar.below h (f.trans (j.mono z)) A;obtain⟨q,c⟩:∃q:Bool,q=true↔ki s=l:=by
   by_cases i:ki s=l
   .exact⟨true,by simp[i]⟩
   .exact⟨false,by simp[i]⟩
  replace c:=ab c;go_wp2;refine(alW (β:=β) (ki s) l F v _ _ _ p hi C L (am _) (by omega) q c.out).mono ?_;rintro e M ⟨rfl,K⟩;have u:=f.trans ((j.mono z).trans (K.mono (by omega)));cases q with
  |true=>
   have b:=n.out a (c.out.1 rfl);go_wp2;go_ret2;exact⟨by rw[b];rfl,u⟩
  |false=>
   have b:=g.out λo=>by have:=c.out.2 o.2;cases this
   go_wp2;go_ret2;exact⟨by rw[b];rfl,u⟩
 .have b:=g.out λo=>a o.1;rw[Bool.eq_false_iff.2 a];go_wp2;go_ret2;exact⟨by rw[b];rfl,f⟩
end
section
variable {β:Bool}
open Go.RowKit
def ar8(t:List Nd)(i:Nat)(x:Nd):Prop:=aht x/\(∀y,0<i->t[i-1]?=some y->Op.bytesLess y.p.toList x.p.toList=true)/\∀k y,k<i->t[k]?=some y->acV y.p x.p=false
def adZ(h:jl s=true):s.size<=3:=by rcases lz h with h|h<;>omega
def ar9(xs:List Nd)(v:Value)(w:World)(lo hi:Nat)(h:fM w lo hi xs [v])(V:hi<=w.heap.size)(q:Bool)(o:q=true↔anm xs) :
  Calls (ai β) 74 #[v] w λe w'=>e=.returned (.bool q)/\Below w.heap.size w w':=by
 have L:=ab o;clear o;obtain⟨A,c,rfl⟩:=h.form;obtain⟨_,hc,hx⟩:=h.1.len_;unfold maxLen at hx;go_enter zt,ntmps74;go_wp2;go_loopw [7] (λii wr=>∃k:Nat,k<=xs.length/\ii=.int .i64 k/\(∀i x,i<k->xs[i]?=some x->ar8 xs i x)/\Below w.heap.size w wr) (λii _=>xs.length-(intOf ii).toNat)
 case atStart=>exact⟨0,fa _,rfl,λi x hi=>absurd hi (sS i),fd _ _⟩
 case round=>
  obtain⟨k,hk,rfl,U,Z⟩:=hrel;replace U:=ab U;by_cases D:k<xs.length
  .obtain⟨x,G⟩:=aq D;obtain⟨b0,a6,rfl,_,a5,J,c0,c1⟩:=lI (fM.ar.below h Z V) G;replace G:=ab G;go_wp2;have kb:=aX.new wr 106 #[.string x.p,.string x.b];have ba:=au wr (.cells #[.string x.p,.string x.b] 106);have a3:wr.heap.size+1=(wr.alloc (.cells #[.string x.p,.string x.b] 106)).heap.size:=by simp
   generalize wr.alloc (.cells #[.string x.p,.string x.b] 106)=wf at *;have g:wf.cell? ⟨wr.heap.size,0,none⟩=some (.string x.p):=kb.cell 0;have B:wf.cell? ⟨wr.heap.size,1,none⟩=some (.string x.b):=kb.cell 1;have p:=ag Z ba;clear kb c0 c1;cases a:jl x.p
   .replace a:=ab a;have d:q=false:=by
     rw[<-mT,L.out];rintro⟨-,h⟩;replace h:=h _ _ G.out;have h:=h.1.1;rw[a.out] at h;cases h
    have r:=ab d;clear d;have H:=ae g;have I:=ae B;refine aQ (by kernel_rfl) (by kernel_rfl) ?_;repeat(go_big_quiet_step (first|(go_at_call 95;refine dO (v:=.bool false) ?_;rw[<-a.out];exact pU (β:=β) x.p J.1 _)))
    refine ip ?_;intro wq n;have o:=bG n;clear n H I;go_wp2;go_ret;exact⟨aF r.out.symm,ag p o⟩
   .replace a:=ab a;cases b:dN x.b
    .replace b:=ab b;have d:q=false:=by
      rw[<-mT,L.out];rintro⟨-,h⟩;replace h:=h _ _ G.out;have h:=h.1.2;rw[b.out] at h;cases h
     have r:=ab d;clear d;have H:=ae g;have I:=ae B;refine aQ (by kernel_rfl) (by kernel_rfl) ?_;repeat(go_big_quiet_step (first|(go_at_call 95;refine dO (v:=.bool true) ?_;rw[<-a.out];exact pU (β:=β) x.p J.1 _)|(go_at_call 92;refine dP (v:=.bool false) ?_;rw[<-b.out];exact nk (β:=β) x.b J.2 _)))
     refine ip ?_;intro wq n;have o:=bG n;clear n H I;go_wp2;go_ret;exact⟨aF r.out.symm,ag p o⟩
    .replace b:=ab b;by_cases a2:k=0
     .have t1:=bv (show ¬(0<k) by omega);have X:aht x/\∀y,0<k->xs[k-1]?=some y->Op.bytesLess y.p.toList x.p.toList=true:=⟨⟨a.out,b.out⟩,λy h0=>by omega⟩;have Y:=ab X;clear X;clear a2;have H:=ae g;have I:=ae B;refine aQ (by kernel_rfl) (by kernel_rfl) ?_;repeat(go_big_quiet_step (first|(go_at_call 95;refine dO (v:=.bool true) ?_;rw[<-a.out];exact pU (β:=β) x.p J.1 _)|(go_at_call 92;refine dP (v:=.bool true) ?_;rw[<-b.out];exact nk (β:=β) x.b J.2 _)))
      refine ip ?_;intro wq n;have o:=bG n;clear n H I;have E:∀y∈xs.take k,y.p.size<=3:=λy f=>by
       obtain⟨i,hi⟩:=rD.1 f;rw[qD] at hi;split at hi
       .rename_i S;exact adZ (U.out i y S hi).1.1
       .cases hi
      have Q:=ab E;clear E;have cz:=aU o g;have l:=ag p o;have R:=adZ a.out;go_wp2;refine(oF (β:=β) x R xs k hk Q.out _ c wr.heap.size _ lo hi (fM.ar.below h l V) (ap V l.size) cz).mono ?_;rintro e w4 ⟨q4,rfl,O,b4⟩;have s:=ag l b4;rcases O with⟨rfl,j,y,N,f,K⟩|⟨rfl,C⟩
      .have HY:=ab f;replace K:=ab K;clear f;have d:q=false:=by
        rw[<-mT,L.out];rintro⟨-,h⟩;replace h:=h _ _ G.out;have h:=h.2.2 j y N HY.out;rw[K.out] at h;cases h
       have r:=ab d;clear d;go_wp2;go_ret;exact⟨aF r.out.symm,s⟩
      .have t:∀i z,i<k+1->xs[i]?=some z->ar8 xs i z:=λi z hi M=>by
        rcases pm i k with D|oI
        .exact U.out i z D M
        .obtain rfl:i=k:=by omega
         rw[G.out] at M;cases M;exact⟨Y.out.1,Y.out.2,λj y N f=>C j y N f⟩
       have P:=ab t;clear t C;go_wp2;go_roundw
       case rel=>exact⟨k+1,by omega,by go_num,P.out,s⟩
       simp[intOf];omega
     .obtain⟨k',oP⟩:∃m,m=k-1:=⟨_,rfl⟩;have e1:(k:Int)-1=((k':Nat):Int):=by omega
      have a1:k'<xs.length:=by omega
      have t1:=dj (show 0<k by omega);obtain⟨z,F⟩:=aq a1;obtain⟨b1,a4,e0,_,_,a7,d0,_⟩:=lI (fM.ar.below h p V) F;simp only[me,qA,qw] at e0;obtain⟨rfl,rfl⟩:=e0;replace F:=ab F;have W:=ab oP;have a0:0<k:=by omega
      clear oP;cases u:Op.bytesLess z.p.toList x.p.toList
      .have T:=ab u;have tr:=mO x.p.toList z.p.toList;rw[u,Bool.not_false] at tr;have d:q=false:=by
        rw[<-mT,L.out];rintro⟨-,h⟩;replace h:=h _ _ G.out;have h:=h.2.1 z a0 (by rw[<-W.out];exact F.out);rw[T.out] at h;cases h
       have r:=ab d;clear d;have H:=ae g;have I:=ae B;have bB:=ae d0;refine aQ (by kernel_rfl) (by kernel_rfl) ?_;repeat(go_big_quiet_step (first|(go_at_call 95;refine dO (v:=.bool true) ?_;rw[<-a.out];exact pU (β:=β) x.p J.1 _)|(go_at_call 92;refine dP (v:=.bool true) ?_;rw[<-b.out];exact nk (β:=β) x.b J.2 _)))
       refine ip ?_;intro wq n;have o:=bG n;clear n H I bB;go_wp2;go_ret;exact⟨aF r.out.symm,ag p o⟩
      .have T:=ab u;have tr:=mO x.p.toList z.p.toList;rw[u,vD] at tr;have X:aht x/\∀y,0<k->xs[k-1]?=some y->Op.bytesLess y.p.toList x.p.toList=true:=⟨⟨a.out,b.out⟩,λy h0 f=>by
        rw[<-W.out,F.out] at f;cases f;exact T.out⟩
       have Y:=ab X;clear X;have H:=ae g;have I:=ae B;have bB:=ae d0;refine aQ (by kernel_rfl) (by kernel_rfl) ?_;repeat(go_big_quiet_step (first|(go_at_call 95;refine dO (v:=.bool true) ?_;rw[<-a.out];exact pU (β:=β) x.p J.1 _)|(go_at_call 92;refine dP (v:=.bool true) ?_;rw[<-b.out];exact nk (β:=β) x.b J.2 _)))
       refine ip ?_;intro wq n;have o:=bG n;clear n H I bB;clear d0 u e1 tr;have E:∀y∈xs.take k,y.p.size<=3:=λy f=>by
        obtain⟨i,hi⟩:=rD.1 f;rw[qD] at hi;split at hi
        .rename_i S;exact adZ (U.out i y S hi).1.1
        .cases hi
       have Q:=ab E;clear E;have cz:=aU o g;have l:=ag p o;have R:=adZ a.out;go_wp2;refine(oF (β:=β) x R xs k hk Q.out _ c wr.heap.size _ lo hi (fM.ar.below h l V) (ap V l.size) cz).mono ?_;rintro e w4 ⟨q4,rfl,O,b4⟩;have s:=ag l b4;rcases O with⟨rfl,j,y,N,f,K⟩|⟨rfl,C⟩
       .have HY:=ab f;replace K:=ab K;clear f;have d:q=false:=by
         rw[<-mT,L.out];rintro⟨-,h⟩;replace h:=h _ _ G.out;have h:=h.2.2 j y N HY.out;rw[K.out] at h;cases h
        have r:=ab d;clear d;go_wp2;go_ret;exact⟨aF r.out.symm,s⟩
       .have t:∀i z,i<k+1->xs[i]?=some z->ar8 xs i z:=λi z hi M=>by
         rcases pm i k with D|oI
         .exact U.out i z D M
         .obtain rfl:i=k:=by omega
          rw[G.out] at M;cases M;exact⟨Y.out.1,Y.out.2,λj y N f=>C j y N f⟩
        have P:=ab t;clear t C;go_wp2;go_roundw
        case rel=>exact⟨k+1,by omega,by go_num,P.out,s⟩
        simp[intOf];omega
  .obtain rfl:k=xs.length:=by omega
   by_cases h6:xs.length<=6
   .have t1:=dj (show(xs.length:Int)<=6 by omega);have d:q=true:=L.out.2 ⟨h6,λi x hx=>U.out i x (aB hx) hx⟩;have r:=ab d;clear d;go_wp2;go_ret;exact⟨aF r.out.symm,Z⟩
   .have t1:=bv (show ¬((xs.length:Int)<=6) by omega);have d:q=false:=by
     rw[<-mT,L.out];rintro⟨h, -⟩;exact h6 h
    have r:=ab d;clear d;go_wp2;go_ret;exact⟨aF r.out.symm,Z⟩
end
section
variable {β:Bool}
open Go.RowKit
noncomputable def xFA:Func:=by
 apply(λ(x:Func) (_:{f72 with body:=some jZ}=x)=>x)
 case x=>dsimp only[jZ,aaQ,atK,avW,avX,avY,avZ,av0,av1,av2,av3,av4,av9,azv,av5,av6,av7,av8,aqk,aql,aqm,amI,aiu,ac9,awa,awb,ais,ait,iE,aaR,atM,atN,atO,aqj,atP,aoa,kOp,aaT,aaS,mF,cT,cR,cf,f72,Option.getD,List.map]
def ays:qFA true=xFA:=by kernel_rfl
def asa:(ai true).funcs[72]?=some xFA:=(acB true).trans (jp some ays)
@[go_sem] theorem aAU(args:Array Value)(w:World):(callFunc 72 args).run (ai true) w=.ok (.enter 72 args) w:=by
 have a:=cJ func72;exact lr asa a rfl args w
end
section
variable {β:Bool}
open Go.RowKit
def FFe:Flat (ByteArray×Bool):=⟨2,λx=>[.string x.1,.bool x.2],λx=>x.1.size<=maxLen,λ_=>rfl,λx u a=>by
 simp only[pa,rF,ue] at a;rcases a with rfl|rfl<;>rfl,by decide⟩
def avi:((ai true).info? 151).map (λi=>(i.zero,i.size,i.bytes))=some (some (.agg #[.string ⟨#[]⟩,.bool false]),2,24):=by kernel_rfl
@[go_sem] theorem aBH(n:Int)(B:Option Addr)(m c:Nat)(w:World):(Instr.field 54 (.agg #[.int .i64 n,.slice B m c]) 0).run (ai true) w=.ok (.int .i64 n) w:=by simp[Instr.field,mt xJ,asAgg,go_sem]
@[go_sem] theorem aBI(n:Int)(B:Option Addr)(m c:Nat)(w:World):(Instr.field 54 (.agg #[.int .i64 n,.slice B m c]) 1).run (ai true) w=.ok (.slice B m c) w:=by simp[Instr.field,mt xJ,asAgg,go_sem]
@[go_sem] theorem aBJ(n:Int)(s:ByteArray)(w:World):(Instr.field 63 (.agg #[.int .i64 n,.string s]) 0).run (ai true) w=.ok (.int .i64 n) w:=by simp[Instr.field,mt xI,asAgg,go_sem]
@[go_sem] theorem aBK(n:Int)(s:ByteArray)(w:World):(Instr.field 63 (.agg #[.int .i64 n,.string s]) 1).run (ai true) w=.ok (.string s) w:=by simp[Instr.field,mt xI,asAgg,go_sem]
def ayt(key:Int)(l:List iP)(dF:List Int)(w:World)(e:Ending)(w':World):Prop:=
 ∃v b,e=.returned (.tuple #[v,.bool b])/\(b=true↔∀n∈dF,(df key l n).2=true)/\(b=true->aL iy 9 w' w.heap.size v (dF.map λn=>(df key l n).1))/\Below w.heap.size w w'
noncomputable def alZ(key:Int)(l:List iP)(ns:List Int):List ByteArray:=ns.map λn=>(df key l n).1
noncomputable def aaq(key:Int)(l:List iP)(dF:List Int)(k:Nat):List (ByteArray×Bool):=(dF.take k).map (df key l)++List.replicate (dF.length-k) (⟨#[]⟩,false)
def avj(h:k<dF.length):(aaq key l dF k)[k]?=some (⟨#[]⟩,false):=by
 unfold aaq;have a:((dF.take k).map (df key l)).length=k:=by rw[qh,eg];omega
 rw[ql (by omega),a,tq,un,du (by omega)]
def asb{n:Int}(h:dF[k]?=some n):(aaq key l dF k).set k (df key l n)=aaq key l dF (k+1):=by
 have b:=aB h;unfold aaq;have c:((dF.take k).map (df key l)).length=k:=by rw[qh,eg];omega
 rw[uL _ _ (by omega),c,tq,lE h,tF,tf]
 congr 1
 obtain⟨m,a⟩:∃m,dF.length-k=m+1:=⟨dF.length-k-1,by omega⟩;rw[a,List.replicate_succ,ff,show dF.length-(k+1)=m by omega];rfl
def apf:∀n:Nat,(madeCells #[.string ⟨#[]⟩,.bool false] (n*2)).toList=eb FFe (List.replicate n (⟨#[]⟩,false)):=λn=>by
 apply tL;intro j;rcases pm j (n*2) with h|h
 .have d:j / 2<n:=by omega
  have b:(List.replicate n ((⟨#[]⟩,false):ByteArray×Bool))[j / 2]?=some (⟨#[]⟩,false):=by rw[un,du d]
  have e:j=j / 2*2+j % 2:=by omega
  rw[ef];have c:(madeCells #[.string ⟨#[]⟩,.bool false] (n*2))[j]?=some (#[Value.string ⟨#[]⟩,Value.bool false][j % 2]!):=by
   unfold madeCells;simp[h]
  rw[c];rcases vu j with a|a
  .have:=eu FFe _ (j / 2) 0 _ (.string ⟨#[]⟩) b rfl;rw[show j / 2*FFe.sz+0=j by show j / 2*2+0=j;omega] at this;rw[this,a];rfl
  .have:=eu FFe _ (j / 2) 1 _ (.bool false) b rfl;rw[show j / 2*FFe.sz+1=j by show j / 2*2+1=j;omega] at this;rw[this,a];rfl
 .rw[ef,qj (by rw[size_madeCells];exact h),rm (by rw[et,qC];exact h)]
def ase(w:World)(n:Nat)(a:n<=maxLen)(h:dF.length=n:=by rfl) :
  aL FFe 151 (w.alloc (.cells (madeCells #[.string ⟨#[]⟩,.bool false] (n*2)) 151)) w.heap.size (.slice (some ⟨w.heap.size,0,none⟩) n n) (aaq key l dF 0):=by
 have e:aaq key l dF 0=List.replicate n (⟨#[]⟩,false):=by unfold aaq;rw[h];rfl
 rw[e];refine⟨et FFe _,.inr ⟨w.heap.size,n,_,by rw[qC],am _,aX.new _ _ _,by rw[qC];exact am _,a,by rw[size_madeCells];rfl, ?_⟩⟩;rw[apf,qC];exact oS (by rw[et,qC];exact am _)
def anp{base g : Nat}{xs:List (ByteArray×Bool)}(h:aL FFe 151 w base (.slice (some ⟨g,0,none⟩) n n) xs){x:ByteArray×Bool}(a:xs[k]?=some x) :
  w.cell? ⟨g,k*2,none⟩=some (.string x.1)/\w.cell? ⟨g,k*2+1,none⟩=some (.bool x.2):=by
 obtain⟨A,c,e⟩:=aL.form h;simp only[nF] at e;obtain⟨-,rfl, -⟩:=e;exact⟨h.cell a (j:=0) rfl,h.cell a (j:=1) rfl⟩
def avk{base g : Nat}(h:aL FFe 151 w base (.slice (some ⟨g,0,none⟩) n n) (aaq key l dF k))(m:k<dF.length) :
  w.cell? ⟨g,k*2,none⟩=some (.string ⟨#[]⟩)/\w.cell? ⟨g,k*2+1,none⟩=some (.bool false)/\(∀j,w.frozen? ⟨g,j,none⟩=false)/\(∀j (p:Addr) u,(w.setCell p u).frozen? ⟨g,j,none⟩=false)/\
  ∀y:ByteArray×Bool,aL FFe 151 ((w.setCell ⟨g,k*2,none⟩ (.string y.1)).setCell ⟨g,k*2+1,none⟩ (.bool y.2)) base (.slice (some ⟨g,0,none⟩) n n) ((aaq key l dF k).set k y):=by
 obtain⟨A,c,e⟩:=aL.form h;simp only[nF] at e;obtain⟨-,rfl, -⟩:=e;have a:=avj (key:=key) (l:=l) m;obtain⟨o,q⟩:=anp h a;refine⟨o,q,λj=>h.frozen rfl j,λj p u=> ?_,λy=> ?_⟩
 .rw[uK];exact h.frozen rfl j
 .have d:=h.put a (j:=0) (y:=(y.1,false)) (u:=.string y.1) (by decide) rfl;have f:aL FFe 151 (w.setCell ⟨g,k*FFe.sz+0,none⟩ (.string y.1)) base (.slice (some ⟨g,0,none⟩) ((aaq key l dF k).set k (y.1,false)).length (aaq key l dF k).length) ((aaq key l dF k).set k (y.1,false)):=by rw[qW];exact d
  have b:=f.put (i:=k) (x:=(y.1,false)) (by rw[rz (aB a)]) (j:=1) (y:=y) (u:=.bool y.2) (by decide) rfl;rw[qW,acb] at b;exact b
def al0 (key:Int) (hk:1<=key/\key<=99) (l:List iP) (A:Option Addr) (c:Nat) (dF:List Int) (v2:Value) (lo hi:Nat) (w:World) (x0 x1:Value)
  (aR:hi<=w.heap.size) (hl:PkL w A l) (a3:l.length<=c) (hc:c<=maxLen) (iq:∀p∈l,1<=p.2.length/\cA p.1) (y:bC aam 1 w lo hi dF [v2]) (b1:dF.length<=2147483647)
  (e0:w.cell? ⟨1,0,none⟩=some x0) (e1:w.cell? ⟨2,0,none⟩=some x1) :
  Calls (ai true) 72 #[.int .i64 key,.slice A l.length c,v2] w (ayt key l dF w):=by
 obtain⟨A2,c2,rfl⟩:=y.form;obtain⟨-,ay,a1⟩:=y.len_;have HC:=ab hc;unfold maxLen at hc a1;have aG:=aoA (P:=ai true) 138 151 _ 2 24 yo avi dF.length (by omega) (by omega);have a5:xFA.ntmps=45:=ntmps72;have O:xFA.results=#[.tmp 6,.tmp 7]:=results72;go_enter asa,a5;go_wp2
 go_loop [20] (λi=>∃k:Nat,k<=l.length/\i=.int .i64 k) (λi=>l.length-(intOf i).toNat)
 case atStart=>exact⟨0,fa _,rfl⟩
 case round=>
  obtain⟨k,af,rfl⟩:=hrel;by_cases Z:k<l.length
  .obtain⟨p,mR⟩:=aq Z;obtain⟨b,ao,B,c3,rfl,b8,aJ,an,aI,a4,a0⟩:=hl k p mR;have N:=iq p (db mR);obtain⟨N,a6⟩:=N;unfold cA at a6;unfold maxLen at a4;obtain⟨S,T⟩:=p;dsimp only at *;have w1:wrap64 (S*1)=S:=by unfold wrap64;omega
   have t1:(S ==S)=true:=tp _;go_wp2
   go_loop [5] (λjj=>∃j:Nat,j<=T.length/\jj=.int .i64 j) (λjj=>T.length-(intOf jj).toNat)
   case atStart=>exact⟨0,fa _,rfl⟩
   case round=>
    obtain⟨j,b7,rfl⟩:=hrel;by_cases U:j<T.length
    .obtain⟨x,aa⟩:=aq U;obtain⟨b2,jb,rfl,b5,b0,ad,X,a8⟩:=a0 j x aa;unfold cA at X;unfold maxLen at a8;obtain⟨R,xb⟩:=x;dsimp only at *;have w2:wrap64 (R*1)=R:=by unfold wrap64;omega
     have t2:(R ==R)=true:=tp _;go_wp2
     go_round
     case rel=>exact⟨j+1,by omega,by go_num⟩
     simp[intOf];omega
    .obtain rfl:j=T.length:=by omega
     go_wp2
     go_round
     case rel=>exact⟨_,_,_,_,_,_,_,_,_,⟨k+1,by omega,rfl⟩,rfl,rfl,rfl,rfl,rfl,rfl,rfl,rfl,by go_num⟩
     show l.length-((k:Int)+1).toNat<l.length-(k:Int).toNat;omega
  .obtain rfl:k=l.length:=by omega
   go_wp2;have M:=ase (key:=key) (l:=l) (dF:=dF) w dF.length (by unfold maxLen;omega);have a2:=au w (.cells (madeCells #[.string ⟨#[]⟩,.bool false] (dF.length*2)) 151);generalize w.alloc (.cells (madeCells #[.string ⟨#[]⟩,.bool false] (dF.length*2)) 151)=w0 at *;go_loopw [28] (λz wr=>∃k:Nat,k<=dF.length/\z=.int .i64 k/\aL FFe 151 wr w.heap.size (.slice (some ⟨w.heap.size,0,none⟩) dF.length dF.length) (aaq key l dF k)/\Below w.heap.size w wr) (λz _=>dF.length-(intOf z).toNat)
   case atStart=>exact⟨0,fa _,rfl,M,a2⟩
   case round=>
    obtain⟨k,aY,rfl,C,a⟩:=hrel;by_cases o:k<dF.length
    .obtain⟨n,f⟩:=aq o;obtain⟨b3,W,es,rfl,b6,aT,_,⟨rfl,J⟩,a9⟩:=((bC.loc aam.loc).below y a aR).at_ f;have d0:wr.cell? ⟨b3,W+k,none⟩=some (.int .i64 n):=by simpa using a9 0 _ rfl
     unfold cA at J;have w3:wrap64 (n*1)=n:=by unfold wrap64;omega
     have t3:(n ==n)=true:=tp _;have s:=asb (key:=key) (l:=l) f;replace s:=ab s;go_wp2;refine(ang wr key A c l n hk.1 hk.2 a3 (by omega) (hl.below a) J).mono ?_;rintro e w5 ⟨v,rfl,rfl,mS⟩;have V:=C.below mS;obtain⟨f0,f1,z0,z1,Q⟩:=avk V o;have iA:=ag a mS;have HP:=ab (Q (df key l n));go_wp2;go_roundw
     case rel=>exact⟨k+1,by omega,by go_num,by rw[<-s.out];exact HP.out,(iA.setCell (by dsimp only;omega) _).setCell (by dsimp only;omega) _⟩
     simp[intOf];omega
    .obtain rfl:k=dF.length:=by omega
     replace y:=ab y;go_wp2;have H:=au wr (.cells #[.slice (some ⟨w.heap.size,0,none⟩) dF.length dF.length] 138);have q:=C.below H;have g:=ag a H;have e1:aaq key l dF dF.length=dF.map (df key l):=by unfold aaq;rw[gE,tq,List.replicate_zero,sg]
     rw[e1] at q;generalize wr.alloc (.cells #[.slice (some ⟨w.heap.size,0,none⟩) dF.length dF.length] 138)=w1 at *;go_loopw [12,31] (λoo z wr=>∃k:Nat,k<=dF.length/\z=.int .i64 k/\aL iy 9 wr w.heap.size oo (alZ key l (dF.take k))/\aL FFe 151 wr w.heap.size (.slice (some ⟨w.heap.size,0,none⟩) dF.length dF.length) (dF.map (df key l))/\(∀n∈dF.take k,(df key l n).2=true)/\Below w.heap.size w wr) (λ_ z _=>dF.length-(intOf z).toNat)
     case atStart=>exact⟨0,fa _,rfl,aL.nil _ _ _,q,λn y=>(by simp at y),g⟩
     case round=>
      obtain⟨k,b4,rfl,I,C,d,a⟩:=hrel;replace d:=ab d;obtain⟨So,sc,rfl⟩:=I.form;by_cases o:k<dF.length
      .obtain⟨n,f⟩:=aq o;have a7:(dF.map (df key l))[k]?=some (df key l n):=by rw[qN,f];rfl
       obtain⟨f0,f1⟩:=anp C a7;have r:(alZ key l (dF.take k)).length=k:=by unfold alZ;rw[qh,eg];omega
       have fe:alZ key l (dF.take (k+1))=alZ key l (dF.take k)++[(df key l n).1]:=by unfold alZ;rw[lE f,tF];rfl
       have t:=aop C I (by decide);replace t:=ab t;have L:=ab f;replace r:=ab r;cases E:(df key l n).2 with
       |false=>
        rw[E] at f1;replace E:=ab E;go_wp2;refine mx (v:=.tuple #[.slice none 0 0,.bool false]) (by simp[results,O,go_sem]) rfl ⟨_,false,rfl, ?_,λh=>(by cases h),a.alloc a.size _⟩;simp only[kw,uJ];intro h;have:=h n (db L.out);rw[E.out] at this;cases this
       |true=>
        rw[E] at f1;have u:∀m∈dF.take (k+1),(df key l m).2=true:=λm D=>by
         rw[lE L.out,oE] at D;rcases D with D|D
         .exact d.out m D
         .rw[ph.1 D];exact E
        replace u:=ab u;replace fe:=ab fe;have ax:=au wr (.cells #[.string (df key l n).1,.bool true] 151);have Y:=au (wr.alloc (.cells #[.string (df key l n).1,.bool true] 151)) (.cells #[.string (df key l n).1] 9);have kB:=aX.new (wr.alloc (.cells #[.string (df key l n).1,.bool true] 151)) 9 #[.string (df key l n).1];simp only[mp] at kB;have K:=(I.below ax).below Y;have q:=(C.below ax).below Y;have g:=ag (ag a ax) Y;go_wp2_with(at_builtin;refine af2 (F:=iy) (v:=.slice So (alZ key l (dF.take k)).length sc) rfl (.tmp 38) (.tmp 41) 83 rfl ab3 (df key l n).1 rfl K rfl kB rfl (by have:=r.out;omega) g.size ?_;intro va wa oa G al;obtain⟨Aa,ca,rfl⟩:=oa.form);go_roundw
        case rel=>exact⟨k+1,by omega,by go_num,by rw[fe.out];rw[aE] at oa;exact oa,q.eZ G λb hb=>t.out b hb,u.out,g.trans (G.below g.size λi hi hx=>by have:=(K.at_ hx).1;omega)⟩
        simp[intOf];omega
      .obtain rfl:k=dF.length:=by omega
       rw[gE] at I d;go_wp2;refine mx (v:=.tuple #[_,.bool true]) (by simp[results,O,go_sem]) rfl ⟨_,true,rfl,by simp only[tK];exact d.out,λ_=>I,a⟩
end
section
open Go.RowKit
structure Glo (w:World):Prop where
 key:∃x,w.cell? ⟨1,0,none⟩=some x
 piece:∃x,w.cell? ⟨2,0,none⟩=some x
def Glo.below(h:Glo w)(b:Below w.heap.size w w'):Glo w':=by
 obtain⟨⟨x,c⟩,y,a⟩:=h;exact⟨⟨x,(qx (b.block _ (eK c))).trans c⟩,⟨y,(qx (b.block _ (eK a))).trans a⟩⟩
def apg(a:ao1 key l x.ns)(b:(jU (pQ key l x.ns)).2=true):lN key l x=some ⟨x.p,(jU (pQ key l x.ns)).1⟩:=by unfold lN;rw[du ⟨a,b⟩]
def ajF(h:¬(ao1 key l x.ns/\(jU (pQ key l x.ns)).2=true)):lN key l x=none:=by unfold lN;rw[da h]
def ajG(b:x∈xs)(h:lN key l x=none):kK key l xs=none:=by
 unfold kK;rw[da];rintro⟨a, -⟩;have:=a x b;rw[h] at this;cases this
def al1{l:List ByteArray}:(jU l).1.size<=40:=by
 unfold jU;split
 .rename_i h;exact(kW h.1).1
 .exact fa _
def ajH{y:Nd}(a:xs[k]?=some x)(h:lN key l x=some y):gQ key l (xs.take (k+1))=gQ key l (xs.take k)++[y]:=by
 unfold gQ;rw[lE a,List.filterMap_append];simp[h]
def jg.itl{a:List It}(h:jg w Z hi a [.slice A n c])(o:hi<=w.heap.size):ItL w A (a.map λx=>(x.n,x.b)):=λi x e=>by
 rw[qN] at e;obtain⟨y,g,rfl⟩:=lc.1 e;obtain⟨b,d,m,rfl,p,l, -,⟨rfl,j,k⟩,f⟩:=h.at_ g;exact⟨b,d,rfl,by omega,by simpa using f 0 _ rfl,f 1 _ rfl,j,k⟩
def iI.pkl{l:List Pk}(h:iI w Z hi l [.slice A n c])(m:hi<=w.heap.size):PkL w A (acU l):=λi x e=>by
 unfold acU at e;rw[qN] at e;obtain⟨y,j,rfl⟩:=lc.1 e;obtain⟨b,a,q,rfl,s,p, -,⟨v,rfl,r,f⟩,g⟩:=h.at_ j;obtain⟨B,d,rfl⟩:=f.form;obtain⟨-,o,k⟩:=f.len_;refine⟨b,a,B,d,rfl,by omega,by have:=g 0 _ rfl;rw[tu] at this;exact this, ?_, ?_,k,f.itl m⟩
 .have:=g 1 _ rfl;rw[show(pkd y).2.length=y.its.length from qh _];exact this
 .rw[show(pkd y).2.length=y.its.length from qh _];exact o
def ayu(h:fY w Z hi xs [.slice A n c])(i:xs[k]?=some x) :
  ∃b a A' d,A=some ⟨b,a,none⟩/\Z<=b/\b<hi/\x.p.size<=maxLen/\w.cell? ⟨b,a+k*2,none⟩=some (.string x.p)/\w.cell? ⟨b,a+k*2+1,none⟩=some (.slice A' x.ns.length d)/\bC aam 1 w Z hi x.ns [.slice A' x.ns.length d]:=by
 obtain⟨b,a,m,rfl,j,g,l,⟨v,rfl,f,hi⟩,e⟩:=h.at_ i;obtain⟨A',d,rfl⟩:=hi.form;exact⟨b,a,A',d,rfl,j,g,f,by simpa using e 0 _ rfl,e 1 _ rfl,hi⟩
def pV(o:Option (List Nd))(w:World)(e:Ending)(w':World):Prop:=∃v,e=.returned (.tuple #[v,.bool o.isSome])/\aL np 106 w' w.heap.size v (o.getD [])/\(∀y∈o.getD [],np.good y)/\Below w.heap.size w w'
def pV.no{o:Option (List Nd)}(h:o=none)(a:Below w.heap.size w w'):pV o w (.returned (.tuple #[.slice none 0 0,.bool false])) w':=by
 subst h;exact⟨_,rfl,aL.nil _ _ _,λy b=>(by cases b),a⟩
theorem al3 (l:List iP) (A:Option Addr) (c:Nat) (x:Sn) (vn:Value) (lo hi:Nat) (w:World) (hg:Glo w) (aR:hi<=w.heap.size) (hl:PkL w A l) (af:l.length<=c) (hc:c<=maxLen) (iq:∀p∈l,1<=p.2.length/\cA p.1)
  (hn:fY w lo hi x.all [vn]) (o:∀y∈x.all,y.ns.length<=2147483647) (oH:x.all.length<=1099511627) :
  Calls (ai true) 55 #[.int .i64 7,.agg #[.int .i64 x.no,vn],.slice A l.length c] w (pV (kK 7 l x.all) w):=by
 obtain⟨B,d,rfl⟩:=hn.form;obtain⟨-,hd,Y⟩:=hn.len_;have HD:=ab Y;unfold maxLen at Y;have a8:=ab iq;have aI:=ab o;clear iq o;go_enter zJ,ntmps55;go_wp2;refine(ag0 (β:=true) 7 _ true (by simp)).mono ?_;rintro e w1 ⟨rfl,rfl⟩;go_wp2;have aG:=au w (.cells #[.int .i64 x.no,.slice B x.all.length d] 58);generalize w.alloc (.cells #[.int .i64 x.no,.slice B x.all.length d] 58)=w0 at *;have b1:=aG.size;go_loopw [8,20] (λoo ii wr=>∃k:Nat,k<=x.all.length/\ii=.int .i64 k/\(∀y∈x.all.take k,(lN 7 l y).isSome=true)/\aL np 106 wr w.heap.size oo (gQ 7 l (x.all.take k))/\(∀y∈gQ 7 l (x.all.take k),np.good y)/\(gQ 7 l (x.all.take k)).length=k/\Below w.heap.size w wr) (λ_ ii _=>x.all.length-(intOf ii).toNat)
 case atStart=>exact⟨0,fa _,rfl,λy hy=>(by cases hy),aL.nil _ _ _,λy hy=>(by cases hy),rfl,aG⟩
 case round=>
  obtain⟨k,hk,rfl,m,T,P,S,hb⟩:=hrel;have D:=ab m;have u:=ab P;have H:=ab S;clear m P S aG;have ao:=hb.size;by_cases a7:k<x.all.length
  .obtain⟨y,cV⟩:=aq a7;have R:fY wr lo hi x.all [.slice B x.all.length d]:=fY.loc.below hn hb aR;obtain⟨b,b0,A',c',rfl,b2,G,ad,al,aT,o⟩:=ayu R cV;have HY:=ab cV;have a1:=aI.out y (db cV);clear cV;go_wp2;have ba:=au wr (.cells #[.string y.p,.slice A' y.ns.length c'] 95);have kb:=aX.new wr 95 #[.string y.p,.slice A' y.ns.length c'];generalize wr.alloc (.cells #[.string y.p,.slice A' y.ns.length c'] 95)=wa at *;have t:=ag hb ba;have aJ:=t.size;obtain⟨⟨g0,e0⟩,g1,e1⟩:=hg.below t;have HF:=al0 7 (by omega) l A c y.ns _ lo hi wa g0 g1 (ap aR aJ) (hl.below t) af hc a8.out (nV.loc.below o ba (ap aR ao)) a1 e0 e1;refine HF.mono ?_;clear HF e0 e1 R al aT o;rintro e w2 ⟨v2,q,rfl,O,U,K⟩;have Q:=ag t K;have L:=ab O;clear O;have ax:=ah kb K;cases q with
   |false=>
    have a:kK 7 l x.all=none:=ajG (db HY.out) (ajF λN=>by have:=L.out.2 N.1;cases this);have g:=ab a;clear a U;go_wp2;go_ret2;exact pV.no g.out Q
   |true=>
    have j:=L.out.1 rfl;have I:∀s∈pQ 7 l y.ns,bD (bs s):=λs hs=>by
     obtain⟨n,hn,rfl⟩:=qs.1 hs;exact(od (j n hn)).1
    have W:∀s∈pQ 7 l y.ns,s.size<=maxLen:=λs hs=>by have:=(gj (I s hs)).2;unfold maxLen;omega
    have o2:aL iy 9 w2 wa.heap.size v2 (pQ 7 l y.ns):=U rfl;have t2:=iv.sl (aL.deep o2 W wa.heap.size) (am _);have V:(pQ 7 l y.ns).length<=2147483647:=by unfold pQ;rw[qh];exact a1
    have HC:=λM (r:Below w2.heap.size w2 M)=>ape (β:=true) (pQ 7 l y.ns) I V v2 M _ _ (dA.ar.below t2 r (am _)) r.size;have a3:=ab HC;have ay:=ab (show ao1 7 l y.ns from j);clear HC j I W o2 t2 V U L;go_wp2;refine(a3.out _ (fd _ _)).mono ?_;rintro e M ⟨rfl,r⟩;have J:=ag Q r;have an:=ah ax r;have cp:=an.cell 0;cases hj:(jU (pQ 7 l y.ns)).2
    .have a:kK 7 l x.all=none:=ajG (db HY.out) (ajF λN=>by rw[hj] at N;cases N.2);have g:=ab a;clear a hj;go_wp2;go_ret2;exact pV.no g.out J
    .have C:=apg (x:=y) ay.out hj;have a5:(jU (pQ 7 l y.ns)).1.size<=maxLen:=by have:=al1 (l:=pQ 7 l y.ns);unfold maxLen;omega
     generalize (jU (pQ 7 l y.ns)).1=tx at *;have a2:=ajH HY.out C;have X:∀z∈x.all.take (k+1),(lN 7 l z).isSome=true:=λz f=>by
      rw[lE HY.out] at f;rcases oE.1 f with f|f
      .exact D.out z f
      .rw[ph.1 f,C];rfl
     have HN:=ab a2;have a9:=ab X;clear a2 X C hj;have oC:=(T.below (ag ba (K.trans (r.mono K.size)))).below (fd _ _);obtain⟨Ao,co,rfl⟩:=oC.form;have Z:=J.size;go_wp2_with(at_builtin;refine cF (F:=np) (v:=.slice Ao (gQ 7 l (x.all.take k)).length co) rfl (.tmp 41) (.tmp 46) 38 rfl nW (⟨y.p,tx⟩:Nd) rfl oC rfl rfl (by rw[H.out];omega) Z ?_;intro va w4 oa a6 aY;obtain⟨Aa,ca,rfl⟩:=oa.form);go_roundw
     case rel=>
      have a4:=J.trans (a6.below Z λi hi hx=>by have:=(oC.at_ hx).1;omega);refine⟨k+1,by omega,by go_num,a9.out,by rw[HN.out];simp only[aE,fi,mc,lP] at oa;exact oa, ?_,by rw[HN.out,aE,H.out];rfl,a4⟩;rw[HN.out];intro z f;rcases oE.1 f with f|f
      .exact u.out z f
      .rw[ph.1 f];exact⟨ad,a5⟩
     case measure=>simp[intOf];omega
  .obtain rfl:k=x.all.length:=by omega
   rw[gE] at D u H T;have t3:=iv.sl (aL.deep T u.out w.heap.size) (am _);obtain⟨q,O⟩:∃q:Bool,q=true↔anm (gQ 7 l x.all):=by
    by_cases hx:anm (gQ 7 l x.all)
    .exact⟨true,by simp[hx]⟩
    .exact⟨false,by simp[hx]⟩
   have HT:=λM (r:Below wr.heap.size wr M)=>ar9 (β:=true) (gQ 7 l x.all) u8 M _ _ (fM.ar.below t3 r (am _)) r.size q O;have aa:=ab HT;have L:=ab O;clear HT O t3;go_wp2;refine(aa.out _ (fd _ _)).mono ?_;rintro e w2 ⟨rfl,K⟩;have G:=ag hb K;cases q with
   |false=>
    have a:kK 7 l x.all=none:=by
     unfold kK;rw[da];rintro⟨-,N⟩;have:=L.out.2 N;cases this
    have g:=ab a;clear a;go_wp2;go_ret2;exact pV.no g.out G
   |true=>
    have a0:kK 7 l x.all=some (gQ 7 l x.all):=by
     unfold kK;rw[du ⟨D.out,L.out.1 rfl⟩]
    have E:=ab a0;clear a0;have U:=T.below K;clear T;go_wp2;go_ret2;refine⟨u8,by rw[E.out];rfl,by rw[E.out];exact U,by rw[E.out];exact u.out,G⟩
end
section
variable {β:Bool}
open Go.RowKit
def mA(l:List Int)(g p s hi:Nat)(w:World)(u:Rd w s hi g l p)(x:p<=100000) :
  Calls (ai β) 31 #[.pointer (some ⟨g,0,none⟩)] w (aow w s hi g l p):=by
 go_enter zS,ntmps31;go_wp2;refine(dm _ _ _ _ _ _ 40 u (by omega)).mono ?_;rintro e a ⟨m,rfl,⟨_,y⟩,q,o⟩;by_cases r:m=0
 .have t:(m ==0)=true:=nf.2 r;go_wp2;have rl:dA (a.alloc (.cells #[.string ⟨#[]⟩,.string ⟨#[102]⟩,.string ⟨#[97,47]⟩,.string ⟨#[97,98]⟩,.string ⟨#[97,47,98,47,99]⟩,.string ⟨#[47,97]⟩] 9)) a.heap.size (a.alloc (.cells #[.string ⟨#[]⟩,.string ⟨#[102]⟩,.string ⟨#[97,47]⟩,.string ⟨#[97,98]⟩,.string ⟨#[97,47,98,47,99]⟩,.string ⟨#[47,97]⟩] 9)).heap.size [⟨#[]⟩,⟨#[102]⟩,⟨#[97,47]⟩,⟨#[97,98]⟩,⟨#[97,47,98,47,99]⟩,⟨#[47,97]⟩] [.slice (some ⟨a.heap.size,0,none⟩) 6 6]:=
   (aL.deep (F:=iy) (abY (F:=iy) (aX.new a 9 #[.string ⟨#[]⟩,.string ⟨#[102]⟩,.string ⟨#[97,47]⟩,.string ⟨#[97,98]⟩,.string ⟨#[97,47,98,47,99]⟩,.string ⟨#[47,97]⟩]) rfl (am _) rfl (by simp[maxLen])) (nP (by decide)) a.heap.size).sl (am _)
  have n:=(q).alloc (.cells #[.string ⟨#[]⟩,.string ⟨#[102]⟩,.string ⟨#[97,47]⟩,.string ⟨#[97,98]⟩,.string ⟨#[97,47,98,47,99]⟩,.string ⟨#[47,97]⟩] 9);have f:=(o).alloc (.cells #[.string ⟨#[]⟩,.string ⟨#[102]⟩,.string ⟨#[97,47]⟩,.string ⟨#[97,98]⟩,.string ⟨#[97,47,98,47,99]⟩,.string ⟨#[47,97]⟩] 9);generalize (a).alloc (.cells #[.string ⟨#[]⟩,.string ⟨#[102]⟩,.string ⟨#[97,47]⟩,.string ⟨#[97,98]⟩,.string ⟨#[97,47,98,47,99]⟩,.string ⟨#[47,97]⟩] 9)=w3 at *;refine(ahe _ (by simp) _ _ _ _ _ _ _ _ w3 n (by omega) rl).mono ?_;rintro e v ⟨k,d,rfl,c,b⟩;have j:(k).size<=9:=ahd (by decide) k d;replace f:=(f).trans b λi _ e=>e;go_wp2;go_ret;exact⟨k,_,rfl,j,c,by omega,f⟩
 .have t:(m ==0)=false:=dk.2 r;go_wp2;have rl:dA (a.alloc (.cells #[.string ⟨#[97]⟩,.string ⟨#[98]⟩,.string ⟨#[99,47,97]⟩,.string ⟨#[99,47,98]⟩,.string ⟨#[100,47,97]⟩,.string ⟨#[101]⟩,.string ⟨#[97,47,98]⟩,.string ⟨#[100]⟩] 9)) a.heap.size (a.alloc (.cells #[.string ⟨#[97]⟩,.string ⟨#[98]⟩,.string ⟨#[99,47,97]⟩,.string ⟨#[99,47,98]⟩,.string ⟨#[100,47,97]⟩,.string ⟨#[101]⟩,.string ⟨#[97,47,98]⟩,.string ⟨#[100]⟩] 9)).heap.size [⟨#[97]⟩,⟨#[98]⟩,⟨#[99,47,97]⟩,⟨#[99,47,98]⟩,⟨#[100,47,97]⟩,⟨#[101]⟩,⟨#[97,47,98]⟩,⟨#[100]⟩] [.slice (some ⟨a.heap.size,0,none⟩) 8 8]:=
   (aL.deep (F:=iy) (abY (F:=iy) (aX.new a 9 #[.string ⟨#[97]⟩,.string ⟨#[98]⟩,.string ⟨#[99,47,97]⟩,.string ⟨#[99,47,98]⟩,.string ⟨#[100,47,97]⟩,.string ⟨#[101]⟩,.string ⟨#[97,47,98]⟩,.string ⟨#[100]⟩]) rfl (am _) rfl (by simp[maxLen])) (nP (by decide)) a.heap.size).sl (am _)
  have n:=(q).alloc (.cells #[.string ⟨#[97]⟩,.string ⟨#[98]⟩,.string ⟨#[99,47,97]⟩,.string ⟨#[99,47,98]⟩,.string ⟨#[100,47,97]⟩,.string ⟨#[101]⟩,.string ⟨#[97,47,98]⟩,.string ⟨#[100]⟩] 9);have f:=(o).alloc (.cells #[.string ⟨#[97]⟩,.string ⟨#[98]⟩,.string ⟨#[99,47,97]⟩,.string ⟨#[99,47,98]⟩,.string ⟨#[100,47,97]⟩,.string ⟨#[101]⟩,.string ⟨#[97,47,98]⟩,.string ⟨#[100]⟩] 9);generalize (a).alloc (.cells #[.string ⟨#[97]⟩,.string ⟨#[98]⟩,.string ⟨#[99,47,97]⟩,.string ⟨#[99,47,98]⟩,.string ⟨#[100,47,97]⟩,.string ⟨#[101]⟩,.string ⟨#[97,47,98]⟩,.string ⟨#[100]⟩] 9)=w3 at *;refine(ahe _ (by simp) _ _ _ _ _ _ _ _ w3 n (by omega) rl).mono ?_;rintro e v ⟨k,d,rfl,c,b⟩;have j:(k).size<=9:=ahd (by decide) k d;replace f:=(f).trans b λi _ e=>e;go_wp2;go_ret;exact⟨k,_,rfl,j,c,by omega,f⟩
def asf(w:World)(lo hi g:Nat)(l:List Int)(p:Nat)(e:Ending)(w':World):Prop:=∃s q,e=.returned (.string s)/\s.size<=1000/\Rd w' lo hi g l q/\q<=p+30/\aZ (λb=>b=g) w w'
def aco(a b:ByteArray):(a++b).size=a.size+b.size:=by rw[<-aN,iF,aE,aN,aN]
def asg(w:World)(n:Int):∃t:ByteArray,t.size=1/\Sem.run (ai β) (convert 22 9 (.slice (some ⟨w.heap.size,0,none⟩) 1 1)) (w.alloc (.cells #[.int .u8 n] 5))=.ok (.string t) (w.alloc (.cells #[.int .u8 n] 5)):=by
 refine⟨([n].foldl (λr n=>r.push (UInt8.ofNat n.toNat)) ByteArray.empty),rfl, ?_⟩;rw[run_convert_bytes_string _ _ _ 5 _ _ _ wY qU5 qU9];refine run_bytesToString _ _ 1 1 [n] ?_;have c:=(aX.new w 5 #[.int .u8 n]).cell 0;refine run_loadCells_list (a:=⟨w.heap.size,0,none⟩) (cs:=[.int .u8 n]) (w:=w.alloc (.cells #[.int .u8 n] 5)) (P:=(ai β)) (λj v b=> ?_)
 match j,b with
 |0,b=>
  cases b;exact c
def adp(l:List Int)(g p V hi:Nat)(w:World)(hr:Rd w V hi g l p)(hp:p<=100000) :
  Calls (ai β) 32 #[.pointer (some ⟨g,0,none⟩)] w (asf w V hi g l p):=by
 go_enter zR,ntmps32;go_wp2;refine(dm _ _ _ _ _ _ 5 hr (by omega)).mono ?_;rintro e w2 ⟨m,rfl,⟨_,hm⟩,Q,S⟩;have al:=hm (by omega);obtain⟨mm,rfl⟩:=qk (show 0<=m by omega);clear hm;go_wp2;go_loopw [3,4] (λtt H wr=>∃(j q:Nat) (x:ByteArray),j<=4/\H=.int .i64 j/\tt=.string x/\x.size+9*j<=36/\Rd wr V hi g l q/\q+j<=p+5/\aZ (λb=>b=g) w wr) (λ_ H _=>(intOf H).toNat)
 case atStart=>exact⟨mm,_,⟨#[]⟩,by omega,rfl,rfl,by show 0+_<=_;omega,Q,by omega,S⟩
 case round=>
  clear Q S;obtain⟨j,q,x,hj,rfl,rfl,hx,rd,U⟩:=hrel;obtain⟨ao,U⟩:=U;by_cases h0:j=0
  .subst h0;go_wp2;refine(dm _ _ _ _ _ _ 4 rd (by omega)).mono ?_;rintro e w3 ⟨m2,rfl,⟨_,a6⟩,r,A⟩;clear a6;have D:=U.trans A λi _ e=>e;have a2:x.size<=60:=by omega
   have aa:x.size<=36:=by omega
   clear rd A hx;by_cases X:m2=0
   .have t1:(m2 ==0)=true:=nf.2 X;clear X;go_wp2;refine(dm _ _ _ _ _ _ 12 r (by omega)).mono ?_;rintro e w5 ⟨m5,rfl,⟨_,N⟩,K,R⟩;have a9:=N (by omega);obtain⟨n5,rfl⟩:=qk (show 0<=m5 by omega);have T:=D.trans R λi _ e=>e;clear N R D r;go_wp2;go_loopw [3,5] (λtt H wr=>∃(j W:Nat) (y:ByteArray),j<=11/\H=.int .i64 j/\tt=.string y/\y.size+j<=47/\Rd wr V hi g l W/\W+j<=p+18/\aZ (λb=>b=g) w wr) (λ_ H _=>(intOf H).toNat)
    case atStart=>exact⟨n5,_,x,by omega,rfl,rfl,by omega,K,by omega,T⟩
    case round=>
     clear K T;obtain⟨j,W,y,f,rfl,rfl,hy,G,ay,C⟩:=hrel;by_cases O:j=0
     .subst O;have a3:y.size<=60:=by omega
      clear hy;have a8:W<=p+20:=by omega
      by_cases a7:40<(y).size
      case' pos=>
       have t4:=dj (show(40:Int)<((y).size:Int) by omega);have g2:(40:Int)<=((y).size:Int):=by omega
       obtain⟨z,n,o⟩:∃z,z=(y).extract 0 40/\z.size=40:=⟨_,rfl,by rw[aeM _ (by omega)]⟩;have P:=ab n;go_wp2;rw[<-P.out];clear n P
      case' neg=>
       have t4:=bv (show ¬((40:Int)<((y).size:Int)) by omega);go_wp2;have o:=a3;obtain⟨z,n⟩:∃z,z=y:=⟨_,rfl⟩;rw[<-n] at o ⊢;clear n
      all_goals
       refine(dm _ _ _ _ _ _ 60 G (by omega)).mono ?_;rintro e Y ⟨d,rfl,⟨_,E⟩,c,s⟩;have a:=(C).trans s λi _ e=>e;clear E s;by_cases k:d=0
       .have t5:(d ==0)=true:=nf.2 k;clear k;go_wp2;go_ret;exact⟨_,_,rfl,by rw[aco];have:(⟨#[65]⟩:ByteArray).size=1:=rfl;omega,c,by omega,a⟩
       .have t5:(d ==0)=false:=dk.2 k;by_cases u:d=1
        .have t6:(d ==1)=true:=nf.2 u;clear k u;go_wp2;refine(aeE ⟨#[97,98,99,100,101]⟩ 9 (by decide) (by decide) (by decide) Y).mono ?_;rintro e w5 ⟨⟨t,rfl,ht⟩,rfl⟩;go_wp2;go_ret;exact⟨t,_,rfl,by omega,c,by omega,a⟩
        .have t6:(d ==1)=false:=dk.2 u;clear k u;go_wp2;go_ret;exact⟨_,_,rfl,by omega,c,by omega,a⟩
     .have t7:=dj (show(0:Int)<(j:Int) by omega);obtain⟨B,I⟩:∃y,y=j-1:=⟨_,rfl⟩;have e7:(j:Int)-1=((B:Nat):Int):=by omega
      have iq:0<(j:Int):=by omega
      have f:j=B+1:=by omega
      clear I O;have v:=ab f;clear f;go_wp2;refine(dm _ _ _ _ _ _ 26 G (by omega)).mono ?_;rintro e w7 ⟨m7,rfl,⟨_,L⟩,Z,M⟩;have ax:=L (by omega);have a5:=C.trans M λi _ e=>e;clear L M C G;have a4:=Z.alloc (.cells #[.int .u8 (97+m7)] 5);have a1:=a5.alloc (.cells #[.int .u8 (97+m7)] 5);obtain⟨t,ht,af⟩:=asg (β:=β) w7 (97+m7);go_wp2;go_roundw
      case rel=>exact⟨B,_,y++t,by have:=v.out;omega,rfl,rfl,by rw[aco,ht];have:=v.out;omega,a4,by have:=v.out;omega,a1⟩
      simp[intOf];have:=v.out;omega
   .have t1:(m2 ==0)=false:=dk.2 X;clear X;have a8:q+1<=p+20:=by omega
    by_cases a7:40<(x).size
    case' pos=>
     have t4:=dj (show(40:Int)<((x).size:Int) by omega);have g2:(40:Int)<=((x).size:Int):=by omega
     obtain⟨z,n,o⟩:∃z,z=(x).extract 0 40/\z.size=40:=⟨_,rfl,by rw[aeM _ (by omega)]⟩;have P:=ab n;go_wp2;rw[<-P.out];clear n P
    case' neg=>
     have t4:=bv (show ¬((40:Int)<((x).size:Int)) by omega);go_wp2;have o:=a2;obtain⟨z,n⟩:∃z,z=x:=⟨_,rfl⟩;rw[<-n] at o ⊢;clear n
    all_goals
     refine(dm _ _ _ _ _ _ 60 r (by omega)).mono ?_;rintro e Y ⟨d,rfl,⟨_,E⟩,c,s⟩;have a:=(D).trans s λi _ e=>e;clear E s;by_cases k:d=0
     .have t5:(d ==0)=true:=nf.2 k;clear k;go_wp2;go_ret;exact⟨_,_,rfl,by rw[aco];have:(⟨#[65]⟩:ByteArray).size=1:=rfl;omega,c,by omega,a⟩
     .have t5:(d ==0)=false:=dk.2 k;by_cases u:d=1
      .have t6:(d ==1)=true:=nf.2 u;clear k u;go_wp2;refine(aeE ⟨#[97,98,99,100,101]⟩ 9 (by decide) (by decide) (by decide) Y).mono ?_;rintro e w5 ⟨⟨t,rfl,ht⟩,rfl⟩;go_wp2;go_ret;exact⟨t,_,rfl,by omega,c,by omega,a⟩
      .have t6:(d ==1)=false:=dk.2 u;clear k u;go_wp2;go_ret;exact⟨_,_,rfl,by omega,c,by omega,a⟩
  .have t1:=dj (show(0:Int)<(j:Int) by omega);have an:x.size<=36:=by omega
   obtain⟨B,I⟩:∃y,y=j-1:=⟨_,rfl⟩;have u:(j:Int)-1=((B:Nat):Int):=by omega
   have iq:0<(j:Int):=by omega
   have f:j=B+1:=by omega
   clear I h0;have v:=ab f;clear f;go_wp2;have rl:dA (wr.alloc (.cells #[.string ⟨#[97,98,99]⟩,.string ⟨#[104,101,108,108,111]⟩,.string ⟨#[119,111,114,108,100]⟩,.string ⟨#[97,97,97,97]⟩,.string ⟨#[107,101,101,112]⟩,.string ⟨#[122,122]⟩,.string ⟨#[98,97,99,107,117,112]⟩,.string ⟨#[113]⟩] 9)) wr.heap.size (wr.alloc (.cells #[.string ⟨#[97,98,99]⟩,.string ⟨#[104,101,108,108,111]⟩,.string ⟨#[119,111,114,108,100]⟩,.string ⟨#[97,97,97,97]⟩,.string ⟨#[107,101,101,112]⟩,.string ⟨#[122,122]⟩,.string ⟨#[98,97,99,107,117,112]⟩,.string ⟨#[113]⟩] 9)).heap.size [⟨#[97,98,99]⟩,⟨#[104,101,108,108,111]⟩,⟨#[119,111,114,108,100]⟩,⟨#[97,97,97,97]⟩,⟨#[107,101,101,112]⟩,⟨#[122,122]⟩,⟨#[98,97,99,107,117,112]⟩,⟨#[113]⟩] [.slice (some ⟨wr.heap.size,0,none⟩) 8 8]:=
    (aL.deep (F:=iy) (abY (F:=iy) (aX.new wr 9 #[.string ⟨#[97,98,99]⟩,.string ⟨#[104,101,108,108,111]⟩,.string ⟨#[119,111,114,108,100]⟩,.string ⟨#[97,97,97,97]⟩,.string ⟨#[107,101,101,112]⟩,.string ⟨#[122,122]⟩,.string ⟨#[98,97,99,107,117,112]⟩,.string ⟨#[113]⟩]) rfl (am _) rfl (by simp[maxLen])) (nP (by decide)) wr.heap.size).sl (am _)
   have r:=(rd).alloc (.cells #[.string ⟨#[97,98,99]⟩,.string ⟨#[104,101,108,108,111]⟩,.string ⟨#[119,111,114,108,100]⟩,.string ⟨#[97,97,97,97]⟩,.string ⟨#[107,101,101,112]⟩,.string ⟨#[122,122]⟩,.string ⟨#[98,97,99,107,117,112]⟩,.string ⟨#[113]⟩] 9);have mK:=(U).alloc (.cells #[.string ⟨#[97,98,99]⟩,.string ⟨#[104,101,108,108,111]⟩,.string ⟨#[119,111,114,108,100]⟩,.string ⟨#[97,97,97,97]⟩,.string ⟨#[107,101,101,112]⟩,.string ⟨#[122,122]⟩,.string ⟨#[98,97,99,107,117,112]⟩,.string ⟨#[113]⟩] 9);generalize (wr).alloc (.cells #[.string ⟨#[97,98,99]⟩,.string ⟨#[104,101,108,108,111]⟩,.string ⟨#[119,111,114,108,100]⟩,.string ⟨#[97,97,97,97]⟩,.string ⟨#[107,101,101,112]⟩,.string ⟨#[122,122]⟩,.string ⟨#[98,97,99,107,117,112]⟩,.string ⟨#[113]⟩] 9)=w3 at *;refine(ahe _ (by simp) _ _ _ _ _ _ _ _ w3 r (by omega) rl).mono ?_;rintro e v3 ⟨s3,J,rfl,a0,A⟩;have ad:(s3).size<=9:=ahd (by decide) s3 J;replace mK:=(mK).trans A λi _ e=>e;clear J rl;go_wp2;go_roundw
   case rel=>exact⟨B,_,x++s3,by have:=v.out;omega,rfl,rfl,by rw[aco];have:=v.out;omega,a0,by have:=v.out;omega,mK⟩
   simp[intOf];have:=v.out;omega
end
section
variable {β:Bool}
open Go.RowKit
def aph(w:World)(lo hi g:Nat)(l:List Int)(p:Nat)(e:Ending)(w':World):Prop:=∃v a q,e=.returned v/\aL np 106 w' w.heap.size v a/\(∀y∈a,np.good y)/\a.length<=7/\Rd w' lo hi g l q/\q<=p+300/\aZ (λb=>b=g) w w'
def ajI(l:List Int)(g p O hi:Nat)(w:World)(hr:Rd w O hi g l p)(hp:p<=50000) :
  Calls (ai β) 56 #[.pointer (some ⟨g,0,none⟩)] w (aph w O hi g l p):=by
 have ax:=hr.lt;go_enter zI,ntmps56;go_wp2;have V:=hr.alloc (.cells #[] 106);have D:=(aZ.refl (λb=>b=g) w).alloc (.cells #[] 106);have H:aL np 106 (w.alloc (.cells #[] 106)) w.heap.size (.slice (some ⟨w.heap.size,0,none⟩) 0 0) []:=(eD.new w 106 (am _)).own 2;generalize w.alloc (.cells #[] 106)=w0 at *;refine(dm _ _ _ _ _ _ 6 V (by omega)).mono ?_;rintro e w1 ⟨m,rfl,⟨_,hm⟩,a2,G⟩;have ay:=hm (by omega);obtain⟨mm,rfl⟩:=qk (show 0<=m by omega);have Y:=H.eZ G λb r e=>by have:=(H.at_ r).1;omega
 replace D:=D.trans G λi _ e=>e;clear hm V G H;go_wp2;go_loopw [3,4] (λtt jj wr=>∃(j q:Nat) (n:List Nd),j<=5/\jj=.int .i64 j/\aL np 106 wr w.heap.size tt n/\lH n/\Rd wr O hi g l q/\q+40*j<=p+201/\aZ (λb=>b=g) w wr) (λ_ jj _=>(intOf jj).toNat)
 case atStart=>exact⟨mm,_,[],by omega,rfl,Y,lH.nil,a2,by omega,D⟩
 case round=>
  clear Y a2 D;obtain⟨j,q,n,hj,rfl,J,L,rd,hq,T⟩:=hrel;obtain⟨A,c,rfl⟩:=J.form;replace L:=ab L;have ao:=T.size;by_cases h0:j=0
  .subst h0;have z:=ab (aaj L.out);have af:n.length<=6:=L.out.2.1;go_wp2;refine(dm _ _ _ _ _ _ 40 rd (by omega)).mono ?_;rintro e N ⟨P,rfl,⟨_,a9⟩,a,k⟩;have o:=J.eZ k λb r e=>by have:=(J.at_ r).1;omega
   have d:=T.trans k λi _ e=>e;clear a9 rd J k T;by_cases R:P=0
   .have t5:(P ==0)=true:=nf.2 R;clear R;go_wp2;refine(mA l g (q+1) O hi N a (by omega)).mono ?_;rintro e w3 ⟨s,q3,rfl,a8,B,a7,x⟩;have K:=o.eZ x λb r e=>by have:=(o.at_ r).1;omega
    have Q:=d.trans x λi _ e=>e;have I:=Q.size;clear a o d;go_wp2_with(at_builtin;refine cF (F:=np) (v:=.slice A n.length c) rfl (.tmp 29) (.tmp 33) 38 rfl nW ⟨s,⟨#[97]⟩⟩ rfl K rfl rfl (by omega) I ?_;intro va wa oa a0 al;obtain⟨Aa,ca,rfl⟩:=oa.form;simp only[aE,fi,mc,lP] at oa);go_ret;refine⟨_,n++[⟨s,⟨#[97]⟩⟩],q3,rfl,by simpa using oa,λy M=> ?_,by simp;omega,B.eZ a0 λb r e=> ?_,by omega,Q.trans a0 λb r e=> ?_⟩
    .rcases oE.1 M with M|M
     .exact z.out y M
     .rw[ph.1 M];exact⟨by show s.size<=maxLen;unfold maxLen;omega,by show(⟨#[97]⟩:ByteArray).size<=maxLen;decide⟩
    .have:=(K.at_ e).1;have:=B.hi_;omega
    .have:=(K.at_ e).1;omega
   .have t5:(P ==0)=false:=dk.2 R;by_cases Z:P=1
    .have t6:(P ==1)=true:=nf.2 Z;clear R Z;by_cases a1:n.length=0
     .have t7:=bv (show ¬(0<n.length) by omega);clear a1;go_wp2;go_ret;exact⟨_,n,q+1,rfl,o,z.out,by omega,a,by omega,d⟩
     .have t7:=dj (show 0<n.length by omega);have iq:0<n.length:=by omega
      obtain⟨y0,cV⟩:=aq iq;obtain⟨X,c',e⟩:=aL.some_ o iq;simp only[nF] at e;obtain⟨rfl, -,rfl⟩:=e;have an:=(o.at_ rfl).1;have G:N.cell? ⟨X,1,none⟩=some (.string y0.b):=by
       have:=aL.cell o (j:=1) cV rfl;simpa using this
      have aG:=aL.frozen o rfl 1;have C:=aL.put o (j:=1) (u:=.string ⟨#[65]⟩) (y:=⟨y0.p,⟨#[65]⟩⟩) cV (by decide) rfl;rw[uO,lP] at C;have HP:=ab C;have E:aZ (λb=>b=X) N (N.setCell ⟨X,1,none⟩ (.string ⟨#[65]⟩)):=(aZ.refl (λb=>b=X) N).setCell (p:=⟨X,1,none⟩) (.inl rfl) _;replace E:=ab E;replace cV:=ab cV;clear C a1;go_wp2;go_ret;refine⟨_,n.set 0 ⟨y0.p,⟨#[65]⟩⟩,q+1,rfl,HP.out,λy M=> ?_,by rw[qW];omega,a.eZ E.out λb r e=> ?_,by omega,d.trans E.out λb r e=> ?_⟩
      .rcases th M with h1|rfl
       .exact z.out y h1
       .exact⟨(z.out y0 (db cV.out)).1,by show(⟨#[65]⟩:ByteArray).size<=maxLen;decide⟩
      .have:=a.hi_;omega
      .omega
    .have t6:(P ==1)=false:=dk.2 Z;clear R Z;go_wp2;go_ret;exact⟨_,n,q+1,rfl,o,z.out,by omega,a,by omega,d⟩
  .have iq:0<(j:Int):=by omega
   obtain⟨j',ad⟩:∃y,y=j-1:=⟨_,rfl⟩;have Z:(j:Int)-1=((j':Nat):Int):=by omega
   have f:j=j'+1:=by omega
   replace f:=ab f;clear ad h0;go_wp2;refine(mA l g q O hi wr rd (by omega)).mono ?_;rintro e N ⟨s,q2,rfl,a8,a,aI,k⟩;have o:=J.eZ k λb r e=>by have:=(J.at_ r).1;omega
   have d:=T.trans k λi _ e=>e;clear rd J k T;go_wp2;refine(adp l g q2 O hi N a (by omega)).mono ?_;rintro e w3 ⟨t,q3,rfl,ht,B,a7,x⟩;have K:=o.eZ x λb r e=>by have:=(o.at_ r).1;omega
   have Q:=d.trans x λi _ e=>e;have r3:=(K.deep (aaj L.out) w.heap.size).sl (am _);clear a o x d;go_wp2;refine(adk n s t (by unfold maxLen;omega) (by unfold maxLen;omega) _ w3 w.heap.size w3.heap.size r3 (am _) (by have:=L.out.2.1;omega)).mono ?_;rintro e w4 ⟨v4,zs,a6,rfl,o4,a3,b4⟩;have I:=Q.size;have aa:=o4.base I;have a4:=K.below b4;have W:=B.eZ (aZ.aM (S:=λ_=>False) b4) λ_ _ h=>h;have U:=Q.trans (aZ.aM (S:=λ_=>False) b4) λ_ _ h=>h.elim;have a5:=ab a3;obtain⟨A4,c4,rfl⟩:=o4.form;clear a3 B Q K o4 r3;cases a6
   .go_wp2;go_roundw
    case rel=>exact⟨j',q3,n,by have:=f.out;omega,rfl,a4,L.out,W,by have:=f.out;omega,U⟩
    simp[intOf];have:=f.out;omega
   .go_wp2;go_roundw
    case rel=>exact⟨j',q3,zs,by have:=f.out;omega,rfl,aa,a5.out,W,by have:=f.out;omega,U⟩
    simp[intOf];have:=f.out;omega
def ash(w:World)(lo hi g:Nat)(l:List Int)(p:Nat)(e:Ending)(w':World):Prop:=∃v a q,e=.returned v/\aL np 106 w' w.heap.size v a/\lH a/\Rd w' lo hi g l q/\q<=p+300/\aZ (λb=>b=g) w w'
theorem ajJ(l:List Int)(g p m hi:Nat)(w:World)(z:Rd w m hi g l p)(y:p<=50000) :
  Calls (ai β) 27 #[.pointer (some ⟨g,0,none⟩)] w (ash w m hi g l p):=by
 go_enter zV,ntmps27;go_wp2;refine(ajI l g p m hi w z y).mono ?_;rintro e n ⟨D,s,q,rfl,k,f,v,j,o,b⟩;obtain⟨A,c,rfl⟩:=k.form;have C:=b.size;have t:=(k.deep f w.heap.size).sl (am _);clear f;go_wp2;refine(abd s _ n w.heap.size n.heap.size t (am _)).mono ?_;rintro e B ⟨⟨rfl,r⟩|rfl,i⟩
 .have u:=ab r;have x:=k.below i;have d:=j.eZ (aZ.aM (S:=λ_=>False) i) λ_ _ h=>h;have a:=b.trans (aZ.aM (S:=λ_=>False) i) λ_ _ h=>h.elim;clear r;go_wp2;go_ret;exact⟨_,s,q,rfl,x,u.out,d,o,a⟩
 .have d:=j.eZ (aZ.aM (S:=λ_=>False) i) λ_ _ h=>h;have a:=b.trans (aZ.aM (S:=λ_=>False) i) λ_ _ h=>h.elim;go_wp2;go_ret;exact⟨_,[⟨⟨#[97]⟩,⟨#[104,101,108,108,111]⟩⟩],q,rfl,abY (F:=np) (xs:=[⟨⟨#[97]⟩,⟨#[104,101,108,108,111]⟩⟩]) (aX.new B 106 #[.string ⟨#[97]⟩,.string ⟨#[104,101,108,108,111]⟩]) rfl a.size rfl (by simp[maxLen]),lH.one ⟨by decide,by decide⟩,d.alloc _,o,a.alloc _⟩
end
end Go.Proofs.YtlaobkmopohmnaaGreatDoor