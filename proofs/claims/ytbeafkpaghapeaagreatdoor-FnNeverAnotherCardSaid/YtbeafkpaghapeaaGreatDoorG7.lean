/- A part of the proof. -/
import Derived.Test.YtbeafkpaghapeaaGreatDoorG6
import Derived.Lib.IndexLaws
import Derived.Lib.Bytealg
import Derived.RangeFuncNested
import Derived.RangeFuncBound
import Derived.RangeFuncCalls
import Derived.RangeFuncLeaves
import Derived.Shelf.Abstract
import Derived.Shelf.RegionOpen
import Derived.OwnWalkIn
import Derived.TacticsInMore
import Derived.LoopNIn
import Derived.LoopIn
import Derived.OrdersIn
import Derived.Laws.BytesString
set_option maxRecDepth 100000
set_option maxHeartbeats 8000000
set_option linter.all false
open Go Go.RowKit Go.Proofs.Tryz Go.Proofs.YtbeafkpaghapeaaGreatDoor
variable {x:Ls} {Z U c g hi k n n₀:Nat} {key:Int} {Y X W V R:Value} {w w':World} {l l':List iD} {xs:List Ls} {dA:List Int} {s:ByteArray} {A:Option Addr} {cs:Array Value} {T S:Act→World→Prop}
namespace Go.Proofs.YtbeafkpaghapeaaGreatDoor
def rT:=@_root_.List.find?_cons
def sU:=@_root_.beq_self_eq_true
def ud:=@_root_.List.getElem?_cons_zero
def uj:=@_root_.List.length_eq_one_iff
def uI:=@_root_.Array.replicate_zero
def uJ:=@_root_.Array.replicate_succ
def uK:=@_root_.Int.mul_le_mul_of_nonneg_left
def uM:=@_root_.List.append_toArray
def vj:=@_root_.List.push_toArray
def vK:=@_root_.Go.KeepsOthers.of_grownBy
def vR:=@_root_.Int.emod_add_mul_ediv
def vZ:=@_root_.List.mem_of_getLast?
def wj:=@_root_.List.mem_map_of_mem
def wm:=@_root_.List.filterMap_cons
section
variable {β:Bool}
open Go.RowKit
def fS(key:Int)(no:Int)(l:List ByteArray):List Pk:=
 if h:l=[] then[] else⟨no,gR key (l.take 4)⟩::fS key (no+1) (l.drop 4)
termination_by l.length
decreasing_by
 have:0<l.length:=List.length_pos_iff.2 h;rw[qj];omega
def aa9(key a:Int):fS key a []=[]:=by rw[fS];rfl
def adb(key a:Int){l:List ByteArray}(h:0<l.length):fS key a l=⟨a,gR key (l.take 4)⟩::fS key (a+1) (l.drop 4):=by
 rw[fS,dif_neg (by rintro rfl;simp at h)]
open Classical in
noncomputable def aca(l:List Pk):List Sp:=if ∀s∈dW l,spP s then fg (dW l) [] else[]
def amW(l:List Pk):IOf l (aca l):=by
 unfold aca;by_cases h:∀s∈dW l,spP s
 .rw[dq h];exact .inl ⟨h,rfl⟩
 .rw[bv h];exact .inr ⟨h,rfl⟩
noncomputable def ahm(key:Int)(s:dK)(t:List Nd):List Pk:=fS key (fQ s.pk) (aa2 key (aca s.pk) t)
def aeX(key:Int)(s:dK)(t:List Nd):Prop:=(s.pk++ahm key s t).length<=20/\fQ s.pk+(ahm key s t).length-1<=99/\eX s<=20/\s.lg.length<9
noncomputable def acL(key:Int)(s:dK)(by_:Int)(t:List Nd):dK:=⟨s.pk++ahm key s t,s.sn++[kq (eX s) key t],s.lg++[⟨by_,eX s⟩]⟩
structure afq (w wr:World) (va vb vc:Value) (gm:Nat) (vp vs vl:Value) (pk:List Pk) (sn:List Sn) (lg:List Hd) (H:Nat):Prop where
 k0:bg wr w.heap.size 27 #[va,vb,vc]
 k1:bg wr (w.heap.size+1) 27 #[.slice none 0 0,.slice none 0 0,.slice none 0 0]
 m:bg wr gm 27 #[vp,vs,vl]
 op:bD wr w.heap.size H pk [vp]
 os:bQ wr w.heap.size H sn [vs]
 ol:dy wr w.heap.size H lg [vl]
 bl:Below w.heap.size w wr
 gm1:w.heap.size+1<gm
 gm2:gm<wr.heap.size
 hH:H<=wr.heap.size
def afq.below{wr : World}{c : Value}{e:List Pk}{b:List Sn}{d:List Hd}(h:afq w wr Y X W Z V R c e b d U)(a:Below wr.heap.size wr w'):afq w w' Y X W Z V R c e b d U:=
 ⟨ak h.k0 a,ak h.k1 a,ak h.m a,bD.ar.below h.op a h.hH,bQ.ar.below h.os a h.hH,dy.ar.below h.ol a h.hH,ag h.bl a,h.gm1,bd h.gm2 a.size,ap h.hH a.size⟩
def afq.up{wr : World}{c : Value}{e:List Pk}{b:List Sn}{d:List Hd}{H' : Nat}(h:afq w wr Y X W Z V R c e b d U)(a:U<=H')(f:H'<=wr.heap.size):afq w wr Y X W Z V R c e b d H':=
 ⟨h.k0,h.k1,h.m,bD.ar.wide h.op (am _) a,bQ.ar.wide h.os (am _) a,dy.ar.wide h.ol (am _) a,h.bl,h.gm1,h.gm2,f⟩
def azX:Value->Nat
 |.slice _ n _=>n
 |_=>0
def ari(key:Int)(s:dK)(by_:Int)(t:List Nd)(w:World)(e:Ending)(w':World):Prop:=
 ∃c b a q r,e=.returned (.tuple #[.agg #[c,b,a],.bool q])/\eM w' w.heap.size w'.heap.size r c b a/\((q=true/\aeX key s t/\r=acL key s by_ t)\/(q=false/\¬aeX key s t/\r=s))/\Below w.heap.size w w'
def aiZ (key:Int) (hk:1<=key/\key<=99) (s:dK) (u:Int) (bo:bZ u) (t:List Nd) (ht:∀x∈t,dH x.b=true) (hl:t.length<=10) (hs:alf 1000000 s) (ei:(dW s.pk).length<=10000) (bO:jV s<=1000000)
  (va vb vc vt:Value) (w:World) (lo hi bh ji:Nat) (h:eM w lo hi s va vb vc) (aX:hi<=w.heap.size) (h1:eD w bh ji t [vt]) (lu:ji<=w.heap.size) :
  Calls (ah β) 26 #[.int .i64 key,.agg #[va,vb,vc],.int .i64 u,vt] w (ari key s u t w):=by
 replace ht:=ab ht;have HS:=ab hs;have HK:=ab hk;replace bo:=ab bo;clear hs;obtain⟨A,a,rfl⟩:=h.pk.form;obtain⟨B,b,rfl⟩:=h.sn.form;obtain⟨C,c,rfl⟩:=h.lg.form;obtain⟨D,d,rfl⟩:=h1.form;have ee:s.pk.length<=1000000:=by
  have h1:=dL (f:=bPk) (l:=s.pk);unfold jV at bO;omega
 have ev:s.sn.length<=1000000:=by
  have h1:=dL (f:=bSn) (l:=s.sn);unfold jV at bO;omega
 have ek:s.lg.length<=1000000:=by unfold jV at bO;omega
 go_enter zE,ntmps26;go_wp2;generalize hG:(w.alloc (.cells #[.slice A s.pk.length a,.slice B s.sn.length b,.slice C s.lg.length c] 27)).alloc (.cells #[.slice none 0 0,.slice none 0 0,.slice none 0 0] 27)=w0 at *;obtain⟨aL,iP,k0,cZ,eK,k1,dx,ed⟩:=oV hG;clear hG;have c0:=h.below aL aX;refine(eT s _ _ _ w0 lo hi c0.l (by omega) (by omega)).mono ?_;rintro e w1 ⟨vp,vs,vl,rfl,oc,b1⟩;obtain⟨Ap,cp,rfl⟩:=oc.pk.form;obtain⟨As,cs,rfl⟩:=oc.sn.form;obtain⟨Al,cl,rfl⟩:=oc.lg.form;replace k0:=ak k0 b1;replace cZ:=k0.cell;replace eK:=k0.frozen;replace k1:=ak k1 b1;replace dx:=k1.cell;replace ed:=k1.frozen;replace aL:=ag aL b1;have c1:=ab oc;have z1:=b1.size;clear oc c0;have ax:=av w1 (.cells #[.slice Ap s.pk.length cp,.slice As s.sn.length cs,.slice Al s.lg.length cl] 27);have d4:=(ak k0 ax).cell;go_wp2;clear ax d4;generalize hG:w1.alloc (.cells #[.slice Ap s.pk.length cp,.slice As s.sn.length cs,.slice Al s.lg.length cl] 27)=w2 at *;obtain⟨M,e3,m0,mC,d3⟩:=mL hG;clear hG;replace k0:=ak k0 M;replace cZ:=k0.cell;replace eK:=k0.frozen;replace k1:=ak k1 M;replace dx:=k1.cell;replace ed:=k1.frozen;have ad:=c1.out.below M (am _);have P:afq w w2 (.slice A s.pk.length a) (.slice B s.sn.length b) (.slice C s.lg.length c) w1.heap.size (.slice Ap s.pk.length cp) (.slice As s.sn.length cs) (.slice Al s.lg.length cl) s.pk s.sn s.lg w1.heap.size:=
  ⟨k0,k1,m0,bD.ar.wide ad.pk (by omega) (am _),bQ.ar.wide ad.sn (by omega) (am _),dy.ar.wide ad.lg (by omega) (am _),ag aL M,by omega,by omega,M.size⟩
 obtain⟨E,ce⟩:∃E,E=w1.heap.size:=⟨_,rfl⟩;rw[<-ce] at P ⊢;have n:=ab P;have bR:=h.below (ag aL M) aX;have HST:=ab bR;clear ce P ad c1 k0 k1 m0 cZ dx mC eK ed d3 aL M b1;refine(aiY s HS.out _ _ _ w2 lo hi bR.l (by have:=n.out.bl.size;omega)).mono ?_;rintro e w3 ⟨rfl,b3⟩;have b2:=n.out.below b3;have c3:=ab b2;have bU:=HST.out.below b3 (by have:=n.out.bl.size;omega);have cn:=ab bU;have cZ:=b2.k0.cell;have z3:=b2.bl.size;clear b2 n HST bR b3;go_wp2;refine(ady s.pk _ w3 lo hi (by omega) (bD.t bU.pk) (by omega) (aca s.pk) (amW _)).mono ?_;rintro e w4 ⟨vi,rfl,oi,b4⟩;clear bU;have bY:=(amW s.pk).ix;have c9:=((oi.deep (at7 bY) 0).sl (fb _)).1;have aa:=c3.out.below b4;have ct:=ab aa;have cz:=eD.ar.wide (eD.ar.below h1 aa.bl lu) (fb bh) (show ji<=w4.heap.size by have:=aa.bl.size;omega);obtain⟨Ai,ci,rfl⟩:=oi.form;clear aa c3 cZ oi bY b4;have b8:Hid (aeX key s t↔((s.pk++fS key (fQ s.pk) (aa2 key (aca s.pk) t)).length<=20/\fQ s.pk+(fS key (fQ s.pk) (aa2 key (aca s.pk) t)).length-1<=99/\eX s<=20/\s.lg.length<9)):=ab Iff.rfl;have al:Hid (acL key s u t=⟨s.pk++fS key (fQ s.pk) (aa2 key (aca s.pk) t),s.sn++[kq (eX s) key t],s.lg++[⟨u,eX s⟩]⟩):=ab rfl;have cS : -9223372036854775807<=fQ s.pk/\fQ s.pk<=1000001:=by
  rcases qa s.pk.length with hz|hz
  .rw[qT.1 hz];show _<=(1:Int)/\(1:Int)<=_;omega
  .obtain⟨z,ca,d9⟩:=wD hz;have e5:=HS.out.1 z (db ca);obtain⟨es,v,_,hg,_⟩:=(cn.out.l).pk.apS z (db ca);unfold bZ at hg;unfold fQ;rw[d9];show _<=z.no+1/\z.no+1<=_;omega
 have cO : -9223372036854775807<=eX s/\eX s<=1000001:=by
  have hm:=aiX (l:=s.lg) (b:=1000001) (by omega) λx hx=>by have:=HS.out.2.2 x hx;omega
  unfold eX;cases d1:s.sn.getLast? with
  |none=>show _<=fR s.lg/\fR s.lg<=_;omega
  |some x=>
   have:=HS.out.2.1 x (vZ d1);show _<=max (fR s.lg) (x.no+1)/\max (fR s.lg) (x.no+1)<=_;omega
 clear cn;have cA:(aa2 key (aca s.pk) t).length<=400:=by
  have a1:=ab6 (key:=key) (ix:=aca s.pk) (ab5 t) [];have a2:=acJ (t:=t) ht.out;show(ab4 key (aca s.pk) [] (ab5 t)).length<=_;simp only[mw,mc] at a1;omega
 have a6:=nI (key:=key) (ix:=aca s.pk) ht.out;have an:=ab (ak7 (β:=β) key HK.out t ht.out (by omega) (aca s.pk) _ _ w4 0 w4.heap.size (am _) cz c9);clear cz c9;revert a6 cA al b8 an;generalize aa2 key (aca s.pk) t=pieces;revert cS;generalize fQ s.pk=n0;revert cO;generalize eX s=s0;intro cO cS b8 al cA a6 an;go_wp2;refine an.out.mono ?_;rintro e w5 ⟨vq,rfl,oq,b5⟩;clear an;have cL:=(oq.deep (λx hx=>lq (a6 x hx)) 0).sl (fb _);have bb:=ct.out.below b5;have cW:=bb.up (H':=w5.heap.size) bb.hH (am _);obtain⟨Aq,cq,rfl⟩:=oq.form;have aI:=ab (And.intro cL (And.intro a6 cW));clear ct cL a6 bb cW oq b5;go_wp2;go_loopw [11,13] (λnn pp wr=>∃(no:Int) (j:List ByteArray) (o:List Pk) (vp:Value),nn=.int .i64 no/\s.pk++fS key n0 pieces=o++fS key no j/\no=n0+((o.length:Int)-s.pk.length)/\o.length+j.length<=s.pk.length+pieces.length/\s.pk.length<=o.length/\w5.heap.size<=wr.heap.size/\dt wr 0 w5.heap.size j [pp]/\(∀x∈j,bB (bs x))/\afq w wr (.slice A s.pk.length a) (.slice B s.sn.length b) (.slice C s.lg.length c) E vp (.slice As s.sn.length cs) (.slice Al s.lg.length cl) o s.sn s.lg wr.heap.size) (λ_ pp _=>azX pp)
 case atStart=>exact⟨n0,pieces,s.pk,_,rfl,rfl,by omega,am _,am _,am _,aI.out.1,aI.out.2.1,aI.out.2.2⟩
 case round=>
  clear aI;obtain⟨no,j,o,el,rfl,ck,c2,d0,ex,d6,hr,hp,P⟩:=hrel;obtain⟨Ar,cr,rfl⟩:=hr.form;obtain⟨Q,O,rfl⟩:=P.op.form;have bi:=ab ck;have bS:=ab c2;have er : -9223372036854775807<=no/\no<=9000000:=by omega
  have HR:=ab hr;have HP:=ab hp;have n:=ab P;have ew:=hr.len_.2.1;have di:=hr.len_.2.2;unfold maxLen at di;clear ck c2 hr hp P;by_cases gZ:0<j.length
  .have t1:decide (0<j.length)=true:=dj gZ;have mC:=n.out.m.cell 0;by_cases h4:j.length<=4
   case' pos=>
    have t2:=dj (show(j.length:Int)<=4 by omega);have g2:((j.length:Nat):Int)<=(cr:Int):=by omega
    have q1:=am j.length;have q2:j.take j.length=j.take 4:=by rw[pm (am _),pm h4]
    have q3:j.drop j.length=j.drop 4:=by rw[rM (am _),rM h4]
   case' neg=>
    have t2:=da (show ¬((j.length:Int)<=4) by omega);have g2:((4:Nat):Int)<=(cr:Int):=by omega
    have q1:4<=j.length:=by omega
    have q2:=@rfl _ (j.take 4);have q3:=@rfl _ (j.drop 4)
   all_goals
    have br:∀x∈j.take 4,bB (bs x):=λx hx=>HP.out x (pu hx);have cc:∀x∈j.drop 4,bB (bs x):=λx hx=>HP.out x (uF hx);have bx:=HR.out.afP q1;rw[q2] at bx;have bL:=HR.out.amC q1;rw[q3] at bL;have Y:=adb key no gZ;have cd:(j.take 4).length<=4:=by rw[fa];omega
    have c4:=aeP (key:=key) br;have cX:(gR key (j.take 4)).length<=4:=by rw[pX];exact cd
    have bt:w5.heap.size<=wr.heap.size:=d6;have bG:bZ no:=by unfold bZ;omega
    have cb:=λ(y:World) (hy:Below wr.heap.size wr y)=>ak4 (β:=β) no key HK.out (j.take 4) br (by omega) _ y 0 w5.heap.size (ap bt hy.size) (dt.ar.below bx hy bt)
    have ao:=ab cb;have cv:=ab bL;have HST:=ab Y;have bT:=ab c4;have dr:=ab cc;have d7:Hid ((j.drop 4).length+1<=j.length):=ab (by rw[qj];omega);clear cb bL Y c4 bx q2 q3 cd br cc;revert cX;revert bT;revert HST;revert ao;generalize gR key (j.take 4)=L;intro ao HST bT cX;go_wp2;have aG:=ae mC;refine aF 9 [0,1,2,3,4,5,6] [7,8] (h:= ?_);simp only[pick,List.map,ge,gn];repeat(go_big_quiet_step (fail))
    refine gt ?_;clear aG;apply Exists.intro;apply aU (λv w'=>∃A c,v=.agg #[.int .i64 no,.slice A L.length c]/\aK mo 60 w' wr.heap.size (.slice A L.length c) L)
    .rfl
    .exact λv x y ⟨A,c,e,h⟩ hle=>⟨A,c,e,h.below hle⟩
    .intro x R Qx r;replace r:=ab r;clear R;go_wp2;refine(ao.out x.to x.ok).mono ?_;rintro e wy ⟨vy,rfl,oy,bp⟩;obtain⟨Ay,cy,rfl⟩:=oy.form;go_wp2;exact r.out _ _ bp ⟨_,_,rfl,oy.base x.ok.size⟩
    intro u7;apply aU (λv w'=>∃g A c,v=.slice (some ⟨g,0,none⟩) 1 1/\bg w' g 54 #[.int .i64 no,.slice A L.length c]/\aK mo 60 w' wr.heap.size (.slice A L.length c) L)
    .rfl
    .exact λv x y ⟨g,A,c,e,hk,h⟩ hle=>⟨g,A,c,e,ak hk hle,h.below hle⟩
    .intro x R Qx r;replace r:=ab r;obtain⟨A5,c5,rfl,ho⟩:=R.1 (by kernel_rfl);go_wp2;have ba:=av x.to (.cells #[.int .i64 no,.slice A5 L.length c5] 54);exact r.out _ _ ba ⟨_,_,_,rfl,bg.new _ _ _,ho.below ba⟩
    intro u8;refine aS ?_;intro w6 gW xx cT R;dsimp only[dP] at R;try rw[cT] at R
    clear cT xx;obtain⟨⟨g8,A8,c8,rfl,a7,o8⟩, -⟩:=R;simp only[List.drop];have z6:=gW.size;have S:=n.out.below gW;have cC:=dt.ar.below cv.out gW bt;have af:Hid (ki w6 wr.heap.size w6.heap.size ⟨no,L⟩ [.int .i64 no,.slice A8 L.length c8]):=ab ⟨_,rfl,bG,o8.aae bT.out (by omega) λg hg=>(o8.at_ hg).2⟩;have b6:=ab a7;have k:=ab S;have dd:=ab cC;have zb:=S.bl.size;clear n gW o8 a7 S cC cv ao mC HR;go_wp2_with(at_builtin;refine gu ?_);refine⟨?_,trivial⟩;refine gS ki.ar (by decide) (v:=.slice Q o.length O) rfl (.tmp 35) (.tmp 42) 23 rfl adK ⟨no,L⟩ rfl k.out.op rfl b6.out rfl (by simp[Value.oneCell']) (show wr.heap.size<=w6.heap.size by omega) af.out (am _) (by omega) (by omega) ?_;intro v9 Z o9 F c6;obtain⟨K,J,rfl⟩:=o9.form;rw[aE,mp] at o9;rw[aE,mp];have m:=k.out.op;have z9:=F.size;have bk:=k.out.gm1;have dv:=k.out.gm2;have q:=dz m F k.out.m (by decide);have dp:Z.cell? ⟨E,0,none⟩=some (.slice Q o.length O):=q.cell 0;have dU:=q.frozen 0;have lH:=q.bF 0 (.slice K (o.length+1) J);simp only[ef,ip,jt] at lH;have a8:afq w (Z.setCell ⟨E,0,none⟩ (.slice K (o.length+1) J)) _ _ _ E (.slice K (o.length+1) J) (.slice As s.sn.length cs) (.slice Al s.lg.length cl) (o++[⟨no,L⟩]) s.sn s.lg (Z.setCell ⟨E,0,none⟩ (.slice K (o.length+1) J)).heap.size:=
     ⟨bV (dz m F k.out.k0 (by decide)) (p:=⟨E,0,none⟩) _ (by dsimp only;omega),bV (dz m F k.out.k1 (by decide)) (p:=⟨E,0,none⟩) _ (by dsimp only;omega),lH,
      by simp only[be];exact cI bD.ar o9 q (by decide) 0 _,
      by simp only[be];exact bQ.ar.wide (cI bQ.ar (jr m F bQ.ar k.out.os (by decide)) q (by decide) 0 _) (am _) (by omega),
      by simp only[be];exact dy.ar.wide (cI dy.ar (jr m F dy.ar k.out.ol (by decide)) q (by decide) 0 _) (am _) (by omega),
      (k.out.bl.trans (F.below k.out.bl.size λi hi hs=>by have:=m.ob hs;omega)).setCell (by dsimp only;omega) _,bk,by simp only[be];omega,am _⟩
    have ch:dt (Z.setCell ⟨E,0,none⟩ (.slice K (o.length+1) J)) 0 w5.heap.size (j.drop 4) _:=cI dt.ar (jr m F dt.ar dd.out (by decide)) q (by decide) 0 _;have a0:=ab a8;have dA:=ab ch;have d5:Hid (w5.heap.size<=(Z.setCell ⟨E,0,none⟩ (.slice K (o.length+1) J)).heap.size):=ab (by simp only[be];omega);clear a8 ch lH m q;go_wp2;go_roundw
    case rel=>exact⟨no+1,j.drop 4,o++[⟨no,L⟩],_,rfl,by rw[bi.out,HST.out,sO];rfl,by have:=bS.out;rw[aE,mp];omega,by have:=d7.out;rw[aE,mp];omega,by rw[aE,mp];omega,d5.out,by have:=dA.out;first|(simpa only[Nat.mul_one,sV] using this)|(simp only[bv (show ¬cr=4 by omega),Addr.add] at this;simpa using this),dr.out,a0.out⟩
    simp[azX];omega
  .have hz:j=[]:=qT.1 (by omega);subst hz;have mB:s.pk++fS key n0 pieces=o:=by rw[bi.out,aa9,rU]
   have a5:aeX key s t↔(o.length<=20/\no-1<=99/\s0<=20/\s.lg.length<9):=by
    refine b8.out.trans ?_;rw[mB];have e:(o.length:Int)=s.pk.length+(fS key n0 pieces).length:=by rw[<-mB,aE];omega
    have:=bS.out;constructor
    .rintro⟨a1,a2,a3,a4⟩;exact⟨a1,by omega,a3,a4⟩
    .rintro⟨a1,a2,a3,a4⟩;exact⟨a1,by omega,a3,a4⟩
   have cg:acL key s u t=⟨o,s.sn++[kq s0 key t],s.lg++[⟨u,s0⟩]⟩:=by rw[al.out,mB]
   have aT:=ab a5;have ds:=ab cg;have eo:o.length<=2000000:=by omega
   clear mB a5 cg b8 al bi bS HR HP d0;have cm:=n.out.m.cell;have cZ:=n.out.k0.cell;have bG:bZ (no-1):=by unfold bZ;omega
   unfold bZ at bG;rcases(by omega:(o.length<=20/\no-1<=99/\s0<=20/\s.lg.length<9)\/¬o.length<=20\/(o.length<=20/\¬no-1<=99)\/(o.length<=20/\no-1<=99/\¬s0<=20)\/(o.length<=20/\no-1<=99/\s0<=20/\¬s.lg.length<9)) with hc|hc|hc|hc|hc
   .have t3:=da (show ¬((20:Int)<(o.length:Int)) by omega);have t4:=da (show ¬(99<no-1) by omega);have t5:=da (show ¬(20<s0) by omega);have t6:=da (show ¬((9:Int)<=(s.lg.length:Int)) by omega);have HY:=ab (aT.out.2 hc);clear hc;clear aT;go_wp2;have co:=cm 1;have HC:=ab (λ(y:World) (hy:Below wr.heap.size wr y)=>aou (β:=β) s0 key HK.out (by unfold bZ;omega) t ht.out (by omega) _ y bh ji (by have:=hy.size;have:=n.out.bl.size;omega) (eD.ar.below h1 (ag n.out.bl hy) lu));have aG:=ae co;refine aF 7 [0,1,2,3,4] [5,6] (h:= ?_);simp only[pick,List.map,ge,gn];repeat(go_big_quiet_step (fail))
    refine gt ?_;clear aG;apply Exists.intro;apply aU (λv w'=>∃A c,v=.agg #[.int .i64 s0,.slice A (kq s0 key t).all.length c]/\fu w' wr.heap.size w'.heap.size (kq s0 key t).all [.slice A (kq s0 key t).all.length c])
    .rfl
    .exact λv x y ⟨A,c,e,h⟩ hle=>⟨A,c,e,fu.ar.wide (fu.ar.below h hle (am _)) (am _) hle.size⟩
    .intro x R Qx r;replace r:=ab r;clear R;go_wp2;refine(HC.out x.to x.ok).mono ?_;rintro e wy ⟨vy,rfl,oy,bp⟩;obtain⟨Ay,cy,rfl⟩:=oy.form;go_wp2;exact r.out _ _ bp ⟨_,_,rfl,fu.ar.wide oy x.ok.size (am _)⟩
    intro u5;apply aU (λv w'=>∃g A c,v=.slice (some ⟨g,0,none⟩) 1 1/\bg w' g 39 #[.int .i64 s0,.slice A (kq s0 key t).all.length c]/\fu w' wr.heap.size w'.heap.size (kq s0 key t).all [.slice A (kq s0 key t).all.length c])
    .rfl
    .exact λv x y ⟨g,A,c,e,hk,h⟩ hle=>⟨g,A,c,e,ak hk hle,fu.ar.wide (fu.ar.below h hle (am _)) (am _) hle.size⟩
    .intro x R Qx r;replace r:=ab r;obtain⟨A5,c5,rfl,ho⟩:=R.1 (by kernel_rfl);go_wp2;have ba:=av x.to (.cells #[.int .i64 s0,.slice A5 (kq s0 key t).all.length c5] 39);exact r.out _ _ ba ⟨_,_,_,rfl,bg.new _ _ _,fu.ar.wide (fu.ar.below ho ba (am _)) (am _) ba.size⟩
    intro u6;refine aS ?_;intro w6 gW xx cT R;dsimp only[dP] at R;try rw[cT] at R
    clear cT xx;obtain⟨⟨g8,A8,c8,rfl,a7,o8⟩, -⟩:=R;simp only[List.drop];have z6:=gW.size;have S:=n.out.below gW;have af:Hid (lI w6 wr.heap.size w6.heap.size (kq s0 key t) [.int .i64 s0,.slice A8 (kq s0 key t).all.length c8]):=ab ⟨_,rfl,by show bZ s0;unfold bZ;omega,o8⟩;have b6:=ab a7;have k:=ab S;have zb:=S.bl.size;clear n gW o8 a7 S cm co cZ HC;go_wp2_with(at_builtin;refine gu ?_);refine⟨?_,trivial⟩;refine gS lI.ar (by decide) (v:=.slice As s.sn.length cs) rfl (.tmp 72) (.tmp 77) 24 rfl adN (kq s0 key t) rfl k.out.os rfl b6.out rfl (by simp[Value.oneCell']) (show wr.heap.size<=w6.heap.size by omega) af.out (am _) (by omega) (by omega) ?_;intro v9 Z o9 F c6;obtain⟨K,J,rfl⟩:=o9.form;rw[aE,mp] at o9;rw[aE,mp];have m:=k.out.os;have z9:=F.size;have bk:=k.out.gm1;have dv:=k.out.gm2;have q:=dz m F k.out.m (by decide);have dp:Z.cell? ⟨E,1,none⟩=some (.slice As s.sn.length cs):=q.cell 1;have dU:=q.frozen 1;have lH:=q.bF 1 (.slice K (s.sn.length+1) J);simp only[ef,ip,jt] at lH;have a8:afq w (Z.setCell ⟨E,1,none⟩ (.slice K (s.sn.length+1) J)) (.slice A s.pk.length a) (.slice B s.sn.length b) (.slice C s.lg.length c) E (.slice Q o.length O) (.slice K (s.sn.length+1) J) (.slice Al s.lg.length cl) o (s.sn++[kq s0 key t]) s.lg (Z.setCell ⟨E,1,none⟩ (.slice K (s.sn.length+1) J)).heap.size:=
     ⟨bV (dz m F k.out.k0 (by decide)) (p:=⟨E,1,none⟩) _ (by dsimp only;omega),bV (dz m F k.out.k1 (by decide)) (p:=⟨E,1,none⟩) _ (by dsimp only;omega),lH,
      by simp only[be];exact bD.ar.wide (cI bD.ar (jr m F bD.ar k.out.op (by decide)) q (by decide) 1 _) (am _) (by omega),
      by simp only[be];exact cI bQ.ar o9 q (by decide) 1 _,
      by simp only[be];exact dy.ar.wide (cI dy.ar (jr m F dy.ar k.out.ol (by decide)) q (by decide) 1 _) (am _) (by omega),
      (k.out.bl.trans (F.below k.out.bl.size λi hi hs=>by have:=m.ob hs;omega)).setCell (by dsimp only;omega) _,bk,by simp only[be];omega,am _⟩
    have a0:=ab a8;clear a8 m q;have cN:=lH.cell;clear lH o9 F c6 k af b6;go_wp2_with(at_builtin;refine gu ?_);refine⟨?_,trivial⟩;obtain⟨V,bz⟩:∃V,V=Z.setCell ⟨E,1,none⟩ (.slice K (s.sn.length+1) J):=⟨_,rfl⟩;have bw:V.heap.size=Z.heap.size:=by rw[bz];simp only[be]
    have e1:w6.heap.size<=V.heap.size:=by rw[bw];exact z9
    rw[<-bz] at a0 cN ⊢;clear bz;generalize hG:V.alloc (.cells #[.int .i64 u,.int .i64 s0] 62)=w11 at *;obtain⟨aY,e2,q0,d2,cY⟩:=mL hG;clear hG;rw[bw] at q0;clear bw;have H:=a0.out.below aY;have m:=H.ol;refine gS (bP.ar og) (by decide) (v:=.slice Al s.lg.length cl) rfl (.tmp 81) (.tmp 85) 25 rfl ahe (⟨u,s0⟩:Hd) rfl m rfl q0 rfl (by simp[Value.oneCell']) (show V.heap.size<=w11.heap.size from aY.size) ⟨rfl,bo.out,by show bZ s0;unfold bZ;omega⟩ (am _) (by omega) (by omega) ?_;intro ez a9 W N d8;obtain⟨I,G,rfl⟩:=W.form;rw[aE,mp] at W;rw[aE,mp];have U:=dz m N H.m (by decide);have X:=dz m N H.k1 (by decide);have ej:=U.cell;have e4:=U.frozen;have e9:=X.cell;have e7:=X.frozen;have ay:=jr m N bD.ar H.op (by decide);have b0:=jr m N bQ.ar H.os (by decide);have aZ:Below w.heap.size w a9:=H.bl.trans (N.below H.bl.size λi hi hs=>by have:=m.ob hs;omega);have em:=N.size;have eA:=aY.size;have HF:=ab (And.intro ay (And.intro b0 (And.intro W (And.intro aZ (And.intro U X)))));clear ay b0 W aZ U X m H a0 cN aY q0 d2 cY N d8;go_wp2;obtain⟨ay,b0,W,aZ,U,X⟩:=HF.out;have ey:=U.bF 2 (.slice I (s.lg.length+1) G);have b9:=bV X (p:=⟨E,2,none⟩) (.slice I (s.lg.length+1) G) (by dsimp only;omega);have k4:=((b9.bF 0 (.slice Q o.length O)).bF 1 (.slice K (s.sn.length+1) J)).bF 2 (.slice I (s.lg.length+1) G);simp only[ef,ip,jt] at k4;have bn:=k4.cell;have bl:∀{β:Type} {D:fV β} {T:List TypeId} {y:β} {cs:List Value},dC D T->27∉T->D a9 w.heap.size a9.heap.size y cs->D ((((a9.setCell ⟨E,2,none⟩ (.slice I (s.lg.length+1) G)).setCell ⟨w.heap.size+1,0,none⟩ (.slice Q o.length O)).setCell ⟨w.heap.size+1,1,none⟩ (.slice K (s.sn.length+1) J)).setCell ⟨w.heap.size+1,2,none⟩ (.slice I (s.lg.length+1) G)) w.heap.size ((((a9.setCell ⟨E,2,none⟩ (.slice I (s.lg.length+1) G)).setCell ⟨w.heap.size+1,0,none⟩ (.slice Q o.length O)).setCell ⟨w.heap.size+1,1,none⟩ (.slice K (s.sn.length+1) J)).setCell ⟨w.heap.size+1,2,none⟩ (.slice I (s.lg.length+1) G)).heap.size y cs:=λ{_ _ _ _ _} hD hT hy=>by
     simp only[be];exact cI hD (cI hD (cI hD (cI hD hy U hT 2 _) b9 hT 0 _) (b9.bF 0 _) hT 1 _) ((b9.bF 0 _).bF 1 _) hT 2 _
    refine pa (v:=.tuple #[.agg #[.slice Q o.length O,.slice K (s.sn.length+1) J,.slice I (s.lg.length+1) G],.bool true]) (by simp[results,results26,go_sem,bn]) rfl ⟨_,_,_,true,acL key s u t,rfl, ?_,.inl ⟨rfl,HY.out,rfl⟩,(((aZ.setCell (by dsimp only;omega) _).setCell (by simp) _).setCell (by simp) _).setCell (by simp) _⟩;rw[ds.out];exact⟨bl bD.ar (by decide) (bD.ar.wide ay (am _) (by omega)),bl bQ.ar (by decide) (bQ.ar.wide b0 (am _) (by omega)),bl dy.ar (by decide) W⟩
   all_goals
    have HN:Hid (¬aeX key s t):=ab λh=>by have:=aT.out.1 h;omega
    first|have t3:=dj (show(20:Int)<(o.length:Int) by omega)|have t3:=da (show ¬((20:Int)<(o.length:Int)) by omega)
    first|have t4:=dj (show 99<no-1 by omega)|(try have t4:=da (show ¬(99<no-1) by omega))
    first|have t5:=dj (show 20<s0 by omega)|(try have t5:=da (show ¬(20<s0) by omega))
    try have t6:=dj (show(9:Int)<=(s.lg.length:Int) by omega)
    clear hc;clear aT;go_wp2;have cE:=h.below n.out.bl aX;refine(eT s _ _ _ wr lo hi cE.l (by have:=n.out.bl.size;omega) (by omega)).mono ?_;rintro e w7 ⟨v1,v2,v3,rfl,oc,b7⟩;obtain⟨A1,cw,rfl⟩:=oc.pk.form;obtain⟨A2,c7,rfl⟩:=oc.sn.form;obtain⟨A3,cG,rfl⟩:=oc.lg.form;have kr:=ak n.out.k1 b7;have en:=kr.cell;have ec:=kr.frozen;have z7:=n.out.bl.size;have e0:=ag n.out.bl b7;clear cm cZ cE;go_wp2;have k4:=((kr.bF 0 (.slice A1 s.pk.length cw)).bF 1 (.slice A2 s.sn.length c7)).bF 2 (.slice A3 s.lg.length cG);simp only[ef,ip,jt] at k4;have bn:=k4.cell;refine pa (v:=.tuple #[.agg #[.slice A1 s.pk.length cw,.slice A2 s.sn.length c7,.slice A3 s.lg.length cG],.bool false]) (by simp[results,results26,go_sem,bn]) rfl ⟨_,_,_,false,s,rfl, ?_,.inr ⟨rfl,HN.out,rfl⟩,((e0.setCell (by simp) _).setCell (by simp) _).setCell (by simp) _⟩;simp only[be];have e6:=n.out.k1.lt;exact oc.go (λb eC e8=>by
     have bf:b≠w.heap.size+1:=by omega
     rw[io _ _ _ _ bf,io _ _ _ _ bf,io _ _ _ _ bf]) (by omega) (am _)
end
section
variable {β:Bool}
open Go.RowKit
inductive iB:dK->Prop
 |nil:iB ⟨[],[],[]⟩
 |save {s:dK} {b:Int} {t:List Nd}:iB s->b=1\/b=2->lh t->aeX 7 s t->iB (acL 7 s b t)
structure WfS (s:dK):Prop where
 pl:s.pk.length<=20
 pn:∀p∈s.pk,(1<=p.no/\p.no<=99)/\p.its.length<=4/\∀x∈p.its,x.b.size<=8
 sl:s.sn.length=s.lg.length
 sn:∀x∈s.sn,(1<=x.no/\x.no<=20)/\x.all.length<=6/\∀y∈x.all,y.p.size<=3/\y.ns.length<=40
 ll:s.lg.length<=9
 lg:∀h∈s.lg,(1<=h.b/\h.b<=2)/\1<=h.s/\h.s<=20
def nL(key:Int):∀(n:Nat) (no:Int) (l:List ByteArray),l.length<=n->∀p∈fS key no l,no<=p.no/\p.no<no+(fS key no l).length/\∃c:List ByteArray,p.its=gR key c/\1<=c.length/\c.length<=4/\∀x∈c,x∈l
 |0,no,l,h,p,a=>by rw[qT.1 (by omega:l.length=0),aa9] at a;cases a
 |n+1,no,l,h,p,a=>by
  rcases qa l.length with d|d
  .rw[qT.1 d,aa9] at a;cases a
  .rw[adb key no d] at a ⊢;rw[ga];rcases oE.1 a with rfl|a
   .exact⟨uP _,by show no<_;omega,l.take 4,rfl,by rw[fa];omega,by rw[fa];omega,λx b=>pu b⟩
   .obtain⟨k,j,c,e,g,i,f⟩:=nL key n (no+1) (l.drop 4) (by rw[qj];omega) p a;exact⟨by omega,by omega,c,e,g,i,λx b=>uF (f x b)⟩
def alj{l:List Pk}(h:∀p∈l,1<=p.no):1<=fQ l:=by
 unfold fQ;cases a:l.getLast? with
 |none=>show(1:Int)<=0+1;omega
 |some p=>have:=h p (vZ a);show(1:Int)<=p.no+1;omega
def ade:∀(l:List Hd) (a:Int),1<=a->1<=l.foldl (λa h=>max a (h.s+1)) a
 |[],a,ha=>ha
 |x::l,a,ha=>ade l (max a (x.s+1)) (by omega)
def alk(s:dK):1<=eX s:=by
 have a:1<=fR s.lg:=ade s.lg 1 (by omega);unfold eX;cases s.sn.getLast? with
 |none=>exact a
 |some x=>show 1<=max (fR s.lg) (x.no+1);omega
def ai1(h:bB (bs s)):(lj key s).b.size<=8:=by
 show(rE (gb (bs s))).size<=8;rw[<-aO,agK,ah4 h];exact pO.1
def acM{t:List Nd}(h:lh t):∀x∈t,dH x.b=true:=λx a=>(h.1 x a).2
def WfS.saved{s:dK}{b:Int}{t:List Nd}(h:WfS s)(D:b=1\/b=2)(j:lh t)(A:aeX 7 s t):WfS (acL 7 s b t):=by
 obtain⟨r,F,n,E⟩:=A;have i:=alk s;refine⟨r,λp d=> ?_, ?_,λx a=> ?_, ?_,λy g=> ?_⟩
 .rcases mx.1 d with d|d
  .exact h.pn p d
  .obtain⟨k,o,c,m,v,w,B⟩:=nL 7 _ _ _ (am _) p d;have C:=alj (l:=s.pk) λp d=>(h.pn p d).1.1;refine⟨⟨by omega, ?_⟩,by rw[m,pX];exact w,λx a=> ?_⟩
   .have e:(ahm 7 s t).length=(fS 7 (fQ s.pk) (aa2 7 (aca s.pk) t)).length:=rfl;omega
   .rw[m] at a;obtain⟨q,u,rfl⟩:=acI.1 a;exact ai1 (nI (acM j) q (B q u))
 .show(s.sn++[_]).length=(s.lg++[_]).length;rw[aE,aE,h.sl];rfl
 .rcases mx.1 a with a|a
  .exact h.sn x a
  .rw[pe.1 a];refine⟨⟨i,n⟩,by show(t.map (ab9 7)).length<=6;rw[qc];exact j.2.1,λy g=> ?_⟩;obtain⟨f,z,rfl⟩:=ql.1 g;have k:=j.1 f z;have o:=kW k.1;have m:=abT f.b;have v:=(kJ k.2).1;exact⟨by show f.p.size<=3;omega,by show((jT f.b).map _).length<=40;rw[qc];omega⟩
 .show(s.lg++[_]).length<=9;rw[aE,mp];omega
 .rcases mx.1 g with g|g
  .exact h.lg y g
  .rw[pe.1 g];exact⟨by show 1<=b/\b<=2;omega,i,n⟩
def iB.wf{s:dK}(h:iB s):WfS s:=by
 induction h with
 |nil=>exact⟨fb _,λp a=>(by cases a),rfl,λp a=>(by cases a),fb _,λp a=>(by cases a)⟩
 |save _ e d c b=>exact b.saved e d c
def iY{a:Type}{f:a->Nat}{b:Nat}:∀{l:List a},(∀x∈l,f x<=b)->dX f l<=l.length*(b+1)
 |[],_=>oS (uE _).symm
 |x::l,h=>by
  have g:=h x (by simp);have d:=iY (f:=f) (b:=b) (l:=l) λy c=>h y (by simp[c]);have e:dX f (x::l)=dX f l+1+f x:=by unfold dX;simp only[ga,sd,List.sum_cons];omega
  rw[e,ga,rm];omega
def WfS.small{s:dK}(h:WfS s):alf 1000000 s:=⟨λp a=>by have:=(h.pn p a).1;omega,λx c=>by have:=(h.sn x c).1;omega,λy b=>by have:=(h.lg y b).2;omega⟩
def ai2:∀l:List Pk,(∀p∈l,p.its.length<=4)->(dW l).length<=l.length*4
 |[],_=>fb _
 |p::l,hl=>by
  have b:=ai2 l λq a=>hl q (by simp[a]);have d:=hl p (by simp);show(aaR p++dW l).length<=_;have c:(aaR p).length=p.its.length:=qc _;rw[aE,ga,rm];omega
def WfS.dW{s:dK}(h:WfS s):(dW s.pk).length<=10000:=by
 have b:=ai2 s.pk λp a=>(h.pn p a).2.1;have:=h.pl;omega
def WfS.aul{s:dK}(h:WfS s):jV s<=10000:=by
 have e:dX bPk s.pk<=s.pk.length*(36+1):=iY λp b=>by
  have c:dX bIt p.its<=p.its.length*(8+1):=iY λx a=>(h.pn p b).2.2 x a;have:=(h.pn p b).2.1;show dX bIt p.its<=36;omega
 have f:dX bSn s.sn<=s.sn.length*(264+1):=iY λx a=>by
  have c:dX bLs x.all<=x.all.length*(43+1):=iY λy d=>by
   have:=(h.sn x a).2.2 y d;show y.p.size+y.ns.length<=43;omega
  have:=(h.sn x a).2.1;show dX bLs x.all<=264;omega
 have:=h.pl;have:=h.sl;have:=h.ll;unfold jV;omega
end
section
variable {β:Bool}
open Go.RowKit
def pkd(p:Pk):iD:=(p.no,p.its.map λx=>(x.n,x.b))
def acN(l:List Pk):List iD:=l.map pkd
open Classical in
noncomputable def jL(l:List ByteArray):ByteArray×Bool:=if dH (rE (jF l))=true/\jT (rE (jF l))=l then(rE (jF l),true) else(⟨#[]⟩,false)
def aow(key:Int)(l:List iD)(ns:List Int):Prop:=∀n∈ns,(cQ key l n).2=true
noncomputable def py(key:Int)(l:List iD)(ns:List Int):List ByteArray:=ns.map λn=>(cQ key l n).1
open Classical in
noncomputable def lv(key:Int)(l:List iD)(x:Ls):Option Nd:=if aow key l x.ns/\(jL (py key l x.ns)).2=true then some ⟨x.p,(jL (py key l x.ns)).1⟩ else none
noncomputable def gG(key:Int)(l:List iD)(xs:List Ls):List Nd:=xs.filterMap (lv key l)
def acO(g f:ByteArray):Bool:=(bs g++[47]).isPrefixOf (bs f)
def amZ(t:List Nd):Prop:=t.length<=6/\∀i x,t[i]?=some x->ahd x/\(∀y,0<i->t[i-1]?=some y->Op.bytesLess y.p.toList x.p.toList=true)/\∀k y,k<i->t[k]?=some y->acO y.p x.p=false
open Classical in
noncomputable def ku(key:Int)(l:List iD)(xs:List Ls):Option (List Nd):=if(∀x∈xs,(lv key l x).isSome=true)/\amZ (gG key l xs) then some (gG key l xs) else none
noncomputable def eu(key:Int)(s:dK)(no:Int):Option (List Nd):=match s.sn.find? (λx=>x.no ==no) with
 |some x=>ku key (acN s.pk) x.all
 |none=>none
def pz{key nm:Int}:∀{l:List iD},(cQ key l nm).2=true↔∃p∈l,(ik key p.2 nm).2=true
 |[]=>by simp[cQ]
 |p::l=>by
  show(if(ik key p.2 nm).2=true then((ik key p.2 nm).1,true) else cQ key l nm:ByteArray×Bool).2=true↔_;by_cases h:(ik key p.2 nm).2=true
  .rw[dq h];exact⟨λ_=>⟨p,by simp,h⟩,λ_=>rfl⟩
  .rw[bv h,pz];constructor
   .rintro⟨q,a,b⟩;exact⟨q,by simp[a],b⟩
   .rintro⟨q,a,b⟩;rcases oE.1 a with rfl|a
    .exact absurd b h
    .exact⟨q,a,b⟩
def aeY{nm:Int}:∀{l:List (Int×ByteArray)} {k:Nat} {x:Int×ByteArray},fq nm l=k->l[k]?=some x->x.1=nm
 |[],k,x,_,h=>by simp at h
 |y::l,k,x,h,hx=>by
  have h:(if y.1=nm then 0 else let j:=fq nm l;if j<0 then -1 else j+1:Int)=k:=h;by_cases a:y.1=nm
  .rw[dq a] at h;obtain rfl:k=0:=by omega
   simp at hx;subst hx;exact a
  .rw[bv a] at h;by_cases b:fq nm l<0
   .have h:(if fq nm l<0 then -1 else fq nm l+1:Int)=k:=h;rw[dq b] at h;omega
   .have h:(if fq nm l<0 then -1 else fq nm l+1:Int)=k:=h;rw[bv b] at h;obtain⟨m,rfl⟩:∃m,k=m+1:=⟨k-1,by omega⟩;exact aeY (l:=l) (k:=m) (by omega) (by simpa using hx)
def am0{nm : Int}{l:List (Int×ByteArray)}{x:Int×ByteArray}(h:fq nm l=k)(a:l[k]?=some x):ik key l nm=gF key x:=by
 unfold ik;rw[h,show((k:Nat):Int).toNat=k from rfl,a];show(if((k:Nat):Int)<0 then _ else _)=_;rw[bv (by omega)]
def aox{nm : Int}{l:List (Int×ByteArray)}(h:fq nm l=-1):ik key l nm=(⟨#[]⟩,false):=by
 unfold ik;rw[h];split
 .rw[dq (by omega)]
 .rfl
def ai3{nm : Int}{l:List (Int×ByteArray)}(h:(ik key l nm).2=true):∃(k:Nat) (x:Int×ByteArray),fq nm l=k/\l[k]?=some x/\x.1=nm/\ik key l nm=gF key x:=by
 rcases ab1 nm l with a|⟨k,x,a,b⟩
 .rw[aox a] at h;cases h
 .exact⟨k,x,a,b,aeY a b,am0 a b⟩
def alm{x:Int×ByteArray}(h:(gF key x).2=true):bB (bs (gF key x).1)/\cP key (bs (gF key x).1)=x.1:=by
 unfold gF at h ⊢;split
 .rename_i a;exact⟨afY a.1,a.2⟩
 .rename_i a;rw[bv a] at h;cases h
def aln{nm : Int}{l:List (Int×ByteArray)}(h:(ik key l nm).2=true):bB (bs (ik key l nm).1)/\cP key (bs (ik key l nm).1)=nm:=by
 obtain⟨k,x,d,c,b,a⟩:=ai3 h;rw[a] at h ⊢;have:=alm h;exact⟨this.1,this.2.trans b⟩
def nM{key nm:Int}:∀{l:List iD},(cQ key l nm).2=true->bB (bs (cQ key l nm).1)/\cP key (bs (cQ key l nm).1)=nm
 |[],h=>by cases h
 |p::l,h=>by
  have e:cQ key (p::l) nm=if(ik key p.2 nm).2=true then((ik key p.2 nm).1,true) else cQ key l nm:=rfl
  rw[e] at h ⊢;by_cases a:(ik key p.2 nm).2=true
  .rw[dq a];exact aln a
  .rw[bv a] at h ⊢;exact nM h
def arn{x y k m r:Int}(g:r+999999999989*k=15*x+55433)(l:r+999999999989*m=15*y+55433)(j:0<=x/\x<282429536481)(i:0<=y/\y<282429536481):x=y:=by
 have a:15*(x-y)=999999999989*(k-m):=by
  rw[Int.mul_sub 999999999989];generalize 999999999989*k=A at *;generalize 999999999989*m=B at *;omega
 clear g l;generalize k-m=d at *;have f:x-y<282429536481/\ -282429536481<x-y:=by clear a;omega
 have e:x-y=0->x=y:=by clear a;omega
 clear j i;generalize x-y=z at *;have c:d<5:=by
  refine Int.lt_of_not_ge λh=> ?_;have:=uK h (show(0:Int)<=999999999989 by decide);rw[<-a] at this;clear a;omega
 have b : -5<d:=by
  refine Int.lt_of_not_ge λh=> ?_;have:=uK h (show(0:Int)<=999999999989 by decide);rw[<-a] at this;clear a;omega
 have:d=-4\/d=-3\/d=-2\/d=-1\/d=0\/d=1\/d=2\/d=3\/d=4:=by clear a f e;omega
 rcases this with rfl|rfl|rfl|rfl|rfl|rfl|rfl|rfl|rfl<;>(first|(exact e (by omega))|(exfalso;clear c b f e;omega))
def aro{x y:Int}(b:0<=x/\x<282429536481)(d:0<=y/\y<282429536481)(h:(15*x+55433) % 999999999989=(15*y+55433) % 999999999989):x=y:=by
 have a:=vR (15*x+55433) 999999999989;have c:=vR (15*y+55433) 999999999989;rw[h] at a;exact arn a c b d
def alo{a b:List Nat}(c:bB a)(d:bB b)(h:cP 7 a=cP 7 b):a=b:=by
 have i:=abG c;have f:=abG d;have e:∀l,cP 7 l=(15*(code l:Int)+55433) % 999999999989:=λl=>by
  unfold cP;rw[show(code l:Int)*(2*7+1)+7*7919=15*(code l:Int)+55433 by clear h i f;generalize (code l:Int)=z;omega]
 rw[e,e] at h;have j:(code a:Int)<282429536481:=by clear h e;omega
 have g:(code b:Int)<282429536481:=by clear h e;omega
 have k:(code a:Int)=code b:=aro ⟨Int.natCast_nonneg _,j⟩ ⟨Int.natCast_nonneg _,g⟩ h;refine anJ c.2 d.2 ?_;show code a=code b;exact Int.ofNat_inj.1 k
def aoy{nm:Int}(h:(cQ 7 l nm).2=true)(e:(cQ 7 l' nm).2=true):(cQ 7 l nm).1=(cQ 7 l' nm).1:=by
 obtain⟨a,b⟩:=nM h;obtain⟨c,d⟩:=nM e;exact oP (alo a c (b.trans d.symm))
def aoz(b:∀nm,(cQ 7 l' nm).2=true->(cQ 7 l nm).2=true)(h:aow 7 l' dA):aow 7 l dA/\py 7 l dA=py 7 l' dA:=
 ⟨λn a=>b n (h n a),wl λn a=>aoy (b n (h n a)) (h n a)⟩
def alp(d:∀nm,(cQ 7 l' nm).2=true->(cQ 7 l nm).2=true){y:Nd}(h:lv 7 l' x=some y):lv 7 l x=some y:=by
 unfold lv at h ⊢;split at h
 .rename_i b;obtain⟨c,a⟩:=aoz d b.1;rw[dq ⟨c,by rw[a];exact b.2⟩,a];exact h
 .cases h
def adf{l l':List iD}(e:∀nm,(cQ 7 l' nm).2=true->(cQ 7 l nm).2=true):∀{xs:List Ls},(∀x∈xs,(lv 7 l' x).isSome=true)->(∀x∈xs,(lv 7 l x).isSome=true)/\gG 7 l xs=gG 7 l' xs
 |[],_=>⟨λx g=>(by cases g),rfl⟩
 |x::xs,h=>by
  obtain⟨y,d⟩:=ry.1 (h x (by simp));have b:=alp e d;obtain⟨f,c⟩:=adf e (xs:=xs) λz a=>h z (by simp[a]);refine⟨λz a=> ?_, ?_⟩
  .rcases oE.1 a with rfl|a
   .rw[b];rfl
   .exact f z a
  .unfold gG at c ⊢;rw[wm,wm,d,b,c]
def alq(d:∀nm,(cQ 7 l' nm).2=true->(cQ 7 l nm).2=true){t:List Nd}(h:ku 7 l' xs=some t):ku 7 l xs=some t:=by
 unfold ku at h ⊢;split at h
 .rename_i b;obtain⟨c,a⟩:=adf d b.1;rw[dq ⟨c,by rw[a];exact b.2⟩,a];exact h
 .cases h
def alr{x:It}:afT key x↔(gF key (x.n,x.b)).2=true:=by
 have e:∀s,(fh s).2=true↔ni (bs s)=some (bs (fh s).1):=λs=>by
  unfold fh ni;rw[agZ];by_cases h:bB (vm (bs s))/\gb (vm (bs s))=bs s
  .rw[dq h,dq h];simp only[tp];rw[agZ]
  .rw[bv h,bv h];simp
 unfold afT gF;constructor
 .rintro⟨p,c,f⟩;have d:(fh x.b).2=true:=by
   unfold fh;rw[agZ];unfold ni at c;split at c
   .rename_i b;rw[dq b]
   .cases c
  have a:=(e x.b).1 d;rw[c] at a;have a:=dk a;rw[dq ⟨d,by rw[<-a];exact f⟩]
 .intro h;split at h
  .rename_i b;exact⟨_,(e x.b).1 b.1,b.2⟩
  .cases h
def arp(h:bB (bs s)):afT key (lj key s):=⟨bs s,by show ni (bs (rE (gb (bs s))))=_;rw[agK,ah5 h],rfl⟩
def aum(p:Pk)(i:Nat):(pkd p).2[i]?=(p.its[i]?).map λx=>(x.n,x.b):=by show(p.its.map _)[i]?=_;rw[qH]
def als{nm : Int}{p:Pk}(c:∀x∈p.its,afT key x)(h:fq nm (pkd p).2=k):(ik key (pkd p).2 nm).2=true:=by
 rcases ab1 nm (pkd p).2 with b|⟨e,x,b,a⟩
 .omega
 .rw[am0 b a];rw[aum] at a;obtain⟨y,d,rfl⟩:=lc.1 a;exact alr.1 (c y (db d))
def ai4{nm:Int}:∀{l a:List (Int×ByteArray)},l.map (·.1)=a.map (·.1)->fq nm l=fq nm a
 |[],[],_=>rfl
 |[],_::_,h=>by simp at h
 |_::_,[],h=>by simp at h
 |x::l,y::a,h=>by
  simp only[sd,qf] at h;show(if x.1=nm then 0 else let j:=fq nm l;if j<0 then -1 else j+1:Int)=(if y.1=nm then 0 else let j:=fq nm a;if j<0 then -1 else j+1:Int);rw[h.1,ai4 h.2]
def aoA{a β:Type}(g:a->β)(f:a->a)(d:∀x,g (f x)=g x)(l:List a)(i:Nat):(se l i f).map g=l.map g:=by
 unfold se;split
 .rename_i x c;apply tv;intro j;rw[qH,qH];by_cases b:i=j
  .subst b;rw[rq (aC c),c];simp[d]
  .rw[rG b]
 .rfl
def aun{s:dK}(m:∀p∈s.pk,∀x∈p.its,afT 7 x)(L:iX)(nm:Int)(h:(cQ 7 (acN (dF s L).pk) nm).2=true):(cQ 7 (acN s.pk) nm).2=true:=by
 have same:(dF s L).pk=s.pk->(cQ 7 (acN s.pk) nm).2=true:=λe=>by rw[e] at h;exact h
 by_cases l:L.k=1
 .rw[aa3 l] at h;obtain⟨p,c,f⟩:=pz.1 h;refine pz.2 ⟨p, ?_,f⟩;obtain⟨q,g,rfl⟩:=ql.1 c;exact wj ((sG.1 g).1)
 by_cases d:L.k=2
 .by_cases b:0<=L.n/\L.n<=s.lg.length
  .exact same (by rw[nK d b])
  .exact same (by rw[lU d b])
 by_cases j:L.k=3
 .rw[aa4 j] at h;obtain⟨p,c,f⟩:=pz.1 h;obtain⟨q,g,rfl⟩:=ql.1 c;obtain⟨r,a,rfl⟩:=ql.1 g;obtain⟨k,x,n, -, -, -⟩:=ai3 f;refine pz.2 ⟨pkd r,wj a,als (m r a) (k:=k) ?_⟩;rw[<-n];refine ai4 ?_;show(r.its.map _).map _=((fA L r).its.map _).map _;rw[List.map_map,List.map_map];unfold fA;split
  .exact(aoA (λx:It=>x.n) (λx=>(⟨x.n,L.b⟩:It)) (λ_=>rfl) r.its L.m.toNat).symm
  .rfl
 by_cases i:L.k=4
 .by_cases b:0<=L.n/\L.n<s.lg.length
  .exact same (by rw[aa5 i b])
  .exact same (by rw[lV i b])
 exact same (by rw[aa6 l d j i])
def iB.items{s:dK}(h:iB s):∀p∈s.pk,∀x∈p.its,afT 7 x:=by
 induction h with
 |nil=>exact λp a=>(by cases a)
 |save _ l d k i=>
  intro p a x b;rcases mx.1 a with a|a
  .exact i p a x b
  .obtain⟨n,j,c,e,m,o,f⟩:=nL 7 _ _ _ (am _) p a;rw[e] at b;obtain⟨q,g,rfl⟩:=acI.1 b;exact arp (nI (acM d) q (f q g))
def iB.one{s:dK}(h:iB s):∀p∈s.pk,1<=p.its.length:=by
 induction h with
 |nil=>exact λp a=>(by cases a)
 |save _ m l i b=>
  intro p a;rcases mx.1 a with a|a
  .exact b p a
  .obtain⟨j,g,c,e,d,k,f⟩:=nL 7 _ _ _ (am _) p a;rw[e,pX];exact d
def adg{e:Type}(q:e->Bool)(f:Int->Bool)(a:e->Int)(n:Int)(i:∀x,q x=f (a x)):∀{l:List e} {x:e},(l.filter q).find? (λx=>a x ==n)=some x->l.find? (λx=>a x ==n)=some x
 |[],x,h=>by simp at h
 |y::l,x,h=>by
  rw[rT];by_cases d:a y=n
  .rw[show(a y ==n)=true from nF.2 d];by_cases c:q y=true
   .rw[rO,dq c,rT,show(a y ==n)=true from nF.2 d] at h;exact h
   .exfalso;have j:=List.mem_of_find?_eq_some h;have g:=List.find?_some h;have b:=(sG.1 j).2;rw[i] at b c;rw[nF.1 g] at b;rw[d] at c;exact c b
  .rw[show(a y ==n)=false from de.2 d];refine adg q f a n i (l:=l) ?_;by_cases c:q y=true
   .rw[rO,dq c,rT,show(a y ==n)=false from de.2 d] at h;exact h
   .rw[rO,bv c] at h;exact h
def axH{s:dK}(L:iX){x:Sn}(h:(dF s L).sn.find? (λx=>x.no ==key)=some x):s.sn.find? (λx=>x.no ==key)=some x:=by
 by_cases d:L.k=1
 .rw[aa3 d] at h;exact h
 by_cases b:L.k=2
 .by_cases a:0<=L.n/\L.n<=s.lg.length
  .rw[nK b a] at h;exact adg (λx:Sn=>!((s.lg.drop L.n.toNat).any λh=>h.s ==x.no)) (λm=>!((s.lg.drop L.n.toNat).any λh=>h.s ==m)) (λx:Sn=>x.no) key (λ_=>rfl) h
  .rw[lU b a] at h;exact h
 by_cases e:L.k=3
 .rw[aa4 e] at h;exact h
 by_cases c:L.k=4
 .by_cases a:0<=L.n/\L.n<s.lg.length
  .rw[aa5 c a] at h;exact h
  .rw[lV c a] at h;exact h
 rw[aa6 d b e c] at h;exact h
def yD{s:dK}(h:iB s)(L:iX){t:List Nd}(a:eu 7 (dF s L) key=some t):eu 7 s key=some t:=by
 unfold eu at a ⊢;split at a
 .rename_i x b;rw[axH L b];exact alq (aun h.items L) a
 .cases a
end
section
variable {β:Bool}
open Go.RowKit
def my:∀(a b:List UInt8),(Op.bytesLess a b||a ==b)=!(Op.bytesLess b a)
 |[],[]=>by simp[Op.bytesLess]
 |[],_::_=>by simp[Op.bytesLess]
 |_::_,[]=>by simp[Op.bytesLess]
 |x::a,y::b=>by
  have j:=my a b;by_cases i:x.toNat<y.toNat
  .have c:decide (x<y)=true:=dj (rP.2 i);have g:decide (y<x)=false:=da λh=>by have:=rP.1 h;omega
   have d:(y ==x)=false:=de.2 λh=>by rw[h] at i;omega
   simp[Op.bytesLess,c,g,d]
  .by_cases e:y.toNat<x.toNat
   .have c:decide (y<x)=true:=dj (rP.2 e);have g:decide (x<y)=false:=da λh=>by have:=rP.1 h;omega
    have d:(x ==y)=false:=de.2 λh=>by rw[h] at e;omega
    have f:(x::a ==y::b)=false:=de.2 λh=>by rw[qf] at h;rw[h.1] at e;omega
    rw[f];simp[Op.bytesLess,c,g,d]
   .obtain rfl:x=y:=uD.1 (by omega);have c:decide (x<x)=false:=da λh=>by have:=rP.1 h;omega
    have f:(x::a ==x::b)=(a ==b):=by rw[List.cons_beq_cons,sU,uX]
    rw[f];simp only[Op.bytesLess,c,uo,sU,uX];exact j
def pA(h:k<s.size):s.toList[k]?=some (s[k]'h):=by
 rw[qK,du];exact fi h
def acb(s:ByteArray):s.toList.length=s.size:=by rw[qK,qL];rfl
end
section
variable {β:Bool}
open Go.RowKit
def ai5(s:ByteArray)(w:World) :
  Calls (ah β) 146 #[.string s,.int .u8 47] w λe a=>e=.returned (.int .i64 (Lib.indexByte s.data.toList 47))/\w=a:=by
 go_enter yf,ntmps146;go_wp2;rw[run_callFunc_extern yc (by kernel_rfl) (by kernel_rfl) (by kernel_rfl) (e:=Extern.BytealgIndexByte.indexByte) (by kernel_rfl),Lib.run_indexByteString];simp only[Result.andThen];rw[Oper.upon_value];go_wp2;go_ret;exact⟨rfl,rfl⟩
noncomputable def alu:Code:=gP (f140.body.getD .skip)
def aCn:Code->Code
 |.seq a _=>a
 |c=>c
def arq:Code->Code
 |.cond _ _ b=>b
 |c=>c
def axI:Code->Code
 |.block _ b=>b
 |c=>c
noncomputable def az5:Code:=bW (bW (bW alu))
noncomputable def az6:Code:=arq (bW (arq (bW (axI (aCn (bW (bW alu)))))))
noncomputable def xIx:Func:={f140 with body:=some ((Code.region 0 #[⟨some 4,Op.assign (Operand.const (Value.int IntKind.i64 0)),3,"strings.go:28",#[],none⟩] false).seq ((Code.region 1 #[⟨some 14,Op.move (Operand.tmp 1),9,"strings.go:29",#[],none⟩,⟨some 15,Op.call ⟨Callee.builtin Builtin.len,#[Operand.tmp 14],#[9]⟩,3,"strings.go:29",#[⟨0,Ground.data⟩],none⟩,⟨some 5,Op.assign (Operand.tmp 15),3,"strings.go:29",#[⟨1,Ground.data⟩,⟨0,Ground.phase⟩,⟨1,Ground.phase⟩],none⟩] false).seq ((Code.block 0 ((Code.region 2 #[⟨some 17,Op.move (Operand.tmp 5),3,"strings.go:31",#[],none⟩,⟨some 18,Op.binOp BinOp.eql 3 (Operand.tmp 17) (Operand.const (Value.int IntKind.i64 0)) 3,4,"strings.go:31",#[⟨0,Ground.data⟩],none⟩,⟨some 19,Op.move (Operand.tmp 18),4,"strings.go:31",#[⟨1,Ground.data⟩],none⟩,⟨some 20,Op.move (Operand.tmp 1),9,"strings.go:31",#[⟨2,Ground.guard⟩],some (2,false)⟩,⟨some 21,Op.move (Operand.tmp 0),9,"strings.go:31",#[⟨2,Ground.guard⟩],some (2,false)⟩,⟨some 22,Op.binOp BinOp.eql 9 (Operand.tmp 20) (Operand.tmp 21) 9,4,"strings.go:31",#[⟨3,Ground.data⟩,⟨4,Ground.data⟩,⟨2,Ground.guard⟩],some (2,false)⟩,⟨some 23,Op.pick (Operand.tmp 19) (Operand.const (Value.bool true)) (Operand.tmp 22),4,"strings.go:31",#[⟨2,Ground.data⟩,⟨5,Ground.data⟩],none⟩,⟨some 16,Op.assign (Operand.tmp 23),4,"strings.go:31",#[⟨6,Ground.data⟩,⟨2,Ground.chain⟩],none⟩] false).seq (Code.cond (Operand.tmp 16) ((Code.region 3 #[⟨some 4,Op.assign (Operand.const (Value.int IntKind.i64 0)),3,"strings.go:32",#[],none⟩] false).seq Code.ret) ((Code.region 4 #[⟨some 25,Op.move (Operand.tmp 5),3,"strings.go:33",#[],none⟩,⟨some 26,Op.binOp BinOp.eql 3 (Operand.tmp 25) (Operand.const (Value.int IntKind.i64 1)) 3,4,"strings.go:33",#[⟨0,Ground.data⟩],none⟩,⟨some 24,Op.assign (Operand.tmp 26),4,"strings.go:33",#[⟨1,Ground.data⟩],none⟩] false).seq (Code.cond (Operand.tmp 24) ((Code.region 5 #[⟨some 27,Op.move (Operand.tmp 0),9,"strings.go:34",#[],none⟩,⟨some 28,Op.move (Operand.tmp 1),9,"strings.go:34",#[],none⟩,⟨some 29,Op.index 9 (Operand.tmp 28) (Operand.const (Value.int IntKind.i64 0)),5,"strings.go:34",#[⟨1,Ground.data⟩],none⟩,⟨some 30,Op.call ⟨Callee.value (Operand.func 146),#[Operand.tmp 27,Operand.tmp 29],#[9,5]⟩,3,"strings.go:34",#[⟨0,Ground.data⟩,⟨2,Ground.data⟩],none⟩,⟨some 4,Op.assign (Operand.tmp 30),3,"strings.go:34",#[⟨3,Ground.data⟩,⟨3,Ground.chain⟩,⟨0,Ground.phase⟩,⟨1,Ground.phase⟩,⟨2,Ground.phase⟩,⟨3,Ground.phase⟩],none⟩] false).seq Code.ret) az6))))).seq az5)))}
def ars:f140.body.map gP=xIx.body:=by
 unfold xIx az6 az5 alu gP
 kernel_rfl
def alv:(ah β).funcs[140]?=some xIx:=by
 refine(aj9 β (by decide) (by decide)).trans ?_;have e:Option.map pf (prog.funcs[140]?)=Option.map pf (some f140):=jn _ func140;rw[e,qk];unfold pf;rw[ars];rfl
@[go_sem] theorem az7(args:Array Value)(w:World):(callFunc 140 args).run (ah β) w=.ok (.enter 140 args) w:=by
 have a:=cB func140;exact kS alv a rfl args w
def auo(s:ByteArray)(w:World) :
  Calls (ah β) 140 #[.string s,.string ⟨#[47]⟩] w λe g=>e=.returned (.int .i64 (Lib.indexByte s.data.toList 47))/\w=g:=by
 have d:xIx.ntmps=143:=ntmps140;have c:xIx.results=#[.tmp 4]:=results140;by_cases a:s.toList=[47]
 .have f:([47] ==s.toList)=true:=by rw[a];rfl
  have b:Lib.indexByte s.data.toList 47=0:=by
   rw[show s.data.toList=s.toList by rw[qK],a];rfl
  replace b:=ab b;go_enter alv,d;go_wp2;exact pa (v:=.int .i64 0) (by simp[results,c,go_sem]) rfl ⟨by rw[b.out],rfl⟩
 .have f:([47] ==s.toList)=false:=de.2 λe=>a e.symm;go_enter alv,d;go_wp2;refine(ai5 s w).mono ?_;rintro e i ⟨rfl,rfl⟩;go_wp2;exact pa (v:=.int .i64 (Lib.indexByte s.data.toList 47)) (by simp[results,c,go_sem]) rfl ⟨rfl,rfl⟩
open Classical in
noncomputable def dm(s:ByteArray):ByteArray×ByteArray×Bool:=if Lib.indexByte s.data.toList 47<0 then(s,⟨#[]⟩,false) else(s.extract 0 (Lib.indexByte s.data.toList 47).toNat,s.extract ((Lib.indexByte s.data.toList 47).toNat+1) s.size,true)
def ai6(s:ByteArray):Lib.indexByte s.data.toList 47=-1\/∃k:Nat,Lib.indexByte s.data.toList 47=k/\k<s.size:=by
 rcases Int.lt_or_le (Lib.indexByte s.data.toList 47) 0 with h|h
 .left;have:=Lib.indexByte_ge s.data.toList 47;omega
 .right;obtain⟨k,a⟩:=qe h;refine⟨k,a, ?_⟩;have:=aC (Lib.indexByte_some a).1;rw[qL] at this;exact this
def axJ(s:ByteArray)(g:s.size<=maxLen)(w:World) :
  Calls (ah β) 133 #[.string s,.string ⟨#[47]⟩] w λe f=>e=.returned (.tuple #[.string (dm s).1,.string (dm s).2.1,.bool (dm s).2.2])/\Below w.heap.size w f:=by
 unfold maxLen at g;have HC:=ab (auo (β:=β) s w);rcases ai6 s with h|⟨k,h,n⟩
 .have b:dm s=(s,⟨#[]⟩,false):=by unfold dm;rw[dq (by omega)]
  have a:=ab b;rw[h] at HC;go_enter xm,ntmps133;go_wp2;refine HC.out.mono ?_;rintro e d ⟨rfl,rfl⟩;go_wp2
  go_ret3
  rw[a.out];exact⟨rfl,fd _ _⟩
 .have b:dm s=(s.extract 0 k,s.extract (k+1) s.size,true):=by unfold dm;rw[bv (by omega),h];rfl
  have a:=ab b;rw[h] at HC;have l:=dj (show 0<=(k:Int) by omega);go_enter xm,ntmps133;go_wp2;refine HC.out.mono ?_;rintro e d ⟨rfl,rfl⟩;go_wp2;refine aF 12 [0,1,2,3,4,5,6,7,8,9,10,11] [] (h:= ?_);simp only[pick,List.map,ge,gn];repeat(go_big_quiet_step (fail))
  refine gt ?_;apply Exists.intro;refine aS ?_;intro o j m i c;dsimp only[dP] at c;try rw[i] at c
  simp only[List.drop];go_wp2
  go_ret3
  rw[a.out];exact⟨rfl,j⟩
def az8(s:ByteArray)(c:s.size<=maxLen)(w:World) :
  Calls (ah β) 114 #[.string s,.string ⟨#[47]⟩] w λe a=>e=.returned (.tuple #[.string (dm s).1,.string (dm s).2.1,.bool (dm s).2.2])/\Below w.heap.size w a:=by
 go_enter yx,ntmps114;go_wp2;refine(axJ s c w).mono ?_;rintro e d ⟨rfl,b⟩;go_wp2
 go_ret3
 exact⟨rfl,b⟩
def acd(s:ByteArray):Bool:=if h:s.size=1 then nm (s[0]'(by omega)).toNat else false
def pB(s:ByteArray)(m:s.size<=maxLen)(w:World) :
  Calls (ah β) 115 #[.string s] w λe l=>e=.returned (.bool (acd s))/\w=l:=by
 unfold maxLen at m;by_cases d:s.size=1
 .have a:0<s.size:=by omega
  have k:((s.size:Int) ==1)=true:=by rw[d];rfl
  have b:acd s=nm (s[0]'a).toNat:=by unfold acd;rw[tL d]
  rw[b];clear b;by_cases g:97<=(s[0]'a).toNat
  .by_cases i:(s[0]'a).toNat<=101
   .have e:nm (s[0]'a).toNat=true:=by unfold nm;rw[dj g,dj i];rfl
    have c:=ab e;clear e;have j:=dj (show((s[0]'a).toNat:Int)<=101 by omega);have f:=dj (show 97<=((s[0]'a).toNat:Int) by omega);go_enter wG,ntmps115;go_wp2;go_ret;exact⟨by rw[c.out];rfl,rfl⟩
   .have e:nm (s[0]'a).toNat=false:=by unfold nm;rw[da i,Bool.and_false]
    have c:=ab e;clear e;have j:=da (show ¬(((s[0]'a).toNat:Int)<=101) by omega);have f:=dj (show 97<=((s[0]'a).toNat:Int) by omega);go_enter wG,ntmps115;go_wp2;go_ret;exact⟨by rw[c.out];rfl,rfl⟩
  .have e:nm (s[0]'a).toNat=false:=by unfold nm;rw[da g,uN]
   have c:=ab e;clear e;have f:=da (show ¬(97<=((s[0]'a).toNat:Int)) by omega);go_enter wG,ntmps115;go_wp2;go_ret;exact⟨by rw[c.out];rfl,rfl⟩
 .have k:((s.size:Int) ==1)=false:=de.2 (by omega);have b:acd s=false:=by unfold acd;rw[dif_neg d]
  have n:=ab b;clear b;go_enter wG,ntmps115;go_wp2;go_ret;exact⟨by rw[n.out];rfl,rfl⟩
def acP :acd s=match s.toList with|[a]=>nm a.toNat|_=>false:=by
 have c:=acb s;unfold acd;split
 .rename_i h;rw[h] at c;obtain⟨a,d⟩:=uj.1 c;have:=pA (s:=s) (k:=0) (by omega);rw[d] at this ⊢;simp only[ud,mt] at this;rw[<-this]
 .rename_i h
  match hs:s.toList,c with
  |[],_=>rfl
  |[a],c=>exact absurd c.symm h
  |a::b::l,_=>rfl
def aeZ :jc s=match s.toList with|[a]=>nm a.toNat|[a,b,c]=>nm a.toNat&&(decide (b=47)&&nm c.toNat)|_=>false:=by
 have e:=acb s;unfold jc;split
 .rename_i h;rw[h] at e;obtain⟨a,m⟩:=uj.1 e;have:=pA (s:=s) (k:=0) (by omega);rw[m] at this ⊢;simp only[ud,mt] at this;rw[<-this]
 .rename_i n;split
  .rename_i j;have i:=pA (s:=s) (k:=0) (by omega);have g:=pA (s:=s) (k:=1) (by omega);have f:=pA (s:=s) (k:=2) (by omega)
   match hs:s.toList,e,i,g,f with
   |[a,b,c],_,i,g,f=>
    simp at i g f;show _=(nm a.toNat&&(decide (b=47)&&nm c.toNat));rw[i,g,f]
    congr 2
    rw[ut,<-uD];exact Iff.rfl
   |[],e,_,_,_=>simp at e;omega
   |[a],e,_,_,_=>simp at e;omega
   |[a,b],e,_,_,_=>simp at e;omega
   |a::b::c::d::l,e,_,_,_=>simp at e;omega
  .rename_i j
   match hs:s.toList,e with
   |[],_=>rfl
   |[a],e=>exact absurd e.symm n
   |[a,b],_=>rfl
   |[a,b,c],e=>exact absurd e.symm j
   |a::b::c::d::l,_=>rfl
def ai7(s:ByteArray)(a b:Nat):(s.extract a b).toList=(s.toList.take b).drop a:=by
 rw[qK,qK,vL,tJ,vz,List.take_drop];by_cases h:a<=b
 .congr 2;omega
 .have:b-a=0:=by omega
  rw[this,rM (by simp;omega),rM (by simp;omega)]
def ai8(s:ByteArray):jc s=(acd (dm s).1&&(!(dm s).2.2||acd (dm s).2.1)):=by
 have hd:s.data.toList=s.toList:=by rw[qK]
 rcases ai6 s with h|⟨k,h,f⟩
 .have i:dm s=(s,⟨#[]⟩,false):=by unfold dm;rw[dq (by omega)]
  rw[i];show _=(acd s&&true);rw[uq,acP,aeZ];have m:=Lib.indexByte_none h;rw[hd] at m
  match hs:s.toList with
  |[]=>rfl
  |[a]=>rfl
  |[a,b]=>rfl
  |[a,b,c]=>
   have:=m 1;rw[hs] at this;have j:b≠47:=by simpa using this
   show(nm a.toNat&&(decide (b=47)&&nm c.toNat))=false;rw[da j];simp
  |a::b::c::d::l=>rfl
 .have i:dm s=(s.extract 0 k,s.extract (k+1) s.size,true):=by unfold dm;rw[bv (by omega),h];rfl
  rw[i];show _=(acd (s.extract 0 k)&&(false||acd (s.extract (k+1) s.size)));rw[uo,acP,acP,ai7,ai7,aeZ,rH,<-acb,gc];obtain⟨e,g⟩:=Lib.indexByte_some h;rw[hd] at e g;rw[<-acb] at f
  match hs:s.toList,k,e,g,f with
  |[],_,_,_,f=>simp at f
  |[a],0,e,_,_=>
   simp at e;subst e;rfl
  |[a],k+1,_,_,f=>simp at f
  |[a,b],0,_,_,_=>rfl
  |[a,b],1,_,_,_=>simp
  |[a,b],k+2,_,_,f=>simp at f;omega
  |[a,b,c],0,e,_,_=>
   simp at e;subst e;rfl
  |[a,b,c],1,e,_,_=>
   simp at e;subst e;simp
  |[a,b,c],2,e,g,_=>
   have:=g 1 (by omega);have j:b≠47:=by simpa using this
   simp[j]
  |[a,b,c],k+3,_,_,f=>simp at f;omega
  |a::b::c::d::l,0,_,_,_=>rfl
  |a::b::c::d::l,1,_,_,_=>simp
  |a::b::c::d::l,k+2,_,_,_=>simp
def pC(s:ByteArray)(j:s.size<=maxLen)(w:World) :
  Calls (ah β) 75 #[.string s] w λe l=>e=.returned (.bool (jc s))/\Below w.heap.size w l:=by
 have d:(dm s).1.size<=maxLen/\(dm s).2.1.size<=maxLen:=by
  unfold dm;split
  .exact⟨j,fb _⟩
  .refine⟨?_, ?_⟩
   .show(s.extract _ _).size<=_;rw[<-aO,dg,qj,fa,aO];omega
   .show(s.extract _ _).size<=_;rw[<-aO,dg,qj,fa,aO];omega
 have c:=ab (ai8 s);have HC:=ab (az8 (β:=β) s j w);generalize dm s=r at c HC d;obtain⟨a,b,q⟩:=r;dsimp only at c HC d;have n:=ab d.1;have m:=ab d.2;go_enter yS,ntmps75;go_wp2;refine HC.out.mono ?_;rintro e i ⟨rfl,g⟩;go_wp2;refine(pB a n.out i).mono ?_;rintro e o ⟨rfl,rfl⟩;cases k:acd a
 .rw[k] at c;go_wp2;go_ret;exact⟨by rw[c.out];simp,g⟩
 .rw[k] at c;cases q
  .go_wp2;go_ret;exact⟨by rw[c.out];simp,g⟩
  .go_wp2;refine(pB b m.out i).mono ?_;rintro e o ⟨rfl,rfl⟩;cases f:acd b<;>rw[f] at c<;>clear f
   .go_wp2;go_ret;exact⟨by rw[c.out];simp,g⟩
   .go_wp2;go_ret;exact⟨by rw[c.out];simp,g⟩
end
section
variable {β:Bool}
open Go.RowKit
def am1{t : ByteArray}(h:s=t):(s.toList ==t.toList)=true:=by subst h;exact sU _
def alx(xs f:List ByteArray)(L O:Value)(w:World)(T hi H I:Nat)(z:dt w T hi xs [L])(J:dt w H I f [O])(C:hi<=w.heap.size)(D:I<=w.heap.size)(q:Bool)(j:q=true↔xs=f) :
  Calls (ah β) 73 #[L,O] w λe R=>e=.returned (.bool q)/\Below w.heap.size w R:=by
 have v:=ab j;clear j;obtain⟨A,c,rfl⟩:=z.form;obtain⟨B,d,rfl⟩:=J.form;obtain⟨_,hc,Z⟩:=z.len_;unfold maxLen at Z;go_enter yU,ntmps73;by_cases a:xs.length=f.length
 .have X:((xs.length:Int) !=f.length)=false:=by rw[qD];omega
  replace a:=ab a;go_wp2;go_loopw [13] (λi wr=>∃k:Nat,k<=xs.length/\i=.int .i64 k/\xs.take k=f.take k/\Below w.heap.size w wr) (λi _=>xs.length-(intOf i).toNat)
  case atStart=>exact⟨0,fb _,rfl,rfl,fd _ _⟩
  case round=>
   obtain⟨k,hk,rfl,g,b⟩:=hrel;have P:=ab g;clear g;by_cases u:k<xs.length
   .obtain⟨x,m⟩:=aq u;obtain⟨y,p⟩:=aq (l:=f) (k:=k) (by have:=a.out;omega);obtain⟨b1,Y,rfl,_,_,U,M⟩:=kZ (dt.ar.below z b C) m;obtain⟨b2,iE,rfl,_,_,V,N⟩:=kZ (dt.ar.below J b D) p;have W:(k:Int)<(f.length:Int):=by have:=a.out;omega
    replace m:=ab m;replace p:=ab p;by_cases g:x=y
    .have Q:=am1 g;have G:xs.take (k+1)=f.take (k+1):=by rw[li m.out,li p.out,P.out,g]
     replace G:=ab G;clear g;go_wp2;have F:=ae M;have E:=ae N;refine aM (by kernel_rfl) (by kernel_rfl) ?_;repeat(go_big_quiet_step (fail))
     refine gt ?_;intro S r;have j:=bm r;clear r F E;go_wp2;go_roundw
     case rel=>exact⟨k+1,by omega,by go_num,G.out,ag b j⟩
     simp[intOf];omega
    .have Q:=aaL (s:=y) (t:=x) g;have o:q=false:=by
      rw[<-lP,v.out];rintro rfl;exact g (dk (m.out.symm.trans p.out))
     have n:=ab o;clear o g;go_wp2;have F:=ae M;have E:=ae N;refine aM (by kernel_rfl) (by kernel_rfl) ?_;repeat(go_big_quiet_step (fail))
     refine gt ?_;intro S r;have j:=bm r;clear r F E;go_wp2;go_ret;exact⟨aB n.out.symm,ag b j⟩
   .obtain rfl:k=xs.length:=by omega
    have K:q=true:=by
     rw[v.out];have:=P.out
     rwa [gc,pm (by have:=a.out;omega)] at this
    have n:=ab K;clear K;go_wp2;go_ret;exact⟨aB n.out.symm,b⟩
 .have X:((xs.length:Int) !=f.length)=true:=by rw[rF];omega
  have o:q=false:=by
   rw[<-lP,v.out];rintro rfl;exact a rfl
  have n:=ab o;clear o;replace a:=ab a;go_wp2;go_ret;exact⟨aB n.out.symm,fd _ _⟩
end
section
variable {β:Bool}
open Go.RowKit
def aup(p s:ByteArray):(bs p).isPrefixOf (bs s)=true↔p.size<=s.size/\s.extract 0 p.size=p:=by
 rw[List.isPrefixOf_iff_prefix,List.prefix_iff_eq_take,aO];constructor
 .intro h;have a:=jn List.length h;rw[fa,aO,aO] at a;exact⟨by omega,oP (by rw[dg,rH];exact h.symm)⟩
 .rintro⟨-,h⟩;have:=jn bs h;rw[dg,rH] at this;exact this.symm
def aho(s p:ByteArray)(m:s.size<=100)(l:p.size<=100)(w:World)(q:Bool)(k:q=(bs p).isPrefixOf (bs s)) :
  Calls (ah β) 117 #[.string s,.string p] w λe j=>e=.returned (.bool q)/\w=j:=by
 have b:q=true↔p.size<=s.size/\s.extract 0 p.size=p:=by rw[k,aup]
 replace b:=ab b;by_cases f:p.size<=s.size
 .have i:decide (p.size<=s.size)=true:=dj f;by_cases d:s.extract 0 p.size=p
  .have g:=am1 d;have a:q=true:=b.out.2 ⟨f,d⟩;have c:=ab a;go_enter wU,ntmps117;go_wp2;go_ret;exact⟨by rw[c.out];rfl,rfl⟩
  .have g:=aaL (s:=p) (t:=s.extract 0 p.size) d;have a:q=false:=by
    rw[<-lP,b.out];exact λh=>d h.2
   have c:=ab a;go_enter wU,ntmps117;go_wp2;go_ret;exact⟨by rw[c.out];rfl,rfl⟩
 .have i:decide (p.size<=s.size)=false:=da f;have a:q=false:=by
   rw[<-lP,b.out];exact λh=>f h.1
  have c:=ab a;go_enter wU,ntmps117;go_wp2;go_ret;exact⟨by rw[c.out];rfl,rfl⟩
def ai9(s p:ByteArray)(d:s.size<=100)(b:p.size<=100)(w:World)(q:Bool)(a:q=(bs p).isPrefixOf (bs s)) :
  Calls (ah β) 78 #[.string s,.string p] w λe c=>e=.returned (.bool q)/\w=c:=by
 replace a:=ab a;go_enter yQ,ntmps78;go_wp2;refine(aho s p d b w q a.out).mono ?_;rintro e f ⟨rfl,rfl⟩;go_wp2;go_ret;exact⟨rfl,rfl⟩
def az9:bs ⟨#[47]⟩=[47]:=rfl
def aoB(y f:Nd)(n:y.p.size<=3)(l:f.p.size<=3)(g:Nat)(w:World)(i:w.cell? ⟨g,0,none⟩=some (.string f.p)) :
  Calls (ah β) 77 #[.agg #[.string y.p,.string y.b],.pointer (some ⟨g,0,none⟩)] w λe j=>e=.returned (.bool (acO y.p f.p))/\Below w.heap.size w j:=by
 have d:=av w (.cells #[.string y.p,.string y.b] 67);have k:(w.alloc (.cells #[.string y.p,.string y.b] 67)).cell? ⟨g,0,none⟩=some (.string f.p):=(qp (d.block g (eG i))).trans i;have a:(y.p++⟨#[47]⟩:ByteArray).size<=100:=by
  rw[<-aO,iv,aE,aO,az9,mp];omega
 have c:acO y.p f.p=(bs (y.p++⟨#[47]⟩)).isPrefixOf (bs f.p):=by rw[iv,az9];unfold acO;exact Eq.refl _
 replace c:=ab c;replace a:=ab a;go_enter xB,ntmps77;go_wp2;have b:f.p.size<=100:=by omega
 have HC:=ai9 (β:=β) f.p (y.p++⟨#[47]⟩) b a.out (w.alloc (.cells #[.string y.p,.string y.b] 67)) (acO y.p f.p) c.out;refine HC.mono ?_;rintro e m ⟨rfl,rfl⟩;go_wp2;go_ret;exact⟨rfl,d⟩
def auq:abQ (β:=β) 77:=aez xB (by kernel_rfl) rfl
def ahp(f:Nd)(H:f.p.size<=3)(xs:List Nd)(n:Nat)(Q:n<=xs.length)(s:∀y∈xs.take n,y.p.size<=3)(A:Option Addr)(c g:Nat)(w:World)(L hi:Nat)(h:eD w L hi xs [.slice A xs.length c])(K:hi<=w.heap.size)(C:w.cell? ⟨g,0,none⟩=some (.string f.p)) :
  Calls (ah β) 116 #[.slice A n c,.func (.func 77) #[] #[.pointer (some ⟨g,0,none⟩)]] w λe B=>∃j:Int,e=.returned (.int .i64 j)/\((0<=j/\∃k y,k<n/\xs[k]?=some y/\acO y.p f.p=true)\/(j=-1/\∀k y,k<n->xs[k]?=some y->acO y.p f.p=false))/\Below w.heap.size w B:=by
 obtain⟨_,P,J⟩:=h.1.len_;unfold maxLen at J;have z:=eG C;replace s:=ab s;go_enter yw,ntmps116;go_wp2;go_loopw [8] (λi wr=>∃k:Nat,k<=n/\i=.int .i64 k/\(∀j y,j<k->xs[j]?=some y->acO y.p f.p=false)/\Below w.heap.size w wr) (λi _=>n-(intOf i).toNat)
 case atStart=>exact⟨0,fb _,rfl,λj y E=>absurd E (sF j),fd _ _⟩
 case round=>
  obtain⟨k,N,rfl,a,q⟩:=hrel;replace a:=ab a;have u:wr.cell? ⟨g,0,none⟩=some (.string f.p):=(qp (q.block g z)).trans C;by_cases p:k<n
  .obtain⟨x,o⟩:=aq (l:=xs) (k:=k) (by omega);obtain⟨b,I,rfl,_,_,F,G,M⟩:=jJ (eD.ar.below h q K) o;have r:x.p.size<=3:=s.out x (by
    have:(xs.take n)[k]?=some x:=by rw[qx,dq p];exact o
    exact db this)
   replace o:=ab o;have O:=auq (β:=β) (#[.agg #[.string x.p,.string x.b]]++#[.pointer (some ⟨g,0,none⟩)]) wr;go_wp2;refine(aoB x f r H g wr u).mono ?_;rintro e B ⟨rfl,m⟩;replace m:=ag q m;cases d:acO x.p f.p
   .have v:∀j y,j<k+1->xs[j]?=some y->acO y.p f.p=false:=λj y E t=>by
     rcases pi j k with D|D
     .exact a.out j y D t
     .obtain rfl:j=k:=by omega
      rw[o.out] at t;cases t;exact d
    replace v:=ab v;go_wp2;go_roundw
    case rel=>exact⟨k+1,by omega,by go_num,v.out,m⟩
    simp[intOf];omega
   .replace d:=ab d;go_wp2;go_ret;exact⟨k,rfl,.inl ⟨by omega,k,x,p,o.out,d.out⟩,m⟩
  .obtain rfl:k=n:=by omega
   go_wp2;go_ret;exact⟨-1,rfl,.inr ⟨rfl,a.out⟩,q⟩
def nW(f:Nd)(l:f.p.size<=3)(xs:List Nd)(n:Nat)(r:n<=xs.length)(b:∀y∈xs.take n,y.p.size<=3)(A:Option Addr)(c g:Nat)(w:World)(i hi:Nat)(h:eD w i hi xs [.slice A xs.length c])(t:hi<=w.heap.size)(p:w.cell? ⟨g,0,none⟩=some (.string f.p)) :
  Calls (ah β) 76 #[.slice A n c,.func (.func 77) #[] #[.pointer (some ⟨g,0,none⟩)]] w λe m=>∃q:Bool,e=.returned (.bool q)/\((q=true/\∃k y,k<n/\xs[k]?=some y/\acO y.p f.p=true)\/(q=false/\∀k y,k<n->xs[k]?=some y->acO y.p f.p=false))/\Below w.heap.size w m:=by
 replace b:=ab b;go_enter yR,ntmps76;go_wp2;refine(ahp f l xs n r b.out A c g w i hi h t p).mono ?_;rintro e u ⟨j,rfl,s,d⟩;rcases s with⟨o,a⟩|⟨rfl,a⟩
 .have v:decide (0<=j)=true:=dj o;replace a:=ab a;go_wp2;go_ret;exact⟨true,rfl,.inl ⟨rfl,a.out⟩,d⟩
 .replace a:=ab a;go_wp2;go_ret;exact⟨false,rfl,.inr ⟨rfl,a.out⟩,d⟩
end
section
variable {β:Bool}
open Go.RowKit
def eN(l:List ByteArray):List UInt8:=l.flatMap λs=>s.data.toList
def af6(l:List ByteArray):(eN l).map UInt8.toNat=jF l:=by
 unfold eN jF;rw[List.map_flatMap];rfl
def ae0(l:List ByteArray):∀b∈jF l,b<256:=λb a=>by
 obtain⟨s,_,a⟩:=sq.1 a;exact apW b a
def aoC(l:List ByteArray):(⟨(eN l).toArray⟩:ByteArray)=rE (jF l):=oP (by
 rw[amr (ae0 l),<-af6];rfl)
def aba{l:List ByteArray}{x:ByteArray}(h:l[k]?=some x):eN (l.take (k+1))=eN (l.take k)++x.data.toList:=by
 rw[li h];unfold eN;rw[sX];simp
def acQ:∀{l:List ByteArray},(∀s∈l,s.size<=8)->(eN l).length<=8*l.length
 |[],_=>fb _
 |x::l,h=>by
  have b:=acQ (l:=l) λs a=>h s (by simp[a]);have d:=h x (by simp);show(x.data.toList++eN l).length<=_;have c:x.data.toList.length=x.size:=by rw[qL];rfl
  rw[aE,ga];omega
def fT(h:bB (bs s)):1<=s.size/\s.size<=8:=by have:=h.1;rw[aO] at this;exact this
def art(x:ByteArray):x.data.toList.length=x.size:=by rw[qL];rfl
def av0(x:ByteArray)(l:List UInt8):Lib.byteCells l++Lib.strCells x=Lib.byteCells (l++x.data.toList):=by
 simp[Lib.byteCells,Lib.strCells]
def axK(l:List ByteArray)(u:∀s∈l,bB (bs s))(hl:l.length<=2147483647)(v:Value)(w:World)(lo hi:Nat)(h:dt w lo hi l [v])(Y:hi<=w.heap.size) :
  Calls (ah β) 71 #[v,.string ⟨#[]⟩] w λe w'=>e=.returned (.string (rE (jF l)))/\Below w.heap.size w w':=by
 obtain⟨A,c,rfl⟩:=h.form;obtain⟨_,hc,L⟩:=h.len_;unfold maxLen at L;replace u:=ab u;rcases pi l.length 2 with H|nZ
 .rcases qa l.length with N|N
  .obtain rfl:=qT.1 N;go_enter xi,ntmps71;go_wp2;exact pa (v:=.string ⟨#[]⟩) (by simp[results,results71,go_sem]) rfl ⟨rfl,fd _ _⟩
  .obtain⟨x,rfl⟩:=uj.1 (show l.length=1 by omega);obtain⟨b,o,rfl,_,_,F,G⟩:=kZ h (k:=0) rfl;rw[tD] at G;have Q:rE (jF [x])=x:=by show rE (bs x++[])=x;rw[rU,ayU]
   replace Q:=ab Q;go_enter xi,ntmps71;go_wp2;exact pa (v:=.string x) (by simp[results,results71,go_sem]) rfl ⟨by rw[Q.out],fd _ _⟩
 .have t0:((l.length:Int) ==0)=false:=de.2 (by omega);have t1:((l.length:Int) ==1)=false:=de.2 (by omega);go_enter xi,ntmps71;go_wp2
  go_loop [5,41] (λnn D=>∃k:Nat,k<=l.length/\D=.int .i64 k/\nn=.int .i64 (eN (l.take k)).length/\(eN (l.take k)).length<=8*k) (λ_ D=>l.length-(intOf D).toNat)
  case atStart=>exact⟨0,fb _,rfl,rfl,fb _⟩
  case round=>
   obtain⟨k,hk,rfl,rfl,C⟩:=hrel;by_cases H:k<l.length
   .obtain⟨x,M⟩:=aq H;obtain⟨b,o,rfl,_,_,F,G⟩:=kZ h M;have R:=(fT (u.out x (db M))).2;have d:(eN (l.take (k+1))).length=(eN (l.take k)).length+x.size:=by rw[aba M,aE,art]
    have HST:=ab d;clear d M;obtain⟨n,E⟩:∃n,n=(eN (l.take k)).length:=⟨_,rfl⟩;rw[<-E] at C HST ⊢;clear E;have t3:=da (show ¬(9223372036854775807-(n:Int)<(x.size:Int)) by omega);go_wp2
    go_round
    case rel=>exact⟨k+1,by omega,by go_num,by rw[HST.out];go_num,by rw[HST.out];omega⟩
    simp[intOf];omega
   .obtain rfl:k=l.length:=by omega
    rw[gc] at C ⊢;obtain⟨n,E⟩:∃n,n=(eN l).length:=⟨_,rfl⟩;rw[<-E] at C ⊢;have HN:=ab E;clear E;go_wp2;generalize r:w.alloc (.cells #[.pointer none,.slice none 0 0] 162)=w0;have V:w0.heap[w.heap.size]?=some (.cells #[.pointer none,.slice none 0 0] 162 (0,0)):=by
     rw[<-r];show(w.heap.push _)[w.heap.size]?=_;rw[qR]
    have z:Below w.heap.size w w0:=by rw[<-r];exact(fd _ w).alloc (am _) _
    refine(amH w.heap.size w.heap.size n w0 (am _) V z.size (by omega)).mono ?_;rintro e w2 ⟨rfl,f,g⟩;replace g:=z.trans g;clear z V r;obtain⟨x,a⟩:=aq (l:=l) (k:=0) (by omega);obtain⟨b,o,rfl,_,_,F,G⟩:=kZ (dt.ar.below h g Y) a;rw[tD] at G;have R:=(fT (u.out x (db a))).2;have d:x.data.toList=eN (l.take 1):=by rw[aba (k:=0) a];simp[eN]
    have J:1<=x.size:=(fT (u.out x (db a))).1;have T:=ab J;have q:x=l.headD ⟨#[]⟩:=by
     cases l with
     |nil=>simp at a
     |cons y m=>simp at a;rw[a];rfl
    replace q:=ab q;have HST:=ab d;clear d a J;go_wp2;refine(pd w.heap.size w.heap.size [] x w2 (.inr (.of f)) (by show 0+x.size<=_;omega) g.size).mono ?_;rintro e w3 ⟨rfl,B,p⟩;replace p:=g.trans p;have e3:([]:List Value)++Lib.strCells x=Lib.byteCells (eN (l.take 1)):=by
     have:=av0 x [];rw[ru,HST.out] at this;exact this
    rw[e3] at B;clear g f e3 G HST;go_wp2;have S:l.length-1+1=l.length:=by omega
    go_loopw [65] (λD wr=>∃k:Nat,k+1<=l.length/\D=.int .i64 k/\Lib.IsBuilderF 162 5 w.heap.size w.heap.size (Lib.byteCells (eN (l.take (k+1)))) wr/\Below w.heap.size w wr) (λD _=>l.length-(intOf D).toNat)
    case atStart=>exact⟨0,by omega,rfl,.inr B,p⟩
    case round=>
     clear B p;obtain⟨k,hk,rfl,f,i⟩:=hrel;have W:(Lib.byteCells (eN (l.take (k+1)))).length<=8*l.length:=by
      rw[rI];refine ap (acQ λs hs=>(fT (u.out s (pu hs))).2) ?_;rw[fa];omega
     by_cases a3:k<l.length-1
     .obtain⟨y,O⟩:=aq (l:=l) (k:=k+1) (by omega);obtain⟨b1,a2,U,_,_,a1,d0⟩:=kZ (dt.ar.below h i Y) O;simp only[mt,qz,qu] at U;obtain⟨rfl,rfl⟩:=U;rw[show o+(k+1)=o+1+k by omega] at d0;have a0:=(fT (u.out y (db O))).2;have d:=aba O;have HST:=ab d;clear d O;go_wp2;refine(pd w.heap.size w.heap.size _ ⟨#[]⟩ wr f (by show _+0<=_;omega) i.size).mono ?_;rintro e w4 ⟨rfl,t,j⟩;replace j:=i.trans j;have X:Lib.byteCells (eN (l.take (k+1)))++Lib.strCells ⟨#[]⟩=Lib.byteCells (eN (l.take (k+1))):=rU _;rw[X] at t;clear f i X;go_wp2;refine(pd w.heap.size w.heap.size _ y w4 (.inr t) (by omega) j.size).mono ?_;rintro e w5 ⟨rfl,I,K⟩;replace K:=j.trans K;rw[av0,<-HST.out] at I;clear t j;go_wp2;go_roundw
      case rel=>exact⟨k+1,by omega,by go_num,.inr I,K⟩
      simp[intOf];omega
     .obtain rfl:k=l.length-1:=by omega
      rw[S,gc] at f;have P:eN l≠[]:=by
       intro N;have L:x.data.toList <+: eN l:=by
        obtain⟨y,m,rfl⟩:∃y m,l=y::m:=by
         cases l with
         |nil=>simp at nZ
         |cons y m=>exact⟨y,m,rfl⟩
        have e:=q.out;show x.data.toList <+: _;have e:x=y:=e;rw[e];exact⟨eN m,by simp[eN]⟩
       rw[N] at L;have:=List.prefix_nil.1 L;have Z:=art x;rw[this] at Z;have:=T.out;simp at Z;omega
      have HJ:=ab (aoC l);go_wp2;refine(acE w.heap.size w.heap.size (eN l) wr f P).mono ?_;rintro e w5 ⟨rfl, -,K⟩;go_wp2;exact pa (v:=.string ⟨(eN l).toArray⟩) (by simp[results,results71,go_sem]) rfl ⟨by rw[HJ.out],i.trans K⟩
end
section
variable {β:Bool}
open Go.RowKit Go.Shelf
attribute [local go_sem] Oper.semAt_some
def KpB(n₀ Bs:Nat)(A B:World):Prop:=Below n₀ A B/\B.heap[Bs]?=A.heap[Bs]?
def KpB.refl{A:World}:KpB n₀ Z A A:=⟨fd _ _,rfl⟩
def KpB.t{A B C:World}(h:KpB n₀ Z A B)(k:KpB n₀ Z B C):KpB n₀ Z A C:=⟨h.1.trans k.1,k.2.trans h.2⟩
end
section
variable {β:Bool}
open Go.RowKit
def acR:Op->Bool
 |.move .. | .assign .. | .load .. | .slice .. | .buildSlice .. | .store .. =>true
 |.call c=>match c.callee with
  |.builtin .append=>true
  |_=>false
 |_=>false
def aru{P:Program}{o:Oper}(h:acR o.op=true){ρ:Operand->Value}{i:Next}(d:(execOp ρ o).run P w=.ok i w'):(∃v,i=.value v)\/i=.skip:=by
 obtain⟨dst,op,j,k,after,g⟩:=o;cases op<;>simp only[acR,kw] at h
 case call c=>
  obtain⟨a,args,e⟩:=c;cases a with
  |value x=>cases h
  |invoke x n=>cases h
  |builtin b=>
   cases b<;>first
    |(exfalso;cases h;done)
    |(revert d
      simp only[execOp,resolve,invoke,builtin,tA,tR,uh];generalize (Sem.run P (Builtin.append_ _ _ _) w:Result _)=r;cases r with
      |ok v f=>simp only[Result.andThen];intro d;cases d;exact .inl ⟨_,rfl⟩
      |halt x f=>simp[Result.andThen])
 all_goals
  revert d;simp only[execOp,tA,tR]
 all_goals
  first
   |(intro d;cases d;exact .inl ⟨_,rfl⟩)
   |(generalize (Sem.run P _ w:Result _)=r
     cases r with
     |ok v f=>simp only[Result.andThen];intro d;cases d;first|exact .inl ⟨_,rfl⟩|exact .inr rfl
     |halt x f=>simp[Result.andThen])
section
variable {F:Fence} {m:Nat} {P:Program} {Q:Exit->Act->World->Prop} {md:Region.Mode} {ops:Array Oper}
def aur{o:Oper}{a:Act}{r:Result Next}(e:∀b c,r=.ok b c->(∃v,b=.value v)\/b=.skip)(d:∀a w,T a w->S a w)(h:o.upon P a T Q r):o.uponIn F m P a S Q r:=by
 cases r with
 |ok b c=>
  rcases e b c rfl with⟨v,rfl⟩|rfl
  .exact d _ _ h
  .exact d _ _ h
 |halt x c=>cases x<;>first|exact h|exact h.elim
def aus(k:∀f,F.fn f)(p:∀o∈ops,acR o.op=true)(n:¬LetsOut Q){i:Nat}(j:∀a w,T a w->S a w){a:Act}(h:wpOp P ops Q i T a w):wpOpIn F m P ops Q i S a w:=by
 unfold wpOp at h;unfold wpOpIn;cases e:ops[i]? with
 |none=>rw[e] at h;exact j _ _ h
 |some o=>
  rw[e] at h;have b:=p o (qC e);dsimp only at h ⊢;split
  .rename_i d;rw[dq d] at h;rcases h with h|h
   .refine⟨λf _=>k f, ?_⟩;rw[Oper.semAt_plain F _ _ (by intro c g;rw[g] at b;cases b)];exact aur (λr q l=>aru b l) j h
   .exact absurd h.2 n
  .rename_i d;rw[bv d] at h;exact⟨λf _=>k f,j _ _ h⟩
def aja(e:∀f,F.fn f)(d:∀o∈ops,acR o.op=true)(c:¬LetsOut Q):∀(k:Nat) (b:Array Bool) (a:Act) (w:World),wpAny P md ops Q k b a w->wpAnyIn F m P md ops Q k b a w
 |0,_,_,_,h=>h
 |k+1,b,a,w,h=>⟨h.1,λi g=>aus e d c (λa w h=>aja e d c k _ a w h) (h.2 i g)⟩
end
section
variable {F:Fence} {m:Nat} {P:Program} {Q:Exit->Act->World->Prop} {X:Type} [Nonempty X] [bc X]
def ajb (A:∀f,F.fn f) {l:List Oper} (c:(l.all λo=>acR o.op)=true) (s:¬LetsOut Q) {j:Act} (to:X->World) (le:X->X->Prop) (k:∀x,le x x) (n:Nat) (d e:List Nat) (v:P.follows .mixedOrders=true) (z:aib l n d e=true) (p:aeo l.toArray n j.tmps.size=true)
  (a:X) (b:∀m,m<=n->bc.live m a) (g:∀i,i<n->bc.pend i a) (t:to a=w.drew)
  (h:wpQuiet P l.toArray (λr=>∃x,r=to x) (λy=>∃u,cR P l.toArray to le (wpList P l.toArray Q (l.drop n)) (pick l e) [] u y) ((pick l d).map (·.2)) j):(Code.region Z l.toArray true).wpIn F m P Q j w:=
 wpIn_region_any v (aja A (λo q=>lE.1 c o (by simpa using q)) s _ _ _ _ (aic to le k n d e z p a b g t h))
def afr (r:∀f,F.fn f) {l:List Oper} (a:(l.all λo=>acR o.op)=true) (i:¬LetsOut Q) {d:Act} (n:Nat) (b c:List Nat) (k:P.follows .mixedOrders=true) (q:aib l n b c=true) (e:aeo l.toArray n d.tmps.size=true)
  (h:wpQuiet P l.toArray (λg=>∃x:eR w,g=x.to) (λp=>∃j:List (iM (eR w)),cR P l.toArray (eR.to (w:=w)) (eR.le (w:=w)) (wpList P l.toArray Q (l.drop n)) (pick l c) [] j p) ((pick l b).map (·.2)) d):(Code.region Z l.toArray true).wpIn F m P Q d w:=
 ajb r a i (eR.to (w:=w)) (eR.le (w:=w)) eR.le_refl n b c k q e ⟨w.drew,⟨rfl,rfl,rfl,am _,λ_ _=>rfl⟩⟩ (λ_ _=>trivial) (λ_ _=>trivial) rfl h
end
end
section
variable {β:Bool}
open Go.RowKit Go.Shelf
attribute [local go_sem] Oper.semAt_some
def Prs(l:List Nat):Nat->List (Nat×Nat)->Nat->Prop
 |a,[],b=>a=b
 |a,x::xs,b=>a<l.length/\x=(a,atL l a)/\Prs l (atL l a) xs b
def Prs.snoc{l:List Nat}:∀{a:Nat} {c:List (Nat×Nat)} {b:Nat},Prs l a c b->b<l.length->Prs l a (c++[(b,atL l b)]) (atL l b)
 |a,[],b,h,h1=>by
  have h:a=b:=h;subst h;exact⟨h1,rfl,rfl⟩
 |a,x::c,b,⟨h2,h3,h4⟩,h1=>⟨h2,h3,h4.snoc h1⟩
def Prs.len{l:List Nat}:∀{a:Nat} {c:List (Nat×Nat)} {b:Nat},Prs l a c b->a+c.length<=b
 |a,[],b,h=>by
  have h:a=b:=h;simp;omega
 |a,x::c,b,⟨h1,_,h⟩=>by
  have:=h.len;have:=(eW h1).1;simp only[ga];omega
def Prs.ends{l:List Nat}:∀{a:Nat} {c:List (Nat×Nat)} {b:Nat},Prs l a c b->dB l a (c.map λx=>(x.2:Int)) b
 |a,[],b,h=>h
 |a,x::c,b,⟨h1,e,h⟩=>⟨h1,by rw[e],h.ends⟩
def dT(s:ByteArray)(xs:List (Nat×Nat)):List ByteArray:=xs.map λx=>s.extract x.1 x.2
def Prs.pieces{l:List Nat}:∀{a:Nat} {c:List (Nat×Nat)} {b:Nat},Prs l a c b->dT s c=cx s a (c.map λx=>(x.2:Int))
 |a,[],b,h=>rfl
 |a,x::c,b,⟨h1,e,h⟩=>by
  show s.extract x.1 x.2::dT s c=s.extract a (x.2:Int).toNat::cx s (x.2:Int).toNat _;rw[e,tw,h.pieces]
def Prs.cut{xs:List (Nat×Nat)}(h:Prs (bs s) 0 xs s.size):dT s xs=jT s:=by
 rw[h.pieces,amF h.ends]
def wI(h:Below w.heap.size w w'):w.grownBy w' none:=⟨h.os,h.tape,h.output,h.size,λk a _=>h.block k a⟩
def aoD {W : World} {B : Nat} {t e:TypeId} {v v':Value} {m : Nat} {xs y:List Value}
  (z:Boxed W B t v) (l:t≠e) (c:W.ownsRow Z e U v k xs) (r:n₀<=W.heap.size) (x:n₀<=Z) (D:n₀<=B)
  (b:w.ownsRow Z e U v' m y) (a:W.grownBy w v.ownBlock) :
  Boxed w B t v/\Boxed (w.setCell ⟨B,0,none⟩ v') B t v'/\(w.setCell ⟨B,0,none⟩ v').ownsRow Z e U v' m y/\KeepsOthers W (w.setCell ⟨B,0,none⟩ v')/\Below n₀ W (w.setCell ⟨B,0,none⟩ v')/\(∀k,k<Z->k<W.heap.size->k≠B->(w.setCell ⟨B,0,none⟩ v').heap[k]?=W.heap[k]?):=by
 have f:Boxed w B t v:=z.kept a (z.not_row l c);have i:∀j,v.ownBlock=some j->Z<=j:=λj d=>by
  rcases c.2 with⟨rfl,_⟩|⟨g,cap,s,rfl,C,_,_⟩
  .simp[Value.ownBlock] at d
  .obtain rfl:g=j:=by simpa[Value.ownBlock] using d
   exact C
 refine⟨f,f.set v',b.kept (grownBy_setCell' w B v') (.inr (f.not_row l b).symm), ?_, ?_, ?_⟩
 .refine(vK a λj o d A=> ?_).trans (KeepsOthers.setCell _ _ _);rcases c.2 with⟨rfl,_⟩|⟨g,cap,s,rfl,_,u,_⟩
  .simp[Value.ownBlock] at d
  .obtain rfl:g=j:=by simpa[Value.ownBlock] using d
   rw[u] at A;cases A;rfl
 .exact((fd n₀ W).grown a r λj d=>ap x (i j d)).setCell (p:=⟨B,0,none⟩) D v'
 .intro k E q n;exact(io _ _ _ k n).trans (a.block k q λd=>by have:=i k d.symm;omega)
def aoE{v:Value}(h:bq (λb=>v.ownBlock=some b) w w'):w.grownBy w' v.ownBlock:=⟨h.os,h.tape,h.output,h.size,λk c a=>h.block k c λe=>a e.symm⟩
structure PrC (n:Nat) where
 p:Nat×Nat
 le:p.1<=p.2/\p.2<=n
abbrev axM{n:Nat}(x:PrC n):Array Value:=#[.int .i64 x.p.1,.int .i64 x.p.2]
abbrev mz{n:Nat}(xs:List (PrC n)):List (Nat×Nat):=xs.map PrC.p
def arw (n:Nat) (hn:2<=n) (l j n₀:Nat) (s:ByteArray) (V:s.size<=1000000) (J H:List (PrC s.size)->World->Prop) (W:World) (U:AbidesFrom W.heap.size J)
  (R:∀b x W,J b W->b.length<s.size->YieldAt Fence.wide (n-1) (ah β) l (axM x) W λe W'=>
   (e=.returned (.bool true)/\J (b++[x]) W'/\KpB n₀ j W W')\/(e=.returned (.bool false)/\H (b++[x]) W'))
  (p:Boxed W j 9 (.string s)) (O:n₀<=W.heap.size) (N:J [] W) :
  CallsIn Fence.wide n (ah β) 131 #[.func (.yield l) #[] #[],.pointer (some ⟨j,0,none⟩)] W λe W'=>(∃v,e=.returned v)/\
   ((∃L,Prs (bs s) 0 (mz L) s.size/\J L W')\/(∃b,(∃m,Prs (bs s) 0 (mz b) m)/\H b W')):=by
 refine callsIn_of_wp xo rfl trivial ?_ rfl;simp only[ntmps131,tu,ga,mw,Nat.reduceAdd,Nat.reduceSub,uJ,uI,vj,uM,ru,qW];have Z:=p.lt;have T:Fence.wide.fn 132:=trivial;have Y:1<=n:=by omega
 gi_wp2
 gi_loopw [3] (λi wr=>∃(k:Nat) (f:List (PrC s.size)),k<=s.size/\i=.int .i64 k/\Prs (bs s) 0 (mz f) k/\J f wr/\KpB n₀ j W wr/\W.heap.size<=wr.heap.size) (λi _=>s.size-(intOf i).toNat)
 case atStart=>exact⟨0,[],fb _,rfl,rfl,N,KpB.refl,am _⟩
 case round=>
  obtain⟨k,f,hk,rfl,A,o,M,S⟩:=hrel;have D:Boxed wr j 9 (.string s):=M.2.trans p;have P:=D.cell;by_cases g:k<s.size
  .gi_wp2_with (gi_at_call 132;refine(callsIn_wide.2 (atu s k g V wr)).mono ?_;rintro e t ⟨rfl,u⟩)
   have y:J f t:=U f wr t none o (wI u) (λr e=>by cases e);have z:KpB n₀ j W t:=M.t ⟨u.mono (by omega),u.block j (by omega)⟩;have Q:=u.size;have E:=A.snoc (by rw[aO];exact g);have B:=eW (l:=bs s) (a:=k) (by rw[aO];exact g);rw[aO] at B;obtain⟨fn,I,w,G,K,X⟩:=R f ⟨(k,atL (bs s) k),by show k<=atL (bs s) k/\atL (bs s) k<=s.size;omega⟩ t y (by have:=A.len;rw[qc] at this;omega);dsimp only[axM] at K;rw[K];have d:Prs (bs s) 0 (mz (f++[⟨(k,atL (bs s) k),by show k<=atL (bs s) k/\atL (bs s) k<=s.size;omega⟩])) (atL (bs s) k):=by
    show Prs (bs s) 0 (List.map PrC.p (f++_)) _;rw[tf];exact E
   replace d:=ab d;gi_wp2;refine X.mono ?_;rintro e W3 (⟨rfl,C,q⟩|⟨rfl,F⟩)
   .gi_wp2;go_roundw
    case rel=>exact⟨atL (bs s) k,_,by omega,rfl,d.out,C,z.t q,by have:=q.1.size;omega⟩
    simp[intOf];omega
   .gi_wp2;refine pa (results_none rfl _ _ _) rfl ?_;exact⟨⟨_,rfl⟩,.inr ⟨_,⟨_,d.out⟩,F⟩⟩
  .obtain rfl:k=s.size:=by omega
   gi_wp2
   go_end0
   exact⟨⟨_,rfl⟩,.inl ⟨_,A,o⟩⟩
def aly(n:Nat)(k:2<=n)(a n₀:Nat)(s:ByteArray)(i:s.size<=1000000)(w:World)(b:a<w.heap.size)(c:n₀<=w.heap.size)(p:Boxed w a 9 (.string s)) :
  SeqStopsK Fence.wide n (ah β) 131 #[.pointer (some ⟨a,0,none⟩)] axM (KpB n₀ a) (λo:List (PrC s.size)=>Prs (bs s) 0 (mz o) s.size) (λd=>∃m,Prs (bs s) 0 (mz d) m) s.size w:=λl J j W e f _ q g=>
 arw n k l a n₀ s i J j W f q ((e.block a b).trans p) (ap c e.size) g
def aut(n:Nat)(s:ByteArray)(w:World) :
  CallsIn Fence.wide n (ah β) 113 #[.string s] w λe a=>e=.returned (.func (.func 131) #[] #[.pointer (some ⟨w.heap.size,0,none⟩)])/\a=w.alloc (.cells #[.string s] 9):=by
 refine callsIn_of_wp yy rfl trivial ?_ rfl;simp only[ntmps113,tu,ga,mw,Nat.reduceAdd,Nat.reduceSub,uJ,uI,vj,uM,ru,qW];gi_wp2;go_ret;exact⟨rfl,rfl⟩
def aoF(n:Nat)(hn:6<=n)(s:ByteArray)(G:dH s=true)(w:World) :
  CallsIn Fence.wide n (ah β) 74 #[.string s] w λe W'=>∃v,e=.returned v/\aK ie 9 W' w.heap.size v (jT s)/\Below w.heap.size w W':=by
 have h1:1<=n:=by omega
 have ad:Fence.wide.fn 72:=trivial;have aL:Fence.wide.fn 113:=trivial;have af:s.size<=40:=by unfold dH at G;rw[ff] at G;exact sM G.1
 have H:s.size<=maxLen:=by unfold maxLen;omega
 have HS:=ab G;replace H:=ab H;refine callsIn_of_wp_marks yT rfl trivial ?_ rfl;simp only[ntmps74,tu,ga,mw,Nat.reduceAdd,Nat.reduceSub,uJ,uI,vj,uM,ru,qW]
 gi_wp2_with (first|(gi_at_call 72;refine(callsIn_wide.2 (mO s H.out _)).mono ?_;rintro e w' ⟨rfl,rfl⟩;rw[HS.out])|(gi_at_call 113;refine(aut (n-1) s _).mono ?_;rintro e w' ⟨rfl,rfl⟩))
 have bS:=((Boxed.new w 9 (.string s)).alloc (.cells #[.slice none 0 0] 78)).alloc (.cells #[.string s] 9);have bO:=(Boxed.new (w.alloc (.cells #[.string s] 9)) 78 (.slice none 0 0)).alloc (.cells #[.string s] 9);have S:=Boxed.new ((w.alloc (.cells #[.string s] 9)).alloc (.cells #[.slice none 0 0] 78)) 9 (.string s);simp only[oR] at bO S;have N:Below w.heap.size w (((w.alloc (.cells #[.string s] 9)).alloc (.cells #[.slice none 0 0] 78)).alloc (.cells #[.string s] 9)):=(((fd _ w).alloc (am _) _).alloc (by simp) _).alloc (by simp;omega) _;have hz:(((w.alloc (.cells #[.string s] 9)).alloc (.cells #[.slice none 0 0] 78)).alloc (.cells #[.string s] 9)).heap.size=w.heap.size+3:=by simp
 obtain⟨W0,V⟩:∃W0,((w.alloc (.cells #[.string s] 9)).alloc (.cells #[.slice none 0 0] 78)).alloc (.cells #[.string s] 9)=W0:=⟨_,rfl⟩;try simp only[oR]
 rw[V] at bS bO S N hz ⊢;refine wpIn_rangeFunc_ownH rfl h1 (gf:=131) (lb:=#[.pointer (some ⟨w.heap.size+1+1,0,none⟩)]) rfl trivial (enters_of xo (by kernel_rfl) rfl)
  (aly (n-1) (by omega) (w.heap.size+1+1) w.heap.size s (by omega) W0 (by omega) (by omega) S) KpB.t
  (λW l o o' hl h hc hw=>⟨belowK_b (w:=w) (am _) W l o o' (by omega) h hc hw,World.putObj_heap_other (by omega)⟩) (fd _ _) (λ_=>rfl)
  (λb W=>(((∃v,Boxed W (w.heap.size+1) 78 v/\W.ownsRow W0.heap.size 9 1 v b.length (dV ie (dT s (mz b)))/\True)/\Boxed W w.heap.size 9 (.string s))/\Boxed W (w.heap.size+1+1) 9 (.string s))/\Below w.heap.size w W)
  (λ_ _ _=>False)
  (OwnFrom.and (OwnFrom.and (OwnFrom.and (Own.from (holdsRow_own W0.heap.size (w.heap.size+1) 78 9 1 (λb:List (PrC s.size)=>b.length) (λb=>dV ie (dT s (mz b))) (λ_ _=>True)) _) (Own.from (boxed_own _ _ _) _)) (Own.from (boxed_own _ _ _) _)) (ownFrom_below (am _) (by omega)))
  (λ_ _ _ _ _ G _ _=>G)
  ⟨⟨⟨⟨_,bO,ug _ _ _ _,trivial⟩,bS⟩,S⟩,N⟩
  (λx Z W=>Z={tmps:=#[.string s,.pointer (some ⟨w.heap.size,0,none⟩),.slice none 0 0,.pointer (some ⟨w.heap.size+1,0,none⟩),.int .i64 x.p.1,.int .i64 x.p.2,.string s,.bool true,.bool false,.string s,.func (.func 131) #[] #[.pointer (some ⟨w.heap.size+1+1,0,none⟩)],.int .i64 x.p.1,.int .i64 x.p.2,undef,undef,undef,undef,undef,undef,undef,undef],defers:=[]})
  (λx Z _ X Y al G hg hr=>G)
  ?assign ?body ?done ?stop
 case assign=>
  rintro l b x W K ⟨⟨⟨⟨v,f,d, -⟩,t⟩,u⟩,i⟩ O;gi_wp2;exact O _ _ ((KeepsOthers.refl _).from _) KpB.refl ⟨⟨⟨⟨v,f,d,trivial⟩,t⟩,u⟩,i⟩ rfl
 case body=>
  rintro l b x Z W hl ⟨r,hr⟩ ⟨⟨⟨⟨v,f,d, -⟩,t⟩,u⟩,i⟩ rfl an;obtain⟨⟨B,z⟩,m,q⟩:=x;dsimp only at m q ⊢;have a1:dT s (mz (b++[⟨(B,z),m,q⟩]))=dT s (mz b)++[s.extract B z]:=by simp[dT,mz]
  have cO:W.cell? ⟨w.heap.size+1,0,none⟩=some v:=f.cell;have cS:W.cell? ⟨w.heap.size,0,none⟩=some (.string s):=t.cell;have I:=adL (β:=β);have a0:=i.size;gi_wp2;have aG:=ae cO;have aI:=ae cS;refine afr (λ_=>trivial) (by kernel_rfl) (by rintro⟨a,w,h⟩;exact h) 6 [0,1,2,3,4] [5] I (by kernel_rfl) (by kernel_rfl) ?_;simp only[pick,List.map,ge,gn];repeat(go_big_quiet_step (fail))
  refine gt ?_;apply Exists.intro;apply aU (akj W.heap.size 9 #[.string (s.extract B z)])
  .rfl
  .exact λv x y h a8=>h.keep a8
  .intro x _ Qx hQ;go_wp2;exact hQ _ _ (av _ _) (akj.new _ _ _ x.ok.size)
  intro v5;refine aS ?_;intro w2 p xx cT hF;dsimp only[dP] at hF;try rw[cT] at hF
  obtain⟨⟨g,rfl,hg,a2⟩, -⟩:=hF;simp only[List.drop];have aa:=p.size;have ax:l<W.heap.size:=(dl.1 hr).1;have L:=aem d p;have a5:Boxed w2 (w.heap.size+1) 78 v:=(p.block _ f.lt).trans f;obtain⟨A,c,rfl⟩:=gK d;refine afO (F:=ie) (base:=W0.heap.size) (v:=.slice A b.length c) (xs:=dT s (mz b)) rfl (.tmp 13) (.tmp 18) 78 rfl abS (s.extract B z) rfl (by unfold aK;rw[show(dT s (mz b)).length=b.length from by simp[dT,mz]];exact L) rfl a2 rfl (by rw[show(dT s (mz b)).length=b.length from by simp[dT,mz]];omega) (by omega) ?_;intro v3 w3 R mn a9;have ay:(dT s (mz b)++[s.extract B z]).length=(b++[(⟨(B,z),m,q⟩:PrC s.size)]).length:=by simp[dT,mz]
  unfold aK at R;rw[<-a1,show(dT s (mz (b++[⟨(B,z),m,q⟩]))).length=(b++[(⟨(B,z),m,q⟩:PrC s.size)]).length from by simp[dT,mz]] at R;obtain⟨Q,P,nS,gW,a6,a4⟩:=aoD (W:=w2) (n₀:=w.heap.size) a5 (by decide) L (by omega) (by omega) (by omega) R (aoE mn);have aT:=Q.cell;have ao:=Q.frozen;obtain⟨A3,c3,rfl⟩:=gK R;go_wp2;have a7:KeepsOthers W w2:=vK (wI p) λj o ej _=>by cases ej
  have C:∀k,k<W0.heap.size->k≠w.heap.size+1->(w3.setCell ⟨w.heap.size+1,0,none⟩ (.slice A3 (b++[(⟨(B,z),m,q⟩:PrC s.size)]).length c3)).heap[k]?=W.heap[k]?:=λk hk T=>(a4 k hk (by omega) T).trans (p.block k (by omega));have J:=(p.mono a0).trans a6;simp only[aE,ga,mw,mc] at P nS gW C J;refine⟨(a7.trans gW).from _,⟨J,C _ (by omega) (by omega)⟩,⟨⟨⟨_,P, ?_,trivial⟩,(C _ (by omega) (by omega)).trans t⟩,(C _ (by omega) (by omega)).trans u⟩,i.trans J⟩;simp only[aE,ga,mw,mc];exact nS
 case done=>
  rintro D zs W hD a3 ⟨⟨⟨⟨v,f,d, -⟩,t⟩,u⟩,i⟩ O;have cO:=f.cell;obtain⟨A,c,rfl⟩:=gK d;gi_wp2;refine⟨by simp,.inl ⟨_,_,rfl,run_takeDeferred O, ?_⟩⟩;have U:=belowK_b (w:=w) (am _) W D _ (.deferred none) (by omega) O rfl rfl;have E:=a3.cut;have M:(jT s).length=zs.length:=by rw[<-E];simp[dT,mz]
  refine⟨_,results_tmp rfl _ _ _,_,rfl, ?_,i.trans U⟩;have:=ownsRow_putObj d (.deferred none) O rfl;unfold aK;rw[M,<-E];exact aie this (by omega)
 case stop=>
  rintro D c b W _ _ h _;exact h.elim
def arx(s:ByteArray)(a:dH s=true)(w:World) :
  Calls (ah β) 74 #[.string s] w λe W'=>∃v,e=.returned v/\aK ie 9 W' w.heap.size v (jT s)/\Below w.heap.size w W':=
 callsIn_wide.1 (aoF 6 (am _) s a w)
end
section
variable {β:Bool}
open Go.RowKit
def aoG{l:List ByteArray}(a:dH (rE (jF l))=true)(b:jT (rE (jF l))=l):jL l=(rE (jF l),true):=by unfold jL;rw[dq ⟨a,b⟩]
def ary{l:List ByteArray}(h:¬(dH (rE (jF l))=true/\jT (rE (jF l))=l)):jL l=(⟨#[]⟩,false):=by unfold jL;rw[bv h]
def auu(l:List ByteArray)(b:∀s∈l,bB (bs s)):(rE (jF l)).size<=8*l.length:=by
 rw[<-aO,amr (ae0 l),<-af6,qc];exact acQ λs a=>(fT (b s a)).2
def aoH(l:List ByteArray)(y:∀s∈l,bB (bs s))(J:l.length<=2147483647)(v:Value)(w:World)(p hi:Nat)(h:dt w p hi l [v])(A:hi<=w.heap.size) :
  Calls (ah β) 49 #[v] w λe D=>e=.returned (.tuple #[.string (jL l).1,.bool (jL l).2])/\Below w.heap.size w D:=by
 have m:=auu l y;have d:(rE (jF l)).size<=maxLen:=by unfold maxLen;omega
 have n:=ab (λH E=>aoG (l:=l) H E);have g:=ab (ary (l:=l));have t:=ab (axK (β:=β) l y J v w p hi h A);generalize rE (jF l)=s at n g t m d;generalize jL l=r at n g ⊢;go_enter zl,ntmps49;go_wp2;refine t.out.mono ?_;rintro e B ⟨rfl,f⟩;go_wp2;refine(mO (β:=β) s d _).mono ?_;rintro e O ⟨rfl,rfl⟩;by_cases a:dH s=true
 .rw[a];go_wp2;refine(arx (β:=β) s a _).mono ?_;rintro e N ⟨F,rfl,I,j⟩;have k:∀x∈jT s,x.size<=maxLen:=λx i=>by have:=(fT (nB (kJ a).2 x i)).2;unfold maxLen;omega
  have C:=gM.sl (aK.deep I k B.heap.size) (am _);have G:=j.size;have z:=f.size;have L:=dt.ar.below h (f.trans (j.mono z)) A;obtain⟨q,c⟩:∃q:Bool,q=true↔jT s=l:=by
   by_cases i:jT s=l
   .exact⟨true,by simp[i]⟩
   .exact⟨false,by simp[i]⟩
  replace c:=ab c;go_wp2;refine(alx (β:=β) (jT s) l F v _ _ _ p hi C L (am _) (by omega) q c.out).mono ?_;rintro e M ⟨rfl,K⟩;have u:=f.trans ((j.mono z).trans (K.mono (by omega)));cases q with
  |true=>
   have b:=n.out a (c.out.1 rfl);go_wp2;go_ret2;exact⟨by rw[b];rfl,u⟩
  |false=>
   have b:=g.out λo=>by have:=c.out.2 o.2;cases this
   go_wp2;go_ret2;exact⟨by rw[b];rfl,u⟩
 .have b:=g.out λo=>a o.1;rw[Bool.eq_false_iff.2 a];go_wp2;go_ret2;exact⟨by rw[b];rfl,f⟩
end
section
variable {β:Bool}
open Go.RowKit
def arz(t:List Nd)(i:Nat)(x:Nd):Prop:=ahd x/\(∀y,0<i->t[i-1]?=some y->Op.bytesLess y.p.toList x.p.toList=true)/\∀k y,k<i->t[k]?=some y->acO y.p x.p=false
def adO(h:jc s=true):s.size<=3:=by rcases kW h with h|h<;>omega
def arA(xs:List Nd)(v:Value)(w:World)(lo hi:Nat)(h:eD w lo hi xs [v])(U:hi<=w.heap.size)(q:Bool)(o:q=true↔amZ xs) :
  Calls (ah β) 50 #[v] w λe w'=>e=.returned (.bool q)/\Below w.heap.size w w':=by
 have K:=ab o;clear o;obtain⟨A,c,rfl⟩:=h.form;obtain⟨_,hc,hx⟩:=h.1.len_;unfold maxLen at hx;go_enter zj,ntmps50;go_wp2;go_loopw [7] (λii wr=>∃k:Nat,k<=xs.length/\ii=.int .i64 k/\(∀i x,i<k->xs[i]?=some x->arz xs i x)/\Below w.heap.size w wr) (λii _=>xs.length-(intOf ii).toNat)
 case atStart=>exact⟨0,fb _,rfl,λi x hi=>absurd hi (sF i),fd _ _⟩
 case round=>
  obtain⟨k,hk,rfl,l,Z⟩:=hrel;replace l:=ab l;by_cases E:k<xs.length
  .obtain⟨x,G⟩:=aq E;obtain⟨b0,a6,rfl,_,a5,J,c0,c1⟩:=jJ (eD.ar.below h Z U) G;replace G:=ab G;go_wp2;have kb:=bg.new wr 67 #[.string x.p,.string x.b];have ba:=av wr (.cells #[.string x.p,.string x.b] 67);have a3:wr.heap.size+1=(wr.alloc (.cells #[.string x.p,.string x.b] 67)).heap.size:=by simp
   generalize wr.alloc (.cells #[.string x.p,.string x.b] 67)=wf at *;have g:wf.cell? ⟨wr.heap.size,0,none⟩=some (.string x.p):=kb.cell 0;have C:wf.cell? ⟨wr.heap.size,1,none⟩=some (.string x.b):=kb.cell 1;have r:=ag Z ba;clear kb c0 c1;cases a:jc x.p
   .replace a:=ab a;have d:q=false:=by
     rw[<-lP,K.out];rintro⟨-,h⟩;replace h:=h _ _ G.out;have h:=h.1.1;rw[a.out] at h;cases h
    have s:=ab d;clear d;have I:=ae g;have H:=ae C;refine aM (by kernel_rfl) (by kernel_rfl) ?_;repeat(go_big_quiet_step (first|(go_at_call 75;refine dI (v:=.bool false) ?_;rw[<-a.out];exact pC (β:=β) x.p J.1 _)))
    refine gt ?_;intro wq p;have o:=bm p;clear p I H;go_wp2;go_ret;exact⟨aB s.out.symm,ag r o⟩
   .replace a:=ab a;cases b:dH x.b
    .replace b:=ab b;have d:q=false:=by
      rw[<-lP,K.out];rintro⟨-,h⟩;replace h:=h _ _ G.out;have h:=h.1.2;rw[b.out] at h;cases h
     have s:=ab d;clear d;have I:=ae g;have H:=ae C;refine aM (by kernel_rfl) (by kernel_rfl) ?_;repeat(go_big_quiet_step (first|(go_at_call 75;refine dI (v:=.bool true) ?_;rw[<-a.out];exact pC (β:=β) x.p J.1 _)|(go_at_call 72;refine dJ (v:=.bool false) ?_;rw[<-b.out];exact mO (β:=β) x.b J.2 _)))
     refine gt ?_;intro wq p;have o:=bm p;clear p I H;go_wp2;go_ret;exact⟨aB s.out.symm,ag r o⟩
    .replace b:=ab b;by_cases a2:k=0
     .have t1:=da (show ¬(0<k) by omega);have Y:ahd x/\∀y,0<k->xs[k-1]?=some y->Op.bytesLess y.p.toList x.p.toList=true:=⟨⟨a.out,b.out⟩,λy h0=>by omega⟩;have X:=ab Y;clear Y;clear a2;have I:=ae g;have H:=ae C;refine aM (by kernel_rfl) (by kernel_rfl) ?_;repeat(go_big_quiet_step (first|(go_at_call 75;refine dI (v:=.bool true) ?_;rw[<-a.out];exact pC (β:=β) x.p J.1 _)|(go_at_call 72;refine dJ (v:=.bool true) ?_;rw[<-b.out];exact mO (β:=β) x.b J.2 _)))
      refine gt ?_;intro wq p;have o:=bm p;clear p I H;have V:∀y∈xs.take k,y.p.size<=3:=λy f=>by
       obtain⟨i,hi⟩:=rx.1 f;rw[qx] at hi;split at hi
       .rename_i S;exact adO (l.out i y S hi).1.1
       .cases hi
      have Q:=ab V;clear V;have cz:=aR o g;have n:=ag r o;have R:=adO a.out;go_wp2;refine(nW (β:=β) x R xs k hk Q.out _ c wr.heap.size _ lo hi (eD.ar.below h n U) (ap U n.size) cz).mono ?_;rintro e w4 ⟨q4,rfl,P,b4⟩;have t:=ag n b4;rcases P with⟨rfl,j,y,O,f,L⟩|⟨rfl,D⟩
      .have HY:=ab f;replace L:=ab L;clear f;have d:q=false:=by
        rw[<-lP,K.out];rintro⟨-,h⟩;replace h:=h _ _ G.out;have h:=h.2.2 j y O HY.out;rw[L.out] at h;cases h
       have s:=ab d;clear d;go_wp2;go_ret;exact⟨aB s.out.symm,t⟩
      .have u:∀i z,i<k+1->xs[i]?=some z->arz xs i z:=λi z hi N=>by
        rcases pi i k with E|nZ
        .exact l.out i z E N
        .obtain rfl:i=k:=by omega
         rw[G.out] at N;cases N;exact⟨X.out.1,X.out.2,λj y O f=>D j y O f⟩
       have M:=ab u;clear u D;go_wp2;go_roundw
       case rel=>exact⟨k+1,by omega,by go_num,M.out,t⟩
       simp[intOf];omega
     .obtain⟨k',ow⟩:∃m,m=k-1:=⟨_,rfl⟩;have e1:(k:Int)-1=((k':Nat):Int):=by omega
      have a1:k'<xs.length:=by omega
      have t1:=dj (show 0<k by omega);obtain⟨z,F⟩:=aq a1;obtain⟨b1,a4,e0,_,_,a7,d0,_⟩:=jJ (eD.ar.below h r U) F;simp only[mt,qz,qu] at e0;obtain⟨rfl,rfl⟩:=e0;replace F:=ab F;have W:=ab ow;have a0:0<k:=by omega
      clear ow;cases B:Op.bytesLess z.p.toList x.p.toList
      .have T:=ab B;have tr:=my x.p.toList z.p.toList;rw[B,Bool.not_false] at tr;have d:q=false:=by
        rw[<-lP,K.out];rintro⟨-,h⟩;replace h:=h _ _ G.out;have h:=h.2.1 z a0 (by rw[<-W.out];exact F.out);rw[T.out] at h;cases h
       have s:=ab d;clear d;have I:=ae g;have H:=ae C;have aZ:=ae d0;refine aM (by kernel_rfl) (by kernel_rfl) ?_;repeat(go_big_quiet_step (first|(go_at_call 75;refine dI (v:=.bool true) ?_;rw[<-a.out];exact pC (β:=β) x.p J.1 _)|(go_at_call 72;refine dJ (v:=.bool true) ?_;rw[<-b.out];exact mO (β:=β) x.b J.2 _)))
       refine gt ?_;intro wq p;have o:=bm p;clear p I H aZ;go_wp2;go_ret;exact⟨aB s.out.symm,ag r o⟩
      .have T:=ab B;have tr:=my x.p.toList z.p.toList;rw[B,uZ] at tr;have Y:ahd x/\∀y,0<k->xs[k-1]?=some y->Op.bytesLess y.p.toList x.p.toList=true:=⟨⟨a.out,b.out⟩,λy h0 f=>by
        rw[<-W.out,F.out] at f;cases f;exact T.out⟩
       have X:=ab Y;clear Y;have I:=ae g;have H:=ae C;have aZ:=ae d0;refine aM (by kernel_rfl) (by kernel_rfl) ?_;repeat(go_big_quiet_step (first|(go_at_call 75;refine dI (v:=.bool true) ?_;rw[<-a.out];exact pC (β:=β) x.p J.1 _)|(go_at_call 72;refine dJ (v:=.bool true) ?_;rw[<-b.out];exact mO (β:=β) x.b J.2 _)))
       refine gt ?_;intro wq p;have o:=bm p;clear p I H aZ;clear d0 B e1 tr;have V:∀y∈xs.take k,y.p.size<=3:=λy f=>by
        obtain⟨i,hi⟩:=rx.1 f;rw[qx] at hi;split at hi
        .rename_i S;exact adO (l.out i y S hi).1.1
        .cases hi
       have Q:=ab V;clear V;have cz:=aR o g;have n:=ag r o;have R:=adO a.out;go_wp2;refine(nW (β:=β) x R xs k hk Q.out _ c wr.heap.size _ lo hi (eD.ar.below h n U) (ap U n.size) cz).mono ?_;rintro e w4 ⟨q4,rfl,P,b4⟩;have t:=ag n b4;rcases P with⟨rfl,j,y,O,f,L⟩|⟨rfl,D⟩
       .have HY:=ab f;replace L:=ab L;clear f;have d:q=false:=by
         rw[<-lP,K.out];rintro⟨-,h⟩;replace h:=h _ _ G.out;have h:=h.2.2 j y O HY.out;rw[L.out] at h;cases h
        have s:=ab d;clear d;go_wp2;go_ret;exact⟨aB s.out.symm,t⟩
       .have u:∀i z,i<k+1->xs[i]?=some z->arz xs i z:=λi z hi N=>by
         rcases pi i k with E|nZ
         .exact l.out i z E N
         .obtain rfl:i=k:=by omega
          rw[G.out] at N;cases N;exact⟨X.out.1,X.out.2,λj y O f=>D j y O f⟩
        have M:=ab u;clear u D;go_wp2;go_roundw
        case rel=>exact⟨k+1,by omega,by go_num,M.out,t⟩
        simp[intOf];omega
  .obtain rfl:k=xs.length:=by omega
   by_cases h6:xs.length<=6
   .have t1:=dj (show(xs.length:Int)<=6 by omega);have d:q=true:=K.out.2 ⟨h6,λi x hx=>l.out i x (aC hx) hx⟩;have s:=ab d;clear d;go_wp2;go_ret;exact⟨aB s.out.symm,Z⟩
   .have t1:=da (show ¬((xs.length:Int)<=6) by omega);have d:q=false:=by
     rw[<-lP,K.out];rintro⟨h, -⟩;exact h6 h
    have s:=ab d;clear d;go_wp2;go_ret;exact⟨aB s.out.symm,Z⟩
end
section
variable {β:Bool}
open Go.RowKit
noncomputable def xFA:Func:=by
 apply(λ(x:Func) (_:{f48 with body:=some jQ}=x)=>x)
 case x=>dsimp only[jQ,aaE,asW,avj,avk,avl,avm,avn,avo,avp,avq,avr,avw,ayL,avs,avt,avu,avv,apK,apL,apM,ami,ahZ,ac1,avx,avy,ahX,ahY,iu,aaF,asX,asY,asZ,apJ,as0,anF,kOp,aaH,aaG,mg,cK,cJ,bW,f48,Option.getD,List.map]
def axN:qFA true=xFA:=by kernel_rfl
def arB:(ah true).funcs[48]?=some xFA:=(acu true).trans (jn some axN)
@[go_sem] theorem aAb(args:Array Value)(w:World):(callFunc 48 args).run (ah true) w=.ok (.enter 48 args) w:=by
 have a:=cB func48;exact kS arB a rfl args w
end
section
variable {β:Bool}
open Go.RowKit
def FFe:Flat (ByteArray×Bool):=⟨2,λx=>[.string x.1,.bool x.2],λx=>x.1.size<=maxLen,λ_=>rfl,λx u a=>by
 simp only[oE,rz,tQ] at a;rcases a with rfl|rfl<;>rfl,by decide⟩
def auv:((ah true).info? 124).map (λi=>(i.zero,i.size,i.bytes))=some (some (.agg #[.string ⟨#[]⟩,.bool false]),2,24):=by kernel_rfl
@[go_sem] theorem aA6(n:Int)(B:Option Addr)(m c:Nat)(w:World):(Instr.field 54 (.agg #[.int .i64 n,.slice B m c]) 0).run (ah true) w=.ok (.int .i64 n) w:=by simp[Instr.field,me xw,asAgg,go_sem]
@[go_sem] theorem aA7(n:Int)(B:Option Addr)(m c:Nat)(w:World):(Instr.field 54 (.agg #[.int .i64 n,.slice B m c]) 1).run (ah true) w=.ok (.slice B m c) w:=by simp[Instr.field,me xw,asAgg,go_sem]
@[go_sem] theorem aA8(n:Int)(s:ByteArray)(w:World):(Instr.field 60 (.agg #[.int .i64 n,.string s]) 0).run (ah true) w=.ok (.int .i64 n) w:=by simp[Instr.field,me xv,asAgg,go_sem]
@[go_sem] theorem aA9(n:Int)(s:ByteArray)(w:World):(Instr.field 60 (.agg #[.int .i64 n,.string s]) 1).run (ah true) w=.ok (.string s) w:=by simp[Instr.field,me xv,asAgg,go_sem]
def axO(key:Int)(l:List iD)(dA:List Int)(w:World)(e:Ending)(w':World):Prop:=
 ∃v b,e=.returned (.tuple #[v,.bool b])/\(b=true↔∀n∈dA,(cQ key l n).2=true)/\(b=true->aK ie 9 w' w.heap.size v (dA.map λn=>(cQ key l n).1))/\Below w.heap.size w w'
noncomputable def alz(key:Int)(l:List iD)(ns:List Int):List ByteArray:=ns.map λn=>(cQ key l n).1
noncomputable def aaf(key:Int)(l:List iD)(dA:List Int)(k:Nat):List (ByteArray×Bool):=(dA.take k).map (cQ key l)++List.replicate (dA.length-k) (⟨#[]⟩,false)
def auw(h:k<dA.length):(aaf key l dA k)[k]?=some (⟨#[]⟩,false):=by
 unfold aaf;have a:((dA.take k).map (cQ key l)).length=k:=by rw[qc,fa];omega
 rw[qg (by omega),a,sV,tZ,dq (by omega)]
def arC{n:Int}(h:dA[k]?=some n):(aaf key l dA k).set k (cQ key l n)=aaf key l dA (k+1):=by
 have b:=aC h;unfold aaf;have c:((dA.take k).map (cQ key l)).length=k:=by rw[qc,fa];omega
 rw[uB _ _ (by omega),c,sV,li h,tf,sO]
 congr 1
 obtain⟨m,a⟩:∃m,dA.length-k=m+1:=⟨dA.length-k-1,by omega⟩;rw[a,List.replicate_succ,ip,show dA.length-(k+1)=m by omega];rfl
def aoI:∀n:Nat,(madeCells #[.string ⟨#[]⟩,.bool false] (n*2)).toList=dV FFe (List.replicate n (⟨#[]⟩,false)):=λn=>by
 apply tv;intro j;rcases pi j (n*2) with h|h
 .have d:j / 2<n:=by omega
  have b:(List.replicate n ((⟨#[]⟩,false):ByteArray×Bool))[j / 2]?=some (⟨#[]⟩,false):=by rw[tZ,dq d]
  have e:j=j / 2*2+j % 2:=by omega
  rw[du];have c:(madeCells #[.string ⟨#[]⟩,.bool false] (n*2))[j]?=some (#[Value.string ⟨#[]⟩,Value.bool false][j % 2]!):=by
   unfold madeCells;simp[h]
  rw[c];rcases uU j with a|a
  .have:=dZ FFe _ (j / 2) 0 _ (.string ⟨#[]⟩) b rfl;rw[show j / 2*FFe.sz+0=j by show j / 2*2+0=j;omega] at this;rw[this,a];rfl
  .have:=dZ FFe _ (j / 2) 1 _ (.bool false) b rfl;rw[show j / 2*FFe.sz+1=j by show j / 2*2+1=j;omega] at this;rw[this,a];rfl
 .rw[du,qd (by rw[size_madeCells];exact h),qY (by rw[dY,qw];exact h)]
def arD(w:World)(n:Nat)(a:n<=maxLen)(h:dA.length=n:=by rfl) :
  aK FFe 124 (w.alloc (.cells (madeCells #[.string ⟨#[]⟩,.bool false] (n*2)) 124)) w.heap.size (.slice (some ⟨w.heap.size,0,none⟩) n n) (aaf key l dA 0):=by
 have e:aaf key l dA 0=List.replicate n (⟨#[]⟩,false):=by unfold aaf;rw[h];rfl
 rw[e];refine⟨dY FFe _,.inr ⟨w.heap.size,n,_,by rw[qw],am _,bg.new _ _ _,by rw[qw];exact am _,a,by rw[size_madeCells];rfl, ?_⟩⟩;rw[aoI,qw];exact pm (by rw[dY,qw];exact am _)
def am3{base : Nat}{xs:List (ByteArray×Bool)}(h:aK FFe 124 w base (.slice (some ⟨g,0,none⟩) n n) xs){x:ByteArray×Bool}(a:xs[k]?=some x) :
  w.cell? ⟨g,k*2,none⟩=some (.string x.1)/\w.cell? ⟨g,k*2+1,none⟩=some (.bool x.2):=by
 obtain⟨A,c,e⟩:=aK.form h;simp only[nf] at e;obtain⟨-,rfl, -⟩:=e;exact⟨h.cell a (j:=0) rfl,h.cell a (j:=1) rfl⟩
def auy{base : Nat}(h:aK FFe 124 w base (.slice (some ⟨g,0,none⟩) n n) (aaf key l dA k))(m:k<dA.length) :
  w.cell? ⟨g,k*2,none⟩=some (.string ⟨#[]⟩)/\w.cell? ⟨g,k*2+1,none⟩=some (.bool false)/\(∀j,w.frozen? ⟨g,j,none⟩=false)/\(∀j (p:Addr) u,(w.setCell p u).frozen? ⟨g,j,none⟩=false)/\
  ∀y:ByteArray×Bool,aK FFe 124 ((w.setCell ⟨g,k*2,none⟩ (.string y.1)).setCell ⟨g,k*2+1,none⟩ (.bool y.2)) base (.slice (some ⟨g,0,none⟩) n n) ((aaf key l dA k).set k y):=by
 obtain⟨A,c,e⟩:=aK.form h;simp only[nf] at e;obtain⟨-,rfl, -⟩:=e;have a:=auw (key:=key) (l:=l) m;obtain⟨o,q⟩:=am3 h a;refine⟨o,q,λj=>h.frozen rfl j,λj p u=> ?_,λy=> ?_⟩
 .rw[uA];exact h.frozen rfl j
 .have d:=h.put a (j:=0) (y:=(y.1,false)) (u:=.string y.1) (by decide) rfl;have f:aK FFe 124 (w.setCell ⟨g,k*FFe.sz+0,none⟩ (.string y.1)) base (.slice (some ⟨g,0,none⟩) ((aaf key l dA k).set k (y.1,false)).length (aaf key l dA k).length) ((aaf key l dA k).set k (y.1,false)):=by rw[qQ];exact d
  have b:=f.put (i:=k) (x:=(y.1,false)) (by rw[rq (aC a)]) (j:=1) (y:=y) (u:=.bool y.2) (by decide) rfl;rw[qQ,ab2] at b;exact b
def alA (key:Int) (hk:1<=key/\key<=99) (l:List iD) (A:Option Addr) (c:Nat) (dA:List Int) (v2:Value) (lo hi:Nat) (w:World) (x0 x1:Value)
  (aX:hi<=w.heap.size) (hl:PkL w A l) (a2:l.length<=c) (hc:c<=maxLen) (gZ:∀p∈l,1<=p.2.length/\bZ p.1) (y:bE aab 1 w lo hi dA [v2]) (b1:dA.length<=2147483647)
  (e0:w.cell? ⟨1,0,none⟩=some x0) (e1:w.cell? ⟨2,0,none⟩=some x1) :
  Calls (ah true) 48 #[.int .i64 key,.slice A l.length c,v2] w (axO key l dA w):=by
 obtain⟨A2,c2,rfl⟩:=y.form;obtain⟨-,ay,a0⟩:=y.len_;have HC:=ab hc;unfold maxLen at hc a0;have aI:=an5 (P:=ah true) 111 124 _ 2 24 xX auv dA.length (by omega) (by omega);have a5:xFA.ntmps=45:=ntmps48;have O:xFA.results=#[.tmp 6,.tmp 7]:=results48;go_enter arB,a5;go_wp2
 go_loop [20] (λi=>∃k:Nat,k<=l.length/\i=.int .i64 k) (λi=>l.length-(intOf i).toNat)
 case atStart=>exact⟨0,fb _,rfl⟩
 case round=>
  obtain⟨k,ad,rfl⟩:=hrel;by_cases Y:k<l.length
  .obtain⟨p,mB⟩:=aq Y;obtain⟨b,ao,B,c3,rfl,al,aT,an,aL,a4,Z⟩:=hl k p mB;have N:=gZ p (db mB);obtain⟨N,a6⟩:=N;unfold bZ at a6;unfold maxLen at a4;obtain⟨S,T⟩:=p;dsimp only at *;have w1:wrap64 (S*1)=S:=by unfold wrap64;omega
   have t1:(S ==S)=true:=sU _;go_wp2
   go_loop [5] (λjj=>∃j:Nat,j<=T.length/\jj=.int .i64 j) (λjj=>T.length-(intOf jj).toNat)
   case atStart=>exact⟨0,fb _,rfl⟩
   case round=>
    obtain⟨j,b6,rfl⟩:=hrel;by_cases V:j<T.length
    .obtain⟨x,a9⟩:=aq V;obtain⟨b2,iE,rfl,aG,b0,aa,U,pM⟩:=Z j x a9;unfold bZ at U;unfold maxLen at pM;obtain⟨R,xb⟩:=x;dsimp only at *;have w2:wrap64 (R*1)=R:=by unfold wrap64;omega
     have t2:(R ==R)=true:=sU _;go_wp2
     go_round
     case rel=>exact⟨j+1,by omega,by go_num⟩
     simp[intOf];omega
    .obtain rfl:j=T.length:=by omega
     go_wp2
     go_round
     case rel=>exact⟨_,_,_,_,_,_,_,_,_,⟨k+1,by omega,rfl⟩,rfl,rfl,rfl,rfl,rfl,rfl,rfl,rfl,by go_num⟩
     show l.length-((k:Int)+1).toNat<l.length-(k:Int).toNat;omega
  .obtain rfl:k=l.length:=by omega
   go_wp2;have M:=arD (key:=key) (l:=l) (dA:=dA) w dA.length (by unfold maxLen;omega);have a1:=av w (.cells (madeCells #[.string ⟨#[]⟩,.bool false] (dA.length*2)) 124);generalize w.alloc (.cells (madeCells #[.string ⟨#[]⟩,.bool false] (dA.length*2)) 124)=w0 at *;go_loopw [28] (λz wr=>∃k:Nat,k<=dA.length/\z=.int .i64 k/\aK FFe 124 wr w.heap.size (.slice (some ⟨w.heap.size,0,none⟩) dA.length dA.length) (aaf key l dA k)/\Below w.heap.size w wr) (λz _=>dA.length-(intOf z).toNat)
   case atStart=>exact⟨0,fb _,rfl,M,a1⟩
   case round=>
    obtain⟨k,aZ,rfl,C,a⟩:=hrel;by_cases o:k<dA.length
    .obtain⟨n,f⟩:=aq o;obtain⟨b3,a7,es,rfl,b5,aY,_,⟨rfl,G⟩,a8⟩:=((bE.loc aab.loc).below y a aX).at_ f;have d0:wr.cell? ⟨b3,a7+k,none⟩=some (.int .i64 n):=by simpa using a8 0 _ rfl
     unfold bZ at G;have w3:wrap64 (n*1)=n:=by unfold wrap64;omega
     have t3:(n ==n)=true:=sU _;have s:=arC (key:=key) (l:=l) f;replace s:=ab s;go_wp2;refine(amT wr key A c l n hk.1 hk.2 a2 (by omega) (hl.below a) G).mono ?_;rintro e w5 ⟨v,rfl,rfl,nS⟩;have W:=C.below nS;obtain⟨f0,f1,z0,z1,Q⟩:=auy W o;have gW:=ag a nS;have HP:=ab (Q (cQ key l n));go_wp2;go_roundw
     case rel=>exact⟨k+1,by omega,by go_num,by rw[<-s.out];exact HP.out,(gW.setCell (by dsimp only;omega) _).setCell (by dsimp only;omega) _⟩
     simp[intOf];omega
    .obtain rfl:k=dA.length:=by omega
     replace y:=ab y;go_wp2;have I:=av wr (.cells #[.slice (some ⟨w.heap.size,0,none⟩) dA.length dA.length] 111);have q:=C.below I;have g:=ag a I;have e1:aaf key l dA dA.length=dA.map (cQ key l):=by unfold aaf;rw[gc,sV,List.replicate_zero,rU]
     rw[e1] at q;generalize wr.alloc (.cells #[.slice (some ⟨w.heap.size,0,none⟩) dA.length dA.length] 111)=w1 at *;go_loopw [12,31] (λoo z wr=>∃k:Nat,k<=dA.length/\z=.int .i64 k/\aK ie 9 wr w.heap.size oo (alz key l (dA.take k))/\aK FFe 124 wr w.heap.size (.slice (some ⟨w.heap.size,0,none⟩) dA.length dA.length) (dA.map (cQ key l))/\(∀n∈dA.take k,(cQ key l n).2=true)/\Below w.heap.size w wr) (λ_ z _=>dA.length-(intOf z).toNat)
     case atStart=>exact⟨0,fb _,rfl,aK.nil _ _ _,q,λn y=>(by simp at y),g⟩
     case round=>
      obtain⟨k,b4,rfl,J,C,d,a⟩:=hrel;replace d:=ab d;obtain⟨So,sc,rfl⟩:=J.form;by_cases o:k<dA.length
      .obtain⟨n,f⟩:=aq o;have a3:(dA.map (cQ key l))[k]?=some (cQ key l n):=by rw[qH,f];rfl
       obtain⟨f0,f1⟩:=am3 C a3;have r:(alz key l (dA.take k)).length=k:=by unfold alz;rw[qc,fa];omega
       have fC:alz key l (dA.take (k+1))=alz key l (dA.take k)++[(cQ key l n).1]:=by unfold alz;rw[li f,tf];rfl
       have u:=anU C J (by decide);replace u:=ab u;have L:=ab f;replace r:=ab r;cases E:(cQ key l n).2 with
       |false=>
        rw[E] at f1;replace E:=ab E;go_wp2;refine pa (v:=.tuple #[.slice none 0 0,.bool false]) (by simp[results,O,go_sem]) rfl ⟨_,false,rfl, ?_,λh=>(by cases h),a.alloc a.size _⟩;simp only[kw,uz];intro h;have:=h n (db L.out);rw[E.out] at this;cases this
       |true=>
        rw[E] at f1;have t:∀m∈dA.take (k+1),(cQ key l m).2=true:=λm D=>by
         rw[li L.out,mx] at D;rcases D with D|D
         .exact d.out m D
         .rw[pe.1 D];exact E
        replace t:=ab t;replace fC:=ab fC;have ax:=av wr (.cells #[.string (cQ key l n).1,.bool true] 124);have X:=av (wr.alloc (.cells #[.string (cQ key l n).1,.bool true] 124)) (.cells #[.string (cQ key l n).1] 9);have kB:=bg.new (wr.alloc (.cells #[.string (cQ key l n).1,.bool true] 124)) 9 #[.string (cQ key l n).1];simp only[oR] at kB;have K:=(J.below ax).below X;have q:=(C.below ax).below X;have g:=ag (ag a ax) X;go_wp2_with(at_builtin;refine afO (F:=ie) (v:=.slice So (alz key l (dA.take k)).length sc) rfl (.tmp 38) (.tmp 41) 78 rfl abS (cQ key l n).1 rfl K rfl kB rfl (by have:=r.out;omega) g.size ?_;intro va wa oa H af;obtain⟨Aa,ca,rfl⟩:=oa.form);go_roundw
        case rel=>exact⟨k+1,by omega,by go_num,by rw[fC.out];rw[aE] at oa;exact oa,q.fc H λb hb=>u.out b hb,t.out,g.trans (H.below g.size λi hi hx=>by have:=(K.at_ hx).1;omega)⟩
        simp[intOf];omega
      .obtain rfl:k=dA.length:=by omega
       rw[gc] at J d;go_wp2;refine pa (v:=.tuple #[_,.bool true]) (by simp[results,O,go_sem]) rfl ⟨_,true,rfl,by simp only[tp];exact d.out,λ_=>J,a⟩
end
section
open Go.RowKit
structure Glo (w:World):Prop where
 key:∃x,w.cell? ⟨1,0,none⟩=some x
 piece:∃x,w.cell? ⟨2,0,none⟩=some x
def Glo.below(h:Glo w)(b:Below w.heap.size w w'):Glo w':=by
 obtain⟨⟨x,c⟩,y,a⟩:=h;exact⟨⟨x,(qp (b.block _ (eG c))).trans c⟩,⟨y,(qp (b.block _ (eG a))).trans a⟩⟩
def aoJ(a:aow key l x.ns)(b:(jL (py key l x.ns)).2=true):lv key l x=some ⟨x.p,(jL (py key l x.ns)).1⟩:=by unfold lv;rw[dq ⟨a,b⟩]
def ajc(h:¬(aow key l x.ns/\(jL (py key l x.ns)).2=true)):lv key l x=none:=by unfold lv;rw[bv h]
def ajd(b:x∈xs)(h:lv key l x=none):ku key l xs=none:=by
 unfold ku;rw[bv];rintro⟨a, -⟩;have:=a x b;rw[h] at this;cases this
def alB{l:List ByteArray}:(jL l).1.size<=40:=by
 unfold jL;split
 .rename_i h;exact(kJ h.1).1
 .exact fb _
def aje{y:Nd}(a:xs[k]?=some x)(h:lv key l x=some y):gG key l (xs.take (k+1))=gG key l (xs.take k)++[y]:=by
 unfold gG;rw[li a,List.filterMap_append];simp[h]
def iU.itl{a:List It}(h:iU w Z hi a [.slice A n c])(p:hi<=w.heap.size):ItL w A (a.map λx=>(x.n,x.b)):=λi x e=>by
 rw[qH] at e;obtain⟨y,g,rfl⟩:=lc.1 e;obtain⟨b,d,m,rfl,o,l, -,⟨rfl,j,k⟩,f⟩:=h.at_ g;exact⟨b,d,rfl,by omega,by simpa using f 0 _ rfl,f 1 _ rfl,j,k⟩
def iV.pkl{l:List Pk}(h:iV w Z hi l [.slice A n c])(o:hi<=w.heap.size):PkL w A (acN l):=λi x e=>by
 unfold acN at e;rw[qH] at e;obtain⟨y,j,rfl⟩:=lc.1 e;obtain⟨b,a,q,rfl,s,p, -,⟨v,rfl,r,f⟩,g⟩:=h.at_ j;obtain⟨B,d,rfl⟩:=f.form;obtain⟨-,m,k⟩:=f.len_;refine⟨b,a,B,d,rfl,by omega,by have:=g 0 _ rfl;rw[tD] at this;exact this, ?_, ?_,k,f.itl o⟩
 .have:=g 1 _ rfl;rw[show(pkd y).2.length=y.its.length from qc _];exact this
 .rw[show(pkd y).2.length=y.its.length from qc _];exact m
def axP(h:fP w Z hi xs [.slice A n c])(i:xs[k]?=some x) :
  ∃b a A' d,A=some ⟨b,a,none⟩/\Z<=b/\b<hi/\x.p.size<=maxLen/\w.cell? ⟨b,a+k*2,none⟩=some (.string x.p)/\w.cell? ⟨b,a+k*2+1,none⟩=some (.slice A' x.ns.length d)/\bE aab 1 w Z hi x.ns [.slice A' x.ns.length d]:=by
 obtain⟨b,a,m,rfl,j,g,l,⟨v,rfl,f,hi⟩,e⟩:=h.at_ i;obtain⟨A',d,rfl⟩:=hi.form;exact⟨b,a,A',d,rfl,j,g,f,by simpa using e 0 _ rfl,e 1 _ rfl,hi⟩
def pD(o:Option (List Nd))(w:World)(e:Ending)(w':World):Prop:=∃v,e=.returned (.tuple #[v,.bool o.isSome])/\aK mv 67 w' w.heap.size v (o.getD [])/\(∀y∈o.getD [],mv.good y)/\Below w.heap.size w w'
def pD.no{o:Option (List Nd)}(h:o=none)(a:Below w.heap.size w w'):pD o w (.returned (.tuple #[.slice none 0 0,.bool false])) w':=by
 subst h;exact⟨_,rfl,aK.nil _ _ _,λy b=>(by cases b),a⟩
theorem alC (l:List iD) (A:Option Addr) (c:Nat) (x:Sn) (vn:Value) (lo hi:Nat) (w:World) (hg:Glo w) (aX:hi<=w.heap.size) (hl:PkL w A l) (ad:l.length<=c) (hc:c<=maxLen) (gZ:∀p∈l,1<=p.2.length/\bZ p.1)
  (hn:fP w lo hi x.all [vn]) (o:∀y∈x.all,y.ns.length<=2147483647) (nY:x.all.length<=1099511627) :
  Calls (ah true) 23 #[.int .i64 7,.agg #[.int .i64 x.no,vn],.slice A l.length c] w (pD (ku 7 l x.all) w):=by
 obtain⟨B,d,rfl⟩:=hn.form;obtain⟨-,hd,X⟩:=hn.len_;have HD:=ab X;unfold maxLen at X;have al:=ab gZ;have aG:=ab o;clear gZ o;go_enter zG,ntmps23;go_wp2;refine(ams (β:=true) 7 _ true (by simp)).mono ?_;rintro e w1 ⟨rfl,rfl⟩;go_wp2;have aL:=av w (.cells #[.int .i64 x.no,.slice B x.all.length d] 39);generalize w.alloc (.cells #[.int .i64 x.no,.slice B x.all.length d] 39)=w0 at *;have b0:=aL.size;go_loopw [8,20] (λoo ii wr=>∃k:Nat,k<=x.all.length/\ii=.int .i64 k/\(∀y∈x.all.take k,(lv 7 l y).isSome=true)/\aK mv 67 wr w.heap.size oo (gG 7 l (x.all.take k))/\(∀y∈gG 7 l (x.all.take k),mv.good y)/\(gG 7 l (x.all.take k)).length=k/\Below w.heap.size w wr) (λ_ ii _=>x.all.length-(intOf ii).toNat)
 case atStart=>exact⟨0,fb _,rfl,λy hy=>(by cases hy),aK.nil _ _ _,λy hy=>(by cases hy),rfl,aL⟩
 case round=>
  obtain⟨k,hk,rfl,m,T,P,S,hb⟩:=hrel;have D:=ab m;have u:=ab P;have I:=ab S;clear m P S aL;have ao:=hb.size;by_cases a7:k<x.all.length
  .obtain⟨y,cG⟩:=aq a7;have R:fP wr lo hi x.all [.slice B x.all.length d]:=fP.loc.below hn hb aX;obtain⟨b,aZ,A',c',rfl,b1,H,aa,af,aT,o⟩:=axP R cG;have HY:=ab cG;have a0:=aG.out y (db cG);clear cG;go_wp2;have ba:=av wr (.cells #[.string y.p,.slice A' y.ns.length c'] 89);have kb:=bg.new wr 89 #[.string y.p,.slice A' y.ns.length c'];generalize wr.alloc (.cells #[.string y.p,.slice A' y.ns.length c'] 89)=wa at *;have t:=ag hb ba;have aI:=t.size;obtain⟨⟨g0,e0⟩,g1,e1⟩:=hg.below t;have HF:=alA 7 (by omega) l A c y.ns _ lo hi wa g0 g1 (ap aX aI) (hl.below t) ad hc al.out (nG.loc.below o ba (ap aX ao)) a0 e0 e1;refine HF.mono ?_;clear HF e0 e1 R af aT o;rintro e w2 ⟨v2,q,rfl,O,Z,K⟩;have Q:=ag t K;have L:=ab O;clear O;have ax:=ak kb K;cases q with
   |false=>
    have a:ku 7 l x.all=none:=ajd (db HY.out) (ajc λN=>by have:=L.out.2 N.1;cases this);have g:=ab a;clear a Z;go_wp2;go_ret2;exact pD.no g.out Q
   |true=>
    have j:=L.out.1 rfl;have J:∀s∈py 7 l y.ns,bB (bs s):=λs hs=>by
     obtain⟨n,hn,rfl⟩:=ql.1 hs;exact(nM (j n hn)).1
    have V:∀s∈py 7 l y.ns,s.size<=maxLen:=λs hs=>by have:=(fT (J s hs)).2;unfold maxLen;omega
    have o2:aK ie 9 w2 wa.heap.size v2 (py 7 l y.ns):=Z rfl;have t2:=gM.sl (aK.deep o2 V wa.heap.size) (am _);have U:(py 7 l y.ns).length<=2147483647:=by unfold py;rw[qc];exact a0
    have HC:=λM (r:Below w2.heap.size w2 M)=>aoH (β:=true) (py 7 l y.ns) J U v2 M _ _ (dt.ar.below t2 r (am _)) r.size;have a3:=ab HC;have ay:=ab (show aow 7 l y.ns from j);clear HC j J V o2 t2 U Z L;go_wp2;refine(a3.out _ (fd _ _)).mono ?_;rintro e M ⟨rfl,r⟩;have E:=ag Q r;have an:=ak ax r;have cp:=an.cell 0;cases hj:(jL (py 7 l y.ns)).2
    .have a:ku 7 l x.all=none:=ajd (db HY.out) (ajc λN=>by rw[hj] at N;cases N.2);have g:=ab a;clear a hj;go_wp2;go_ret2;exact pD.no g.out E
    .have C:=aoJ (x:=y) ay.out hj;have a5:(jL (py 7 l y.ns)).1.size<=maxLen:=by have:=alB (l:=py 7 l y.ns);unfold maxLen;omega
     generalize (jL (py 7 l y.ns)).1=tx at *;have a2:=aje HY.out C;have W:∀z∈x.all.take (k+1),(lv 7 l z).isSome=true:=λz f=>by
      rw[li HY.out] at f;rcases mx.1 f with f|f
      .exact D.out z f
      .rw[pe.1 f,C];rfl
     have HN:=ab a2;have a8:=ab W;clear a2 W C hj;have nU:=(T.below (ag ba (K.trans (r.mono K.size)))).below (fd _ _);obtain⟨Ao,co,rfl⟩:=nU.form;have Y:=E.size;go_wp2_with(at_builtin;refine cu (F:=mv) (v:=.slice Ao (gG 7 l (x.all.take k)).length co) rfl (.tmp 41) (.tmp 46) 34 rfl nH (⟨y.p,tx⟩:Nd) rfl nU rfl rfl (by rw[I.out];omega) Y ?_;intro va w4 oa a6 aY;obtain⟨Aa,ca,rfl⟩:=oa.form);go_roundw
     case rel=>
      have a4:=E.trans (a6.below Y λi hi hx=>by have:=(nU.at_ hx).1;omega);refine⟨k+1,by omega,by go_num,a8.out,by rw[HN.out];simp only[aE,ga,mw,mc] at oa;exact oa, ?_,by rw[HN.out,aE,I.out];rfl,a4⟩;rw[HN.out];intro z f;rcases mx.1 f with f|f
      .exact u.out z f
      .rw[pe.1 f];exact⟨aa,a5⟩
     case measure=>simp[intOf];omega
  .obtain rfl:k=x.all.length:=by omega
   rw[gc] at D u I T;have t3:=gM.sl (aK.deep T u.out w.heap.size) (am _);obtain⟨q,O⟩:∃q:Bool,q=true↔amZ (gG 7 l x.all):=by
    by_cases hx:amZ (gG 7 l x.all)
    .exact⟨true,by simp[hx]⟩
    .exact⟨false,by simp[hx]⟩
   have HT:=λM (r:Below wr.heap.size wr M)=>arA (β:=true) (gG 7 l x.all) u8 M _ _ (eD.ar.below t3 r (am _)) r.size q O;have a9:=ab HT;have L:=ab O;clear HT O t3;go_wp2;refine(a9.out _ (fd _ _)).mono ?_;rintro e w2 ⟨rfl,K⟩;have H:=ag hb K;cases q with
   |false=>
    have a:ku 7 l x.all=none:=by
     unfold ku;rw[bv];rintro⟨-,N⟩;have:=L.out.2 N;cases this
    have g:=ab a;clear a;go_wp2;go_ret2;exact pD.no g.out H
   |true=>
    have a1:ku 7 l x.all=some (gG 7 l x.all):=by
     unfold ku;rw[dq ⟨D.out,L.out.1 rfl⟩]
    have G:=ab a1;clear a1;have Z:=T.below K;clear T;go_wp2;go_ret2;refine⟨u8,by rw[G.out];rfl,by rw[G.out];exact Z,by rw[G.out];exact u.out,H⟩
end
section
variable {β:Bool}
open Go.RowKit
def lX(l:List Int)(g p s hi:Nat)(w:World)(v:Rd w s hi g l p)(x:p<=100000) :
  Calls (ah β) 28 #[.pointer (some ⟨g,0,none⟩)] w (an1 w s hi g l p):=by
 go_enter zC,ntmps28;go_wp2;refine(cV _ _ _ _ _ _ 40 v (by omega)).mono ?_;rintro e a ⟨m,rfl,⟨_,y⟩,q,o⟩;by_cases r:m=0
 .have t:(m ==0)=true:=nF.2 r;go_wp2;have rl:dt (a.alloc (.cells #[.string ⟨#[]⟩,.string ⟨#[102]⟩,.string ⟨#[97,47]⟩,.string ⟨#[97,98]⟩,.string ⟨#[97,47,98,47,99]⟩,.string ⟨#[47,97]⟩] 9)) a.heap.size (a.alloc (.cells #[.string ⟨#[]⟩,.string ⟨#[102]⟩,.string ⟨#[97,47]⟩,.string ⟨#[97,98]⟩,.string ⟨#[97,47,98,47,99]⟩,.string ⟨#[47,97]⟩] 9)).heap.size [⟨#[]⟩,⟨#[102]⟩,⟨#[97,47]⟩,⟨#[97,98]⟩,⟨#[97,47,98,47,99]⟩,⟨#[47,97]⟩] [.slice (some ⟨a.heap.size,0,none⟩) 6 6]:=
   (aK.deep (F:=ie) (abM (F:=ie) (bg.new a 9 #[.string ⟨#[]⟩,.string ⟨#[102]⟩,.string ⟨#[97,47]⟩,.string ⟨#[97,98]⟩,.string ⟨#[97,47,98,47,99]⟩,.string ⟨#[47,97]⟩]) rfl (am _) rfl (by simp[maxLen])) (nz (by decide)) a.heap.size).sl (am _)
  have n:=(q).alloc (.cells #[.string ⟨#[]⟩,.string ⟨#[102]⟩,.string ⟨#[97,47]⟩,.string ⟨#[97,98]⟩,.string ⟨#[97,47,98,47,99]⟩,.string ⟨#[47,97]⟩] 9);have f:=(o).alloc (.cells #[.string ⟨#[]⟩,.string ⟨#[102]⟩,.string ⟨#[97,47]⟩,.string ⟨#[97,98]⟩,.string ⟨#[97,47,98,47,99]⟩,.string ⟨#[47,97]⟩] 9);generalize (a).alloc (.cells #[.string ⟨#[]⟩,.string ⟨#[102]⟩,.string ⟨#[97,47]⟩,.string ⟨#[97,98]⟩,.string ⟨#[97,47,98,47,99]⟩,.string ⟨#[47,97]⟩] 9)=w3 at *;refine(agY _ (by simp) _ _ _ _ _ _ _ _ w3 n (by omega) rl).mono ?_;rintro e u ⟨k,d,rfl,c,b⟩;have j:(k).size<=9:=agX (by decide) k d;replace f:=(f).trans b λi _ e=>e;go_wp2;go_ret;exact⟨k,_,rfl,j,c,by omega,f⟩
 .have t:(m ==0)=false:=de.2 r;go_wp2;have rl:dt (a.alloc (.cells #[.string ⟨#[97]⟩,.string ⟨#[98]⟩,.string ⟨#[99,47,97]⟩,.string ⟨#[99,47,98]⟩,.string ⟨#[100,47,97]⟩,.string ⟨#[101]⟩,.string ⟨#[97,47,98]⟩,.string ⟨#[100]⟩] 9)) a.heap.size (a.alloc (.cells #[.string ⟨#[97]⟩,.string ⟨#[98]⟩,.string ⟨#[99,47,97]⟩,.string ⟨#[99,47,98]⟩,.string ⟨#[100,47,97]⟩,.string ⟨#[101]⟩,.string ⟨#[97,47,98]⟩,.string ⟨#[100]⟩] 9)).heap.size [⟨#[97]⟩,⟨#[98]⟩,⟨#[99,47,97]⟩,⟨#[99,47,98]⟩,⟨#[100,47,97]⟩,⟨#[101]⟩,⟨#[97,47,98]⟩,⟨#[100]⟩] [.slice (some ⟨a.heap.size,0,none⟩) 8 8]:=
   (aK.deep (F:=ie) (abM (F:=ie) (bg.new a 9 #[.string ⟨#[97]⟩,.string ⟨#[98]⟩,.string ⟨#[99,47,97]⟩,.string ⟨#[99,47,98]⟩,.string ⟨#[100,47,97]⟩,.string ⟨#[101]⟩,.string ⟨#[97,47,98]⟩,.string ⟨#[100]⟩]) rfl (am _) rfl (by simp[maxLen])) (nz (by decide)) a.heap.size).sl (am _)
  have n:=(q).alloc (.cells #[.string ⟨#[97]⟩,.string ⟨#[98]⟩,.string ⟨#[99,47,97]⟩,.string ⟨#[99,47,98]⟩,.string ⟨#[100,47,97]⟩,.string ⟨#[101]⟩,.string ⟨#[97,47,98]⟩,.string ⟨#[100]⟩] 9);have f:=(o).alloc (.cells #[.string ⟨#[97]⟩,.string ⟨#[98]⟩,.string ⟨#[99,47,97]⟩,.string ⟨#[99,47,98]⟩,.string ⟨#[100,47,97]⟩,.string ⟨#[101]⟩,.string ⟨#[97,47,98]⟩,.string ⟨#[100]⟩] 9);generalize (a).alloc (.cells #[.string ⟨#[97]⟩,.string ⟨#[98]⟩,.string ⟨#[99,47,97]⟩,.string ⟨#[99,47,98]⟩,.string ⟨#[100,47,97]⟩,.string ⟨#[101]⟩,.string ⟨#[97,47,98]⟩,.string ⟨#[100]⟩] 9)=w3 at *;refine(agY _ (by simp) _ _ _ _ _ _ _ _ w3 n (by omega) rl).mono ?_;rintro e u ⟨k,d,rfl,c,b⟩;have j:(k).size<=9:=agX (by decide) k d;replace f:=(f).trans b λi _ e=>e;go_wp2;go_ret;exact⟨k,_,rfl,j,c,by omega,f⟩
def arE(w:World)(lo hi g:Nat)(l:List Int)(p:Nat)(e:Ending)(w':World):Prop:=∃s q,e=.returned (.string s)/\s.size<=1000/\Rd w' lo hi g l q/\q<=p+30/\bq (λb=>b=g) w w'
def ace(a b:ByteArray):(a++b).size=a.size+b.size:=by rw[<-aO,iv,aE,aO,aO]
def arF(w:World)(n:Int):∃t:ByteArray,t.size=1/\Sem.run (ah β) (convert 22 9 (.slice (some ⟨w.heap.size,0,none⟩) 1 1)) (w.alloc (.cells #[.int .u8 n] 5))=.ok (.string t) (w.alloc (.cells #[.int .u8 n] 5)):=by
 refine⟨([n].foldl (λr n=>r.push (UInt8.ofNat n.toNat)) ByteArray.empty),rfl, ?_⟩;rw[run_convert_bytes_string _ _ _ 5 _ _ _ wM qU5 qU9];refine run_bytesToString _ _ 1 1 [n] ?_;have c:=(bg.new w 5 #[.int .u8 n]).cell 0;refine run_loadCells_list (a:=⟨w.heap.size,0,none⟩) (cs:=[.int .u8 n]) (w:=w.alloc (.cells #[.int .u8 n] 5)) (P:=(ah β)) (λj v b=> ?_)
 match j,b with
 |0,b=>
  cases b;exact c
def adh(l:List Int)(g p V hi:Nat)(w:World)(hr:Rd w V hi g l p)(hp:p<=100000) :
  Calls (ah β) 29 #[.pointer (some ⟨g,0,none⟩)] w (arE w V hi g l p):=by
 go_enter zB,ntmps29;go_wp2;refine(cV _ _ _ _ _ _ 5 hr (by omega)).mono ?_;rintro e w2 ⟨m,rfl,⟨_,hm⟩,R,T⟩;have al:=hm (by omega);obtain⟨mm,rfl⟩:=qe (show 0<=m by omega);clear hm;go_wp2;go_loopw [3,4] (λtt H wr=>∃(j q:Nat) (x:ByteArray),j<=4/\H=.int .i64 j/\tt=.string x/\x.size+9*j<=36/\Rd wr V hi g l q/\q+j<=p+5/\bq (λb=>b=g) w wr) (λ_ H _=>(intOf H).toNat)
 case atStart=>exact⟨mm,_,⟨#[]⟩,by omega,rfl,rfl,by show 0+_<=_;omega,R,by omega,T⟩
 case round=>
  clear R T;obtain⟨j,q,x,hj,rfl,rfl,hx,rd,U⟩:=hrel;obtain⟨ao,U⟩:=U;by_cases h0:j=0
  .subst h0;go_wp2;refine(cV _ _ _ _ _ _ 4 rd (by omega)).mono ?_;rintro e w3 ⟨m2,rfl,⟨_,a8⟩,r,A⟩;clear a8;have D:=U.trans A λi _ e=>e;have a2:x.size<=60:=by omega
   have aa:x.size<=36:=by omega
   clear rd A hx;by_cases X:m2=0
   .have t1:(m2 ==0)=true:=nF.2 X;clear X;go_wp2;refine(cV _ _ _ _ _ _ 12 r (by omega)).mono ?_;rintro e w5 ⟨m5,rfl,⟨_,N⟩,K,S⟩;have a9:=N (by omega);obtain⟨n5,rfl⟩:=qe (show 0<=m5 by omega);have O:=D.trans S λi _ e=>e;clear N S D r;go_wp2;go_loopw [3,5] (λtt H wr=>∃(j W:Nat) (y:ByteArray),j<=11/\H=.int .i64 j/\tt=.string y/\y.size+j<=47/\Rd wr V hi g l W/\W+j<=p+18/\bq (λb=>b=g) w wr) (λ_ H _=>(intOf H).toNat)
    case atStart=>exact⟨n5,_,x,by omega,rfl,rfl,by omega,K,by omega,O⟩
    case round=>
     clear K O;obtain⟨j,W,y,f,rfl,rfl,hy,G,ay,C⟩:=hrel;by_cases P:j=0
     .subst P;have a6:y.size<=60:=by omega
      clear hy;have a7:W<=p+20:=by omega
      by_cases a4:40<(y).size
      case' pos=>
       have t4:=dj (show(40:Int)<((y).size:Int) by omega);have g2:(40:Int)<=((y).size:Int):=by omega
       obtain⟨z,n,o⟩:∃z,z=(y).extract 0 40/\z.size=40:=⟨_,rfl,by rw[aeB _ (by omega)]⟩;have Q:=ab n;go_wp2;rw[<-Q.out];clear n Q
      case' neg=>
       have t4:=da (show ¬((40:Int)<((y).size:Int)) by omega);go_wp2;have o:=a6;obtain⟨z,n⟩:∃z,z=y:=⟨_,rfl⟩;rw[<-n] at o ⊢;clear n
      all_goals
       refine(cV _ _ _ _ _ _ 60 G (by omega)).mono ?_;rintro e Y ⟨d,rfl,⟨_,E⟩,a,s⟩;have c:=(C).trans s λi _ e=>e;clear E s;by_cases k:d=0
       .have t5:(d ==0)=true:=nF.2 k;clear k;go_wp2;go_ret;exact⟨_,_,rfl,by rw[ace];have:(⟨#[65]⟩:ByteArray).size=1:=rfl;omega,a,by omega,c⟩
       .have t5:(d ==0)=false:=de.2 k;by_cases u:d=1
        .have t6:(d ==1)=true:=nF.2 u;clear k u;go_wp2;refine(aet ⟨#[97,98,99,100,101]⟩ 9 (by decide) (by decide) (by decide) Y).mono ?_;rintro e w5 ⟨⟨t,rfl,ht⟩,rfl⟩;go_wp2;go_ret;exact⟨t,_,rfl,by omega,a,by omega,c⟩
        .have t6:(d ==1)=false:=de.2 u;clear k u;go_wp2;go_ret;exact⟨_,_,rfl,by omega,a,by omega,c⟩
     .have t7:=dj (show(0:Int)<(j:Int) by omega);obtain⟨B,I⟩:∃y,y=j-1:=⟨_,rfl⟩;have e7:(j:Int)-1=((B:Nat):Int):=by omega
      have gZ:0<(j:Int):=by omega
      have f:j=B+1:=by omega
      clear I P;have v:=ab f;clear f;go_wp2;refine(cV _ _ _ _ _ _ 26 G (by omega)).mono ?_;rintro e w7 ⟨m7,rfl,⟨_,L⟩,Z,M⟩;have ax:=L (by omega);have a5:=C.trans M λi _ e=>e;clear L M C G;have a3:=Z.alloc (.cells #[.int .u8 (97+m7)] 5);have a1:=a5.alloc (.cells #[.int .u8 (97+m7)] 5);obtain⟨t,ht,af⟩:=arF (β:=β) w7 (97+m7);go_wp2;go_roundw
      case rel=>exact⟨B,_,y++t,by have:=v.out;omega,rfl,rfl,by rw[ace,ht];have:=v.out;omega,a3,by have:=v.out;omega,a1⟩
      simp[intOf];have:=v.out;omega
   .have t1:(m2 ==0)=false:=de.2 X;clear X;have a7:q+1<=p+20:=by omega
    by_cases a4:40<(x).size
    case' pos=>
     have t4:=dj (show(40:Int)<((x).size:Int) by omega);have g2:(40:Int)<=((x).size:Int):=by omega
     obtain⟨z,n,o⟩:∃z,z=(x).extract 0 40/\z.size=40:=⟨_,rfl,by rw[aeB _ (by omega)]⟩;have Q:=ab n;go_wp2;rw[<-Q.out];clear n Q
    case' neg=>
     have t4:=da (show ¬((40:Int)<((x).size:Int)) by omega);go_wp2;have o:=a2;obtain⟨z,n⟩:∃z,z=x:=⟨_,rfl⟩;rw[<-n] at o ⊢;clear n
    all_goals
     refine(cV _ _ _ _ _ _ 60 r (by omega)).mono ?_;rintro e Y ⟨d,rfl,⟨_,E⟩,a,s⟩;have c:=(D).trans s λi _ e=>e;clear E s;by_cases k:d=0
     .have t5:(d ==0)=true:=nF.2 k;clear k;go_wp2;go_ret;exact⟨_,_,rfl,by rw[ace];have:(⟨#[65]⟩:ByteArray).size=1:=rfl;omega,a,by omega,c⟩
     .have t5:(d ==0)=false:=de.2 k;by_cases u:d=1
      .have t6:(d ==1)=true:=nF.2 u;clear k u;go_wp2;refine(aet ⟨#[97,98,99,100,101]⟩ 9 (by decide) (by decide) (by decide) Y).mono ?_;rintro e w5 ⟨⟨t,rfl,ht⟩,rfl⟩;go_wp2;go_ret;exact⟨t,_,rfl,by omega,a,by omega,c⟩
      .have t6:(d ==1)=false:=de.2 u;clear k u;go_wp2;go_ret;exact⟨_,_,rfl,by omega,a,by omega,c⟩
  .have t1:=dj (show(0:Int)<(j:Int) by omega);have an:x.size<=36:=by omega
   obtain⟨B,I⟩:∃y,y=j-1:=⟨_,rfl⟩;have u:(j:Int)-1=((B:Nat):Int):=by omega
   have gZ:0<(j:Int):=by omega
   have f:j=B+1:=by omega
   clear I h0;have v:=ab f;clear f;go_wp2;have rl:dt (wr.alloc (.cells #[.string ⟨#[97,98,99]⟩,.string ⟨#[104,101,108,108,111]⟩,.string ⟨#[119,111,114,108,100]⟩,.string ⟨#[97,97,97,97]⟩,.string ⟨#[107,101,101,112]⟩,.string ⟨#[122,122]⟩,.string ⟨#[98,97,99,107,117,112]⟩,.string ⟨#[113]⟩] 9)) wr.heap.size (wr.alloc (.cells #[.string ⟨#[97,98,99]⟩,.string ⟨#[104,101,108,108,111]⟩,.string ⟨#[119,111,114,108,100]⟩,.string ⟨#[97,97,97,97]⟩,.string ⟨#[107,101,101,112]⟩,.string ⟨#[122,122]⟩,.string ⟨#[98,97,99,107,117,112]⟩,.string ⟨#[113]⟩] 9)).heap.size [⟨#[97,98,99]⟩,⟨#[104,101,108,108,111]⟩,⟨#[119,111,114,108,100]⟩,⟨#[97,97,97,97]⟩,⟨#[107,101,101,112]⟩,⟨#[122,122]⟩,⟨#[98,97,99,107,117,112]⟩,⟨#[113]⟩] [.slice (some ⟨wr.heap.size,0,none⟩) 8 8]:=
    (aK.deep (F:=ie) (abM (F:=ie) (bg.new wr 9 #[.string ⟨#[97,98,99]⟩,.string ⟨#[104,101,108,108,111]⟩,.string ⟨#[119,111,114,108,100]⟩,.string ⟨#[97,97,97,97]⟩,.string ⟨#[107,101,101,112]⟩,.string ⟨#[122,122]⟩,.string ⟨#[98,97,99,107,117,112]⟩,.string ⟨#[113]⟩]) rfl (am _) rfl (by simp[maxLen])) (nz (by decide)) wr.heap.size).sl (am _)
   have r:=(rd).alloc (.cells #[.string ⟨#[97,98,99]⟩,.string ⟨#[104,101,108,108,111]⟩,.string ⟨#[119,111,114,108,100]⟩,.string ⟨#[97,97,97,97]⟩,.string ⟨#[107,101,101,112]⟩,.string ⟨#[122,122]⟩,.string ⟨#[98,97,99,107,117,112]⟩,.string ⟨#[113]⟩] 9);have mn:=(U).alloc (.cells #[.string ⟨#[97,98,99]⟩,.string ⟨#[104,101,108,108,111]⟩,.string ⟨#[119,111,114,108,100]⟩,.string ⟨#[97,97,97,97]⟩,.string ⟨#[107,101,101,112]⟩,.string ⟨#[122,122]⟩,.string ⟨#[98,97,99,107,117,112]⟩,.string ⟨#[113]⟩] 9);generalize (wr).alloc (.cells #[.string ⟨#[97,98,99]⟩,.string ⟨#[104,101,108,108,111]⟩,.string ⟨#[119,111,114,108,100]⟩,.string ⟨#[97,97,97,97]⟩,.string ⟨#[107,101,101,112]⟩,.string ⟨#[122,122]⟩,.string ⟨#[98,97,99,107,117,112]⟩,.string ⟨#[113]⟩] 9)=w3 at *;refine(agY _ (by simp) _ _ _ _ _ _ _ _ w3 r (by omega) rl).mono ?_;rintro e v3 ⟨s3,J,rfl,a0,A⟩;have ad:(s3).size<=9:=agX (by decide) s3 J;replace mn:=(mn).trans A λi _ e=>e;clear J rl;go_wp2;go_roundw
   case rel=>exact⟨B,_,x++s3,by have:=v.out;omega,rfl,rfl,by rw[ace];have:=v.out;omega,a0,by have:=v.out;omega,mn⟩
   simp[intOf];have:=v.out;omega
end
section
variable {β:Bool}
open Go.RowKit
def aoK(w:World)(lo hi g:Nat)(l:List Int)(p:Nat)(e:Ending)(w':World):Prop:=∃v a q,e=.returned v/\aK mv 67 w' w.heap.size v a/\(∀y∈a,mv.good y)/\a.length<=7/\Rd w' lo hi g l q/\q<=p+300/\bq (λb=>b=g) w w'
def ajf(l:List Int)(g p O hi:Nat)(w:World)(hr:Rd w O hi g l p)(hp:p<=50000) :
  Calls (ah β) 51 #[.pointer (some ⟨g,0,none⟩)] w (aoK w O hi g l p):=by
 have ax:=hr.lt;go_enter zi,ntmps51;go_wp2;have V:=hr.alloc (.cells #[] 67);have D:=(bq.refl (λb=>b=g) w).alloc (.cells #[] 67);have H:aK mv 67 (w.alloc (.cells #[] 67)) w.heap.size (.slice (some ⟨w.heap.size,0,none⟩) 0 0) []:=(eb.new w 67 (am _)).own 2;generalize w.alloc (.cells #[] 67)=w0 at *;refine(cV _ _ _ _ _ _ 6 V (by omega)).mono ?_;rintro e w1 ⟨m,rfl,⟨_,hm⟩,a2,G⟩;have ay:=hm (by omega);obtain⟨mm,rfl⟩:=qe (show 0<=m by omega);have Y:=H.fc G λb r e=>by have:=(H.at_ r).1;omega
 replace D:=D.trans G λi _ e=>e;clear hm V G H;go_wp2;go_loopw [3,4] (λtt jj wr=>∃(j q:Nat) (n:List Nd),j<=5/\jj=.int .i64 j/\aK mv 67 wr w.heap.size tt n/\lh n/\Rd wr O hi g l q/\q+40*j<=p+201/\bq (λb=>b=g) w wr) (λ_ jj _=>(intOf jj).toNat)
 case atStart=>exact⟨mm,_,[],by omega,rfl,Y,lh.nil,a2,by omega,D⟩
 case round=>
  clear Y a2 D;obtain⟨j,q,n,hj,rfl,J,L,rd,hq,T⟩:=hrel;obtain⟨A,c,rfl⟩:=J.form;replace L:=ab L;have ao:=T.size;by_cases h0:j=0
  .subst h0;have z:=ab (pY L.out);have af:n.length<=6:=L.out.2.1;go_wp2;refine(cV _ _ _ _ _ _ 40 rd (by omega)).mono ?_;rintro e N ⟨P,rfl,⟨_,a9⟩,a,k⟩;have o:=J.fc k λb r e=>by have:=(J.at_ r).1;omega
   have d:=T.trans k λi _ e=>e;clear a9 rd J k T;by_cases R:P=0
   .have t5:(P ==0)=true:=nF.2 R;clear R;go_wp2;refine(lX l g (q+1) O hi N a (by omega)).mono ?_;rintro e w3 ⟨s,q3,rfl,a8,B,a7,x⟩;have K:=o.fc x λb r e=>by have:=(o.at_ r).1;omega
    have Q:=d.trans x λi _ e=>e;have I:=Q.size;clear a o d;go_wp2_with(at_builtin;refine cu (F:=mv) (v:=.slice A n.length c) rfl (.tmp 29) (.tmp 33) 34 rfl nH ⟨s,⟨#[97]⟩⟩ rfl K rfl rfl (by omega) I ?_;intro va wa oa a0 al;obtain⟨Aa,ca,rfl⟩:=oa.form;simp only[aE,ga,mw,mc] at oa);go_ret;refine⟨_,n++[⟨s,⟨#[97]⟩⟩],q3,rfl,by simpa using oa,λy M=> ?_,by simp;omega,B.fc a0 λb r e=> ?_,by omega,Q.trans a0 λb r e=> ?_⟩
    .rcases mx.1 M with M|M
     .exact z.out y M
     .rw[pe.1 M];exact⟨by show s.size<=maxLen;unfold maxLen;omega,by show(⟨#[97]⟩:ByteArray).size<=maxLen;decide⟩
    .have:=(K.at_ e).1;have:=B.hi_;omega
    .have:=(K.at_ e).1;omega
   .have t5:(P ==0)=false:=de.2 R;by_cases Z:P=1
    .have t6:(P ==1)=true:=nF.2 Z;clear R Z;by_cases a1:n.length=0
     .have t7:=da (show ¬(0<n.length) by omega);clear a1;go_wp2;go_ret;exact⟨_,n,q+1,rfl,o,z.out,by omega,a,by omega,d⟩
     .have t7:=dj (show 0<n.length by omega);have gZ:0<n.length:=by omega
      obtain⟨y0,cG⟩:=aq gZ;obtain⟨X,c',e⟩:=aK.some_ o gZ;simp only[nf] at e;obtain⟨rfl, -,rfl⟩:=e;have an:=(o.at_ rfl).1;have G:N.cell? ⟨X,1,none⟩=some (.string y0.b):=by
       have:=aK.cell o (j:=1) cG rfl;simpa using this
      have aG:=aK.frozen o rfl 1;have C:=aK.put o (j:=1) (u:=.string ⟨#[65]⟩) (y:=⟨y0.p,⟨#[65]⟩⟩) cG (by decide) rfl;rw[uE,mc] at C;have HP:=ab C;have E:bq (λb=>b=X) N (N.setCell ⟨X,1,none⟩ (.string ⟨#[65]⟩)):=(bq.refl (λb=>b=X) N).setCell (p:=⟨X,1,none⟩) (.inl rfl) _;replace E:=ab E;replace cG:=ab cG;clear C a1;go_wp2;go_ret;refine⟨_,n.set 0 ⟨y0.p,⟨#[65]⟩⟩,q+1,rfl,HP.out,λy M=> ?_,by rw[qQ];omega,a.fc E.out λb r e=> ?_,by omega,d.trans E.out λb r e=> ?_⟩
      .rcases sP M with h1|rfl
       .exact z.out y h1
       .exact⟨(z.out y0 (db cG.out)).1,by show(⟨#[65]⟩:ByteArray).size<=maxLen;decide⟩
      .have:=a.hi_;omega
      .omega
    .have t6:(P ==1)=false:=de.2 Z;clear R Z;go_wp2;go_ret;exact⟨_,n,q+1,rfl,o,z.out,by omega,a,by omega,d⟩
  .have gZ:0<(j:Int):=by omega
   obtain⟨j',ad⟩:∃y,y=j-1:=⟨_,rfl⟩;have Z:(j:Int)-1=((j':Nat):Int):=by omega
   have f:j=j'+1:=by omega
   replace f:=ab f;clear ad h0;go_wp2;refine(lX l g q O hi wr rd (by omega)).mono ?_;rintro e N ⟨s,q2,rfl,a8,a,aI,k⟩;have o:=J.fc k λb r e=>by have:=(J.at_ r).1;omega
   have d:=T.trans k λi _ e=>e;clear rd J k T;go_wp2;refine(adh l g q2 O hi N a (by omega)).mono ?_;rintro e w3 ⟨t,q3,rfl,ht,B,a7,x⟩;have K:=o.fc x λb r e=>by have:=(o.at_ r).1;omega
   have Q:=d.trans x λi _ e=>e;have r3:=(K.deep (pY L.out) w.heap.size).sl (am _);clear a o x d;go_wp2;refine(ada n s t (by unfold maxLen;omega) (by unfold maxLen;omega) _ w3 w.heap.size w3.heap.size r3 (am _) (by have:=L.out.2.1;omega)).mono ?_;rintro e w4 ⟨v4,zs,a6,rfl,o4,a3,b4⟩;have I:=Q.size;have aa:=o4.base I;have a4:=K.below b4;have W:=B.fc (bq.aN (S:=λ_=>False) b4) λ_ _ h=>h;have U:=Q.trans (bq.aN (S:=λ_=>False) b4) λ_ _ h=>h.elim;have a5:=ab a3;obtain⟨A4,c4,rfl⟩:=o4.form;clear a3 B Q K o4 r3;cases a6
   .go_wp2;go_roundw
    case rel=>exact⟨j',q3,n,by have:=f.out;omega,rfl,a4,L.out,W,by have:=f.out;omega,U⟩
    simp[intOf];have:=f.out;omega
   .go_wp2;go_roundw
    case rel=>exact⟨j',q3,zs,by have:=f.out;omega,rfl,aa,a5.out,W,by have:=f.out;omega,U⟩
    simp[intOf];have:=f.out;omega
def arG(w:World)(lo hi g:Nat)(l:List Int)(p:Nat)(e:Ending)(w':World):Prop:=∃v a q,e=.returned v/\aK mv 67 w' w.heap.size v a/\lh a/\Rd w' lo hi g l q/\q<=p+300/\bq (λb=>b=g) w w'
theorem ajg(l:List Int)(g p m hi:Nat)(w:World)(z:Rd w m hi g l p)(y:p<=50000) :
  Calls (ah β) 24 #[.pointer (some ⟨g,0,none⟩)] w (arG w m hi g l p):=by
 go_enter zF,ntmps24;go_wp2;refine(ajf l g p m hi w z y).mono ?_;rintro e n ⟨D,s,q,rfl,k,f,v,j,o,b⟩;obtain⟨A,c,rfl⟩:=k.form;have C:=b.size;have t:=(k.deep f w.heap.size).sl (am _);clear f;go_wp2;refine(aa0 s _ n w.heap.size n.heap.size t (am _)).mono ?_;rintro e B ⟨⟨rfl,r⟩|rfl,i⟩
 .have u:=ab r;have x:=k.below i;have d:=j.fc (bq.aN (S:=λ_=>False) i) λ_ _ h=>h;have a:=b.trans (bq.aN (S:=λ_=>False) i) λ_ _ h=>h.elim;clear r;go_wp2;go_ret;exact⟨_,s,q,rfl,x,u.out,d,o,a⟩
 .have d:=j.fc (bq.aN (S:=λ_=>False) i) λ_ _ h=>h;have a:=b.trans (bq.aN (S:=λ_=>False) i) λ_ _ h=>h.elim;go_wp2;go_ret;exact⟨_,[⟨⟨#[97]⟩,⟨#[104,101,108,108,111]⟩⟩],q,rfl,abM (F:=mv) (xs:=[⟨⟨#[97]⟩,⟨#[104,101,108,108,111]⟩⟩]) (bg.new B 67 #[.string ⟨#[97]⟩,.string ⟨#[104,101,108,108,111]⟩]) rfl a.size rfl (by simp[maxLen]),lh.one ⟨by decide,by decide⟩,d.alloc _,o,a.alloc _⟩
end
section
variable {β:Bool}
open Go.RowKit
def eM.set{s:dK}(h:eM w Z hi s Y X W)(a:bg w g 27 cs)(i:Nat)(u:Value):eM (w.setCell ⟨g,i,none⟩ u) Z hi s Y X W:=
 ⟨cI bD.ar h.pk a (by decide) i u,cI bQ.ar h.sn a (by decide) i u,cI dy.ar h.lg a (by decide) i u⟩
def eM.wide{fE hi' : Nat}{s:dK}(h:eM w Z hi s Y X W)(b:fE<=Z)(a:hi<=hi'):eM w fE hi' s Y X W:=h.go (λ_ _ _=>rfl) b a
def eM.form{s:dK}(h:eM w Z hi s Y X W):(∃A a,Y=.slice A s.pk.length a)/\(∃B b,X=.slice B s.sn.length b)/\∃C c,W=.slice C s.lg.length c:=⟨h.pk.form,h.sn.form,h.lg.form⟩
def eM.fc{s:dK}(h:eM w Z hi s Y X W){S:Nat->Prop}(e:bq S w w')(c:∀b,Z<=b->b<hi->b<w.heap.size/\¬S b):eM w' Z hi s Y X W:=
 h.go (λb d a=>e.block b (c b d a).1 (c b d a).2) (am _) (am _)
def arH(h:cs.size=3):∃a b c,cs=#[a,b,c]:=by
 obtain⟨l⟩:=cs
 match l,h with
 |[a,b,c],_=>exact⟨a,b,c,rfl⟩
def kK(w:World)(g:Nat)(a b c:Value):bq (λx=>x=g) w (((w.setCell ⟨g,0,none⟩ a).setCell ⟨g,1,none⟩ b).setCell ⟨g,2,none⟩ c):=(((bq.refl (λx=>x=g) w).setCell (S:=λx=>x=g) (p:=⟨g,0,none⟩) (.inl rfl) a).setCell (S:=λx=>x=g) (p:=⟨g,1,none⟩) (.inl rfl) b).setCell (S:=λx=>x=g) (p:=⟨g,2,none⟩) (.inl rfl) c
section
variable {w:World} {lo hi g:Nat} {l:List Int} {N s ia ic bk:Nat} {fx:Bool} {ty:TypeId} {n:Nat} {S:Nat->Prop} {pre:List Nat}
def abb(u:Value)(x:aJ w lo hi g l N s ia ic bk fx ty n S pre):Prop:=
 ∃d c a q r L H,u=.tuple #[.agg #[d,c,a],.bool q]/\eM x.to L H r d c a/\(∀b,L<=b->b<H->x.free b)/\w.heap.size<=L/\H<=x.to.heap.size/\(q=true->iB r)
def abb.le{u:Value}{x y:aJ w lo hi g l N s ia ic bk fx ty n S pre}(h:abb u x)(a:aJ.le x y):abb u y:=by
 obtain⟨j,o,k,q,r,L,H,rfl,f,e,p,i,m⟩:=h;exact⟨j,o,k,q,r,L,H,rfl,f.go (λb d c=>a.fc.block b (e b d c).1 (a.not (e b d c))) (am _) (am _),λb d c=>a.free (e b d c),p,ap i a.fc.size,m⟩
def abb.new{r:dK}{q:Bool}(x:aJ w lo hi g l N s ia ic bk fx ty n S pre){w2:World}(d:Below x.to.heap.size x.to w2)(a:eM w2 x.to.heap.size w2.heap.size r Y X W)(j:q=true->iB r)(k:g<w.heap.size)(v:Value):abb (.tuple #[.agg #[Y,X,W],.bool q]) (x.told d v):=by
 have f:=x.ok.size;exact⟨Y,X,W,q,r,_,_,rfl,a,λb o c=>⟨c,by omega,λe=>(by
  obtain⟨_,_,m,_,i⟩:=x.bx b e;have:=i.lt;omega),λe=>(by have:=x.sf b e;omega)⟩,f,am _,j⟩
def ahq(x:aJ w lo hi g l N s ia ic bk fx ty n S pre):Prop:=
 x.done=true/\∃b d c a q,x.box=some b/\x.res=some (.tuple #[.agg #[d,c,a],.bool q])/\bg x.to b ty #[d,c,a]
def ahq.le{x y:aJ w lo hi g l N s ia ic bk fx ty n S pre}(h:ahq x)(a:aJ.le x y):ahq y:=by
 obtain⟨hd,b,d,m,k,q,i,e,j⟩:=h;obtain⟨o,c,f⟩:=a.full hd i j;exact⟨o,b,d,m,k,q,c,a.res _ e,f⟩
end
structure ae1 (u va vb vc:Value) (q:Bool):Prop where
 eq:u=.tuple #[.agg #[va,vb,vc],.bool q]
 a:∃A m c,va=.slice A m c
 b:∃A m c,vb=.slice A m c
 c:∃A m c,vc=.slice A m c
def ae1.of{r:dK}{q:Bool}(h:eM w Z hi r Y X W):ae1 (.tuple #[.agg #[Y,X,W],.bool q]) Y X W q:=by
 obtain⟨⟨A,a,rfl⟩,⟨B,b,rfl⟩,C,c,rfl⟩:=h.form;exact⟨rfl,⟨_,_,_,rfl⟩,⟨_,_,_,rfl⟩,⟨_,_,_,rfl⟩⟩
def aoL(w:World)(lo hi g:Nat)(l:List Int)(p:Nat)(e:Ending)(w':World):Prop:=
 ∃d c a s q,e=.returned (.agg #[d,c,a])/\eM w' w.heap.size w'.heap.size s d c a/\iB s/\Rd w' lo hi g l q/\q<=p+700/\bq (λb=>b=g) w w'
structure ahr (w wr:World) (lo hi g:Nat) (l:List Int) (q gs:Nat) (va vb vc tt:Value) (s:dK) (t:List Nd):Prop where
 k0:bg wr w.heap.size 27 #[.slice none 0 0,.slice none 0 0,.slice none 0 0]
 ks:bg wr gs 27 #[va,vb,vc]
 os:eM wr w.heap.size wr.heap.size s va vb vc
 sv:iB s
 ot:aK mv 67 wr w.heap.size tt t
 ft:lh t
 rd:Rd wr lo hi g l q
 ch:bq (λb=>b=g) w wr
 gs1:w.heap.size<gs
 gw:g<w.heap.size
def ahr.fc{wr : World}{l:List Int}{q gs : Nat}{s:dK}{t:List Nd}(h:ahr w wr Z hi g l q gs Y X W V s t)(a:bq (λb=>b=g) wr w')(f:Rd w' Z hi g l U):ahr w w' Z hi g l U gs Y X W V s t:=by
 have k:=h.gw;have c:=h.gs1;exact⟨aP h.k0 a (by omega),aP h.ks a (by omega),(h.os.fc a λb c d=>⟨d,by omega⟩).wide (am _) a.size,h.sv,h.ot.fc a λb j e=>by have:=(h.ot.at_ j).1;omega,h.ft,f,h.ch.trans a λi _ e=>e,c,k⟩
def ahr.tree{wr : World}{l:List Int}{q gs:Nat}{s:dK}{t a:List Nd}(h:ahr w wr Z hi g l q gs Y X W V s t)(c:aK mv 67 wr w.heap.size R a)(b:lh a):ahr w wr Z hi g l q gs Y X W R s a:=
 ⟨h.k0,h.ks,h.os,h.sv,c,b,h.rd,h.ch,h.gs1,h.gw⟩
def acf{t:List Nd}(h:lh t):∀x∈t,mv.good x:=pY h
def ahs(l:List Int)(g p Y hi:Nat)(w:World)(hr:Rd w Y hi g l p)(hp:p<=10000) :
  Calls (ah β) 11 #[.pointer (some ⟨g,0,none⟩)] w (aoL w Y hi g l p):=by
 have c9:=hr.lt;have cl:=hr.hi_;go_enter zO,ntmps11;go_wp2;have aL:Below w.heap.size w (((((w.alloc (.cells #[.slice none 0 0,.slice none 0 0,.slice none 0 0] 27)).alloc (.cells #[] 54)).alloc (.cells #[] 39)).alloc (.cells #[] 62)).alloc (.cells #[.slice (some ⟨w.heap.size+1,0,none⟩) 0 0,.slice (some ⟨w.heap.size+1+1,0,none⟩) 0 0,.slice (some ⟨w.heap.size+1+1+1,0,none⟩) 0 0] 27)):=cM (cM (cM (cM (av _ _) _) _) _) _;have k0:bg (((((w.alloc (.cells #[.slice none 0 0,.slice none 0 0,.slice none 0 0] 27)).alloc (.cells #[] 54)).alloc (.cells #[] 39)).alloc (.cells #[] 62)).alloc (.cells #[.slice (some ⟨w.heap.size+1,0,none⟩) 0 0,.slice (some ⟨w.heap.size+1+1,0,none⟩) 0 0,.slice (some ⟨w.heap.size+1+1+1,0,none⟩) 0 0] 27)) (w.heap.size) 27 #[.slice none 0 0,.slice none 0 0,.slice none 0 0]:=by
  have I:=bu (bu (bu (bu (bg.new w 27 #[.slice none 0 0,.slice none 0 0,.slice none 0 0]) (.cells #[] 54)) (.cells #[] 39)) (.cells #[] 62)) (.cells #[.slice (some ⟨w.heap.size+1,0,none⟩) 0 0,.slice (some ⟨w.heap.size+1+1,0,none⟩) 0 0,.slice (some ⟨w.heap.size+1+1+1,0,none⟩) 0 0] 27);exact I
 have k1:bg (((((w.alloc (.cells #[.slice none 0 0,.slice none 0 0,.slice none 0 0] 27)).alloc (.cells #[] 54)).alloc (.cells #[] 39)).alloc (.cells #[] 62)).alloc (.cells #[.slice (some ⟨w.heap.size+1,0,none⟩) 0 0,.slice (some ⟨w.heap.size+1+1,0,none⟩) 0 0,.slice (some ⟨w.heap.size+1+1+1,0,none⟩) 0 0] 27)) (w.heap.size+1) 54 #[]:=by
  have I:=bu (bu (bu (bg.new (w.alloc (.cells #[.slice none 0 0,.slice none 0 0,.slice none 0 0] 27)) 54 #[]) (.cells #[] 39)) (.cells #[] 62)) (.cells #[.slice (some ⟨w.heap.size+1,0,none⟩) 0 0,.slice (some ⟨w.heap.size+1+1,0,none⟩) 0 0,.slice (some ⟨w.heap.size+1+1+1,0,none⟩) 0 0] 27);simp only[oR] at I;exact I
 have k2:bg (((((w.alloc (.cells #[.slice none 0 0,.slice none 0 0,.slice none 0 0] 27)).alloc (.cells #[] 54)).alloc (.cells #[] 39)).alloc (.cells #[] 62)).alloc (.cells #[.slice (some ⟨w.heap.size+1,0,none⟩) 0 0,.slice (some ⟨w.heap.size+1+1,0,none⟩) 0 0,.slice (some ⟨w.heap.size+1+1+1,0,none⟩) 0 0] 27)) (w.heap.size+1+1) 39 #[]:=by
  have I:=bu (bu (bg.new ((w.alloc (.cells #[.slice none 0 0,.slice none 0 0,.slice none 0 0] 27)).alloc (.cells #[] 54)) 39 #[]) (.cells #[] 62)) (.cells #[.slice (some ⟨w.heap.size+1,0,none⟩) 0 0,.slice (some ⟨w.heap.size+1+1,0,none⟩) 0 0,.slice (some ⟨w.heap.size+1+1+1,0,none⟩) 0 0] 27);simp only[oR] at I;exact I
 have k3:bg (((((w.alloc (.cells #[.slice none 0 0,.slice none 0 0,.slice none 0 0] 27)).alloc (.cells #[] 54)).alloc (.cells #[] 39)).alloc (.cells #[] 62)).alloc (.cells #[.slice (some ⟨w.heap.size+1,0,none⟩) 0 0,.slice (some ⟨w.heap.size+1+1,0,none⟩) 0 0,.slice (some ⟨w.heap.size+1+1+1,0,none⟩) 0 0] 27)) (w.heap.size+1+1+1) 62 #[]:=by
  have I:=bu (bg.new (((w.alloc (.cells #[.slice none 0 0,.slice none 0 0,.slice none 0 0] 27)).alloc (.cells #[] 54)).alloc (.cells #[] 39)) 62 #[]) (.cells #[.slice (some ⟨w.heap.size+1,0,none⟩) 0 0,.slice (some ⟨w.heap.size+1+1,0,none⟩) 0 0,.slice (some ⟨w.heap.size+1+1+1,0,none⟩) 0 0] 27);simp only[oR] at I;exact I
 have k4:bg (((((w.alloc (.cells #[.slice none 0 0,.slice none 0 0,.slice none 0 0] 27)).alloc (.cells #[] 54)).alloc (.cells #[] 39)).alloc (.cells #[] 62)).alloc (.cells #[.slice (some ⟨w.heap.size+1,0,none⟩) 0 0,.slice (some ⟨w.heap.size+1+1,0,none⟩) 0 0,.slice (some ⟨w.heap.size+1+1+1,0,none⟩) 0 0] 27)) (w.heap.size+1+1+1+1) 27 #[.slice (some ⟨w.heap.size+1,0,none⟩) 0 0,.slice (some ⟨w.heap.size+1+1,0,none⟩) 0 0,.slice (some ⟨w.heap.size+1+1+1,0,none⟩) 0 0]:=by
  have I:=bg.new ((((w.alloc (.cells #[.slice none 0 0,.slice none 0 0,.slice none 0 0] 27)).alloc (.cells #[] 54)).alloc (.cells #[] 39)).alloc (.cells #[] 62)) 27 #[.slice (some ⟨w.heap.size+1,0,none⟩) 0 0,.slice (some ⟨w.heap.size+1+1,0,none⟩) 0 0,.slice (some ⟨w.heap.size+1+1+1,0,none⟩) 0 0];simp only[oR] at I;exact I
 have iP:w.heap.size+5<=(((((w.alloc (.cells #[.slice none 0 0,.slice none 0 0,.slice none 0 0] 27)).alloc (.cells #[] 54)).alloc (.cells #[] 39)).alloc (.cells #[] 62)).alloc (.cells #[.slice (some ⟨w.heap.size+1,0,none⟩) 0 0,.slice (some ⟨w.heap.size+1+1,0,none⟩) 0 0,.slice (some ⟨w.heap.size+1+1+1,0,none⟩) 0 0] 27)).heap.size:=by simp only[oR];omega
 generalize (((((w.alloc (.cells #[.slice none 0 0,.slice none 0 0,.slice none 0 0] 27)).alloc (.cells #[] 54)).alloc (.cells #[] 39)).alloc (.cells #[] 62)).alloc (.cells #[.slice (some ⟨w.heap.size+1,0,none⟩) 0 0,.slice (some ⟨w.heap.size+1+1,0,none⟩) 0 0,.slice (some ⟨w.heap.size+1+1+1,0,none⟩) 0 0] 27))=w0 at *;have cZ:=k0.cell;have eK:=k0.frozen;have dx:=k1.cell;have ed:=k1.frozen;have gp:=k2.cell;have jw:=k2.frozen;have bz:=k3.cell;have bY:=k3.frozen;have a7:=k4.cell;have ch:=k4.frozen;have bf:eM w0 w.heap.size w0.heap.size ⟨[],[],[]⟩ (.slice (some ⟨w.heap.size+1,0,none⟩) 0 0) (.slice (some ⟨w.heap.size+1+1,0,none⟩) 0 0) (.slice (some ⟨w.heap.size+1+1+1,0,none⟩) 0 0):=
  ⟨eb.aae ⟨_,rfl,by omega,k1⟩ (am _),eb.aae ⟨_,rfl,by omega,k2⟩ (am _),eb.aae ⟨_,rfl,by omega,k3⟩ (am _)⟩
 have ax:bq (λb=>b=g) w w0:=bq.aN aL;have bn:=hr.fc (bq.aN (S:=λ_=>False) aL) λ_ _ h=>h;clear k1 k2 k3 cZ dx gp bz a7 eK ed jw bY ch aL hr;refine(ajg l g p Y hi w0 bn (by omega)).mono ?_;rintro e w1 ⟨vt,t0,q1,rfl,ot,bx,b5,cC,J⟩;have k:ahr w w1 Y hi g l q1 (w.heap.size+1+1+1+1) (.slice (some ⟨w.heap.size+1,0,none⟩) 0 0) (.slice (some ⟨w.heap.size+1+1,0,none⟩) 0 0) (.slice (some ⟨w.heap.size+1+1+1,0,none⟩) 0 0) vt ⟨[],[],[]⟩ t0:=
  ⟨aP k0 J (by omega),aP k4 J (by omega),(bf.fc J λb h1 h2=>⟨h2,by omega⟩).wide (am _) J.size,iB.nil,ot.base (by omega),bx,b5,ax.trans J λi _ e=>e,by omega,c9⟩
 clear k0 k4 bf ax ot bx J bn;obtain⟨o,b7⟩:∃o,o=w.heap.size+1+1+1+1:=⟨_,rfl⟩;rw[<-b7] at k ⊢;clear b7;go_wp2;refine(cV _ _ _ _ _ _ 5 k.rd (by omega)).mono ?_;rintro e w2 ⟨m,rfl,⟨_,hm⟩,bp,b4⟩;have cv:=hm (by omega);obtain⟨mm,rfl⟩:=qe (show 0<=m by omega);have b9:=ab (k.fc b4 bp);clear hm b5 bp b4 k;go_wp2;go_loopw [4,5] (λtt jj wr=>∃(j q:Nat) (s:dK) (t:List Nd) (O P U:Value),j<=4/\jj=.int .i64 j/\ahr w wr Y hi g l q o O P U tt s t/\q+60*j<=p+600) (λ_ jj _=>(intOf jj).toNat)
 case atStart=>exact⟨mm,_,_,_,_,_,_,by omega,rfl,b9.out,by omega⟩
 case round=>
  clear b9;obtain⟨j,q,s,t,O,P,U,hj,rfl,k,hq⟩:=hrel;obtain⟨⟨A,a,rfl⟩,⟨B,b,rfl⟩,C,c,rfl⟩:=k.os.form;obtain⟨T,d,rfl⟩:=k.ot.form;have bl:wr.cell? ⟨o,0,none⟩=some (.slice A s.pk.length a):=k.ks.cell 0;have ad:wr.cell? ⟨o,1,none⟩=some (.slice B s.sn.length b):=k.ks.cell 1;have br:wr.cell? ⟨o,2,none⟩=some (.slice C s.lg.length c):=k.ks.cell 2;have c0:=k.gs1;have bG:=k.gw;have cp:=k.ks.lt;have zr:=k.ch.size;have HD:=ab k;by_cases h0:j=0
  .subst h0;have cZ:=k.k0.cell;have eK:=k.k0.frozen;clear k;go_wp2;have k4:=((HD.out.k0.bF 0 (.slice A s.pk.length a)).bF 1 (.slice B s.sn.length b)).bF 2 (.slice C s.lg.length c);simp only[ef,ip,jt] at k4;have a7:=k4.cell;refine pa (v:=.agg #[.slice A s.pk.length a,.slice B s.sn.length b,.slice C s.lg.length c]) (by simp[results,results11,go_sem,a7]) rfl ⟨_,_,_,s,q,rfl, ?_,HD.out.sv, ?_,by omega, ?_⟩
   .simp only[be];exact((HD.out.os.set HD.out.k0 0 _).set (HD.out.k0.bF 0 _) 1 _).set ((HD.out.k0.bF 0 _).bF 1 _) 2 _
   .exact HD.out.rd.fc (kK _ _ _ _ _) λb G e=>by have:=HD.out.gw;omega
   .exact HD.out.ch.trans (kK _ _ _ _ _) λi hi e=>by omega
  .have t0:=dj (show 0<j by omega);clear k;have rd:=HD.out.rd;go_wp2;refine akv (N:=q+12) (s:=10) (ia:=9) (ic:=5) (bk:=wr.heap.size) (fx:=false) (ty:=27) (n:=3) (S:=λ_=>False) (pre:=[]) 12 q [1,4] [0,2,3,5,6,7,8,9,10,11] (by kernel_rfl) (by kernel_rfl) (by kernel_rfl) rd (am _) none (λb G=>by cases G) (λh=>by cases h) (λb G=>G.elim) (λb G=>by cases G) (.inl rfl) ?_;simp only[pick,List.map,ge,gn];repeat(go_big_quiet_step (fail))
   refine gt ?_;apply Exists.intro;apply amE (λv=>v=.agg #[.slice A s.pk.length a,.slice B s.sn.length b,.slice C s.lg.length c])
   .rfl
   .intro x _ Z f;replace f:=ab f;have ca:=aaS (x:=x) bl (by show o≠g;omega) (by show o≠_;omega) (λh=>h);have cb:=aaS (x:=x) ad (by show o≠g;omega) (by show o≠_;omega) (λh=>h);have cc:=aaS (x:=x) br (by show o≠g;omega) (by show o≠_;omega) (λh=>h);go_wp2;exact f.out _ rfl
   intro ux;simp only[Act.put,ef,ip,jt];apply atq (λv=>∃m:Int,v=.int .i64 m/\0<=m/\m<2)
   .rfl
   .intro x _ hN Z f;replace f:=ab f;go_wp2;refine(cV _ _ _ _ _ _ 2 x.rd (by omega)).mono ?_;rintro e wy ⟨m,rfl,⟨_,q1⟩,cd,bT⟩;obtain⟨q2,q3⟩:=q1 (by omega);go_wp2;exact f.out _ _ cd bT ⟨m,rfl,q2,q3⟩
   intro u2;apply amE (λv=>∃m:Int,v=.int .i64 m/\1<=m/\m<=2)
   .rfl
   .intro x z Z f;replace f:=ab f;obtain⟨m,rfl,q1,q2⟩:=z.1 (by kernel_rfl);go_wp2;exact f.out _ ⟨_,rfl,by omega,by omega⟩
   intro u3;apply atr (λv x=>abb v x)
   .rfl
   .rfl
   .exact λv x y h hl=>h.le hl
   .intro x z Z f;replace f:=ab f;obtain⟨m3,rfl,i1,i2⟩:=z.1 (by kernel_rfl);cases z.2.2.1 (by kernel_rfl);clear z;have bo:∀b,w.heap.size<=b->b<wr.heap.size->b<wr.heap.size/\¬(b=g\/x.box=some b\/x.done=true/\False):=λb h1 h2=>⟨h2,λe=>by
     rcases e with e|e|e
     .have:=HD.out.gw;omega
     .rcases x.bw b e with e|e<;>omega
     .exact e.2⟩
    have ox:=HD.out.os.fc x.ok bo;have tx:=HD.out.ot.fc x.ok λb G=>(bo b (HD.out.ot.at_ G).1 (HD.out.ot.at_ G).2).2;have zx:=x.ok.size;have wf:=HD.out.sv.wf;have tr:=(tx.deep (acf HD.out.ft) 0).sl (fb _);go_wp2;refine(aiZ 7 (by omega) s m3 (by unfold bZ;omega) t (acM HD.out.ft) (by have:=HD.out.ft.2.1;omega) wf.small wf.dW (by have:=wf.aul;omega) _ _ _ _ x.to _ _ 0 x.to.heap.size ox zx tr (am _)).mono ?_;rintro e wy ⟨v1,v2,v3,qq,r,rfl,oy,bL,b3⟩;go_wp2;exact f.out _ _ b3 (abb.new x b3 oy (λc3=>by
     rcases bL with⟨_,h1,rfl⟩|⟨h1,_⟩
     .exact HD.out.sv.save (by omega) HD.out.ft h1
     .rw[c3] at h1;cases h1) (by have:=HD.out.gw;omega) _)
   intro u5;simp only[Act.put,ef,ip,jt];apply agW (λv u=>v=u/\∃O P U q,ae1 u O P U q)
   .rfl
   .intro x z Z f;replace f:=ab f;obtain⟨⟨v1,v2,v3,qq,r,L,H,rfl,ho,_⟩,K⟩:=z.1 (by kernel_rfl);clear z;go_wp2;exact f.out _ _ K ⟨rfl,_,_,_,_,ae1.of ho⟩
   intro u6;simp only[Act.put,ef,ip,jt];apply agW (λv u=>∃O P U q,ae1 u O P U q/\v=.agg #[O,P,U])
   .rfl
   .intro x z Z f;replace f:=ab f;obtain⟨u,K,rfl,v1,v2,v3,qq,E⟩:=z.1 (by kernel_rfl);have e:=E.eq;subst e;clear z;go_wp2;exact f.out _ _ K ⟨_,_,_,_,E,rfl⟩
   intro u7;simp only[Act.put,ef,ip,jt];apply agW (λv u=>∃O P U q,ae1 u O P U q/\v=.bool q)
   .rfl
   .intro x z Z f;replace f:=ab f;obtain⟨u,K,rfl,v1,v2,v3,qq,E⟩:=z.2.1 (by kernel_rfl);have e:=E.eq;subst e;clear z;go_wp2;exact f.out _ _ K ⟨_,_,_,_,E,rfl⟩
   intro u8;simp only[Act.put,ef,ip,jt];apply aqc (cs:=#[.slice none 0 0,.slice none 0 0,.slice none 0 0])
   .rfl
   .rfl
   .decide
   .have:=HD.out.gw;omega
   .rfl
   .intro x Z f;replace f:=ab f;go_wp2;exact f.out
   intro u9;simp only[Act.put,ef,ip,jt];apply aqd (λx=>ahq x)
   .rfl
   .exact λj hj=>(by cases hj)
   .exact λx y h hl=>h.le hl
   .intro x z aI Z f;replace f:=ab f;obtain⟨b6,rfl,cn,a5⟩:=z.1 (by kernel_rfl);obtain⟨u,K,v1,v2,v3,qq,E,rfl⟩:=z.2.2.1 (by kernel_rfl);clear z;have e:=E.eq;subst e;obtain⟨A1,m1,c1,rfl⟩:=E.a;obtain⟨B1,k1,d1,rfl⟩:=E.b;obtain⟨C1,k2,d2,rfl⟩:=E.c;obtain⟨cz,cT,cs,c2,W⟩:=x.bx _ a5;obtain⟨ca,cb,cc,rfl⟩:=arH c2;have ad:=W.cell;have ct:=W.frozen;go_wp2;exact f.out _ a5 _ (kK _ _ _ _ _) _ rfl (((W.bF 0 _).bF 1 _).bF 2 _) ⟨rfl,_,_,_,_,_,a5,K,((W.bF 0 _).bF 1 _).bF 2 _⟩
   .rfl
   simp only[Act.put,ef,ip,jt];apply agW (λv u=>∃O P U q,ae1 u O P U q/\v=.bool q)
   .rfl
   .intro x z Z f;replace f:=ab f;obtain⟨u,K,v1,v2,v3,qq,E,rfl⟩:=z.2.2.1 (by kernel_rfl);clear z;go_wp2;exact f.out _ _ K ⟨_,_,_,_,E,rfl⟩
   intro cE;simp only[Act.put,ef,ip,jt];refine awT λx z=> ?_;simp only[dP] at z;obtain⟨⟨u,K,v1,v2,v3,qq,E,rfl⟩,⟨aI,gy,cA,cm,cW,cX,bw,ao,ky⟩,⟨cy,rfl,cr,aY⟩, -, -, -,⟨⟨x1,x2,x3,d0,r,L,H,rfl,oy,fy,hL,hH,M⟩,bi⟩, -⟩:=z;have e:=E.eq;subst e;rw[K] at ao bi;cases ao;cases bi;rw[bw] at aY;cases aY;obtain⟨⟨A1,a1,rfl⟩,⟨B1,b1,rfl⟩,C1,c1,rfl⟩:=oy.form;have a2:bq (λb=>b=g) wr x.to:=x.ok.mono λb G e=>by
    rcases e with e|e|⟨_,e⟩
    .exact e
    .rcases x.bw b e with e|e<;>omega
    .exact e.elim
   have Q:=HD.out.fc a2 x.rd;have c6:x.q<=q+12:=x.lim;have zx:=a2.size;simp only[List.drop];clear K E aI bw fy HD rd bl ad br a2;revert zx;revert hH;revert oy;revert ky;revert c6;revert Q;generalize x.to=w4;generalize x.q=q4;clear x;intro Q cq ky oy hH zx;have HD:=ab Q;have cO:=Q.ks.lt;replace M:=ab M;clear Q;cases qq
   case' false=>
    clear ky oy M;go_wp2;revert HD;generalize w4=w5;intro HD
   case' true=>
    have bU:=ky.cell;have c4:=HD.out.ks.cell;have bR:=HD.out.ks.frozen;have a8:=((HD.out.ks.bF 0 (.slice A1 r.pk.length a1)).bF 1 (.slice B1 r.sn.length b1)).bF 2 (.slice C1 r.lg.length c1);simp only[ef,ip,jt] at a8;have R:=kK w4 o (.slice A1 r.pk.length a1) (.slice B1 r.sn.length b1) (.slice C1 r.lg.length c1);have aT:eM (((w4.setCell ⟨o,0,none⟩ (.slice A1 r.pk.length a1)).setCell ⟨o,1,none⟩ (.slice B1 r.sn.length b1)).setCell ⟨o,2,none⟩ (.slice C1 r.lg.length c1)) L H r (.slice A1 r.pk.length a1) (.slice B1 r.sn.length b1) (.slice C1 r.lg.length c1):=((oy.set HD.out.ks 0 _).set (HD.out.ks.bF 0 _) 1 _).set ((HD.out.ks.bF 0 _).bF 1 _) 2 _
    have X:ahr w (((w4.setCell ⟨o,0,none⟩ (.slice A1 r.pk.length a1)).setCell ⟨o,1,none⟩ (.slice B1 r.sn.length b1)).setCell ⟨o,2,none⟩ (.slice C1 r.lg.length c1)) Y hi g l q4 o (.slice A1 r.pk.length a1) (.slice B1 r.sn.length b1) (.slice C1 r.lg.length c1) (.slice T t.length d) r t:=
     ⟨aP HD.out.k0 R (by omega),a8,by simp only[be];exact eM.wide aT (by omega) hH,M.out rfl,HD.out.ot.fc R λb G e=>by
       have:=aK.deep HD.out.ot (acf HD.out.ft) 0;obtain⟨ds,k⟩:=this.blk G;have e':b=o:=e;subst e';exact absurd (cD HD.out.ks k) (by decide),HD.out.ft,HD.out.rd.fc R λb G e=>by omega,HD.out.ch.trans R λi hi e=>by have e':i=o:=e;omega,c0,bG⟩
    replace X:=ab X;clear a8 R aT oy HD M;go_wp2;have HD:=X;clear X;revert HD;generalize ((w4.setCell ⟨o,0,none⟩ (.slice A1 r.pk.length a1)).setCell ⟨o,1,none⟩ (.slice B1 r.sn.length b1)).setCell ⟨o,2,none⟩ (.slice C1 r.lg.length c1)=w5;intro HD;clear bU c4 bR ky
   all_goals
    refine(lX l g q4 Y hi w5 HD.out.rd (by omega)).mono ?_;rintro e w6 ⟨sp,q6,rfl,cS,aZ,d3,ba⟩;have a4:=ab (HD.out.fc ba aZ);clear aZ ba HD;go_wp2;refine(adh l g q6 Y hi w6 a4.out.rd (by omega)).mono ?_;rintro e w7 ⟨tx,q7,rfl,ck,al,cL,aG⟩;have F:=ab (a4.out.fc aG al);clear al aG a4;have r7:=((F.out.ot.deep (acf F.out.ft) 0).sl (fb _));replace r7:=ab r7;go_wp2;refine(ada t sp tx (by unfold maxLen;omega) (by unfold maxLen;omega) _ w7 0 w7.heap.size r7.out (am _) (by have:=F.out.ft.2.1;omega)).mono ?_;rintro e w8 ⟨v8,zs,put,rfl,o8,bb,b8⟩;have z7:=F.out.ch.size;have a3:=ab (F.out.fc (bq.aN (S:=λb=>b=g) b8) (F.out.rd.fc (bq.aN (S:=λ_=>False) b8) λ_ _ h=>h));have a6:=ab (And.intro (o8.base z7) bb);obtain⟨A8,c8,rfl⟩:=o8.form;clear F r7 o8 bb b8;cases put
    case' false=>
     clear a6;have a0:=a3
    case' true=>have a0:=ab (a3.out.tree a6.out.1 a6.out.2)
    all_goals
     clear a3;go_wp2;refine(cV _ _ _ _ _ _ 3 (a0).out.rd (by omega)).mono ?_;rintro e c5 ⟨aa,rfl,⟨_,bO⟩,b2,bt⟩;have V:=ab ((a0).out.fc bt b2);clear bO b2 bt a0;by_cases m0:aa=0
     .have t5:(aa ==0)=true:=nF.2 m0;clear m0;go_wp2;refine(lX l g _ Y hi c5 V.out.rd (by omega)).mono ?_;rintro e bh ⟨c7,ce,rfl,ci,ay,co,aX⟩;have D:=ab (V.out.fc aX ay);clear ay aX V;have b0:=ab ((D.out.ot.deep (acf D.out.ft) 0).sl (fb _));go_wp2;refine(aiP _ c7 _ bh 0 bh.heap.size b0.out (am _) (by have:=D.out.ft.2.1;omega)).mono ?_;rintro e cY ⟨cG,ys,rfl,a9,an,af⟩;have cg:=D.out.ch.size;have bS:=ab ((D.out.fc (bq.aN (S:=λb=>b=g) af) (D.out.rd.fc (bq.aN (S:=λ_=>False) af) λ_ _ h=>h)).tree (a9.base cg) (D.out.ft.sub an));obtain⟨cN,cw,rfl⟩:=a9.form;clear D b0 a9 an af;go_wp2;go_roundw
      case rel=>exact⟨j-1,ce,_,_,_,_,_,by omega,by go_num,bS.out,by omega⟩
      simp[intOf];omega
     .have t5:(aa ==0)=false:=de.2 m0;clear m0;go_wp2;go_roundw
      case rel=>exact⟨j-1,_,_,_,_,_,_,by omega,by go_num,V.out,by omega⟩
      simp[intOf];omega
end
end Go.Proofs.YtbeafkpaghapeaaGreatDoor