/- A part. -/
import Derived.Test.YtgjaikdifcbnkaaGreatDoorG5
import Derived.WalkSpells
import Derived.Laws.CopyRow
set_option maxRecDepth 100000
set_option maxHeartbeats 8000000
set_option linter.all false
open Go Go.RowKit Go.Proofs.Tryz Go.Proofs.YtgjaikdifcbnkaaGreatDoor
variable {s:dJ} {Z U R B N b c fg g hi hi' i j k n:Nat} {key:Int} {Y β:Type} {X W V v:Value} {w':World} {e:TypeId} {t:List Nd} {xs:List Hd} {p:ByteArray} {S cs:List Value} {A:Option Addr} {T:List TypeId} {o:List ByteArray} {x:Y} {E:fW Y}
namespace Go.Proofs.YtgjaikdifcbnkaaGreatDoor
def rH:=@Go.Lib.run_eql_slice_nil
def vh:=@List.filter_append
def we:=@List.getElem?_toArray
def wj:=@Classical.choose_spec
section
variable {β:Bool}
open Go.RowKit
def anp(p:List Nd->Prop)(w:World)(e:Ending)(w':World):Prop:=∃v a,e=.returned v/\aL mP 79 w' w.heap.size v a/\p a/\Below w.heap.size w w'
def ajp(xs:List Nd)(s:ByteArray)(v:Value)(w:World)(E hi:Nat)(h:eL w E hi xs [v])(B:hi<=w.heap.size)(O:xs.length<=1000) :
  Calls (ai β) 37 #[v,.string s] w (anp (λys=>ys.Sublist xs) w):=by
 obtain⟨A,c,rfl⟩:=h.form;go_enter zQ,ntmps37;go_wp2;have l:=av w (.cells #[] 79);have j:aL mP 79 (w.alloc (.cells #[] 79)) w.heap.size (.slice (some ⟨w.heap.size,0,none⟩) 0 0) []:=(eE.new w 79 (am _)).own 2;generalize w.alloc (.cells #[] 79)=w0 at *;go_loopw [5,6] (λy p wr=>∃(k:Nat) (ys:List Nd),k<=xs.length/\p=.int .i64 k/\aL mP 79 wr w.heap.size y ys/\ys.Sublist (xs.take k)/\Below w.heap.size w wr) (λ_ p _=>xs.length-(intOf p).toNat)
 case atStart=>exact⟨0,[],ff _,rfl,j,List.Sublist.refl _,l⟩
 case round=>
  obtain⟨k,ys,J,rfl,e,f,d⟩:=hrel;obtain⟨D,u,rfl⟩:=e.form;have r:ys.length<=k:=by have:=f.length_le;rw[fa] at this;omega
  by_cases g:k<xs.length
  .obtain⟨x,n⟩:=aq g;obtain⟨H,t,rfl,_,C,I,Q,N⟩:=jV (eL.ar.below h d B) n;have a:(ys++[x]).Sublist (xs.take (k+1)):=by rw[li n];exact f.append (List.Sublist.refl _)
   have b:ys.Sublist (xs.take (k+1)):=by rw[li n];exact f.trans (List.sublist_append_left _ _)
   replace a:=ab a;replace b:=ab b;cases K:(x.p.toList ==s.toList)
   .go_wp2_with(at_builtin;refine cH (F:=mP) (v:=.slice D ys.length u) rfl (.tmp 21) (.tmp 26) 38 rfl nZ x rfl e rfl rfl (by omega) d.size ?_;intro P L m o q;obtain⟨G,M,rfl⟩:=m.form;simp only[aE,gc,mp,me] at m);go_roundw
    case rel=>
     exact⟨k+1,ys++[x],by omega,by go_num,by simpa using m,a.out,d.trans (o.below d.size λi hi z=>by have:=(e.at_ z).1;omega)⟩
    case measure=>simp[intOf];omega
   .go_wp2;go_roundw
    case rel=>exact⟨k+1,ys,by omega,by go_num,e,b.out,d⟩
    simp[intOf];omega
  .obtain rfl:k=xs.length:=by omega
   go_wp2;go_ret;exact⟨_,ys,rfl,e,by rwa [ip] at f,d⟩
def alD(xs:List Nd)(f:Nd)(hf:mP.good f)(v:Value)(w:World)(lo hi:Nat)(h:eL w lo hi xs [v])(V:hi<=w.heap.size)(hl:xs.length<=1000) :
  Calls (ai β) 69 #[v,.agg #[.string f.p,.string f.b]] w (anp (λa=>(∀y∈a,y∈xs\/y=f)/\a.length<=xs.length+1) w):=by
 obtain⟨A,c,rfl⟩:=h.form;go_enter zA,ntmps69;go_wp2;generalize hG:(w.alloc (.cells #[.string f.p,.string f.b] 79)).alloc (.cells #[] 79)=w0 at *;obtain⟨aH,iz,k0,cQ,dW,k1,cJ,dz⟩:=oP hG;clear hG;have L:aL mP 79 w0 (w.heap.size+1) (.slice (some ⟨w.heap.size+1,0,none⟩) 0 0) []:=eE.own ⟨_,rfl,am _,k1⟩ 2;clear k1 cJ dz cQ dW;go_loopw [5,6,7] (λoo dd ii wr=>∃(k:Nat) (d:Bool) (a:List Nd),k<=xs.length/\ii=.int .i64 k/\dd=.bool d/\aL mP 79 wr (w.heap.size+1) oo a/\(∀y∈a,y∈xs\/y=f)/\a.length<=k+(if d then 1 else 0)/\Below (w.heap.size+1) w0 wr) (λ_ _ ii _=>xs.length-(intOf ii).toNat)
 case atStart=>exact⟨0,false,[],ff _,rfl,rfl,L,λy b=>(by cases b),am _,du _ _⟩
 case round=>
  clear L;obtain⟨k,d,a,hk,rfl,rfl,q,b,g,l⟩:=hrel;obtain⟨T,Q,rfl⟩:=q.form;have S:aX wr w.heap.size 79 #[.string f.p,.string f.b]:=(l.block _ (by omega)).trans k0;have j:wr.cell? ⟨w.heap.size,0,none⟩=some (.string f.p):=S.cell 0;have I:wr.cell? ⟨w.heap.size,1,none⟩=some (.string f.b):=S.cell 1;have B:Below w.heap.size w wr:=aH.trans (l.mono (by omega));have E:=ab b;clear b;by_cases a1:k<xs.length
  .obtain⟨x,G⟩:=aq a1;obtain⟨b1,al,rfl,_,ao,hg,K,c1⟩:=jV (eL.ar.below h B V) G;have HX:=ab (de G);replace G:=ab G;clear K c1;cases d
   case' true=>
    go_wp2;have J:=ae j;refine aN (by kernel_rfl) (by kernel_rfl) ?_;repeat(go_big_quiet_step (fail))
    refine io ?_;intro O m;have e:=bC m;clear m J;have u:=l.trans (e.mono (by have:=l.size;omega));have X:=q.below e;clear q j I l B S;go_wp2;have p:=E;have o:=g;clear E g;generalize T=W at *;generalize Q=P at *;generalize a=ys2 at *
   case' false=>
    cases a5:Op.bytesLess x.p.toList f.p.toList
    case' false=>
     obtain⟨b2,iT,t,_,_,_,K,_⟩:=jV (eL.ar.below h B V) G.out;simp only[mt,qC,qx] at t;obtain⟨rfl,rfl⟩:=t;go_wp2;have J:=ae K;have R:=ae j;refine aN (by kernel_rfl) (by kernel_rfl) ?_;repeat(go_big_quiet_step (fail))
     refine io ?_;intro O m;have e:=bC m;clear m J R;have s:=l.trans (e.mono (by have:=l.size;omega));have D:=q.below e;have a4:=aT e j;have a6:=aT e I;have ad:a.length<=k:=by simpa using g
     clear q K j I a5;go_wp2_with(at_builtin;refine cH (F:=mP) (v:=.slice T a.length Q) rfl (.tmp 27) (.tmp 29) 38 rfl nZ f rfl D rfl rfl (by omega) (by have:=s.size;omega) ?_;intro va U C H a3;obtain⟨W,P,rfl⟩:=C.form;simp only[aE,gc,mp,me] at C);have X:aL mP 79 U (w.heap.size+1) (.slice W (a++[f]).length P) (a++[f]):=by simpa using C
     have u:Below (w.heap.size+1) w0 U:=s.trans (H.below (by have:=s.size;omega) λi hi N=>by have:=(D.at_ N).1;omega);have p:Hid (∀y∈a++[f],y∈xs\/y=f):=ab λy b=>by
      rcases oR.1 b with b|b
      .exact E.out y b
      .exact .inr (pi.1 b)
     have o:(a++[f]).length<=k+(if true then 1 else 0):=by simp;omega
     have z:(a++[f]).length=a.length+1:=by simp
     rw[<-z];clear z C D s l B S g a4 a6;clear E;generalize a++[f]=ys2 at *
    case' true=>
     obtain⟨b2,iT,t,_,_,_,K,_⟩:=jV (eL.ar.below h B V) G.out;simp only[mt,qC,qx] at t;obtain⟨rfl,rfl⟩:=t;go_wp2;have J:=ae K;have R:=ae j;refine aN (by kernel_rfl) (by kernel_rfl) ?_;repeat(go_big_quiet_step (fail))
     refine io ?_;intro O m;have e:=bC m;have u:=l.trans (e.mono (by have:=l.size;omega));have X:=q.below e;go_wp2;have p:=E;have o:=g;generalize T=W at *;generalize Q=P at *;generalize a=ys2 at *
   all_goals
    rename World=>wz
    have a0:aX wz w.heap.size 79 #[.string f.p,.string f.b]:=((u).block _ (by omega)).trans k0;have M:(wz).cell? ⟨w.heap.size,0,none⟩=some (.string f.p):=a0.cell 0;have a2:Below w.heap.size w wz:=aH.trans ((u).mono (by omega));obtain⟨b3,aa,t,_,_,_,Z,d1⟩:=jV (eL.ar.below h a2 V) G.out;simp only[mt,qC,qx] at t;obtain⟨rfl,rfl⟩:=t;cases a8:(x.p.toList ==f.p.toList)
    .have J:=ae Z;have R:=ae M;refine aN (by kernel_rfl) (by kernel_rfl) ?_;repeat(go_big_quiet_step (fail))
     refine io ?_;intro O m;have e:=bC m;have n:=(u).trans (e.mono (by have:=(u).size;omega));have r:=(X).below e;have a7:=aT e Z;have af:=aT e d1;have a9:(ys2).length<=k+1:=ap o (by simp);have HL:=ab o;go_wp2_with(at_builtin;refine cH (F:=mP) (v:=.slice W (ys2).length P) rfl (.tmp 39) (.tmp 44) 38 rfl nZ x rfl r rfl rfl (by omega) (by have:=n.size;omega) ?_;intro vb wb ob Y an;obtain⟨Ab,cb,rfl⟩:=ob.form);go_roundw
     case rel=>
      refine⟨k+1,_,ys2++[x],by omega,by go_num,rfl,by simpa using ob,λy b=> ?_,by have:=HL.out;rw[aE];simp at this ⊢;omega,n.trans (Y.below (by have:=n.size;omega) λi hi N=>by have:=(r.at_ N).1;omega)⟩;rcases oR.1 b with b|b
      .exact(p).out y b
      .rw[pi.1 b];exact .inl HX.out
     case measure=>simp[intOf];omega
    .have J:=ae Z;have R:=ae M;refine aN (by kernel_rfl) (by kernel_rfl) ?_;repeat(go_big_quiet_step (fail))
     refine io ?_;intro O m;have e:=bC m;have n:=(u).trans (e.mono (by have:=(u).size;omega));have r:=(X).below e;have HL:=ab o;go_wp2;go_roundw
     case rel=>exact⟨k+1,_,ys2,by omega,by go_num,rfl,r,(p).out,by have:=HL.out;simp at this ⊢;omega,n⟩
     simp[intOf];omega
  .obtain rfl:k=xs.length:=by omega
   cases d
   .go_wp2_with(at_builtin;refine cH (F:=mP) (v:=.slice T a.length Q) rfl (.tmp 48) (.tmp 50) 38 rfl nZ f rfl q rfl rfl (by simp at g;omega) (by have:=l.size;omega) ?_;intro va U C H a3;obtain⟨Aa,ca,rfl⟩:=C.form;simp only[aE,gc,mp,me] at C);go_ret;refine⟨_,a++[f],rfl,(by simpa using C:aL mP 79 U (w.heap.size+1) (.slice Aa (a.length+1) ca) (a++[f])).base (by omega),⟨λy b=> ?_,by simp at g ⊢;omega⟩,B.trans (H.below B.size λi hi N=>by have:=(q.at_ N).1;omega)⟩;rcases oR.1 b with b|b
    .exact E.out y b
    .exact .inr (pi.1 b)
   .go_wp2;go_ret;exact⟨_,a,rfl,q.base (by omega),⟨E.out,by simpa using g⟩,B⟩
def arK(w:World)(e:Ending)(w':World):Prop:=∃v a q,e=.returned (.tuple #[v,.bool q])/\aL mP 79 w' w.heap.size v a/\lK a/\Below w.heap.size w w'
def aan(h:lK t):∀y∈t,mP.good y:=λy b=>by
 have c:=lD (h.1 y b).1;have a:=(h.1 y b).2;unfold dR at a;rw[ge] at a;have d:=ta a.1;exact⟨by unfold maxLen;omega,by unfold maxLen;omega⟩
def adn(xs:List Nd)(p b:ByteArray)(s:p.size<=maxLen)(m:b.size<=maxLen)(v:Value)(w:World)(E hi:Nat)(h:eL w E hi xs [v])(j:hi<=w.heap.size)(O:xs.length<=1000) :
  Calls (ai β) 34 #[v,.string p,.string b] w (arK w):=by
 obtain⟨A,c,rfl⟩:=h.form;go_enter zT,ntmps34;go_wp2;refine(abh xs _ w E hi h j).mono ?_;rintro e f ⟨⟨rfl,g⟩|rfl,a⟩
 .replace g:=ab g;go_wp2;refine(jA p s f).mono ?_;rintro e l ⟨rfl,rfl⟩;cases S:jq p
  .go_wp2;exact nf (v:=.tuple #[.slice (some ⟨(f).heap.size,0,none⟩) 0 0,.bool false]) (by simp[results,results34,go_sem]) rfl ⟨_,[],false,rfl,(eE.new f 79 (a).size).own 2,.nil,(a).alloc (a).size _⟩
  .go_wp2;refine(lF b m f).mono ?_;rintro e l ⟨rfl,rfl⟩;cases J:dR b
   .go_wp2;exact nf (v:=.tuple #[.slice (some ⟨(f).heap.size,0,none⟩) 0 0,.bool false]) (by simp[results,results34,go_sem]) rfl ⟨_,[],false,rfl,(eE.new f 79 (a).size).own 2,.nil,(a).alloc (a).size _⟩
   .go_wp2;refine(alD xs ⟨p,b⟩ ⟨s,m⟩ _ f E hi (eL.ar.below h a j) (ap j a.size) O).mono ?_;rintro e l ⟨W,k,rfl,o,⟨x,K⟩,B⟩;obtain⟨R,M,rfl⟩:=o.form;have q:∀y∈k,mP.good y:=λy P=>by
     rcases x y P with L|rfl
     .exact aan g.out y L
     .exact⟨s,m⟩
    have V:=B.size;have Q:=(o.deep q f.heap.size).sl (am _);go_wp2;refine(abh k _ l f.heap.size l.heap.size Q (am _)).mono ?_;rintro e G ⟨⟨rfl,z⟩|rfl,n⟩
    .have r:=ab z;have d:=ag (ag a B) n;have N:=(o.below n).base a.size;go_wp2;exact nf (v:=.tuple #[.slice R k.length M,.bool true]) (by simp[results,results34,go_sem]) rfl ⟨_,k,true,rfl,N,r.out,d⟩
    .have d:=ag (ag a B) n;have t:=lG (F:=mP) (eL.ar.below h d j).1 (ap j d.size);have u:=ab t;have i:=av G (.cells #[] 79);have D:=ab (eE.new G 79 (am _));go_wp2_with(at_builtin;refine np (F:=mP) (xs:=xs) i rfl (.tmp 31) (.tmp 32) 38 rfl nZ (am _) rfl rfl D.out u.out (by omega) ?_;intro U T C H;obtain⟨A',I,rfl⟩:=H.form);exact nf (v:=.tuple #[.slice A' xs.length I,.bool false]) (by simp[results,results34,go_sem]) rfl ⟨_,xs,false,rfl,H.base d.size,g.out,ag d (ag i C)⟩
 .go_wp2;exact nf (v:=.tuple #[.slice (some ⟨(f).heap.size,0,none⟩) 0 0,.bool false]) (by simp[results,results34,go_sem]) rfl ⟨_,[],false,rfl,(eE.new f 79 (a).size).own 2,.nil,(a).alloc (a).size _⟩
end
section
variable {β:Bool}
open Go.RowKit
def au0(p:Prop):∃q:Bool,q=true↔p:=by
 by_cases h:p
 .exact⟨true,by simp[h]⟩
 .exact⟨false,by simp[h]⟩
def au1{l:List Sp}(h:ixP l):∀x∈l,FSp.good x:=λx a=>by
 have:=h.1 x a;unfold spP at this;refine⟨?_, ?_⟩<;>unfold cE<;>omega
end
section
variable {β:Bool}
open Go.RowKit
def agq:∀{a l:List Sp} {x:Sp},x∈fG a l->x∈a\/x∈l
 |[],_,_,h=>.inr h
 |s::a,l,x,h=>by
  have b:x∈fG a (gY s l):=h;rcases agq b with h|h
  .exact .inl (by simp[h])
  .rcases ab1 h with rfl|h
   .exact .inl (by simp)
   .exact .inr h
instance aEf:Inhabited Tr:=⟨.nil⟩
end
section
variable {β:Bool}
open Go.RowKit
def adM(l:List Pk)(v:Value)(w:World)(lo hi:Nat)(aR:hi<=w.heap.size)(h:aoD w lo hi l [v])(hn:(ep l).length<=4000000)(r:List Sp)(hr:IOf l r) :
  Calls (ai β) 64 #[v] w (aws w r):=by
 obtain⟨A,c,rfl⟩:=h.form;obtain⟨_,hc,hx⟩:=h.len_;unfold maxLen at hx;have HR:=ab hr;clear hr;go_enter zD,ntmps64;go_wp2;have ba:=av w (.cells #[] 152);have l0:aL FSp 152 (w.alloc (.cells #[] 152)) w.heap.size (.slice (some ⟨w.heap.size,0,none⟩) 0 0) []:=aL.aiS (eE.new _ _ (am _));generalize w.alloc (.cells #[] 152)=w0 at *;go_loopw [3,4] (λoo ii wr=>∃k:Nat,k<=l.length/\ii=.int .i64 k/\aL FSp 152 wr w.heap.size oo (fG (ep (l.take k)) [])/\(∀s∈ep (l.take k),spP s)/\Below w.heap.size w wr) (λoo ii _=>l.length-(intOf ii).toNat)
 case atStart=>exact⟨0,ff _,rfl,l0,λs o=>(by cases o),ba⟩
 case round=>
  clear l0 ba;obtain⟨k,hk,rfl,i,o,u⟩:=hrel;have HS:=ab o;clear o;have g2:=aoD.ar.below h u aR;by_cases a3:k<l.length
  .obtain⟨p,J⟩:=aq a3;replace J:=ab J;have R:Hid (∀s∈cR l k 0,spP s):=ab (by rw[ab4];exact HS.out);rw[<-ab4] at i;obtain⟨Ao,co,rfl⟩:=i.form;have K:=i;clear i HS;go_wp2;go_loopw [3,5] (λoo jj wy=>∃j:Nat,j<=p.its.length/\jj=.int .i64 j/\aL FSp 152 wy w.heap.size oo (fG (cR l k j) [])/\(∀s∈cR l k j,spP s)/\Below w.heap.size w wy) (λoo jj _=>p.its.length-(intOf jj).toNat)
   case atStart=>exact⟨0,ff _,rfl,K,R.out,u⟩
   case round=>
    clear K R g2 u;obtain⟨j,hj,rfl,i,o,f⟩:=hrel;have HS:=ab o;clear o;obtain⟨b1,aa,A1,c1,rfl,ad,I,a9,Q,S,U⟩:=azV h J.out;have a1:=aT f Q;have a4:=aT f S;have T:=acM.ar.below U f aR;obtain⟨_,al,a8⟩:=T.len_;unfold maxLen at a8;clear Q S U;have O:=aiZ (j:=j) J.out;have M:=age (a:=cR l k j) (l:=[]);have a5:(fG (cR l k j) []).length<=4000000:=by simp only[mp,tv] at M;omega
    clear M O;by_cases a0:j<p.its.length
    .obtain⟨y,t⟩:=aq a0;obtain⟨b2,iT,rfl,_,_,af,cn,cb⟩:=awu T t;have d:=ahj J.out t;replace t:=ab t;replace d:=ab d;obtain⟨Ao,co,rfl⟩:=i.form;have V:=ab (λb N=>(i.at_ (g:=b) N).2);go_wp2;have aF:=ae a1;have aJ:=ae a4;have bg:=ae cn;refine aC 16 [0,1,2,3,4,5,6,7,8,9,10,11,12,13,14] [15] (h:= ?_);simp only[pick,List.map,gt,gE];repeat(go_big_quiet_step (fail))
     refine io ?_;clear aF aJ bg;apply Exists.intro;apply bc (λv w'=>∃g,v=.pointer (some ⟨g,0,none⟩)/\wr.heap.size<=g/\aX w' g 152 #[.int .i64 0,.int .i64 0])
     .rfl
     .exact λv x y ⟨g,e,hg,hk⟩ hle=>⟨g,e,hg,ah hk hle⟩
     .intro x X Qx D;replace D:=ab D;clear X;go_wp2;exact D.out _ _ (av _ _) ⟨_,rfl,x.ok.size,aX.new _ _ _⟩
     intro u6;refine aS ?_;intro w2 I xx df X;dsimp only[dP] at X;try rw[df] at X
     clear df xx;obtain⟨⟨g,rfl,hg,kb⟩, -⟩:=X;simp only[List.drop];have gw:=f.size;replace i:=i.below I;replace f:=ag f I;have H:=kb.cell;have a6:=kb.frozen;go_wp2;have n:=(kb.bj 0 (.int .i64 y.n)).bj 1 (.int .i64 p.no);simp only[bv,ef,fd] at n;have m:Below w.heap.size w ((w2.setCell ⟨g,0,none⟩ (.int .i64 y.n)).setCell ⟨g,1,none⟩ (.int .i64 p.no)):=(f.setCell (by dsimp only;omega) _).setCell (by dsimp only;omega) _;have oF:aL FSp 152 ((w2.setCell ⟨g,0,none⟩ (.int .i64 y.n)).setCell ⟨g,1,none⟩ (.int .i64 p.no)) w.heap.size (.slice Ao (fG (cR l k j) []).length co) (fG (cR l k j) []):=
      (i.aqM _ (λb N=>by have:=V.out b N;dsimp only;omega)).aqM _ (λb N=>by have:=V.out b N;dsimp only;omega)
     clear H a6;generalize (w2.setCell ⟨g,0,none⟩ (.int .i64 y.n)).setCell ⟨g,1,none⟩ (.int .i64 p.no)=w3 at *;have H:=n.cell;obtain⟨q,W⟩:=au0 (spP ⟨y.n,p.no⟩);refine(akV ⟨y.n,p.no⟩ w3 q W).mono ?_;rintro e w4 ⟨rfl,b4⟩;replace n:=ah n b4;have H:=n.cell;replace oF:=oF.below b4;replace m:=ag m b4;cases q with
     |false=>
      have P:¬spP ⟨y.n,p.no⟩:=λh=>by have:=W.2 h;cases this
      have a2:r=[]:=by
       rcases HR.out with⟨h,_⟩|⟨_,h⟩
       .exact absurd (h _ (aiY (k:=k) (j:=j+1) _ (by rw[d.out];simp))) P
       .exact h
      subst a2;clear W P;have ba:=av w4 (.cells #[] 152);go_wp2;go_ret;exact⟨_,rfl,aL.aiS (eE.new _ _ (m.size)),ag m ba⟩
     |true=>
      have jd:=W.1 rfl;replace jd:=ab jd;clear W;have B:=ab a5;have Y:=agd (a:=cR l k j) (l:=[]) List.Pairwise.nil;have C:=ab Y;clear Y;have Z:∀z∈fG (cR l k j) [],FSp.good z:=λz hz=>by
       rcases agq hz with h|h
       .have:=HS.out z h;unfold spP at this;show cE z.n/\cE z.p;unfold cE;omega
       .cases h
      have E:=ab Z;clear Z;have fj:fG (cR l k (j+1)) []=gY ⟨y.n,p.no⟩ (fG (cR l k j) []):=by
       rw[d.out,ab3];rfl
      have lA:=ab fj;clear fj;have F:∀s∈cR l k (j+1),spP s:=λs o=>by
       rw[d.out] at o;rcases oR.1 o with h|h
       .exact HS.out s h
       .rw[pi.1 h];exact jd.out
      replace F:=ab F;revert oF B C E lA;generalize fG (cR l k j) []=L;intro oF B C E lA;go_wp2;refine(aoC ⟨y.n,p.no⟩ (by have:=jd.out;unfold spP at this;unfold cE;omega) L _ w4 _ _ (am _) (oF.sl E.out (am _)) C.out (by have:=B.out;omega)).mono ?_;rintro e w5 ⟨v5,rfl,o5,b5⟩;obtain⟨A5,c5,rfl⟩:=o5.form;go_wp2;go_roundw
      case rel=>exact⟨j+1,by omega,by go_num,by rw[lA.out];exact o5.base m.size,F.out,ag m b5⟩
      simp[intOf];omega
    .obtain rfl:j=p.its.length:=by omega
     have he:=aiX J.out;replace he:=ab he;have a7:Hid (∀s∈ep (l.take (k+1)),spP s):=ab (by rw[<-he.out];exact HS.out);obtain⟨Ao,co,rfl⟩:=i.form;go_wp2;go_roundw
     case rel=>exact⟨k+1,by omega,by go_num,by rw[<-he.out];exact i,a7.out,f⟩
     simp[intOf];omega
  .obtain rfl:k=l.length:=by omega
   have G:r=fG (ep l) []:=by
    have h1:=HS.out;rw[ip] at h1;rcases HR.out with⟨_,h⟩|⟨h,_⟩
    .exact h
    .exact absurd h1 h
   replace G:=ab G;clear HS;rw[ip,<-G.out] at i;obtain⟨Ao,co,rfl⟩:=i.form;go_wp2;go_ret;exact⟨_,rfl,i,u⟩
end
section
variable {β:Bool}
open Go.RowKit
def xl{l:List Y}(h:l[k]?=some x):l.drop k=x::l.drop (k+1):=by
 have a:=aD h;rw[sb a]
 congr 1
 rw[jp a] at h;exact dq h
def alE(xs:List Sp)(n:Int)(v:Value)(w:World)(t hi:Nat)(h:bB RSp 2 w t hi xs [v]) :
  Calls (ai β) 91 #[v,.int .i64 n] w λe p=>e=.returned (.int .i64 (pI n xs))/\w=p:=by
 obtain⟨A,c,rfl⟩:=h.form;obtain⟨_,z,q⟩:=h.len_;unfold maxLen at q;go_enter zh,ntmps91;go_wp2
 go_loop [5] (λi=>∃k:Nat,k<=xs.length/\i=.int .i64 k/\pI n xs=pI n (xs.drop k)) (λi=>xs.length-(intOf i).toNat)
 case atStart=>exact⟨0,ff _,rfl,by rw[rO]⟩
 case round=>
  obtain⟨k,y,rfl,a⟩:=hrel;replace a:=ab a;by_cases d:k<xs.length
  .obtain⟨x,l⟩:=aq d;obtain⟨u,o,rfl,_,_,s,f,r⟩:=awr h l;have hd:pI n (xs.drop k)=if x.n=n then x.p else pI n (xs.drop (k+1)):=by rw[xl l];rfl
   replace hd:=ab hd;by_cases b:x.n=n
   .have m:(x.n ==n)=true:=oE.2 b;have g:=ab (a.out.trans (hd.out.trans (eg b)));go_wp2;go_ret;exact⟨by rw[g.out];rfl,rfl⟩
   .have m:(x.n ==n)=false:=dk.2 b;have g:=ab (a.out.trans (hd.out.trans (da b)));go_wp2
    go_round
    case rel=>exact⟨k+1,by omega,by go_num,g.out⟩
    simp[intOf];omega
  .obtain rfl:k=xs.length:=by omega
   have j:pI n xs=0:=by rw[a.out,uH];rfl
   replace j:=ab j;go_wp2;go_ret;exact⟨by rw[j.out];rfl,rfl⟩
open Classical in
noncomputable def gJ(key:Int)(ix:List Sp)(o:List ByteArray)(p:ByteArray):List ByteArray:=if pI (dc key (bs p)) ix=0/\p∉o then o++[p] else o
noncomputable def acg(key:Int)(ix:List Sp)(o l:List ByteArray):List ByteArray:=l.foldl (gJ key ix) o
def ach(t:List Nd):List ByteArray:=t.flatMap λf=>ku f.b
noncomputable def abj(key:Int)(ix:List Sp)(t:List Nd):List ByteArray:=acg key ix [] (ach t)
def ajr{ix:List Sp}(h:pI (dc key (bs p)) ix=0)(a:p∉o):gJ key ix o p=o++[p]:=eg ⟨h,a⟩
def ae7{ix:List Sp}(h:¬(pI (dc key (bs p)) ix=0/\p∉o)):gJ key ix o p=o:=da h
def ao0{ix:List Sp}{l : List ByteArray}(h:l[k]?=some p):acg key ix o (l.take (k+1))=gJ key ix (acg key ix o (l.take k)) p:=by
 unfold acg;rw[li h,tf];rfl
def ao1{ix:List Sp}{f:Nd}(h:t[k]?=some f):abj key ix (t.take (k+1))=acg key ix (abj key ix (t.take k)) (ku f.b):=by
 unfold abj acg ach;rw[li h,tz,tf];simp
def aci{key:Int}{ix:List Sp}:∀(l o:List ByteArray),(acg key ix o l).length<=o.length+l.length
 |[],o=>am _
 |p::l,o=>by
  have a:=aci (key:=key) (ix:=ix) l (gJ key ix o p);have b:(gJ key ix o p).length<=o.length+1:=by
   unfold gJ;split
   .rw[aE];exact am _
   .exact Nat.le_succ _
  show(acg key ix (gJ key ix o p) l).length<=_;rw[gc];omega
def ae8{key:Int}{ix:List Sp}{x:ByteArray}:∀{l o:List ByteArray},x∈acg key ix o l->x∈o\/x∈l
 |[],o,h=>.inl h
 |p::l,o,h=>by
  rcases ae8 (l:=l) (o:=gJ key ix o p) h with h|h
  .unfold gJ at h;split at h
   .rcases oR.1 h with h|h
    .exact .inl h
    .rw[pi.1 h];exact .inr (by simp)
   .exact .inl h
  .exact .inr (rh _ h)
def acS:∀{t:List Nd},(∀x∈t,dR x.b=true)->(ach t).length<=40*t.length
 |[],_=>ff _
 |f::t,h=>by
  have c:=acS (t:=t) λx b=>h x (rh _ b);have d:=ab6 f.b;have a:=h f (by simp);unfold dR at a;simp only[ge,rb] at a;show(ku f.b++ach t).length<=_;rw[aE,gc];omega
def kY{s:ByteArray}(h:dR s=true):s.size<=40/\(bs s).all pD=true:=by
 unfold dR at h;simpa using h
def ajs(h:∀x∈t,dR x.b=true):∀x∈ach t,bF (bs x):=λx a=>by
 obtain⟨f,b,a⟩:=sK.1 a;exact nU (kY (h f b)).2 x a
def od{ix:List Sp}(h:∀x∈t,dR x.b=true):∀x∈abj key ix t,bF (bs x):=λx b=>by
 rcases ae8 b with a|a
 .cases a
 .exact ajs h x a
def lM{x:ByteArray}(h:bF (bs x)):iA.good x:=by
 have:=h.1.2;rw[aO] at this;show x.size<=maxLen;unfold maxLen;omega
def au2(w:World)(xs:List ByteArray)(e:Ending)(w':World):Prop:=∃v,e=.returned v/\aL iA 9 w' w.heap.size v xs/\Below w.heap.size w w'
def alF(key:Int)(hk:1<=key/\key<=99)(t:List Nd)(R:∀x∈t,dR x.b=true)(hl:t.length<=1000)(ix:List Sp)(vt vi:Value)(w:World)(lo hi:Nat)(aR:hi<=w.heap.size)(h1:eL w lo hi t [vt])(h2:bB RSp 2 w lo hi ix [vi]) :
  Calls (ai β) 63 #[.int .i64 key,vt,vi] w (au2 w (abj key ix t)):=by
 replace R:=ab R;obtain⟨A,c,rfl⟩:=h1.form;obtain⟨A2,c2,rfl⟩:=h2.form;obtain⟨_,hc,n⟩:=h1.len_;unfold maxLen at n;go_enter zE,ntmps63;go_wp2;have W:=av w (.cells #[] 9);have Q:aL iA 9 (w.alloc (.cells #[] 9)) w.heap.size (.slice (some ⟨w.heap.size,0,none⟩) 0 0) []:=(eE.new w 9 (am _)).own 1;generalize w.alloc (.cells #[] 9)=w0 at *;go_loopw [7,8] (λoo ii wr=>∃k:Nat,k<=t.length/\ii=.int .i64 k/\aL iA 9 wr w.heap.size oo (abj key ix (t.take k))/\Below w.heap.size w wr) (λ_ ii _=>t.length-(intOf ii).toNat)
 case atStart=>exact⟨0,ff _,rfl,Q,W⟩
 case round=>
  clear Q W;obtain⟨k,aU,rfl,a,l⟩:=hrel;obtain⟨J,aa⟩:∃J,J=wr:=⟨_,rfl⟩;subst aa;by_cases a5:k<t.length
  .obtain⟨f,z⟩:=aq a5;have E:=kY (R.out f (de z));obtain⟨b1,aH,rfl,_,_,ax,lX,ad⟩:=jV (eL.ar.below h1 l aR) z;have s:=ao1 (key:=key) (ix:=ix) z;have a8:(abj key ix (t.take k)).length<=40000:=by
    have a1:=aci (key:=key) (ix:=ix) (ach (t.take k)) [];have a2:=acS (t:=t.take k) λx n=>R.out x (pu n);rw[fa] at a2;show(acg key ix [] (ach (t.take k))).length<=_;simp only[mp,me] at a1;omega
   have a3:=od (key:=key) (ix:=ix) (t:=t.take k) λx n=>R.out x (pu n);have D:=nU E.2;have jb:=ab6 f.b;have b0:=E.1;have HS:=ab s;have HP:=ab a3;have S:=ab D;have HC:=ab (agj (β:=β) f.b (by omega));clear z s a3 D E;revert HS;revert HP;generalize abj key ix (t.take k)=base at a a8;intro HP HS;obtain⟨A0,c0,rfl⟩:=a.form;go_wp2;refine(HC.out J).mono ?_;rintro e w1 ⟨v1,rfl,op,og⟩;clear HC;obtain⟨Ap,cp,rfl⟩:=op.form;have a0:=a.below og;have C:=ag l og;have T:∀g,(Value.slice A0 base.length c0).ownBlock=some g->g<J.heap.size\/w1.heap.size<=g:=λg hg=>.inl (a.at_ hg).2;have B:=(op.deep (λx n=>lM (S.out x n)) J.heap.size).sl (am _);have zo:=l.size;have z1:=og.size;revert HS;revert S;revert jb;revert B;generalize ku f.b=ps;intro B jb S HS;have HO:=ab a0;replace C:=ab C;have M:=ab B;have d:=ab T;clear a l a0 B op T og ad lX;go_wp2;go_loopw [7,10] (λoo jj wr=>∃j:Nat,j<=ps.length/\jj=.int .i64 j/\aL iA 9 wr w.heap.size oo (acg key ix base (ps.take j))/\Below w.heap.size w wr/\dA wr J.heap.size w1.heap.size ps [.slice Ap ps.length cp]/\(∀g,oo.ownBlock=some g->g<J.heap.size\/w1.heap.size<=g)/\w1.heap.size<=wr.heap.size) (λ_ jj _=>ps.length-(intOf jj).toNat)
   case atStart=>exact⟨0,ff _,rfl,HO.out,C.out,M.out,d.out,am _⟩
   case round=>
    clear HO C M d;obtain⟨j,ao,rfl,a,l,hr,Z,hz⟩:=hrel;by_cases af:j<ps.length
    .obtain⟨p,y⟩:=aq af;have al:=S.out p (de y);obtain⟨b2,iT,rfl,ay,aZ,aJ,a7⟩:=lH hr y;have fj:=ao0 (key:=key) (ix:=ix) (o:=base) y;have L:=aci (key:=key) (ix:=ix) (ps.take j) base;rw[fa] at L;have O:∀x∈acg key ix base (ps.take j),iA.good x:=λx n=>by
      rcases ae8 n with h|h
      .exact lM (HP.out x h)
      .exact lM (S.out x (pu h))
     have an:=RSp.loc;have N:bB RSp 2 wr lo hi ix [.slice A2 ix.length c2]:=(bB.loc RSp.loc).below h2 l aR;have X:=ab fj;have H:=ab O;have a9:=ab N;have d:=ab Z;have M:=ab hr;have U:=ab (aa4 (β:=β) key p hk al wr);clear an fj O N Z hr y;revert X;revert H;generalize acg key ix base (ps.take j)=o at a L;intro H X;obtain⟨Ao,co,rfl⟩:=a.form;have K:=(a.deep H.out w.heap.size).sl (am _);replace K:=ab K;have aF:o.length<=50000:=by omega
     clear L;go_wp2;refine U.out.mono ?_;rintro e w2 ⟨rfl,rfl⟩;clear U;have I:=ab (alE (β:=β) ix (dc key (bs p)) _ wr lo hi a9.out);obtain⟨r,u⟩:∃r,r=pI (dc key (bs p)) ix:=⟨_,rfl⟩;rw[<-u] at I;replace u:=ab u;go_wp2;refine I.out.mono ?_;rintro e w2 ⟨rfl,rfl⟩;clear I;by_cases m:r=0
     .have t1:(r ==0)=true:=oE.2 m;have a4:=ab (u.out.symm.trans m);clear m;obtain⟨q,hq⟩:=auj (p∈o);have V:=ab (aoF (β:=β) o p _ wr _ _ K.out q hq);cases q with
      |true=>
       have Y:Hid (gJ key ix o p=o):=ab (ae7 λh=>h.2 (hq.1 rfl));clear hq;go_wp2;refine V.out.mono ?_;rintro e w2 ⟨rfl,rfl⟩;go_wp2;go_roundw
       case rel=>exact⟨j+1,by omega,by go_num,by rw[X.out,Y.out];exact a,l,M.out,d.out,hz⟩
       simp[intOf];omega
      |false=>
       have Y:Hid (gJ key ix o p=o++[p]):=ab (ajr a4.out λh=>by have:=hq.2 h;cases this);clear hq;go_wp2;refine V.out.mono ?_;rintro e w2 ⟨rfl,rfl⟩;have P:∀hs:(Value.slice Ao o.length co).ownBlock=some b2,False:=λhs=>by
        have:=d.out _ hs;omega
       replace P:=ab P;go_wp2_with(at_builtin;refine cH (F:=iA) (v:=.slice Ao o.length co) rfl (.tmp 48) (.tmp 53) 89 rfl ab5 p rfl a rfl rfl (by omega) l.size ?_;intro va wa oa G a6;obtain⟨Aa,ca,rfl⟩:=oa.form;simp only[aE,gc,mp,me] at oa);go_roundw
       case rel=>
        refine⟨j+1,by omega,by go_num,by rw[X.out,Y.out];simpa using oa,l.trans (G.below l.size λi hi n=>by have:=(a.at_ n).1;omega),dA.ar.fe M.out G λb b1 b2 _ hs=>by have:=d.out _ hs;omega,λg hg=> ?_,ap hz G.size⟩;rcases a6 g (by simpa using hg) with h|h
        .exact d.out g h
        .exact .inr (by omega)
       case measure=>simp[intOf];omega
     .have t1:(r ==0)=false:=dk.2 m;have Y:Hid (gJ key ix o p=o):=ab (ae7 λh=>m (u.out.trans h.1));clear m;go_wp2;go_roundw
      case rel=>exact⟨j+1,by omega,by go_num,by rw[X.out,Y.out];exact a,l,M.out,d.out,hz⟩
      simp[intOf];omega
    .obtain rfl:j=ps.length:=by omega
     rw[ip] at a;rw[<-HS.out] at a;have HO:=ab a;clear a;go_wp2;go_roundw
     case rel=>exact⟨k+1,by omega,by go_num,HO.out,l⟩
     simp[intOf];omega
  .obtain rfl:k=t.length:=by omega
   rw[ip] at a;obtain⟨A0,c0,rfl⟩:=a.form;go_wp2;go_ret;exact⟨_,rfl,a,l⟩
end
section
variable {β:Bool}
open Go.RowKit
def marks(k:Int):Nat->List Int
 |0=>[]
 |n+1=>marks k n++[k+n]
end
section
variable {β:Bool}
open Go.RowKit
structure fL (w:World) (lo hi:Nat) (s:dJ) (va vb vc:Value):Prop where
 pk:iL w lo hi s.pk [va]
 sn:gZ w lo hi s.sn [vb]
 lg:cj w lo hi s.lg [vc]
def fL.below{w : World}(h:fL w Z hi s X W V)(b:Below B w w')(a:hi<=B):fL w' Z hi s X W V:=⟨iL.loc.below h.pk b a,gZ.loc.below h.sn b a,cj.loc.below h.lg b a⟩
def fL.wide{w:World}(h:fL w Z hi s X W V)(b:fg<=Z)(a:hi<=hi'):fL w fg hi' s X W V:=⟨iL.loc.wide h.pk b a,gZ.loc.wide h.sn b a,cj.loc.wide h.lg b a⟩
structure eY (w:World) (lo hi:Nat) (s:dJ) (va vb vc:Value):Prop where
 pk:bH w lo hi s.pk [va]
 sn:bW w lo hi s.sn [vb]
 lg:dF w lo hi s.lg [vc]
def eY.go{w : World}(h:eY w Z hi s X W V)(d:∀b,Z<=b->b<hi->w'.heap[b]?=w.heap[b]?)(c:fg<=Z)(a:hi<=hi'):eY w' fg hi' s X W V:=
 ⟨bH.ar.loc.go d c a h.pk,bW.ar.loc.go d c a h.sn,dF.ar.loc.go d c a h.lg⟩
def eY.below{w : World}(h:eY w Z hi s X W V)(a:Below B w w')(d:hi<=B):eY w' Z hi s X W V:=h.go (λb _ c=>a.block b (by omega)) (am _) (am _)
def eY.l{w:World}(h:eY w Z hi s X W V):fL w Z hi s X W V:=⟨bH.l h.pk,bW.l h.sn,dF.l h.lg⟩
def kD(s:dJ):Nat:=et bPk s.pk+et bSn s.sn+s.lg.length
def arL(w:World)(s:dJ)(e:Ending)(w':World):Prop:=∃c a b,e=.returned (.agg #[c,a,b])/\eY w' w.heap.size w'.heap.size s c a b/\Below w.heap.size w w'
end
section
variable {β:Bool}
open Go.RowKit
section
variable {P:Program} {α:Type} {E:fW α} {T:List TypeId} {sz:Nat} {e:TypeId}
def ie (D:dM E T) (C:e∉T) {w:World} {p:Array Oper} {rest:List Oper} {o:Oper} {a:Act} {Q:Exit->Act->World->Prop} (q:o.guard=none) (s x:Operand) (t:TypeId)
  (S:o.op=.call ⟨.builtin .append,#[s,x],#[t,t]⟩)
  (z:iy P t e sz Z)  {xs:List α} (y:α) (hs:a.eval s=v) (m:aP e E sz w U R xs [v]) {es:Array Value} {K:TypeId} (hx:a.eval x=.slice (some ⟨g,0,none⟩) 1 1) (L:aX w g K es) (n:es.toList.length=sz) (H:∀u∈es.toList,u.oneCell'=true) (V:R<=hi) (W:E w R hi y es.toList) (aR:hi<=w.heap.size)
  (hn:xs.length<=1099511627775) (f:U<=w.heap.size)
  (h:∀i c,aP e E sz c U c.heap.size (xs++[y]) [i]->bh (λb=>v.ownBlock=some b) w c->(∀b,i.ownBlock=some b->v.ownBlock=some b\/w.heap.size<=b)->wpList P p Q rest (a.put o.dst i) c) :
  wpList P p Q (o::rest) a w:=by
 obtain⟨v0,cells,e1,d,hg,A⟩:=m;cases e1;refine aeD q s x t S z hs d hx (news:=es.toList) (by rw[n,Nat.one_mul]) (λ_=>⟨_,rfl,λj u Y=>by
  have G:(⟨g,0,none⟩:Addr).add j=⟨g,j,none⟩:=by unfold Addr.add;split<;>simp_all
  rw[G,L.cell,<-fi];exact Y⟩) H (by omega) f λi c k=>h i c ?_ k.fe k.at_
 have B:∀b,v.ownBlock=some b->∃I,aX w b e I:=λb l=>by
  rcases d.2 with⟨rfl,_⟩|⟨g',cap,O,rfl,_,X,_⟩
  .cases l
  .cases l;exact⟨_,X⟩
 have J:∀b,Typed w T b->c.heap[b]?=w.heap[b]?:=λb ⟨t',ht',I,hd⟩=>k.fe.block b hd.lt λl=>by
  obtain⟨M,F⟩:=B b l;exact C (cI F hd▸ht')
 have N:=k.fe.size;refine⟨i,cells++es.toList,rfl,by rw[aE];exact k.own,λb l=>(k.own.lt b l).2, ?_⟩;have hS:=Els.snoc (E:=E) (A.go (fg:=U) (hi':=R) D (λb _ _ r=>J b r) (am _) (am _)) (y:=y) (es:=es.toList) n H (hi:=c.heap.size) (by omega) (D.go (λb _ _ r=>J b r) (am _) (by omega) W);exact hS D.loc
end
def ahB:iy (ai β) 25 42 2 16:=iy.mk' xv (z:=.agg #[.int .i64 0,.int .i64 0]) (by kernel_rfl) rfl (by decide) (by decide)
def ahC:iy (ai β) 61 100 2 40:=iy.mk' yW (z:=.agg #[.string ⟨#[]⟩,.slice none 0 0]) (by kernel_rfl) rfl (by decide) (by decide)
def ad2:iy (ai β) 24 63 2 32:=iy.mk' xL (z:=.agg #[.int .i64 0,.slice none 0 0]) (by kernel_rfl) rfl (by decide) (by decide)
def alG(xs:List Int)(v:Value)(w:World)(p hi:Nat)(h:bB (bV nk) 1 w p hi xs [v])(n:hi<=w.heap.size)(k:xs.length<=1099511627776) :
  Calls (ai β) 72 #[v] w (aho nk 3 w xs):=by
 obtain⟨A,c,rfl⟩:=h.form;have f:=ab (lG (F:=nk) h n);cases A with
 |none=>
  have a:xs=[]:=by
   rcases qg xs.length with a|a
   .exact qT a
   .obtain⟨x,l⟩:=aq a;obtain⟨b,j,t,o,_⟩:=h.at_ l;cases o
  subst a;have m:=rH (P:=(ai β)) w 98 3 none 0 c 0 0 xr;go_enter xS,ntmps72;go_wp2;go_wp2;go_ret;exact⟨_,rfl,aL.nil _ _ _,du _ _⟩
 |some q=>
  have m:=rH (P:=(ai β)) w 98 3 (some q) xs.length c 0 0 xr;have d:=av w (.cells #[] 3);have g:=ab (eE.new w 3 (am _));go_enter xS,ntmps72;go_wp2_with(at_builtin;refine np (F:=nk) (xs:=xs) d rfl (.tmp 5) (.tmp 6) 98 rfl abW (am _) rfl rfl g.out f.out k ?_;intro s r e i);go_wp2;go_ret;exact⟨_,rfl,i,d.trans (e.mono d.size)⟩
def ao2(xs:List It)(v:Value)(w:World)(p hi:Nat)(h:bB (bV mN) 2 w p hi xs [v])(n:hi<=w.heap.size)(k:xs.length<=1099511627776) :
  Calls (ai β) 71 #[v] w (aho mN 68 w xs):=by
 obtain⟨A,c,rfl⟩:=h.form;have f:=ab (lG (F:=mN) h n);cases A with
 |none=>
  have a:xs=[]:=by
   rcases qg xs.length with a|a
   .exact qT a
   .obtain⟨x,l⟩:=aq a;obtain⟨b,j,t,o,_⟩:=h.at_ l;cases o
  subst a;have m:=rH (P:=(ai β)) w 57 68 none 0 c 0 0 xu;go_enter xT,ntmps71;go_wp2;go_wp2;go_ret;exact⟨_,rfl,aL.nil _ _ _,du _ _⟩
 |some q=>
  have m:=rH (P:=(ai β)) w 57 68 (some q) xs.length c 0 0 xu;have d:=av w (.cells #[] 68);have g:=ab (eE.new w 68 (am _));go_enter xT,ntmps71;go_wp2_with(at_builtin;refine np (F:=mN) (xs:=xs) d rfl (.tmp 5) (.tmp 6) 57 rfl nR (am _) rfl rfl g.out f.out k ?_;intro s r e i);go_wp2;go_ret;exact⟨_,rfl,i,d.trans (e.mono d.size)⟩
def ao3(xs:List Hd)(v:Value)(w:World)(p hi:Nat)(h:bB (bV oQ) 2 w p hi xs [v])(n:hi<=w.heap.size)(k:xs.length<=1099511627776) :
  Calls (ai β) 41 #[v] w (aho oQ 42 w xs):=by
 obtain⟨A,c,rfl⟩:=h.form;have f:=ab (lG (F:=oQ) h n);cases A with
 |none=>
  have a:xs=[]:=by
   rcases qg xs.length with a|a
   .exact qT a
   .obtain⟨x,l⟩:=aq a;obtain⟨b,j,t,o,_⟩:=h.at_ l;cases o
  subst a;have m:=rH (P:=(ai β)) w 25 42 none 0 c 0 0 xv;go_enter yf,ntmps41;go_wp2;go_wp2;go_ret;exact⟨_,rfl,aL.nil _ _ _,du _ _⟩
 |some q=>
  have m:=rH (P:=(ai β)) w 25 42 (some q) xs.length c 0 0 xv;have d:=av w (.cells #[] 42);have g:=ab (eE.new w 42 (am _));go_enter yf,ntmps41;go_wp2_with(at_builtin;refine np (F:=oQ) (xs:=xs) d rfl (.tmp 5) (.tmp 6) 25 rfl ahB (am _) rfl rfl g.out f.out k ?_;intro s r e i);go_wp2;go_ret;exact⟨_,rfl,i,d.trans (e.mono d.size)⟩
def afE(x:Pk)(v:Value)(w:World)(q hi:Nat)(h:jk w q hi x.its [v])(o:hi<=w.heap.size)(i:cE x.no)(z:x.its.length<=1099511627776) :
  Calls (ai β) 39 #[.agg #[.int .i64 x.no,v]] w λe j=>∃m,e=.returned (.agg #[.int .i64 x.no,m])/\kL j w.heap.size j.heap.size x [.int .i64 x.no,m]/\Below w.heap.size w j:=by
 have y:=bB.good (F:=mN) h;obtain⟨A,c,rfl⟩:=bB.form h;go_enter zO,ntmps39;go_wp2;generalize C:(w.alloc (.cells #[.int .i64 x.no,.slice A x.its.length c] 59)).alloc (.cells #[.int .i64 0,.slice none 0 0] 59)=w0 at *;obtain⟨l,I,f,n,B,d,p,t⟩:=oP C;refine(ao2 x.its _ w0 q hi (jk.loc.below h l o) (ap o l.size) z).mono ?_;rintro e D ⟨H,rfl,k,a⟩;replace f:=ah f a;replace n:=f.cell;replace B:=f.frozen;replace d:=ah d a;replace p:=d.cell;replace t:=d.frozen;obtain⟨s,u,rfl⟩:=k.form;have G:=a.size;have HO:=ab (k.aat y a.size λg r=>(k.at_ r).2);go_wp2;exact nf (v:=.agg #[.int .i64 x.no,.slice s x.its.length u]) (by simp[results,results39,go_sem,n,p]) rfl ⟨_,rfl,⟨_,rfl,i,abg.ar.go (λb E _ _=>by rw[iS _ _ _ _ (by dsimp only;omega),iS _ _ _ _ (by dsimp only;omega),iS _ _ _ _ (by dsimp only;omega)]) (by omega) (by simp only[be];exact am _) HO.out⟩,
  (((ag l a).setCell (by dsimp only;omega) _).setCell (by dsimp only;omega) _).setCell (by dsimp only;omega) _⟩
end
section
variable {β:Bool}
open Go.RowKit
def gK{p:Prop}(h:p/\True):p:=h.1
def aP.ob{w:World}{xs:List Y}(h:aP e E Z w U hi xs [v])(a:v.ownBlock=some b):U<=b/\b<hi/\b<w.heap.size:=by
 obtain⟨f,cells,c,h,d,_⟩:=h;cases c;exact⟨(h.lt b a).1,d b a,(h.lt b a).2⟩
def afF(x:Sn)(v:Value)(w:World)(lo hi:Nat)(h:gb w lo hi x.all [v])(aR:hi<=w.heap.size)(X:cE x.no)(hl:et bLs x.all<=1099511627) :
  Calls (ai β) 40 #[.agg #[.int .i64 x.no,v]] w λe n=>∃v',e=.returned (.agg #[.int .i64 x.no,v'])/\ma n w.heap.size n.heap.size x [.int .i64 x.no,v']/\Below w.heap.size w n:=by
 obtain⟨A,c,rfl⟩:=bB.form h;obtain⟨_,hc,hx⟩:=h.len_;unfold maxLen at hx;have a4:=ap (dU (f:=bLs) (l:=x.all)) hl;go_enter zN,ntmps40;go_wp2;generalize V:((w.alloc (.cells #[.int .i64 x.no,.slice A x.all.length c] 63)).alloc (.cells #[.int .i64 0,.slice none 0 0] 63)).alloc (.cells #[.int .i64 x.no,.slice none 0 0] 63)=w0 at *;obtain⟨aH,iz,k0,cQ,dW,j,K,dz,d,D,R⟩:=adG V;go_loopw [12] (λii wr=>∃(k:Nat) (S:Value),k<=x.all.length/\ii=.int .i64 k/\fK wr w0.heap.size wr.heap.size (x.all.take k) [S]/\aX wr (w.heap.size+1) 63 #[.int .i64 0,.slice none 0 0]/\aX wr (w.heap.size+1+1) 63 #[.int .i64 x.no,S]/\Below w.heap.size w wr/\w0.heap.size<=wr.heap.size) (λii _=>x.all.length-(intOf ii).toNat)
 case atStart=>exact⟨0,_,ff _,rfl,aP.nil (am _),j,d,aH,am _⟩
 case round=>
  obtain⟨k,S,hk,rfl,m,j,d,q,a6⟩:=hrel;obtain⟨W,T,rfl⟩:=m.form;have o:(x.all.take k).length=k:=by rw[fa,rr hk]
  rw[o] at m d;by_cases Y:k<x.all.length
  .obtain⟨y,H⟩:=aq Y;have jg:=jE (f:=bLs) (de H);have a8:y.ns.length<=1099511627:=by have h1:y.ns.length<=bLs y:=Nat.le_add_left _ _;omega
   obtain⟨b,I,es,rfl,_,a3,_,⟨v2,rfl,O,L⟩,G⟩:=(gb.loc.below h q aR).at_ H;obtain⟨A2,c2,rfl⟩:=bB.form L;have a2:wr.cell? ⟨b,I+k*2,none⟩=some (.string y.p):=by simpa using G 0 _ rfl
   have ad:wr.cell? ⟨b,I+k*2+1,none⟩=some (.slice A2 y.ns.length c2):=by simpa using G 1 _ rfl
   have Q:=li H;replace Q:=ab Q;replace H:=ab H;replace o:=ab o;replace L:=ab L;go_wp2;generalize V:wr.alloc (.cells #[.string y.p,.slice A2 y.ns.length c2] 100)=wa at *;obtain⟨C,a9,m0,mz,a7⟩:=mK V;replace j:=ah j C;replace K:=j.cell;replace dz:=j.frozen;replace d:=ah d C;replace D:=d.cell;replace R:=d.frozen;have fu:=fK.ar.below m C (am _);have a1:=ab (nY.loc.below L.out C (by have:=q.size;omega));have t:=ag q C;have fk:=D 1;have fm:=mz 0;have U:=mz 1;have aF:=ae fk;have aJ:=ae fm;have bg:=ae U;refine aC 9 [0,1,2,3,4,5] [6,7,8] (h:= ?_);simp only[pick,List.map,gt,gE];repeat(go_big_quiet_step (fail))
   refine io ?_;apply Exists.intro;apply bc (λv n=>∃A c,v=.slice A y.ns.length c/\iM n wa.heap.size n.heap.size y.ns [v])
   .rfl
   .exact λv x y ⟨A,c,e,m⟩ hle=>⟨A,c,e,iM.ar.wide (iM.ar.below m hle (am _)) (am _) hle.size⟩
   .intro z r Qx a;replace a:=ab a;have hd:=nY.loc.below a1.out z.ok (by have:=t.size;omega);go_wp2;refine(alG y.ns _ _ _ _ hd (by have:=z.ok.size;have:=t.size;omega) (by omega)).mono ?_;rintro e w5 ⟨v5,rfl,s,b5⟩;have jd:=hd.akM;obtain⟨A5,c5,rfl⟩:=s.form;go_wp2;exact a.out _ _ b5 ⟨_,_,rfl,iM.ar.wide (s.aat jd b5.size λg Z=>(s.at_ Z).2) z.ok.size (am _)⟩
   intro v6;apply bc (λv n=>∃A c,v=.agg #[.string y.p,.slice A y.ns.length c]/\iM n wa.heap.size n.heap.size y.ns [.slice A y.ns.length c])
   .rfl
   .exact λv x y ⟨A,c,e,m⟩ hle=>⟨A,c,e,iM.ar.wide (iM.ar.below m hle (am _)) (am _) hle.size⟩
   .intro z r Qx a;replace a:=ab a;obtain⟨A5,c5,rfl,s⟩:=r.1 (by kernel_rfl);go_wp2;exact a.out _ _ (du _ _) ⟨_,_,rfl,s⟩
   intro v7;apply bc (λv n=>∃g A c,v=.slice (some ⟨g,0,none⟩) 1 1/\wa.heap.size<=g/\aX n g 100 #[.string y.p,.slice A y.ns.length c]/\iM n wa.heap.size n.heap.size y.ns [.slice A y.ns.length c])
   .rfl
   .exact λv x y ⟨g,A,c,e,Z,hk,m⟩ hle=>⟨g,A,c,e,Z,ah hk hle,iM.ar.wide (iM.ar.below m hle (am _)) (am _) hle.size⟩
   .intro z r Qx a;replace a:=ab a;obtain⟨A5,c5,rfl,s⟩:=r.1 (by kernel_rfl);go_wp2;have ba:=av z.to (.cells #[.string y.p,.slice A5 y.ns.length c5] 100);exact a.out _ _ ba ⟨_,_,_,rfl,z.ok.size,aX.new _ _ _,iM.ar.wide (iM.ar.below s ba (am _)) (am _) ba.size⟩
   intro v8;refine aS ?_;intro w6 F xx df r;dsimp only[dP] at r;try rw[df] at r
   obtain⟨⟨g8,A8,c8,rfl,aa,B,o8⟩, -⟩:=r;simp only[List.drop];replace j:=ah j F;replace K:=j.cell;replace dz:=j.frozen;replace d:=ah d F;replace D:=d.cell;replace R:=d.frozen;have M:=fK.ar.below fu F (by have:=C.size;omega);have E:=ag t F;have z6:=F.size;have za:=C.size;replace M:=ab M;replace o8:=ab o8;replace B:=ab B;go_wp2_with(at_builtin;refine gK ?_);refine⟨?_,trivial⟩;refine ie OLs.ar (by decide) (v:=.slice W k T) rfl (.tmp 17) (.tmp 24) 61 rfl ahC y rfl M.out rfl B.out rfl (by simp[Value.oneCell']) (show wr.heap.size<=w6.heap.size by omega) ⟨_,rfl,O,iM.ar.wide o8.out za (am _)⟩ (am _) (by have:=o.out;omega) (by omega) ?_;intro v9 w9 o9 N a5;obtain⟨A9,c9,rfl⟩:=o9.form;rw[aE,mw,o.out] at o9;rw[aE,mw,o.out];have u:∀b,(Value.slice W k T).ownBlock=some b->w0.heap.size<=b:=λb P=>(M.out.ob P).1;replace j:=aQ j N (λJ=>by have:=u _ J;omega);replace d:=aQ d N (λJ=>by have:=u _ J;omega);replace D:=d.cell;replace R:=d.frozen;go_wp2;have a0:Below w.heap.size w w9:=E.trans (N.below E.size λi hi J=>by have:=u i J;omega);have z9:=N.size;go_roundw
   case rel=>
    refine⟨k+1,.slice A9 (k+1) c9,by omega,by go_num, ?_,bZ j (p:=⟨w.heap.size+1+1,1,none⟩) _ (by dsimp only;omega), ?_,a0.setCell (by dsimp only;omega) _,by simp only[be];omega⟩
    .rw[Q.out];exact fK.ar.loc.go (λb P _=>iS _ _ _ _ (by dsimp only;omega)) (am _) (by simp only[be];exact am _) o9
    .have:=d.bj 1 (.slice A9 (k+1) c9);simpa using this
   case measure=>simp[intOf];omega
  .obtain rfl:k=x.all.length:=by omega
   rw[ip] at m;have K:=j.cell;have dz:=j.frozen;have D:=d.cell;replace m:=ab m;go_wp2;exact nf (v:=.agg #[.int .i64 x.no,.slice W x.all.length T]) (by simp[results,results40,go_sem,K,D]) rfl ⟨_,rfl,⟨_,rfl,X,fK.ar.go (λb P _ _=>by rw[iS _ _ _ _ (by dsimp only;omega),iS _ _ _ _ (by dsimp only;omega)]) (by omega) (by simp only[be];exact am _) m.out⟩,
    (q.setCell (by dsimp only;omega) _).setCell (by dsimp only;omega) _⟩
end
section
variable {β:Bool}
open Go.RowKit
def ae9(s:dJ)(va vb vc:Value)(w:World)(lo hi:Nat)(h:fL w lo hi s va vb vc)(aR:hi<=w.heap.size)(hl:kD s<=1099511627) :
  Calls (ai β) 15 #[.agg #[va,vb,vc]] w (arL w s):=by
 obtain⟨h1,h2,h3⟩:=h;obtain⟨A,a,rfl⟩:=bB.form h1;obtain⟨B,b,rfl⟩:=bB.form h2;obtain⟨C,c,rfl⟩:=bB.form h3;obtain⟨_,b1,aZ⟩:=h1.len_;obtain⟨_,b5,an⟩:=h2.len_;obtain⟨_,b7,al⟩:=h3.len_;unfold maxLen at aZ an al;unfold kD at hl;have b2:=dU (f:=bPk) (l:=s.pk);have b3:=dU (f:=bSn) (l:=s.sn);go_enter Aj,ntmps15;go_wp2;generalize hG:((w.alloc (.cells #[.slice A s.pk.length a,.slice B s.sn.length b,.slice C s.lg.length c] 27)).alloc (.cells #[.slice none 0 0,.slice none 0 0,.slice none 0 0] 27)).alloc (.cells #[.slice none 0 0,.slice none 0 0,.slice none 0 0] 27)=w0 at *;obtain⟨aH,iz,m,cQ,dW,j,X,dz,d,L,U⟩:=adG hG;go_loopw [11] (λii wr=>∃(k:Nat) (Z:Value),k<=s.pk.length/\ii=.int .i64 k/\bH wr w0.heap.size wr.heap.size (s.pk.take k) [Z]/\aX wr w.heap.size 27 #[.slice A s.pk.length a,.slice B s.sn.length b,.slice C s.lg.length c]/\aX wr (w.heap.size+1) 27 #[.slice none 0 0,.slice none 0 0,.slice none 0 0]/\aX wr (w.heap.size+1+1) 27 #[Z,.slice none 0 0,.slice none 0 0]/\Below w.heap.size w wr/\w0.heap.size<=wr.heap.size) (λii _=>s.pk.length-(intOf ii).toNat)
 case atStart=>exact⟨0,_,ff _,rfl,aP.nil (am _),m,j,d,aH,am _⟩
 case round=>
  obtain⟨k,Z,hk,rfl,r,m,j,d,o,a5⟩:=hrel;have cQ:=m.cell;obtain⟨Ao,co,rfl⟩:=r.form;have R:(s.pk.take k).length=k:=by rw[fa,rr hk]
  rw[R] at r d;by_cases a1:k<s.pk.length
  .obtain⟨y,cX⟩:=aq a1;have jg:=jE (f:=bPk) (de cX);obtain⟨b',P,es,e0,_,a6,_,⟨v2,rfl,Y,V⟩,S⟩:=(iL.loc.below h1 o aR).at_ cX;subst e0;obtain⟨A2,c2,rfl⟩:=bB.form V;have ax:wr.cell? ⟨b',P+k*2,none⟩=some (.int .i64 y.no):=by simpa using S 0 _ rfl
   have pN:wr.cell? ⟨b',P+k*2+1,none⟩=some (.slice A2 y.its.length c2):=by simpa using S 1 _ rfl
   have iJ:=li cX;have HN:=ab iJ;have G:=ab R;replace V:=ab V;go_wp2;generalize hG:wr.alloc (.cells #[.int .i64 y.no,.slice A2 y.its.length c2] 59)=wa at *;obtain⟨u,ao,m0,mz,ad⟩:=mK hG;replace m:=ah m u;replace cQ:=m.cell;replace dW:=m.frozen;replace j:=ah j u;replace X:=j.cell;replace dz:=j.frozen;replace d:=ah d u;replace L:=d.cell;replace U:=d.frozen;have fu:=bH.ar.below r u (am _);have a3:=ab (jk.loc.below V.out u (by have:=o.size;omega));have D:=ag o u;have fk:=L 0;have fm:=mz 0;have a0:=mz 1;have aF:=ae fk;have aJ:=ae fm;have bg:=ae a0;refine aC 5 [0,1,2] [3,4] (h:= ?_);simp only[pick,List.map,gt,gE];repeat(go_big_quiet_step (fail))
   refine io ?_;apply Exists.intro;apply bc (λv K=>∃A c,v=.agg #[.int .i64 y.no,.slice A y.its.length c]/\kL K wa.heap.size K.heap.size y [.int .i64 y.no,.slice A y.its.length c])
   .rfl
   .exact λv x y ⟨A,c,e,r⟩ hle=>⟨A,c,e,kL.ar.wide (kL.ar.below r hle (am _)) (am _) hle.size⟩
   .intro z J Qx n;replace n:=ab n;have hd:=jk.loc.below a3.out z.ok (by have:=D.size;omega);go_wp2;refine(afE y _ _ _ _ hd (by have:=z.ok.size;have:=D.size;omega) Y (by have h5:y.its.length<=bPk y:=dU;omega)).mono ?_;rintro e w5 ⟨v5,rfl,I,N⟩;obtain⟨A5,c5,rfl⟩:∃A c,v5=.slice A y.its.length c:=by
     obtain⟨v6,e6,_,h6⟩:=I;cases e6;exact aP.form h6
    go_wp2;exact n.out _ _ N ⟨_,_,rfl,kL.ar.wide I z.ok.size (am _)⟩
   intro v6;apply bc (λv K=>∃g A c,v=.slice (some ⟨g,0,none⟩) 1 1/\wa.heap.size<=g/\aX K g 59 #[.int .i64 y.no,.slice A y.its.length c]/\kL K wa.heap.size K.heap.size y [.int .i64 y.no,.slice A y.its.length c])
   .rfl
   .exact λv x y ⟨g,A,c,e,hg,hk,r⟩ hle=>⟨g,A,c,e,hg,ah hk hle,kL.ar.wide (kL.ar.below r hle (am _)) (am _) hle.size⟩
   .intro z J Qx n;replace n:=ab n;obtain⟨A5,c5,rfl,I⟩:=J.1 (by kernel_rfl);go_wp2;have ba:=av z.to (.cells #[.int .i64 y.no,.slice A5 y.its.length c5] 59);exact n.out _ _ ba ⟨_,_,_,rfl,z.ok.size,aX.new _ _ _,kL.ar.wide (kL.ar.below I ba (am _)) (am _) ba.size⟩
   intro v8;refine aS ?_;intro w6 H xx df J;dsimp only[dP] at J;try rw[df] at J
   obtain⟨⟨g8,A8,c8,rfl,b0,E,o8⟩, -⟩:=J;simp only[List.drop];replace m:=ah m H;replace cQ:=m.cell;replace dW:=m.frozen;replace j:=ah j H;replace X:=j.cell;replace dz:=j.frozen;replace d:=ah d H;replace L:=d.cell;replace U:=d.frozen;have za:=u.size;have oF:=bH.ar.below fu H (by omega);have Q:=ag D H;have z6:=H.size;have T:=ab oF;replace o8:=ab o8;replace E:=ab E;go_wp2_with(at_builtin;refine gK ?_);refine⟨?_,trivial⟩;refine ie kL.ar (by decide) (v:=.slice Ao k co) rfl (.tmp 16) (.tmp 19) 23 rfl adZ y rfl T.out rfl E.out rfl (by simp[Value.oneCell']) (show wr.heap.size<=w6.heap.size by omega) (kL.ar.wide o8.out za (am _)) (am _) (by have:=G.out;omega) (by omega) ?_;intro v9 w9 o9 O a9;obtain⟨A9,c9,rfl⟩:=o9.form;rw[aE,mw,G.out] at o9;rw[aE,mw,G.out];have q:∀b,(Value.slice Ao k co).ownBlock=some b->w0.heap.size<=b:=λb M=>(T.out.ob M).1;replace m:=aQ m O (λt=>by have:=q _ t;omega);replace j:=aQ j O (λt=>by have:=q _ t;omega);replace d:=aQ d O (λt=>by have:=q _ t;omega);replace L:=d.cell;replace U:=d.frozen;go_wp2;have a2:Below w.heap.size w w9:=Q.trans (O.below Q.size λi hi t=>by have:=q i t;omega);have z9:=O.size;go_roundw
   case rel=>
    refine⟨k+1,.slice A9 (k+1) c9,by omega,by go_num, ?_,bZ m (p:=⟨w.heap.size+1+1,0,none⟩) _ (by dsimp only;omega),bZ j (p:=⟨w.heap.size+1+1,0,none⟩) _ (by dsimp only;omega), ?_,a2.setCell (by dsimp only;omega) _,by simp only[be];omega⟩
    .rw[HN.out];exact bH.ar.loc.go (λb M _=>iS _ _ _ _ (by dsimp only;omega)) (am _) (by simp only[be];exact am _) o9
    .have:=d.bj 0 (.slice A9 (k+1) c9);simpa using this
   case measure=>simp[intOf];omega
  .obtain rfl:k=s.pk.length:=by omega
   rw[ip] at r;have X:=j.cell;have L:=d.cell;have dW:=m.frozen;have dz:=j.frozen;have U:=d.frozen;have aH:=o;obtain⟨Ap,a7⟩:∃A,A=Ao:=⟨_,rfl⟩;obtain⟨cp,lX⟩:∃c,c=co:=⟨_,rfl⟩;subst a7 lX;have af:=ab r;go_wp2;generalize b6:wr=wp at *;have b4:=a5;go_loopw [26] (λii wr=>∃(k:Nat) (Z:Value),k<=s.sn.length/\ii=.int .i64 k/\bW wr wp.heap.size wr.heap.size (s.sn.take k) [Z]/\bH wr w0.heap.size wp.heap.size s.pk [.slice Ap s.pk.length cp]/\aX wr w.heap.size 27 #[.slice A s.pk.length a,.slice B s.sn.length b,.slice C s.lg.length c]/\aX wr (w.heap.size+1) 27 #[.slice none 0 0,.slice none 0 0,.slice none 0 0]/\aX wr (w.heap.size+1+1) 27 #[.slice Ap s.pk.length cp,Z,.slice none 0 0]/\Below w.heap.size w wr/\wp.heap.size<=wr.heap.size) (λii _=>s.sn.length-(intOf ii).toNat)
   case atStart=>exact⟨0,_,ff _,rfl,aP.nil (am _),af.out,m,j,d,aH,am _⟩
   case round=>
    obtain⟨k,Z,hk,rfl,r,W,m,j,d,o,a5⟩:=hrel;have cQ:=m.cell;obtain⟨Ao,co,rfl⟩:=r.form;have R:(s.sn.take k).length=k:=by rw[fa,rr hk]
    rw[R] at r d;by_cases a1:k<s.sn.length
    .obtain⟨y,cX⟩:=aq a1;have jg:=jE (f:=bSn) (de cX);obtain⟨b',P,es,e0,_,a6,_,⟨v2,rfl,Y,V⟩,S⟩:=(gZ.loc.below h2 o aR).at_ cX;subst e0;obtain⟨A2,c2,rfl⟩:=bB.form V;have ax:wr.cell? ⟨b',P+k*2,none⟩=some (.int .i64 y.no):=by simpa using S 0 _ rfl
     have pN:wr.cell? ⟨b',P+k*2+1,none⟩=some (.slice A2 y.all.length c2):=by simpa using S 1 _ rfl
     have iJ:=li cX;have HN:=ab iJ;have G:=ab R;replace V:=ab V;go_wp2;generalize hG:wr.alloc (.cells #[.int .i64 y.no,.slice A2 y.all.length c2] 63)=wa at *;obtain⟨u,ao,m0,mz,ad⟩:=mK hG;replace m:=ah m u;replace cQ:=m.cell;replace dW:=m.frozen;replace j:=ah j u;replace X:=j.cell;replace dz:=j.frozen;replace d:=ah d u;replace L:=d.cell;replace U:=d.frozen;have fu:=bW.ar.below r u (am _);have a3:=ab (gb.loc.below V.out u (by have:=o.size;omega));have D:=ag o u;replace W:=bH.ar.below W u (by omega);have fk:=L 1;have fm:=mz 0;have a0:=mz 1;have aF:=ae fk;have aJ:=ae fm;have bg:=ae a0;refine aC 5 [0,1,2] [3,4] (h:= ?_);simp only[pick,List.map,gt,gE];repeat(go_big_quiet_step (fail))
     refine io ?_;apply Exists.intro;apply bc (λv K=>∃A c,v=.agg #[.int .i64 y.no,.slice A y.all.length c]/\ma K wa.heap.size K.heap.size y [.int .i64 y.no,.slice A y.all.length c])
     .rfl
     .exact λv x y ⟨A,c,e,r⟩ hle=>⟨A,c,e,ma.ar.wide (ma.ar.below r hle (am _)) (am _) hle.size⟩
     .intro z J Qx n;replace n:=ab n;have hd:=gb.loc.below a3.out z.ok (by have:=D.size;omega);go_wp2;refine(afF y _ _ _ _ hd (by have:=z.ok.size;have:=D.size;omega) Y (by have h5:et bLs y.all=bSn y:=rfl;omega)).mono ?_;rintro e w5 ⟨v5,rfl,I,N⟩;obtain⟨A5,c5,rfl⟩:∃A c,v5=.slice A y.all.length c:=by
       obtain⟨v6,e6,_,h6⟩:=I;cases e6;exact aP.form h6
      go_wp2;exact n.out _ _ N ⟨_,_,rfl,ma.ar.wide I z.ok.size (am _)⟩
     intro v6;apply bc (λv K=>∃g A c,v=.slice (some ⟨g,0,none⟩) 1 1/\wa.heap.size<=g/\aX K g 63 #[.int .i64 y.no,.slice A y.all.length c]/\ma K wa.heap.size K.heap.size y [.int .i64 y.no,.slice A y.all.length c])
     .rfl
     .exact λv x y ⟨g,A,c,e,hg,hk,r⟩ hle=>⟨g,A,c,e,hg,ah hk hle,ma.ar.wide (ma.ar.below r hle (am _)) (am _) hle.size⟩
     .intro z J Qx n;replace n:=ab n;obtain⟨A5,c5,rfl,I⟩:=J.1 (by kernel_rfl);go_wp2;have ba:=av z.to (.cells #[.int .i64 y.no,.slice A5 y.all.length c5] 63);exact n.out _ _ ba ⟨_,_,_,rfl,z.ok.size,aX.new _ _ _,ma.ar.wide (ma.ar.below I ba (am _)) (am _) ba.size⟩
     intro v8;refine aS ?_;intro w6 H xx df J;dsimp only[dP] at J;try rw[df] at J
     obtain⟨⟨g8,A8,c8,rfl,b0,E,o8⟩, -⟩:=J;simp only[List.drop];replace m:=ah m H;replace cQ:=m.cell;replace dW:=m.frozen;replace j:=ah j H;replace X:=j.cell;replace dz:=j.frozen;replace d:=ah d H;replace L:=d.cell;replace U:=d.frozen;have za:=u.size;have oF:=bW.ar.below fu H (by omega);have Q:=ag D H;have z6:=H.size;replace W:=bH.ar.below W H (by omega);have T:=ab oF;replace o8:=ab o8;replace E:=ab E;go_wp2_with(at_builtin;refine gK ?_);refine⟨?_,trivial⟩;refine ie ma.ar (by decide) (v:=.slice Ao k co) rfl (.tmp 31) (.tmp 34) 24 rfl ad2 y rfl T.out rfl E.out rfl (by simp[Value.oneCell']) (show wr.heap.size<=w6.heap.size by omega) (ma.ar.wide o8.out za (am _)) (am _) (by have:=G.out;omega) (by omega) ?_;intro v9 w9 o9 O a9;obtain⟨A9,c9,rfl⟩:=o9.form;rw[aE,mw,G.out] at o9;rw[aE,mw,G.out];have q:∀b,(Value.slice Ao k co).ownBlock=some b->wp.heap.size<=b:=λb M=>(T.out.ob M).1;replace m:=aQ m O (λt=>by have:=q _ t;omega);replace j:=aQ j O (λt=>by have:=q _ t;omega);replace d:=aQ d O (λt=>by have:=q _ t;omega);replace L:=d.cell;replace U:=d.frozen;replace W:=bH.ar.fe W O (λb _ M _ t=>by have:=q b t;omega);go_wp2;have a2:Below w.heap.size w w9:=Q.trans (O.below Q.size λi hi t=>by have:=q i t;omega);have z9:=O.size;go_roundw
     case rel=>
      refine⟨k+1,.slice A9 (k+1) c9,by omega,by go_num, ?_, ?_,bZ m (p:=⟨w.heap.size+1+1,1,none⟩) _ (by dsimp only;omega),bZ j (p:=⟨w.heap.size+1+1,1,none⟩) _ (by dsimp only;omega), ?_,a2.setCell (by dsimp only;omega) _,by simp only[be];omega⟩
      .rw[HN.out];exact bW.ar.loc.go (λb M _=>iS _ _ _ _ (by dsimp only;omega)) (am _) (by simp only[be];exact am _) o9
      .exact bH.ar.loc.go (λb M _=>iS _ _ _ _ (by dsimp only;omega)) (am _) (am _) W
      .have:=d.bj 1 (.slice A9 (k+1) c9);simpa using this
     case measure=>simp[intOf];omega
    .obtain rfl:k=s.sn.length:=by omega
     rw[ip] at r;have X:=j.cell;have L:=d.cell;have dW:=m.frozen;have dz:=j.frozen;have U:=d.frozen;have aa:=ab r;have a8:=ab W;go_wp2;have jd:=bB.good (F:=oQ) h3;refine(ao3 s.lg _ wr lo hi (cj.loc.below h3 o aR) (ap aR o.size) (by omega)).mono ?_;rintro e w5 ⟨v5,rfl,I,N⟩;replace m:=ah m N;replace cQ:=m.cell;replace dW:=m.frozen;replace j:=ah j N;replace X:=j.cell;replace dz:=j.frozen;replace d:=ah d N;replace L:=d.cell;replace U:=d.frozen;obtain⟨A5,c5,rfl⟩:=I.form;have z5:=N.size;have HO:=ab (I.aat jd N.size λg hg=>(I.at_ hg).2);have ay:=ab (bW.ar.below aa.out N (am _));have aU:=ab (bH.ar.below a8.out N (by omega));go_wp2;have a4:∀(u0 u1 u2 u3:Value) (b:Nat),w0.heap.size<=b->((((w5.setCell ⟨w.heap.size+1+1,2,none⟩ u0).setCell ⟨w.heap.size+1,0,none⟩ u1).setCell ⟨w.heap.size+1,1,none⟩ u2).setCell ⟨w.heap.size+1,2,none⟩ u3).heap[b]?=w5.heap[b]?:=λu0 u1 u2 u3 b M=>by
      rw[iS _ _ _ _ (by dsimp only;omega),iS _ _ _ _ (by dsimp only;omega),iS _ _ _ _ (by dsimp only;omega),iS _ _ _ _ (by dsimp only;omega)]
     exact nf (v:=.agg #[_,_,_]) (by simp[results,results15,go_sem,X,L]) rfl ⟨_,_,_,rfl,
      ⟨bH.ar.loc.go (λb M _=>a4 _ _ _ _ b M) (by omega) (by simp only[be];omega) aU.out,bW.ar.loc.go (λb M _=>a4 _ _ _ _ b (by omega)) (by omega) (by simp only[be];omega) ay.out,dF.ar.loc.go (λb M _=>a4 _ _ _ _ b (by omega)) (by omega) (by simp only[be];exact am _) HO.out⟩,
      ((((ag o N).setCell (by dsimp only;omega) _).setCell (by dsimp only;omega) _).setCell (by dsimp only;omega) _).setCell (by dsimp only;omega) _⟩
end
section
variable {β:Bool}
open Go.RowKit
section
variable {α:Type} {E:fW α} {T:List TypeId} {e:TypeId}
def Els.adk {w:World} {xs:List α} {m:Nat->Nat} (g:S.length=xs.length*U) (v:∀u∈S,u.oneCell'=true) (p:∀i,m i<=m (i+1)) (l:Z<=m 0)
  (f:∀i x,xs[i]?=some x->∃a:List Value,a.length=U/\E w (m i) (m (i+1)) x a/\∀j u,a[j]?=some u->S[i*U+j]?=some u) (s:j<=xs.length):Els E U w Z (m j) (xs.take j) (S.take (j*U)):=by
 have b:(xs.take j).length=j:=by rw[fa];omega
 have o:j*U<=xs.length*U:=qP _ s;refine⟨by rw[fa,b,g];omega,λu c=>v u (pu c),m,p,l,by rw[b];exact am _,λi x d=> ?_⟩;rw[qA] at d;split at d
 .rename_i e;obtain⟨a,q,k,r⟩:=f i x d;refine⟨a,q,k,λt u c=> ?_⟩;have y:=aD c;have n:(i+1)*U<=j*U:=qP _ e;rw[rz] at n;rw[qA,eg (by omega)];exact r t u c
 .cases d
def Els.wide{w:World}{xs:List α}(h:Els E U w Z hi xs S)(d:hi<=hi'):Els E U w Z hi' xs S:=by
 obtain⟨a,b,m,f,c,e,g⟩:=h;exact⟨a,b,m,f,c,ap e d,g⟩
def fM(e:TypeId)(E:fW α)(w:World)(lo hi g N:Nat)(xs:List α)(p:α->Bool)(j:Nat):Prop:=
 ∃(a:Array Value) (m:Nat->Nat) (b:Nat->List Value) (cells:List Value),aX w g e a/\a.size=N/\lo<=g/\g<hi/\xs.length*2<=N/\(∀i,m i<=m (i+1))/\lo<=m 0/\m xs.length<=hi/\
  (∀i x,xs[i]?=some x->(b i).length=2/\(∀u∈b i,u.oneCell'=true)/\E w (m i) (m (i+1)) x (b i))/\
  (∀(i:Nat) (x:α),j<=i->xs[i]?=some x->∀(t:Nat) (u:Value),(b i)[t]?=some u->a[i*2+t]?=some u)/\
  Els E 2 w lo (m j) ((xs.take j).filter λx=>!p x) cells/\∀(k:Nat) (u:Value),cells[k]?=some u->a[k]?=some u
def fM.start{w:World}{xs:List α}(h:aP e E 2 w Z hi xs [.slice (some ⟨g,0,none⟩) n c])(p:α->Bool)(V:j<=xs.length)(P:∀y∈xs.take j,p y=false):fM e E w Z hi g (c*2) xs p j:=by
 obtain⟨W,cells,C,G,N,S,F,m,H,D,K,I⟩:=h;cases C;obtain⟨A,X,v⟩:=gV G;cases v;rcases G.2 with⟨s,_⟩|⟨Y,cap,o,s,M,O,z,J,B,R⟩
 .cases s
 cases s;have l:∀(k:Nat) (u:Value),cells[k]?=some u->o[k]?=some u:=λk u d=>by
  rw[<-R,qA] at d;split at d
  .simpa using d
  .cases d
 have f:∀i,∃q:List Value,∀x,xs[i]?=some x->q.length=2/\E w (m i) (m (i+1)) x q/\∀t u,q[t]?=some u->cells[i*2+t]?=some u:=λi=>by
  cases r:xs[i]? with
  |none=>exact⟨[],λx h=>by cases h⟩
  |some y=>
   obtain⟨q,C,v,U⟩:=I i y r;exact⟨q,λx h=>by cases h;exact⟨C,v,U⟩⟩
 refine⟨o,m,λi=>Classical.choose (f i),cells.take (j*2),O,B,M,N g rfl,qP _ z,H,D,K,λi x r=> ?_,λi x _ r t u d=> ?_, ?_,λk u d=> ?_⟩
 .obtain⟨a,b,c⟩:=wj (f i) x r;refine⟨a,λu d=> ?_,b⟩;obtain⟨t,L⟩:=se d;exact F u (de (c t u L))
 .obtain⟨a,b,c⟩:=wj (f i) x r;exact l _ _ (c t u d)
 .have Q:(xs.take j).filter (λx=>!p x)=xs.take j:=sG.2 λy T=>by rw[P y T];rfl
  rw[Q];exact Els.adk S F H D I V
 .rw[qA] at d;split at d
  .exact l k u d
  .cases d
def fM.keep(k:dM E T){w : World}{xs:List α}{p:α->Bool}(h:fM e E w Z hi g N xs p j)(a:Below w.heap.size w w')(H:hi<=w.heap.size)(C:j<=xs.length):fM e E w' Z hi g N xs p j:=by
 obtain⟨c,m,f,cells,s,D,F,t,v,d,o,q,n,A,r,B⟩:=h;refine⟨c,m,f,cells,ah s a,D,F,t,v,d,o,q,λi x l=> ?_,A,r.go k (λb _ G _=>a.block b ?_) (am _) (am _),B⟩
 .obtain⟨u,y,z⟩:=n i x l;have:=dN d (show i+1<=xs.length from aD l);exact⟨u,y,k.below z a (by omega)⟩
 .have:=dN d C;omega
def fM.drop{w:World}{xs:List α}{p:α->Bool}(h:fM e E w Z hi g N xs p j){x:α}(s:xs[j]?=some x)(d:p x=true):fM e E w Z hi g N xs p (j+1):=by
 obtain⟨a,m,b,cells,t,u,v,y,f,c,l,n,k,o,r,q⟩:=h;refine⟨a,m,b,cells,t,u,v,y,f,c,l,n,k,λi x hi=>o i x (by omega), ?_,q⟩;rw[li s,vh];have:[x].filter (λx=>!p x)=[]:=by simp[d]
 rw[this,sj];exact r.wide (c j)
def jW{xs:List α}{p:α->Bool}{x:α}(b:xs[j]?=some x)(a:p x=false):(xs.take (j+1)).filter (λx=>!p x)=(xs.take j).filter (λx=>!p x)++[x]:=by
 rw[li b,vh]
 congr 1
 simp[a]
def iO{xs:List α}{p:α->Bool}{x:α}(b:xs[j]?=some x)(a:p x=true):(xs.take (j+1)).filter (λx=>!p x)=(xs.take j).filter (λx=>!p x):=by
 rw[li b,vh];have:[x].filter (λx=>!p x)=[]:=by simp[a]
 rw[this,sj]
def fM.at_(z:dM E T)(K:e∉T){w:World}{xs:List α}{p:α->Bool}(h:fM e E w Z hi g N xs p j){x:α}(v:xs[j]?=some x) :
  ∃m S es,m<=S/\es.length=2/\E w m S x es/\(∀t u,es[t]?=some u->w.cell? ⟨g,j*2+t,none⟩=some u)/\
   ∀(d c:Value) (i:Nat),es=[d,c]->p x=false->i=((xs.take j).filter λx=>!p x).length->i<j->fM e E ((w.setCell ⟨g,i*2,none⟩ d).setCell ⟨g,i*2+1,none⟩ c) Z hi g N xs p (j+1):=by
 obtain⟨l,m,r,cells,I,U,a2,a3,a4,C,m2,X,P,R,O,b4⟩:=h;obtain⟨c1,c2,Q⟩:=P j x v;have a0:=aD v;refine⟨m j,m (j+1),r j,C j,c1,Q,λt u a=>by rw[I.cell];exact R j x (am _) v t u a,λd c i s hp hi a5=> ?_⟩;have jb:cells.length=i*2:=by rw[O.1,<-hi]
 have G:aX ((w.setCell ⟨g,i*2,none⟩ d).setCell ⟨g,i*2+1,none⟩ c) g e ((l.setIfInBounds (i*2) d).setIfInBounds (i*2+1) c):=(I.bj (i*2) d).bj (i*2+1) c;have H:¬Typed w T g:=λ⟨t,f,ds,hd⟩=>K (cI I hd▸f)
 have D:∀b,Typed w T b->((w.setCell ⟨g,i*2,none⟩ d).setCell ⟨g,i*2+1,none⟩ c).heap[b]?=w.heap[b]?:=λb f=>by
  have o:b≠g:=by rintro rfl;exact H f
  rw[iS _ _ _ _ o,iS _ _ _ _ o]
 have q:∀k,k≠i*2->k≠i*2+1->((l.setIfInBounds (i*2) d).setIfInBounds (i*2+1) c)[k]?=l[k]?:=λk J W=>by
  rw[oS,da (sI W),oS,da (sI J)]
 have A:∀u∈([d,c]:List Value),u.oneCell'=true:=λu a=>c2 u (by rw[s];exact a);refine⟨_,m,r,cells++[d,c],G,by simpa using U,a2,a3,a4,C,m2,X,λM L n=> ?_,λM L hi' n t u a=> ?_, ?_,λk u a=> ?_⟩
 .obtain⟨d1,V,d3⟩:=P M L n;exact⟨d1,V,z.go (λb _ _ f=>D b f) (am _) (am _) d3⟩
 .rw[q _ (by omega) (by omega)];exact R M L (by omega) n t u a
 .rw[jW v hp];have Y:=Els.snoc (E:=E) (O.go (fg:=Z) (hi':=m j) z (λb _ _ f=>D b f) (am _) (am _)) (y:=x) (es:=[d,c]) rfl A (C j) (z.go (λb _ _ f=>D b f) (am _) (am _) (by rw[<-s];exact Q));exact Y z.loc
 .rcases pr k cells.length with B|B
  .rw[qw B] at a;rw[q _ (by omega) (by omega)];exact b4 k u a
  .rw[qm B,jb] at a;have F:=aD a;simp only[gc,mp] at F;have a1:i*2+1<l.size:=by rw[U];omega
   rcases pr (k-i*2) 1 with J|J
   .obtain rfl:k=i*2:=by omega
    rw[tu] at a;simp at a;subst a;rw[oS,da (by omega),oS,eg rfl,eg (by omega)]
   .obtain rfl:k=i*2+1:=by omega
    rw[show i*2+1-i*2=1 by omega] at a;simp at a;subst a;rw[oS,eg rfl,eg (by simp;omega)]
def fM.frozen{w:World}{xs:List α}{p:α->Bool}(h:fM e E w Z hi g N xs p j)(k:Nat):w.frozen? ⟨g,k,none⟩=false:=by
 obtain⟨a,m,c,cells,b,_⟩:=h;exact b.frozen k
def fM.there{w:World}{xs:List α}{p:α->Bool}(h:fM e E w Z hi g N xs p j)(d:k<N):∃u,w.cell? ⟨g,k,none⟩=some u:=by
 obtain⟨a,m,b,cells,c,f,_⟩:=h;rw[c.cell];exact⟨_,gn (by omega)⟩
def fM.end_(D:dM E T)(s:e∉T){w:World}{xs:List α}{p:α->Bool}(h:fM e E w Z hi g N xs p xs.length)(V:N=c*2)(M:c<=maxLen) :
  ∃d,aX w g e d/\d.size=N/\∀(f:World) (a:Array Value),aX f g e a->a.size=N->(∀k,k<(xs.filter λx=>!p x).length*2->a[k]?=d[k]?)->bh (λb=>b=g) w f->
   aP e E 2 f Z hi (xs.filter λx=>!p x) [.slice (some ⟨g,0,none⟩) (xs.filter λx=>!p x).length c]:=by
 obtain⟨d,m,H,cells,z,K,J,B,Q,S,P,A,O,R,n,I⟩:=h;rw[ip] at n;refine⟨d,z,K,λf a G U q v=> ?_⟩;have o:¬Typed w T g:=λ⟨t,i,C,hd⟩=>s (cI z hd▸i)
 have L:=n.1;have F:(xs.filter λx=>!p x).length<=xs.length:=rZ _ _;refine⟨_,cells,rfl,⟨L,.inr ⟨g,c,a,rfl,J,G,by omega,M,by omega, ?_⟩⟩,λb l=>by cases l;exact B,(n.go (fg:=Z) (hi':=m xs.length) D (λb _ _ i=> ?_) (am _) (am _)).wide A⟩
 .apply tN;intro k;rw[qA];split
  .rename_i j;have r:k<cells.length:=by omega
   rw[jp r];have y:=I k _ (jp r);rw[<-q k j] at y;rw[<-y];simp
  .rw[rq (by omega)]
 .obtain⟨t,r,C,hd⟩:=id i;exact v.block b hd.lt λl=>by
   have u:b=g:=l;subst u;exact o i
end
def aaK{P:Program}(w:World)(t e' ty j:TypeId)(z:Value)(l g o n c:Nat)(a:Array Value)(C:P.underlying t=some (.slice e'))(F:∀w,(zeroValue e').run P w=.ok z w)(E:z.cells.size=l)(D:∀u∈z.cells.toList,u.oneCell'=true)(y:aX w g j a)(K:0<n)(B:o+n*l<=a.size)(I:0<l) :
  ∃(q:World) (d:Array Value),(Builtin.clear_ #[t] ty #[.slice (some ⟨g,o,none⟩) n c]).run P w=.ok (.tuple #[]) q/\aX q g j d/\d.size=a.size/\(∀k,k<o->d[k]?=a[k]?)/\bh (λb=>b=g) w q:=by
 have f:(Builtin.zeroCells z.cells n).toList.length=n*l:=by simp[Builtin.zeroCells,E]
 have v:∀u∈(Builtin.zeroCells z.cells n).toList,u.oneCell'=true:=by
  intro u A;simp only[Builtin.zeroCells,qG,qu] at A;obtain⟨i,_,rfl⟩:=A;have p:i % z.cells.size<z.cells.size:=tG _ (by omega);rw[getElem!_pos z.cells (i % z.cells.size) p];exact D _ (by simp)
 have s:=run_storeCells_at P g o j (Builtin.zeroCells z.cells n).toList 0 a w y (by rw[f];omega) v;refine⟨_,(a.toList.take (o+0)++(Builtin.zeroCells z.cells n).toList++a.toList.drop (o+0+(Builtin.zeroCells z.cells n).toList.length)).toArray, ?_,setRow_heap w g a _ j _ y, ?_,λk J=> ?_, ?_⟩
 rotate_left
 .have G:a.toList.length=a.size:=by simp
  simp only[rS,aE,fa,qr,f,G];omega
 .rw[we,th,qw (by simp only[fa,qS];omega),qA,eg (by omega)];simp
 .refine⟨rfl,rfl,rfl,by simp[World.setRow],λb H r=> ?_⟩;have x:¬g=b:=λe=>r e.symm;simp[World.setRow,pm,x]
 .obtain⟨m,rfl⟩:∃m,n=m+1:=⟨n-1,by omega⟩;simp[Builtin.clear_,mu C,F,s]
end
section
variable {β:Bool}
open Go.RowKit
def ao4(F:Nat)(dO:Array Value)(p:Int->Bool)(Q:World->Prop):Prop:=∀(n:Int) (A:Option Addr) (m c:Nat) (a:World),Q a->Calls (ai β) F (#[.agg #[.int .i64 n,.slice A m c]]++dO) a λe b=>e=.returned (.bool (p n))/\Below a.heap.size a b
def arN{α:Type}(xs:List α)(p:α->Bool)(e:Ending):Prop:=(e=.returned (.int .i64 (-1))/\∀y∈xs,p y=false)\/∃(i:Nat) (x:α),e=.returned (.int .i64 i)/\xs[i]?=some x/\p x=true/\∀y∈xs.take i,p y=false
def ahE(F:Nat)(t:Array Value)(p:Int->Bool)(xs:List Pk)(v:Value)(w:World)(J hi:Nat)(h:iL w J hi xs [v])(I:hi<=w.heap.size)(D:aa7 (β:=β) F)(n:ao4 (β:=β) F t p λi=>Below w.heap.size w i) :
  Calls (ai β) 73 #[v,.func (.func F) #[] t] w λe i=>arN xs (λx=>p x.no) e/\Below w.heap.size w i:=by
 obtain⟨A,c,rfl⟩:=bB.form h;obtain⟨_,M,H⟩:=h.len_;unfold maxLen at H;replace n:=ab n;go_enter zu,ntmps73;go_wp2;go_loopw [8] (λu wr=>∃k:Nat,k<=xs.length/\u=.int .i64 k/\(∀y∈xs.take k,p y.no=false)/\Below w.heap.size w wr) (λu _=>xs.length-(intOf u).toNat)
 case atStart=>exact⟨0,ff _,rfl,by simp,du _ _⟩
 case round=>
  obtain⟨k,L,rfl,g,a⟩:=hrel;replace g:=ab g;by_cases r:k<xs.length
  .obtain⟨x,m⟩:=aq r;obtain⟨b,l,P,B,_,E,_,⟨O,rfl,z,G⟩,j⟩:=(iL.loc.below h a I).at_ m;subst B;obtain⟨q,o,rfl⟩:=bB.form G;have C:wr.cell? ⟨b,l+k*2,none⟩=some (.int .i64 x.no):=by simpa using j 0 _ rfl
   have K:wr.cell? ⟨b,l+k*2+1,none⟩=some (.slice q x.its.length o):=by simpa using j 1 _ rfl
   replace m:=ab m;have N:=D (#[.agg #[.int .i64 x.no,.slice q x.its.length o]]++t) wr;cases d:p x.no
   .replace d:=ab d;go_wp2;refine(n.out x.no q x.its.length o wr a).mono ?_;rintro e i ⟨rfl,s⟩;rw[d.out];go_wp2;go_roundw
    case rel=>
     refine⟨k+1,by omega,by go_num,λy f=> ?_,ag a s⟩;rw[li m.out,oR] at f;rcases f with f|f
     .exact g.out y f
     .rw[pi.1 f];exact d.out
    case measure=>simp[intOf];omega
   .replace d:=ab d;go_wp2;refine(n.out x.no q x.its.length o wr a).mono ?_;rintro e i ⟨rfl,s⟩;rw[d.out];go_wp2;go_ret;exact⟨.inr ⟨k,x,rfl,m.out,d.out,g.out⟩,ag a s⟩
  .obtain rfl:k=xs.length:=by omega
   rw[ip] at g;go_wp2;go_ret;exact⟨.inl ⟨rfl,g.out⟩,a⟩
def ahF(F:Nat)(t:Array Value)(p:Int->Bool)(xs:List Sn)(v:Value)(w:World)(J hi:Nat)(h:gZ w J hi xs [v])(I:hi<=w.heap.size)(D:aa7 (β:=β) F)(n:ao4 (β:=β) F t p λi=>Below w.heap.size w i) :
  Calls (ai β) 28 #[v,.func (.func F) #[] t] w λe i=>arN xs (λx=>p x.no) e/\Below w.heap.size w i:=by
 obtain⟨A,c,rfl⟩:=bB.form h;obtain⟨_,M,H⟩:=h.len_;unfold maxLen at H;replace n:=ab n;go_enter yh,ntmps28;go_wp2;go_loopw [8] (λu wr=>∃k:Nat,k<=xs.length/\u=.int .i64 k/\(∀y∈xs.take k,p y.no=false)/\Below w.heap.size w wr) (λu _=>xs.length-(intOf u).toNat)
 case atStart=>exact⟨0,ff _,rfl,by simp,du _ _⟩
 case round=>
  obtain⟨k,L,rfl,g,a⟩:=hrel;replace g:=ab g;by_cases r:k<xs.length
  .obtain⟨x,m⟩:=aq r;obtain⟨b,l,P,B,_,E,_,⟨O,rfl,z,G⟩,j⟩:=(gZ.loc.below h a I).at_ m;subst B;obtain⟨q,o,rfl⟩:=bB.form G;have C:wr.cell? ⟨b,l+k*2,none⟩=some (.int .i64 x.no):=by simpa using j 0 _ rfl
   have K:wr.cell? ⟨b,l+k*2+1,none⟩=some (.slice q x.all.length o):=by simpa using j 1 _ rfl
   replace m:=ab m;have N:=D (#[.agg #[.int .i64 x.no,.slice q x.all.length o]]++t) wr;cases d:p x.no
   .replace d:=ab d;go_wp2;refine(n.out x.no q x.all.length o wr a).mono ?_;rintro e i ⟨rfl,s⟩;rw[d.out];go_wp2;go_roundw
    case rel=>
     refine⟨k+1,by omega,by go_num,λy f=> ?_,ag a s⟩;rw[li m.out,oR] at f;rcases f with f|f
     .exact g.out y f
     .rw[pi.1 f];exact d.out
    case measure=>simp[intOf];omega
   .replace d:=ab d;go_wp2;refine(n.out x.no q x.all.length o wr a).mono ?_;rintro e i ⟨rfl,s⟩;rw[d.out];go_wp2;go_ret;exact⟨.inr ⟨k,x,rfl,m.out,d.out,g.out⟩,ag a s⟩
  .obtain rfl:k=xs.length:=by omega
   rw[ip] at g;go_wp2;go_ret;exact⟨.inl ⟨rfl,g.out⟩,a⟩
def au3(w:World):(zeroValue 59).run (ai β) w=.ok (.agg #[.int .i64 0,.slice none 0 0]) w:=by
 simp[go_sem]
def afG(F:Nat)(dO:Array Value)(p:Int->Bool)(xs:List Pk)(v:Value)(w:World)(H hi:Nat)(h:bH w H hi xs [v])(aR:hi<=w.heap.size)(hF:aa7 (β:=β) F)(hf:ao4 (β:=β) F dO p λI=>bh (λb=>H<=b/\b<hi/\Typed w [59] b) w I) :
  Calls (ai β) 43 #[v,.func (.func F) #[] dO] w λe I=>∃v',e=.returned v'/\bH I H hi (xs.filter λx=>!p x.no) [v']/\bh (λb=>H<=b/\b<hi/\Typed w [59] b) w I:=by
 obtain⟨A,c,rfl⟩:=aP.form h;obtain⟨_,hc,hx⟩:=(bH.l h).len_;have ax:=hx;unfold maxLen at hx;replace hf:=ab hf;go_enter zM,ntmps43;go_wp2;refine(ahE F dO p xs _ w H hi (bH.l h) aR hF (λn A m c I hb=>hf.out n A m c I (bh.aM hb))).mono ?_;rintro e w1 ⟨a6,b1⟩;have X:bh (λb=>H<=b/\b<hi/\Typed w [59] b) w w1:=bh.aM b1;have h1:=bH.ar.below h b1 aR;rcases a6 with⟨rfl,a⟩|⟨i,x0,rfl,D,W,a⟩
 .have M:xs.filter (λx=>!p x.no)=xs:=sG.2 λy hy=>by have h2:p y.no=false:=a y hy;rw[h2];rfl
  replace M:=ab M;clear a;go_wp2;go_ret;exact⟨_,rfl,by rw[M.out];exact h1,X⟩
 .have a4:=aD D;obtain⟨g,c',e,L,E,b3,a8,a5⟩:=aP.some_ h1 (by omega);simp only[nF] at e;obtain⟨rfl, -,rfl⟩:=e;have U:Typed w [59] g:=lJ X (T:=[59]) (λt ht=>ht) E aR (λhs=>hs.2.2) ⟨_,qD,a8,a5⟩;have d0:=(fM.start h1 (λx=>p x.no) (Nat.le_of_lt a4) a).drop D W;have a3:(xs.take (i+1)).filter (λx=>!p x.no)=xs.take i:=by
   rw[iO (p:=λx=>p x.no) D W];exact sG.2 λy hy=>by have h2:p y.no=false:=a y hy;rw[h2];rfl
  have u:((xs.take (i+1)).filter λx=>!p x.no).length=i:=by rw[a3,fa];omega
  replace d0:=ab d0;replace u:=ab u;clear a3 D W a a5 h1;have a7:((i:Int)==-1)=false:=by rw[dk];omega
  go_wp2;go_loopw [5,6] (λii jj wr=>∃i j:Nat,ii=.int .i64 i/\jj=.int .i64 j/\i<j/\j<=xs.length/\i=((xs.take j).filter λx=>!p x.no).length/\fM 59 kL wr H hi g (c*2) xs (λx=>p x.no) j/\bh (λb=>H<=b/\b<hi/\Typed w [59] b) w wr) (λ_ jj _=>xs.length-(intOf jj).toNat)
  case atStart=>exact⟨i,i+1,rfl,by go_num,by omega,by omega,u.out.symm,d0.out,X⟩
  case round=>
   clear d0 u a7 a4;obtain⟨i,j,rfl,rfl,ao,hj,f,hd,fV⟩:=hrel;have B:=ab f;clear f;have b0:=fV.size;by_cases af:j<xs.length
   .obtain⟨x,J⟩:=aq af;obtain⟨m,m',es,hm,aF,⟨v2,rfl,aJ,hr⟩,l, -⟩:=fM.at_ kL.ar (by decide) hd J;obtain⟨s,r,rfl⟩:=aP.form hr;have ay:wr.cell? ⟨g,j*2,none⟩=some (.int .i64 x.no):=l 0 _ rfl;have pN:wr.cell? ⟨g,j*2+1,none⟩=some (.slice s x.its.length r):=l 1 _ rfl;replace J:=ab J;clear l hr;have ba:=av wr (.cells #[.int .i64 x.no,.slice s x.its.length r] 59);have eU:=hF (#[.agg #[.int .i64 x.no,.slice s x.its.length r]]++dO) (wr.alloc (.cells #[.int .i64 x.no,.slice s x.its.length r] 59));have z:=fV.alloc (.cells #[.int .i64 x.no,.slice s x.its.length r] 59);have G:aX (wr.alloc (.cells #[.int .i64 x.no,.slice s x.its.length r] 59)) wr.heap.size 59 #[.int .i64 x.no,.slice s x.its.length r]:=aX.new _ _ _;replace G:=ab G;replace z:=ab z;replace ba:=ab ba;go_wp2;refine(hf.out x.no s x.its.length r _ z.out).mono ?_;rintro e w2 ⟨rfl,b2⟩;have C:Below wr.heap.size wr w2:=ag ba.out b2;have N:=fV.trans (bh.aM (S:=λ_=>False) C) λ_ _ h=>h.elim;have Q:=aT C pN;have d:=hd.keep kL.ar C (by omega) hj;have V:=ah G.out b2;have b9:w2.cell? ⟨wr.heap.size,0,none⟩=some (.int .i64 x.no):=V.cell 0;have aU:w2.cell? ⟨wr.heap.size,1,none⟩=some (.slice s x.its.length r):=V.cell 1;clear hd fV ay pN eU G z ba b2 C V;cases hp:p x.no
    .obtain⟨m,m',es,hm,aF,⟨v3,e3,b5,a0⟩,l,a2⟩:=fM.at_ kL.ar (by decide) d J.out;obtain⟨A3,c3,rfl⟩:=aP.form a0;subst e3;obtain⟨eA,eC⟩:A3=s/\c3=r:=by
      have q1:=(l 1 _ rfl).symm.trans Q;simp only[mt,nF] at q1;exact⟨q1.1,q1.2.2⟩
     subst eA eC;clear Q;have ad:=ab (a2 _ _ i rfl hp B.out ao);have q:i+1=((xs.take (j+1)).filter λx=>!p x.no).length:=by rw[jW (p:=λx=>p x.no) J.out hp,aE,<-B.out];rfl
     have R:=ab q;obtain⟨q0,b4⟩:=d.there (k:=i*2) (by omega);obtain⟨q1,b7⟩:=d.there (k:=i*2+1) (by omega);have aZ:=d.frozen (i*2);have b8:=d.frozen (i*2+1);have K:=(N.setCell (p:=⟨g,i*2,none⟩) (.inl ⟨L,E,U⟩) (.int .i64 x.no)).setCell (p:=⟨g,i*2+1,none⟩) (.inl ⟨L,E,U⟩) (.slice A3 x.its.length c3);replace K:=ab K;clear l a2 a0 q d N;go_wp2;go_roundw
     case rel=>exact⟨i+1,j+1,by go_num,by go_num,by omega,by omega,R.out,ad.out,K.out⟩
     simp[intOf];omega
    .have q:i=((xs.take (j+1)).filter λx=>!p x.no).length:=by rw[iO (p:=λx=>p x.no) J.out hp];exact B.out
     have R:=ab q;have al:=ab (d.drop J.out hp);clear q hp d Q;go_wp2;go_roundw
     case rel=>exact⟨i,j+1,rfl,by go_num,by omega,by omega,R.out,al.out,N⟩
     simp[intOf];omega
   .obtain rfl:j=xs.length:=by omega
    have f:=B.out;rw[ip] at f;obtain⟨a9,Z,aa,o⟩:=hd.end_ kL.ar (by decide) rfl ax;replace o:=ab o;obtain⟨I,Y,aH,oV,b6,a1,O⟩:=aaK (P:=(ai β)) wr 23 59 0 59 (.agg #[.int .i64 0,.slice none 0 0]) 2 g (i*2) (xs.length-i) (c-i) a9 xM (au3) rfl (by decide) Z (by omega) (by omega) (by decide);have ho:=o.out I Y oV (by omega) (λk hk=>a1 k (by rw[f];exact hk)) O;rw[<-f] at ho;have HO:=ab ho;have an:=fV.trans O λb _ hb=>(show b=g from hb)▸⟨L,E,U⟩;clear f ho O a1 Z aa hd oV;go_wp2;go_ret;exact⟨_,rfl,HO.out,an⟩
def au4(w:World):(zeroValue 63).run (ai β) w=.ok (.agg #[.int .i64 0,.slice none 0 0]) w:=by
 simp[go_sem]
def afH(F:Nat)(dO:Array Value)(p:Int->Bool)(xs:List Sn)(v:Value)(w:World)(H hi:Nat)(h:bW w H hi xs [v])(aR:hi<=w.heap.size)(hF:aa7 (β:=β) F)(hf:ao4 (β:=β) F dO p λI=>bh (λb=>H<=b/\b<hi/\Typed w [63] b) w I) :
  Calls (ai β) 46 #[v,.func (.func F) #[] dO] w λe I=>∃v',e=.returned v'/\bW I H hi (xs.filter λx=>!p x.no) [v']/\bh (λb=>H<=b/\b<hi/\Typed w [63] b) w I:=by
 obtain⟨A,c,rfl⟩:=aP.form h;obtain⟨_,hc,hx⟩:=(bW.l h).len_;have ax:=hx;unfold maxLen at hx;replace hf:=ab hf;go_enter zL,ntmps46;go_wp2;refine(ahF F dO p xs _ w H hi (bW.l h) aR hF (λn A m c I hb=>hf.out n A m c I (bh.aM hb))).mono ?_;rintro e w1 ⟨a6,b1⟩;have X:bh (λb=>H<=b/\b<hi/\Typed w [63] b) w w1:=bh.aM b1;have h1:=bW.ar.below h b1 aR;rcases a6 with⟨rfl,a⟩|⟨i,x0,rfl,D,W,a⟩
 .have M:xs.filter (λx=>!p x.no)=xs:=sG.2 λy hy=>by have h2:p y.no=false:=a y hy;rw[h2];rfl
  replace M:=ab M;clear a;go_wp2;go_ret;exact⟨_,rfl,by rw[M.out];exact h1,X⟩
 .have a4:=aD D;obtain⟨g,c',e,L,E,b3,a8,a5⟩:=aP.some_ h1 (by omega);simp only[nF] at e;obtain⟨rfl, -,rfl⟩:=e;have U:Typed w [63] g:=lJ X (T:=[63]) (λt ht=>ht) E aR (λhs=>hs.2.2) ⟨_,qD,a8,a5⟩;have d0:=(fM.start h1 (λx=>p x.no) (Nat.le_of_lt a4) a).drop D W;have a3:(xs.take (i+1)).filter (λx=>!p x.no)=xs.take i:=by
   rw[iO (p:=λx=>p x.no) D W];exact sG.2 λy hy=>by have h2:p y.no=false:=a y hy;rw[h2];rfl
  have u:((xs.take (i+1)).filter λx=>!p x.no).length=i:=by rw[a3,fa];omega
  replace d0:=ab d0;replace u:=ab u;clear a3 D W a a5 h1;have a7:((i:Int)==-1)=false:=by rw[dk];omega
  go_wp2;go_loopw [5,6] (λii jj wr=>∃i j:Nat,ii=.int .i64 i/\jj=.int .i64 j/\i<j/\j<=xs.length/\i=((xs.take j).filter λx=>!p x.no).length/\fM 63 ma wr H hi g (c*2) xs (λx=>p x.no) j/\bh (λb=>H<=b/\b<hi/\Typed w [63] b) w wr) (λ_ jj _=>xs.length-(intOf jj).toNat)
  case atStart=>exact⟨i,i+1,rfl,by go_num,by omega,by omega,u.out.symm,d0.out,X⟩
  case round=>
   clear d0 u a7 a4;obtain⟨i,j,rfl,rfl,ao,hj,f,hd,fV⟩:=hrel;have B:=ab f;clear f;have b0:=fV.size;by_cases af:j<xs.length
   .obtain⟨x,J⟩:=aq af;obtain⟨m,m',es,hm,aF,⟨v2,rfl,aJ,hr⟩,l, -⟩:=fM.at_ ma.ar (by decide) hd J;obtain⟨s,r,rfl⟩:=aP.form hr;have ay:wr.cell? ⟨g,j*2,none⟩=some (.int .i64 x.no):=l 0 _ rfl;have pN:wr.cell? ⟨g,j*2+1,none⟩=some (.slice s x.all.length r):=l 1 _ rfl;replace J:=ab J;clear l hr;have ba:=av wr (.cells #[.int .i64 x.no,.slice s x.all.length r] 63);have eU:=hF (#[.agg #[.int .i64 x.no,.slice s x.all.length r]]++dO) (wr.alloc (.cells #[.int .i64 x.no,.slice s x.all.length r] 63));have z:=fV.alloc (.cells #[.int .i64 x.no,.slice s x.all.length r] 63);have G:aX (wr.alloc (.cells #[.int .i64 x.no,.slice s x.all.length r] 63)) wr.heap.size 63 #[.int .i64 x.no,.slice s x.all.length r]:=aX.new _ _ _;replace G:=ab G;replace z:=ab z;replace ba:=ab ba;go_wp2;refine(hf.out x.no s x.all.length r _ z.out).mono ?_;rintro e w2 ⟨rfl,b2⟩;have C:Below wr.heap.size wr w2:=ag ba.out b2;have N:=fV.trans (bh.aM (S:=λ_=>False) C) λ_ _ h=>h.elim;have Q:=aT C pN;have d:=hd.keep ma.ar C (by omega) hj;have V:=ah G.out b2;have b9:w2.cell? ⟨wr.heap.size,0,none⟩=some (.int .i64 x.no):=V.cell 0;have aU:w2.cell? ⟨wr.heap.size,1,none⟩=some (.slice s x.all.length r):=V.cell 1;clear hd fV ay pN eU G z ba b2 C V;cases hp:p x.no
    .obtain⟨m,m',es,hm,aF,⟨v3,e3,b5,a0⟩,l,a2⟩:=fM.at_ ma.ar (by decide) d J.out;obtain⟨A3,c3,rfl⟩:=aP.form a0;subst e3;obtain⟨eA,eC⟩:A3=s/\c3=r:=by
      have q1:=(l 1 _ rfl).symm.trans Q;simp only[mt,nF] at q1;exact⟨q1.1,q1.2.2⟩
     subst eA eC;clear Q;have ad:=ab (a2 _ _ i rfl hp B.out ao);have q:i+1=((xs.take (j+1)).filter λx=>!p x.no).length:=by rw[jW (p:=λx=>p x.no) J.out hp,aE,<-B.out];rfl
     have R:=ab q;obtain⟨q0,b4⟩:=d.there (k:=i*2) (by omega);obtain⟨q1,b7⟩:=d.there (k:=i*2+1) (by omega);have aZ:=d.frozen (i*2);have b8:=d.frozen (i*2+1);have K:=(N.setCell (p:=⟨g,i*2,none⟩) (.inl ⟨L,E,U⟩) (.int .i64 x.no)).setCell (p:=⟨g,i*2+1,none⟩) (.inl ⟨L,E,U⟩) (.slice A3 x.all.length c3);replace K:=ab K;clear l a2 a0 q d N;go_wp2;go_roundw
     case rel=>exact⟨i+1,j+1,by go_num,by go_num,by omega,by omega,R.out,ad.out,K.out⟩
     simp[intOf];omega
    .have q:i=((xs.take (j+1)).filter λx=>!p x.no).length:=by rw[iO (p:=λx=>p x.no) J.out hp];exact B.out
     have R:=ab q;have al:=ab (d.drop J.out hp);clear q hp d Q;go_wp2;go_roundw
     case rel=>exact⟨i,j+1,rfl,by go_num,by omega,by omega,R.out,al.out,N⟩
     simp[intOf];omega
   .obtain rfl:j=xs.length:=by omega
    have f:=B.out;rw[ip] at f;obtain⟨a9,Z,aa,o⟩:=hd.end_ ma.ar (by decide) rfl ax;replace o:=ab o;obtain⟨I,Y,aH,oV,b6,a1,O⟩:=aaK (P:=(ai β)) wr 24 63 0 63 (.agg #[.int .i64 0,.slice none 0 0]) 2 g (i*2) (xs.length-i) (c-i) a9 xL (au4) rfl (by decide) Z (by omega) (by omega) (by decide);have ho:=o.out I Y oV (by omega) (λk hk=>a1 k (by rw[f];exact hk)) O;rw[<-f] at ho;have HO:=ab ho;have an:=fV.trans O λb _ hb=>(show b=g from hb)▸⟨L,E,U⟩;clear f ho O a1 Z aa hd oV;go_wp2;go_ret;exact⟨_,rfl,HO.out,an⟩
end
section
variable {β:Bool}
open Go.RowKit
structure iU where
 k:Int
 n:Int
 m:Int
 b:ByteArray
def sd{α:Type}(l:List α)(i:Nat)(f:α->α):List α:=match l[i]? with|some x=>l.set i (f x)|none=>l
def oh{l:List Y}(h:l[i]?=some x)(f:Y->Y):sd l i f=l.set i (f x):=by unfold sd;rw[h]
def kZ(l:List Y)(i:Nat)(f:Y->Y):(sd l i f).length=l.length:=by
 unfold sd;split
 .rw[qY]
 .rfl
def fN(l:iU)(p:Pk):Pk:=if p.no=l.n/\0<=l.m/\l.m<p.its.length then⟨p.no,sd p.its l.m.toNat λx=>⟨x.n,l.b⟩⟩ else p
def jX(x:Hd):Hd:=⟨wrap64 (3-x.b),x.s⟩
def dK(s:dJ)(l:iU):dJ:=
 if l.k=1 then⟨s.pk.filter λp=>!(p.no ==l.n),s.sn,s.lg⟩
 else if l.k=2 then(if 0<=l.n/\l.n<=s.lg.length then⟨s.pk,s.sn.filter λx=>!((s.lg.drop l.n.toNat).any λh=>h.s ==x.no),s.lg.take l.n.toNat⟩ else s)
 else if l.k=3 then⟨s.pk.map (fN l),s.sn,s.lg⟩
 else if l.k=4 then(if 0<=l.n/\l.n<s.lg.length then⟨s.pk,s.sn,sd s.lg l.n.toNat jX⟩ else s)
 else s
def pO{l:iU}(h:l.k=1):dK s l=⟨s.pk.filter λp=>!(p.no ==l.n),s.sn,s.lg⟩:=by unfold dK;rw[eg h]
def mQ{l:iU}(h:l.k=2)(a:0<=l.n/\l.n<=s.lg.length):dK s l=⟨s.pk,s.sn.filter λx=>!((s.lg.drop l.n.toNat).any λh=>h.s ==x.no),s.lg.take l.n.toNat⟩:=by unfold dK;rw[da (by omega),eg h,eg a]
def kT{l:iU}(h:l.k=2)(a:¬(0<=l.n/\l.n<=s.lg.length)):dK s l=s:=by unfold dK;rw[da (by omega),eg h,da a]
def pP{l:iU}(h:l.k=3):dK s l=⟨s.pk.map (fN l),s.sn,s.lg⟩:=by unfold dK;rw[da (by omega),da (by omega),eg h]
def pQ{l:iU}(h:l.k=4)(a:0<=l.n/\l.n<s.lg.length):dK s l=⟨s.pk,s.sn,sd s.lg l.n.toNat jX⟩:=by unfold dK;rw[da (by omega),da (by omega),da (by omega),eg h,eg a]
def kU{l:iU}(h:l.k=4)(a:¬(0<=l.n/\l.n<s.lg.length)):dK s l=s:=by unfold dK;rw[da (by omega),da (by omega),da (by omega),eg h,da a]
def pR{l:iU}(a:¬l.k=1)(d:¬l.k=2)(b:¬l.k=3)(c:¬l.k=4):dK s l=s:=by unfold dK;rw[da a,da d,da b,da c]
def jJ:fW (List Hd):=λw e d b f=>∃(A:Option Addr) (c:Nat),f=[.slice A b.length c]/\b.length<=c/\c<=maxLen/\e<=d/\(∀x∈b,oQ.good x)/\
 (0<b.length->∃(g:Nat) (a:Array Value),A=some ⟨g,0,none⟩/\e<=g/\g<d/\aX w g 42 a/\∀(k:Nat) (u:Value),(eh oQ b)[k]?=some u->a[k]?=some u)
def jJ.ar:dM jJ [42]:=by
 refine⟨?_⟩;intro w p y t s n r v l x q h;obtain⟨A,c,rfl,a,b,u,d,e⟩:=h;refine⟨A,c,rfl,a,b,by omega,d,λj=> ?_⟩;obtain⟨g,f,rfl,k,m,i,o⟩:=e j;exact⟨g,f,rfl,by omega,by omega,(l g k m ⟨_,qD,f,i⟩).trans i,o⟩
def jJ.form{w:World}(h:jJ w Z hi xs [v]):∃A c,v=.slice A xs.length c:=by
 obtain⟨A,c,e,_⟩:=h;cases e;exact⟨A,c,rfl⟩
def dF.w{w:World}(h:dF w Z hi xs cs):jJ w Z hi xs cs:=by
 obtain⟨v,rfl⟩:∃v,cs=[v]:=by
  obtain⟨v,_,rfl,_⟩:=h;exact⟨v,rfl⟩
 obtain⟨j,f,a,p⟩:=aP.flat (F:=oQ) h;rcases j.2 with⟨rfl,l⟩|⟨g,cap,c,rfl,m,o,e,d,n,i⟩
 .exact⟨none,0,by rw[l],by omega,by unfold maxLen;omega,a,f,λq=>by omega⟩
 .refine⟨_,cap,rfl,e,d,a,f,λ_=>⟨g,c,rfl,m,p g rfl,o,λk u b=> ?_⟩⟩;rw[<-i,qA] at b;split at b
  .simpa using b
  .cases b
def jJ.l{w:World}(h:jJ w Z hi xs cs):cj w Z hi xs cs:=by
 obtain⟨A,c,rfl,a,b,q,d,e⟩:=h;refine⟨A,c,rfl,a,b,λk=> ?_⟩;obtain⟨g,f,rfl,l,n,o,p⟩:=e k;refine⟨g,0,rfl,l,n,λi x hi=>⟨oQ.cells x,rfl,⟨rfl,d x (de hi)⟩,λj u m=> ?_⟩⟩;rw[o.cell,me];exact p _ _ (eB oQ xs i j x u hi m)
def jJ.adk{w:World}(h:jJ w Z hi xs [.slice A n c])(B:k<=xs.length):jJ w Z hi (xs.take k) [.slice A k k]:=by
 obtain⟨A',z,e,a,b,y,d,f⟩:=h;simp only[qj,nF,qx] at e;obtain⟨rfl,rfl,rfl⟩:=e;have s:(xs.take k).length=k:=by rw[fa];omega
 refine⟨_,k,by rw[s],by omega,by omega,y,λx v=>d x (pu v),λC=> ?_⟩;obtain⟨g,i,p,r,m,t,o⟩:=f (by omega);refine⟨g,i,p,r,m,t,λj u l=>o j u ?_⟩;have q:xs=xs.take k++xs.drop k:=(vZ k xs).symm;rw[q,nQ,qw (aD l)];exact l
def jJ.some_{w:World}(h:jJ w Z hi xs [v])(j:0<xs.length):∃g c,v=.slice (some ⟨g,0,none⟩) xs.length c/\Z<=g/\g<hi/\∃n,aX w g 42 n:=by
 obtain⟨A,c,e,a,b,o,d,f⟩:=h;cases e;obtain⟨g,i,rfl,k,l,m,_⟩:=f j;exact⟨g,c,rfl,k,l,i,m⟩
def jJ.at_{w:World}(h:jJ w Z hi xs [.slice (some ⟨g,0,none⟩) n c]){x:Hd}(j:xs[i]?=some x) :
  oQ.good x/\w.cell? ⟨g,i*2,none⟩=some (.int .i64 x.b)/\w.cell? ⟨g,i*2+1,none⟩=some (.int .i64 x.s):=by
 obtain⟨A,q,e,a,b,t,d,f⟩:=h;simp only[qj,nF,qx] at e;obtain⟨rfl,rfl,rfl⟩:=e;obtain⟨r,o,m,p,s,k,l⟩:=f (by have:=aD j;omega);simp only[mt,qC,qx] at m;subst m;refine⟨d x (de j), ?_, ?_⟩
 .rw[k.cell];exact l _ _ (eB oQ xs i 0 x _ j rfl)
 .rw[k.cell];exact l _ _ (eB oQ xs i 1 x _ j rfl)
def jJ.frozen{w:World}(h:jJ w Z hi xs [.slice (some ⟨g,0,none⟩) n c])(k:0<xs.length)(j:Nat):w.frozen? ⟨g,j,none⟩=false:=by
 obtain⟨A,p,e,a,b,t,d,f⟩:=h;simp only[qj,nF,qx] at e;obtain⟨rfl,rfl,rfl⟩:=e;obtain⟨q,l,i,o,r,m,s⟩:=f k;simp only[mt,qC,qx] at i;subst i;exact m.frozen j
def jJ.put{w:World}(h:jJ w Z hi xs [.slice (some ⟨g,0,none⟩) n c]){x y:Hd}{u:Value}(s:xs[i]?=some x)(K:j<2)(C:oQ.good y)(I:oQ.cells y=(oQ.cells x).set j u) :
  jJ (w.setCell ⟨g,i*2+j,none⟩ u) Z hi (xs.set i y) [.slice (some ⟨g,0,none⟩) n c]:=by
 obtain⟨A,M,e,a,b,L,d,f⟩:=h;simp only[qj,nF,qx] at e;obtain⟨rfl,rfl,rfl⟩:=e;have t:=aD s;obtain⟨N,l,r,H,D,E,q⟩:=f (by omega);simp only[mt,qC,qx] at r;subst r;refine⟨_,c,by rw[qY],by rw[qY];exact a,b,L,λz G=> ?_,λ_=>⟨g,l.setIfInBounds (i*2+j) u,rfl,H,D,E.bj _ _,λk v m=> ?_⟩⟩
 .rcases tj G with F|rfl
  .exact d z F
  .exact C
 .rw[acL xs i j x y u s K I] at m;by_cases o:i*2+j=k
  .subst o;have p:i*2+j<(eh oQ xs).length:=by rw[eu];show _<xs.length*2;omega
   rw[show oQ.sz=2 from rfl,rA p] at m;have B:=q _ _ (jp p);have J:i*2+j<l.size:=(dl.1 B).1;rw[oS,eg rfl,eg J];exact m
  .rw[show oQ.sz=2 from rfl,rN o] at m;rw[oS,da o];exact q k v m
structure pS (w:World) (lo hi:Nat) (s:dJ) (va vb vc:Value):Prop where
 pk:bH w lo hi s.pk [va]
 sn:bW w lo hi s.sn [vb]
 lg:jJ w lo hi s.lg [vc]
def eY.w{w:World}(h:eY w Z hi s X W V):pS w Z hi s X W V:=⟨h.pk,h.sn,dF.w h.lg⟩
def pS.go{w : World}(h:pS w Z hi s X W V)(d:∀b,Z<=b->b<hi->w'.heap[b]?=w.heap[b]?)(c:fg<=Z)(a:hi<=hi'):pS w' fg hi' s X W V:=
 ⟨bH.ar.loc.go d c a h.pk,bW.ar.loc.go d c a h.sn,jJ.ar.loc.go d c a h.lg⟩
def pS.below{w : World}(h:pS w Z hi s X W V)(a:Below B w w')(d:hi<=B):pS w' Z hi s X W V:=h.go (λb _ c=>a.block b (by omega)) (am _) (am _)
def pS.l{w:World}(h:pS w Z hi s X W V):fL w Z hi s X W V:=⟨bH.l h.pk,bW.l h.sn,jJ.l h.lg⟩
end
section
variable {β:Bool}
open Go.RowKit
abbrev nz(l:iU):Array Value:=#[.int .i64 l.k,.int .i64 l.n,.int .i64 l.m,.string l.b]
def ao5(s s':dJ)(w:World)(lo hi gs:Nat)(T:List TypeId)(e:Ending)(w':World):Prop:=
 e=.returned (.tuple #[])/\∃d a c,aX w' gs 27 #[d,a,c]/\pS w' lo hi s' d a c/\bh (λb=>b=gs\/(lo<=b/\b<hi/\Typed w T b)) w w'
def dC{w:World}{t:TypeId}{cs:Array Value}(a:aX w g t cs)(c:t∉T):¬Typed w T g:=λ⟨d,b,e,hd⟩=>c (cI a hd▸b)
def gM{w:World}{U : List TypeId}(h:Typed w U b)(d:∀t∈T,t∉U):¬Typed w T b:=λ⟨e,f,i,hd⟩=>by
 obtain⟨t,c,g,a⟩:=h;exact d e f (cI a hd▸c)
def aAy(l:iU)(b:Nat)(Q:World->Prop)(f:∀a,Q a->aX a b 29 (nz l)):ao4 (β:=β) 44 #[.pointer (some ⟨b,0,none⟩)] (λn=>n ==l.n) Q:=by
 intro n A m c a e;have k:=f a e;have g:a.cell? ⟨b,1,none⟩=some (.int .i64 l.n):=k.cell 1;show Calls _ _ #[.agg #[.int .i64 n,.slice A m c],.pointer (some ⟨b,0,none⟩)] _ _;have d:=av a (.cells #[.int .i64 n,.slice A m c] 59);have i:=aT d g;go_enter yd,ntmps44;go_wp2;go_ret;exact⟨rfl,d⟩
def ayd:aa7 (β:=β) 44:=adI yd (by kernel_rfl) rfl
def arP(s:dJ)(l:iU)(gs x:Nat)(F B G:Value)(w:World)(g hi:Nat)(h:pS w g hi s F B G)(S:hi<=w.heap.size)(o:aX w gs 27 #[F,B,G])(E:aX w x 29 (nz l))(J:l.k=1) :
  Calls (ai β) 42 #[.pointer (some ⟨gs,0,none⟩),.pointer (some ⟨x,0,none⟩)] w (ao5 s (dK s l) w g hi gs [59]):=by
 rw[pO J];obtain⟨C,H,Q⟩:=h;obtain⟨A,a,rfl⟩:=aP.form C;have Y:w.cell? ⟨gs,0,none⟩=some (.slice A s.pk.length a):=o.cell 0;go_enter ye,ntmps42;go_wp2;refine(afG 44 _ (λn=>n ==l.n) s.pk _ w g hi C S ayd (aAy l x _ λw' K=>aQ E K λo=>dC E (by decide) o.2.2)).mono ?_;rintro e d ⟨V,rfl,D,m⟩;obtain⟨k,r,rfl⟩:=aP.form D;have f:=aQ o m λq=>dC o (by decide) q.2.2;have R:d.cell? ⟨gs,0,none⟩=some (.slice A s.pk.length a):=f.cell 0;have X:=f.frozen 0;have W:=m.size;have y:=f.bj 0 (.slice k (s.pk.filter λp=>!(p.no ==l.n)).length r);have O:=bW.ar.go (w':=d) (fg:=g) (hi':=hi) (λb t v c=>m.block b (by omega) λq=>gM c (by decide) q.2.2) (am _) (am _) H;have P:=jJ.ar.go (w':=d) (fg:=g) (hi':=hi) (λb t v c=>m.block b (by omega) λq=>gM c (by decide) q.2.2) (am _) (am _) Q;have i:∀(u:Value) {T:List TypeId} (b:Nat),27∉T->Typed d T b->(d.setCell ⟨gs,0,none⟩ u).heap[b]?=d.heap[b]?:=λu T b L c=>iS _ _ _ _ (by rintro rfl;exact dC f L c);have M:=bH.ar.go (w':=d.setCell ⟨gs,0,none⟩ (.slice k (s.pk.filter λp=>!(p.no ==l.n)).length r)) (fg:=g) (hi':=hi) (λb t v c=>i _ b (by decide) c) (am _) (am _) D;have U:=bW.ar.go (w':=d.setCell ⟨gs,0,none⟩ (.slice k (s.pk.filter λp=>!(p.no ==l.n)).length r)) (fg:=g) (hi':=hi) (λb t v c=>i _ b (by decide) c) (am _) (am _) O;have N:=jJ.ar.go (w':=d.setCell ⟨gs,0,none⟩ (.slice k (s.pk.filter λp=>!(p.no ==l.n)).length r)) (fg:=g) (hi':=hi) (λb t v c=>i _ b (by decide) c) (am _) (am _) P;have z:=(m.mono (T:=λb=>b=gs\/(g<=b/\b<hi/\Typed w [59] b)) λb _ I=>.inr I).setCell (p:=⟨gs,0,none⟩) (.inl (.inl rfl)) (.slice k (s.pk.filter λp=>!(p.no ==l.n)).length r);have j:=ab (And.intro M (And.intro U (And.intro N (And.intro z y))));go_wp2
 go_end0
 exact⟨rfl,_,_,_,by simpa using j.out.2.2.2.2,⟨j.out.1,j.out.2.1,j.out.2.2.1⟩,j.out.2.2.2.1⟩
end
section
variable {β:Bool}
open Go.RowKit
def mA{α:Type}(f:α->α)(l:List α)(j:Nat):List α:=(l.take j).map f++l.drop j
def afc(f:Y->Y)(l:List Y):mA f l 0=l:=rfl
def ags(f:Y->Y)(l:List Y):mA f l l.length=l.map f:=by
 unfold mA;rw[ip,uH,sj]
def agt(f:Y->Y)(l:List Y)(j:Nat):(mA f l j).length=l.length:=by
 unfold mA;rw[aE,qi,fa,qr];omega
def acT(f:Y->Y){l:List Y}(h:l[j]?=some x):(mA f l j)[j]?=some x:=by
 unfold mA;have b:=aD h;have a:((l.take j).map f).length=j:=by rw[qi,fa];omega
 rw[qm (by omega),a,tu,sO,tv];exact h
def abk(f:Y->Y){l:List Y}(h:l[j]?=some x):(mA f l j).set j (f x)=mA f l (j+1):=by
 have a:=aD h;have b:((l.take j).map f).length=j:=by rw[qi,fa];omega
 unfold mA;rw[uM _ _ (by omega),b,tu,sb a,ef,li h,tH,th];rfl
def lN(f:Y->Y){l:List Y}(h:l[j]?=some x)(c:f x=x):mA f l (j+1)=mA f l j:=by
 rw[<-abk f h,c];have b:=acT f h;apply tN;intro k;by_cases a:j=k
 .subst a;rw[rA (aD b),b]
 .rw[rN a]
def pT{l:iU}{p:Pk}(h:¬(p.no=l.n/\0<=l.m/\l.m<p.its.length)):fN l p=p:=da h
def arQ(s:dJ)(l:iU)(gs gl:Nat)(va vb vc:Value)(w:World)(J hi:Nat)(h:pS w J hi s va vb vc)(aR:hi<=w.heap.size)(Y:aX w gs 27 #[va,vb,vc])(hl:aX w gl 29 (nz l))(hk:l.k=3)(aJ:l.b.size<=maxLen) :
  Calls (ai β) 50 #[.pointer (some ⟨gs,0,none⟩),.pointer (some ⟨gl,0,none⟩)] w (ao5 s (dK s l) w J hi gs [68]):=by
 rw[pP hk];obtain⟨h1,h2,h3⟩:=h;obtain⟨A,a,rfl⟩:=aP.form h1;obtain⟨_,ha,v⟩:=(bH.l h1).len_;unfold maxLen at v;have c0:w.cell? ⟨gs,0,none⟩=some (.slice A s.pk.length a):=Y.cell 0;go_enter xZ,ntmps50;go_wp2;go_loopw [10] (λii wr=>∃j:Nat,j<=s.pk.length/\ii=.int .i64 j/\bH wr J hi (mA (fN l) s.pk j) [.slice A s.pk.length a]/\bh (λb=>J<=b/\b<hi/\Typed w [68] b) w wr) (λii _=>s.pk.length-(intOf ii).toNat)
 case atStart=>exact⟨0,ff _,rfl,by rw[afc];exact h1,bh.refl _ _⟩
 case round=>
  obtain⟨j,hj,rfl,r,k⟩:=hrel;have zr:=k.size;by_cases a5:j<s.pk.length
  .obtain⟨x,cD⟩:=aq a5;have Z:=acT (fN l) cD;have X:=agt (fN l) s.pk j;obtain⟨g,c',e,b1,b8,b0,a4,ax⟩:=aP.some_ r (by rw[X];omega);simp only[nF] at e;obtain⟨rfl, -,rfl⟩:=e;have HX:=ab cD;have aF:=ab Z;have n:=abk (fN l) cD;replace n:=ab n;clear cD Z X ax a4;obtain⟨m,m',es,l1,l2,l3,b5,⟨v2,rfl,a3,o⟩,i,a2⟩:=aP.at_ kL.ar (by decide) r aF.out;obtain⟨A2,H,rfl⟩:=aP.form o;obtain⟨_,mn,jy⟩:=(abg.l o).len_;unfold maxLen at jy;have b4:wr.cell? ⟨g,j*2,none⟩=some (.int .i64 x.no):=i 0 _ rfl;have bb:wr.cell? ⟨g,j*2+1,none⟩=some (.slice A2 x.its.length H):=i 1 _ rfl;have O:=ab o;have V:=ab a2;have U:=aQ hl k λv=>dC hl (by decide) v.2.2;have f:=av wr (.cells #[.int .i64 x.no,.slice A2 x.its.length H] 59);have D:=ah U f;have b9:(wr.alloc (.cells #[.int .i64 x.no,.slice A2 x.its.length H] 59)).cell? ⟨gl,1,none⟩=some (.int .i64 l.n):=D.cell 1;have a8:(wr.alloc (.cells #[.int .i64 x.no,.slice A2 x.its.length H] 59)).cell? ⟨gl,2,none⟩=some (.int .i64 l.m):=D.cell 2;have b3:(wr.alloc (.cells #[.int .i64 x.no,.slice A2 x.its.length H] 59)).cell? ⟨gl,3,none⟩=some (.string l.b):=D.cell 3;clear i o a2 U D;by_cases I:x.no=l.n
   .have t1:(x.no ==l.n)=true:=oE.2 I;replace I:=ab I;by_cases E:0<=l.m
    .have t2:decide (0<=l.m)=true:=dj E;obtain⟨F,C⟩:=ql E;by_cases P:l.m<(x.its.length:Int)
     .have t3:decide (l.m<(x.its.length:Int))=true:=dj P;have aa:F<x.its.length:=by omega
      obtain⟨y,cX⟩:=aq aa;obtain⟨L,ci,ei,af,a6,a9,aH,an⟩:=aP.some_ O.out (by omega);simp only[nF] at ei;obtain⟨rfl, -,rfl⟩:=ei;have c:=abg.ar.below O.out f (by omega);obtain⟨n1,n2,aZ, -, -, -, -,⟨rfl,aU⟩,W, -⟩:=aP.at_ (bV.ar mN) (by decide) c cX;have ba:(wr.alloc (.cells #[.int .i64 x.no,.slice (some ⟨L,0,none⟩) x.its.length H] 59)).cell? ⟨L,F*2+1,none⟩=some (.string y.b):=W 1 _ rfl;have b7:=aP.frozen c (F*2+1);have M:=aP.put (j:=1) (u:=.string l.b) (bV.ar mN) (by decide) c cX (y:=(⟨y.n,l.b⟩:It)) (by decide) rfl (λw' J hi es hh=>⟨by rw[hh.1];rfl,hh.2.1,aJ⟩);have a1:fN l x=⟨x.no,x.its.set F ⟨y.n,l.b⟩⟩:=by
       unfold fN;rw[eg ⟨I.out,E,P⟩,oh (x:=y) (by rw[C];exact cX),C];rfl
      have ao:Typed wr [68] L:=⟨_,qD,aH,an⟩;have q:bh (λb=>m<=b/\b<m'/\Typed wr [68] b) wr ((wr.alloc (.cells #[.int .i64 x.no,.slice (some ⟨L,0,none⟩) x.its.length H] 59)).setCell ⟨L,F*2+1,none⟩ (.string l.b)):=
       (bh.aM (S:=λb=>m<=b/\b<m'/\Typed wr [68] b) f).setCell (p:=⟨L,F*2+1,none⟩) (.inl ⟨af,a6,ao⟩) (.string l.b)
      have oF:=V.out _ ⟨x.no,x.its.set F ⟨y.n,l.b⟩⟩ q ⟨.slice (some ⟨L,0,none⟩) x.its.length H,rfl,a3,M⟩;rw[<-a1,n.out] at oF;have N:=k.trans q λb hb v=>⟨by omega,by omega,lJ k (T:=[68]) (λt Q=>Q) (show b<hi by omega) aR (λY=>Y.2.2) v.2.2⟩;have ad:L<wr.heap.size:=a9;rw[World.setCell_alloc_past _ _ _ _ ad] at oF N;have al:=ab oF;have a7:=ab N;have ay:(l.m:Int)=((F:Nat):Int):=C;clear r k oF N q M W a1 cX V O c f E P C;have b6:((F:Nat):Int)<(x.its.length:Int):=by omega
      rw[ay] at t2 t3 a8;go_wp2;go_roundw
      case rel=>exact⟨j+1,by omega,by go_num,al.out,a7.out⟩
      simp[intOf];omega
     .have t3:decide (l.m<(x.its.length:Int))=false:=db P;replace P:=ab P;clear E C;have K:=lN (fN l) HX.out (pT (λh=>P.out h.2.2));have HS:=ab K;clear K;have G:=bH.ar.below r f (by omega);have d:=k.trans (bh.aM (S:=λ_=>False) f) λ_ _ h=>h.elim;have z:=ab G;have B:=ab d;clear r k G d f;go_wp2;go_roundw
      case rel=>exact⟨j+1,by omega,by go_num,by rw[HS.out];exact z.out,B.out⟩
      simp[intOf];omega
    .have t2:decide (0<=l.m)=false:=db E;replace E:=ab E;have K:=lN (fN l) HX.out (pT (λh=>E.out h.2.1));have HS:=ab K;clear K;have G:=bH.ar.below r f (by omega);have d:=k.trans (bh.aM (S:=λ_=>False) f) λ_ _ h=>h.elim;have z:=ab G;have B:=ab d;clear r k G d f;go_wp2;go_roundw
     case rel=>exact⟨j+1,by omega,by go_num,by rw[HS.out];exact z.out,B.out⟩
     simp[intOf];omega
   .have t1:(x.no ==l.n)=false:=dk.2 I;replace I:=ab I;have K:=lN (fN l) HX.out (pT (λh=>I.out h.1));have HS:=ab K;clear K;have G:=bH.ar.below r f (by omega);have d:=k.trans (bh.aM (S:=λ_=>False) f) λ_ _ h=>h.elim;have z:=ab G;have B:=ab d;clear r k G d f;go_wp2;go_roundw
    case rel=>exact⟨j+1,by omega,by go_num,by rw[HS.out];exact z.out,B.out⟩
    simp[intOf];omega
  .obtain rfl:j=s.pk.length:=by omega
   rw[ags] at r;have a0:=aQ Y k λv=>dC Y (by decide) v.2.2;have o2:=bW.ar.go (w':=wr) (fg:=J) (hi':=hi) (λb f b2 Q=>k.block b (by omega) λv=>gM Q (by decide) v.2.2) (am _) (am _) h2;have o3:=jJ.ar.go (w':=wr) (fg:=J) (hi':=hi) (λb f b2 Q=>k.block b (by omega) λv=>gM Q (by decide) v.2.2) (am _) (am _) h3;have q:=k.mono (T:=λb=>b=gs\/(J<=b/\b<hi/\Typed w [68] b)) λb _ hb=>.inr hb;have R:=ab (And.intro r (And.intro o2 (And.intro o3 (And.intro q a0))));clear r o2 o3 q a0;go_wp2
   go_end0
   exact⟨rfl,_,_,_,R.out.2.2.2.2,⟨R.out.1,R.out.2.1,R.out.2.2.1⟩,R.out.2.2.2.1⟩
end
section
variable {β:Bool}
open Go.RowKit
def bB.am9{w:World}{xs:List Y}(h:bB E Z w U hi xs [.slice A n c])(z:k<=xs.length):bB E Z w U hi (xs.drop k) [.slice (if c=k then A else A.map λx=>x.add (k*Z)) (xs.length-k) (c-k)]:=by
 obtain⟨A',y,g,B,C,t⟩:=h;simp only[qj,nF,qx] at g;obtain⟨rfl,rfl,rfl⟩:=g;refine⟨_,c-k,by rw[qr],by rw[qr];omega,by omega,λq=> ?_⟩;rw[qr] at q;have a:¬c=k:=by omega
 have f:0<xs.length:=by omega
 obtain⟨b,e,rfl,o,l,d⟩:=t f;refine⟨b,e+k*Z,by rw[da a];simp only[qs,aeL],o,l,λi x hi=> ?_⟩;rw[sO] at hi;obtain⟨r,s,m,p⟩:=d _ _ hi;refine⟨r,s,m,λj u v=> ?_⟩;have:=p j u v;rw[<-this,Nat.add_mul]
 congr 2
 omega
def arR(s s':dJ)(a:s'=s)(gs:Nat)(d c b:Value)(w:World)(e hi:Nat)(h:pS w e hi s d c b)(f:aX w gs 27 #[d,c,b]) :
  Calls (ai β) 52 #[.pointer (some ⟨gs,0,none⟩)] w (ao5 s s' w e hi gs []):=by
 subst a;go_enter xY,ntmps52;go_wp2
 go_end0
 exact⟨rfl,_,_,_,f,h,bh.refl _ _⟩
def arS(s:dJ)(l:iU)(gs R:Nat)(va vb vc:Value)(w:World)(q hi:Nat)(h:pS w q hi s va vb vc)(G:hi<=w.heap.size)(E:aX w gs 27 #[va,vb,vc])(hl:aX w R 29 (nz l))(U:l.k=4) :
  Calls (ai β) 51 #[.pointer (some ⟨gs,0,none⟩),.pointer (some ⟨R,0,none⟩)] w (ao5 s (dK s l) w q hi gs [42]):=by
 have hh:=h;obtain⟨h1,h2,z⟩:=h;obtain⟨C,c,rfl⟩:=jJ.form z;obtain⟨_,ha,hx⟩:=(jJ.l z).len_;unfold maxLen at hx;have H:w.cell? ⟨gs,2,none⟩=some (.slice C s.lg.length c):=E.cell 2;have F:w.cell? ⟨R,1,none⟩=some (.int .i64 l.n):=hl.cell 1;by_cases A:0<=l.n
 .have t1:decide (0<=l.n)=true:=dj A;by_cases x:l.n<(s.lg.length:Int)
  .have t2:decide (l.n<(s.lg.length:Int))=true:=dj x;rw[pQ U ⟨A,x⟩];obtain⟨a,Y⟩:=ql A;obtain⟨y,B⟩:=aq (l:=s.lg) (k:=a) (by omega);have S:sd s.lg l.n.toNat jX=s.lg.set a (jX y):=by
    have:l.n.toNat=a:=by omega
    rw[this,oh B]
   rw[S];obtain⟨g,c',e,W,X,a0,o⟩:=jJ.some_ z (by omega);simp only[nF] at e;obtain⟨rfl, -,rfl⟩:=e;obtain⟨I,O,a2⟩:=jJ.at_ z B;have jd:oQ.good (jX y):=by
    refine⟨?_,I.2⟩;show cE (wrap64 (3-y.b));unfold cE wrap64;omega
   have Z:∀w',Below w.heap.size w w'->jJ (w'.setCell ⟨g,a*2,none⟩ (.int .i64 (wrap64 (3-y.b)))) q hi (s.lg.set a (jX y)) [.slice (some ⟨g,0,none⟩) s.lg.length c]:=λw' i=>
    jJ.put (j:=0) (jJ.ar.below z i G) B (by decide) jd rfl
   replace Z:=ab Z;replace B:=ab B;rw[Y] at t1 t2 F x;go_enter xc,ntmps51;go_wp2;have J:=ae H;have N:=ae F;refine aC 13 [0,1,2,3,4,5,6,7,8,9,10,11,12] [] (h:= ?_);simp only[pick,List.map,gt,gE];repeat(go_big_quiet_step (fail))
   refine io ?_;apply Exists.intro;refine aS ?_;intro wq d L m f;dsimp only[dP] at f;try rw[m] at f
   simp only[List.drop];have V:=aT d H;have M:=aT d F;have t:=aT d O;have a1:¬(((a:Nat):Int)<0):=by omega
   go_wp2;have J:=ae V;have N:=ae M;have bg:=ae t;refine aC 16 [0,1,2,3,4,5,6,7,8,9,10,11,12,13,14,15] [] (h:= ?_);simp only[pick,List.map,gt,gE];repeat(go_big_quiet_step (fail))
   refine io ?_;apply Exists.intro;refine aS ?_;intro n hz L m f;dsimp only[dP] at f;try rw[m] at f
   simp only[List.drop];have i:=ag d hz;have a3:=aT hz t;have D:=ah o i;have a4:=D.frozen (a*2);have oF:=Z.out n i;have P:=bZ (ah E i) (p:=⟨g,a*2,none⟩) (.int .i64 (wrap64 (3-y.b))) (λe=>by have e':gs=g:=e;subst e';have:=cI E o;revert this;decide);have r:∀{T:List TypeId} (b:Nat),42∉T->Typed n T b->(n.setCell ⟨g,a*2,none⟩ (.int .i64 (wrap64 (3-y.b)))).heap[b]?=n.heap[b]?:=λb hT u=>iS _ _ _ _ (by rintro rfl;exact dC D hT u);have K:=bH.ar.go (w':=n.setCell ⟨g,a*2,none⟩ (.int .i64 (wrap64 (3-y.b)))) (fg:=q) (hi':=hi) (λb _ _ u=>r b (by decide) u) (am _) (am _) (bH.ar.below h1 i G);have fu:=bW.ar.go (w':=n.setCell ⟨g,a*2,none⟩ (.int .i64 (wrap64 (3-y.b)))) (fg:=q) (hi':=hi) (λb _ _ u=>r b (by decide) u) (am _) (am _) (bW.ar.below h2 i G);have Q:bh (λb=>b=gs\/(q<=b/\b<hi/\Typed w [42] b)) w (n.setCell ⟨g,a*2,none⟩ (.int .i64 (wrap64 (3-y.b)))):=(bh.aM i).setCell (p:=⟨g,a*2,none⟩) (.inl (.inr ⟨W,X,_,qD,a0,o⟩)) _;have v:=ab (And.intro K (And.intro fu (And.intro oF (And.intro Q P))));go_wp2
   go_end0
   exact⟨rfl,_,_,_,v.out.2.2.2.2,⟨v.out.1,v.out.2.1,v.out.2.2.1⟩,v.out.2.2.2.1⟩
  .have t2:decide (l.n<(s.lg.length:Int))=false:=db x;rw[kU U (λh=>x h.2)];go_enter xc,ntmps51;go_wp2;have J:=ae H;have N:=ae F;refine aC 13 [0,1,2,3,4,5,6,7,8,9,10,11,12] [] (h:= ?_);simp only[pick,List.map,gt,gE];repeat(go_big_quiet_step (fail))
   refine io ?_;apply Exists.intro;refine aS ?_;intro wq d L m f;dsimp only[dP] at f;try rw[m] at f
   simp only[List.drop];go_wp2
   go_end0
   exact⟨rfl,_,_,_,ah E d,hh.below d G,bh.aM d⟩
 .have t1:decide (0<=l.n)=false:=db A;rw[kU U (λh=>A h.1)];go_enter xc,ntmps51;go_wp2;have J:=ae H;have N:=ae F;refine aC 13 [0,1,2,3,4,5,6,7,8,9,10,11,12] [] (h:= ?_);simp only[pick,List.map,gt,gE];repeat(go_big_quiet_step (fail))
  refine io ?_;apply Exists.intro;refine aS ?_;intro wq d L m f;dsimp only[dP] at f;try rw[m] at f
  simp only[List.drop];go_wp2
  go_end0
  exact⟨rfl,_,_,_,ah E d,hh.below d G,bh.aM d⟩
end
section
variable {β:Bool}
open Go.RowKit
def arT(F:Nat)(dO:Array Value)(p:Int->Bool)(Q:World->Prop):Prop:=∀(b s:Int) (a:World),Q a->Calls (ai β) F (#[.agg #[.int .i64 b,.int .i64 s]]++dO) a λe c=>e=.returned (.bool (p s))/\Below a.heap.size a c
def ahH(F:Nat)(r:Array Value)(p:Int->Bool)(xs:List Hd)(v:Value)(w:World)(G hi:Nat)(h:cj w G hi xs [v])(E:hi<=w.heap.size)(B:aa7 (β:=β) F)(n:arT (β:=β) F r p λj=>Below w.heap.size w j) :
  Calls (ai β) 74 #[v,.func (.func F) #[] r] w λe j=>arN xs (λx=>p x.s) e/\Below w.heap.size w j:=by
 obtain⟨A,c,rfl⟩:=bB.form h;obtain⟨_,J,D⟩:=h.len_;unfold maxLen at D;replace n:=ab n;go_enter xR,ntmps74;go_wp2;go_loopw [8] (λs wr=>∃k:Nat,k<=xs.length/\s=.int .i64 k/\(∀y∈xs.take k,p y.s=false)/\Below w.heap.size w wr) (λs _=>xs.length-(intOf s).toNat)
 case atStart=>exact⟨0,ff _,rfl,by simp,du _ _⟩
 case round=>
  obtain⟨k,I,rfl,i,a⟩:=hrel;replace i:=ab i;by_cases o:k<xs.length
  .obtain⟨x,m⟩:=aq o;obtain⟨b,l,L,u,_,C,_,⟨rfl,t⟩,f⟩:=(cj.loc.below h a E).at_ m;subst u;have z:wr.cell? ⟨b,l+k*2,none⟩=some (.int .i64 x.b):=by simpa using f 0 _ rfl
   have H:wr.cell? ⟨b,l+k*2+1,none⟩=some (.int .i64 x.s):=by simpa using f 1 _ rfl
   replace m:=ab m;clear f;have K:=B (#[.agg #[.int .i64 x.b,.int .i64 x.s]]++r) wr;cases d:p x.s
   .replace d:=ab d;go_wp2;refine(n.out x.b x.s wr a).mono ?_;rintro e j ⟨rfl,q⟩;rw[d.out];go_wp2;go_roundw
    case rel=>
     refine⟨k+1,by omega,by go_num,λy g=> ?_,ag a q⟩;rw[li m.out,oR] at g;rcases g with g|g
     .exact i.out y g
     .rw[pi.1 g];exact d.out
    case measure=>simp[intOf];omega
   .replace d:=ab d;go_wp2;refine(n.out x.b x.s wr a).mono ?_;rintro e j ⟨rfl,q⟩;rw[d.out];go_wp2;go_ret;exact⟨.inr ⟨k,x,rfl,m.out,d.out,i.out⟩,ag a q⟩
  .obtain rfl:k=xs.length:=by omega
   rw[ip] at i;go_wp2;go_ret;exact⟨.inl ⟨rfl,i.out⟩,a⟩
def adN(F:Nat)(f:Array Value)(p:Int->Bool)(xs:List Hd)(v:Value)(w:World)(n hi:Nat)(h:cj w n hi xs [v])(t:hi<=w.heap.size)(q:aa7 (β:=β) F)(l:arT (β:=β) F f p λd=>Below w.heap.size w d) :
  Calls (ai β) 48 #[v,.func (.func F) #[] f] w λe d=>e=.returned (.bool (xs.any λx=>p x.s))/\Below w.heap.size w d:=by
 obtain⟨A,c,rfl⟩:=bB.form h;replace l:=ab l;go_enter yb,ntmps48;go_wp2;refine(ahH F f p xs _ w n hi h t q l.out).mono ?_;rintro e u ⟨b,m⟩;rcases b with⟨rfl,a⟩|⟨i,x,rfl,k,r, -⟩
 .have j:(xs.any λx=>p x.s)=false:=by rw[List.any_eq_false];intro y s;have o:p y.s=false:=a y s;rw[o];simp
  have g:=ab j;go_wp2;go_ret;exact⟨aB g.out.symm,m⟩
 .have j:(xs.any λx=>p x.s)=true:=by rw[List.any_eq_true];exact⟨x,de k,r⟩
  have g:=ab j;go_wp2;go_ret;exact⟨aB g.out.symm,m⟩
def ayh(d:Int)(u:Value)(c:Nat)(Q:World->Prop)(g:∀a,Q a->aX a c 63 #[.int .i64 d,u]):arT (β:=β) 49 #[.pointer (some ⟨c,0,none⟩)] (λs=>s ==d) Q:=by
 intro b s a f;have k:=g a f;have i:a.cell? ⟨c,0,none⟩=some (.int .i64 d):=k.cell 0;show Calls _ _ #[.agg #[.int .i64 b,.int .i64 s],.pointer (some ⟨c,0,none⟩)] _ _;have e:=av a (.cells #[.int .i64 b,.int .i64 s] 42);have j:=aT e i;go_enter ya,ntmps49;go_wp2;go_ret;exact⟨rfl,e⟩
def au5:aa7 (β:=β) 49:=adI ya (by kernel_rfl) rfl
def aAB(g:List Hd)(v:Value)(b:Nat)(Q:World->Prop)(w:∀a,Q a->aX a b 25 #[v]/\∃o i,i<=a.heap.size/\cj a o i g [v]):ao4 (β:=β) 47 #[.pointer (some ⟨b,0,none⟩)] (λno=>g.any λh=>h.s ==no) Q:=by
 intro n A m c a l;obtain⟨k,o,i,q,p⟩:=w a l;obtain⟨B,d,rfl⟩:=bB.form p;have y:a.cell? ⟨b,0,none⟩=some (.slice B g.length d):=k.cell 0;show Calls _ _ #[.agg #[.int .i64 n,.slice A m c],.pointer (some ⟨b,0,none⟩)] _ _;have f:=av a (.cells #[.int .i64 n,.slice A m c] 63);have j:=cj.loc.below p f q;have t:=aX.new a 63 #[.int .i64 n,.slice A m c];have u:=aT f y;go_enter yc,ntmps47;go_wp2;refine(adN 49 _ (λs=>s ==n) g _ _ o i j (ap q f.size) au5 (ayh n (.slice A m c) a.heap.size _ λx l=>ah t l)).mono ?_;rintro e z ⟨rfl,r⟩;go_wp2;go_ret;exact⟨rfl,ag f r⟩
def ayi:aa7 (β:=β) 47:=adI yc (by kernel_rfl) rfl
def arU(s:dJ)(l:iU)(gs gl:Nat)(va vb vc:Value)(w:World)(o hi:Nat)(h:pS w o hi s va vb vc)(aR:hi<=w.heap.size)(hs:aX w gs 27 #[va,vb,vc])(hl:aX w gl 29 (nz l))(N:l.k=2) :
  Calls (ai β) 45 #[.pointer (some ⟨gs,0,none⟩),.pointer (some ⟨gl,0,none⟩)] w (ao5 s (dK s l) w o hi gs [63]):=by
 have hh:=h;obtain⟨h1,h2,h3⟩:=h;obtain⟨C,c,rfl⟩:=jJ.form h3;obtain⟨B,b,rfl⟩:=aP.form h2;obtain⟨_,ha,m⟩:=(jJ.l h3).len_;unfold maxLen at m;have c2:w.cell? ⟨gs,2,none⟩=some (.slice C s.lg.length c):=hs.cell 2;have cl:w.cell? ⟨gl,1,none⟩=some (.int .i64 l.n):=hl.cell 1;by_cases e1:l.n<0
 .have t1:decide (l.n<0)=true:=dj e1;rw[kT N (λh=>by omega)];clear e1;go_enter xd,ntmps45;go_wp2;have I:=ae c2;have H:=ae cl;refine aC 13 [0,1,2,3,4,5,6,7,8,9,10,11,12] [] (h:= ?_);simp only[pick,List.map,gt,gE];repeat(go_big_quiet_step (fail))
  refine io ?_;clear I H;apply Exists.intro;refine aS ?_;intro wq q J z f;dsimp only[dP] at f;try rw[z] at f
  clear z J;simp only[List.drop];clear f;go_wp2
  go_end0
  exact⟨rfl,_,_,_,ah hs q,hh.below q aR,bh.aM q⟩
 .have t1:decide (l.n<0)=false:=db e1;by_cases e2:(s.lg.length:Int)<l.n
  .have t2:decide ((s.lg.length:Int)<l.n)=true:=dj e2;rw[kT N (λh=>by omega)];clear e1 e2;go_enter xd,ntmps45;go_wp2;have I:=ae c2;have H:=ae cl;refine aC 13 [0,1,2,3,4,5,6,7,8,9,10,11,12] [] (h:= ?_);simp only[pick,List.map,gt,gE];repeat(go_big_quiet_step (fail))
   refine io ?_;clear I H;apply Exists.intro;refine aS ?_;intro wq q J z f;dsimp only[dP] at f;try rw[z] at f
   clear z J;simp only[List.drop];clear f;go_wp2
   go_end0
   exact⟨rfl,_,_,_,ah hs q,hh.below q aR,bh.aM q⟩
  .have t2:decide ((s.lg.length:Int)<l.n)=false:=db e2;rw[mQ N ⟨by omega,by omega⟩];obtain⟨a,a0⟩:=ql (show 0<=l.n by omega);have a5:l.n.toNat=a:=by omega
   have a8:a<=s.lg.length:=by omega
   rw[a5];rw[a0] at t1 t2 cl;have ao:=a0;clear e1 e2 a0 a5;go_enter xd,ntmps45;go_wp2;have I:=ae c2;have H:=ae cl;refine aC 13 [0,1,2,3,4,5,6,7,8,9,10,11,12] [] (h:= ?_);simp only[pick,List.map,gt,gE];repeat(go_big_quiet_step (fail))
   refine io ?_;clear I H;apply Exists.intro;refine aS ?_;intro wq q J z f;dsimp only[dP] at f;try rw[z] at f
   clear z J;simp only[List.drop];clear f;have a4:=aT q c2;have a6:=aT q cl;have g1:¬(((a:Nat):Int)<0):=by omega
   have g2:((a:Nat):Int)<=(s.lg.length:Int):=by omega
   have g3:((a:Nat):Int)<=(c:Int):=by omega
   go_wp2;have I:=ae a4;have H:=ae a6;refine aC 8 [0,1,2,3,4,5,6] [7] (by kernel_rfl) (by kernel_rfl) (by kernel_rfl) ?_;simp only[pick,List.map,gt,gE];repeat(go_big_quiet_step (fail))
   refine io ?_;clear I H;have aa:∀w',jJ w' o hi s.lg [.slice C s.lg.length c]->cj w' o hi (s.lg.drop a) [.slice (if c=a then C else Option.map (λx=>x.add (a*2)) C) (s.lg.length-a) (c-a)]:=λw' ho=>bB.am9 (jJ.l ho) a8;generalize (if c=a then C else Option.map (λx=>x.add (a*2)) C)=AD at *;apply Exists.intro;apply bc (λv w'=>∃g,v=.pointer (some ⟨g,0,none⟩)/\wq.heap.size<=g/\aX w' g 25 #[.slice none 0 0])
   .rfl
   .exact λv x y ⟨g,e,hg,N⟩ hle=>⟨g,e,hg,ah N hle⟩
   .intro x f Qx X;replace X:=ab X;clear f;go_wp2;exact X.out _ _ (av _ _) ⟨_,rfl,x.ok.size,aX.new _ _ _⟩
   intro u3;refine aS ?_;intro wz hz J z f;dsimp only[dP] at f;try rw[z] at f
   clear z J;obtain⟨⟨R,rfl,b3,kv⟩, -⟩:=f;simp only[List.drop];have zq:=q.size;have zz:=hz.size;have ad:=ag q hz;have a9:=kv.bj 0 (.slice AD (s.lg.length-a) (c-a));have aZ:wz.cell? ⟨R,0,none⟩=some (.slice none 0 0):=kv.cell 0;have aJ:=kv.frozen 0;have j:=ad.setCell (p:=⟨R,0,none⟩) (by dsimp only;omega) (.slice AD (s.lg.length-a) (c-a));have Q:aX (wz.setCell ⟨R,0,none⟩ (.slice AD (s.lg.length-a) (c-a))) R 25 #[.slice AD (s.lg.length-a) (c-a)]:=by simpa using a9
   have F:=ah hs j;have ay:(wz.setCell ⟨R,0,none⟩ (.slice AD (s.lg.length-a) (c-a))).cell? ⟨gs,1,none⟩=some (.slice B s.sn.length b):=F.cell 1;clear kv a9 c2 cl a4 a6 g1;go_wp2;generalize wz.setCell ⟨R,0,none⟩ (.slice AD (s.lg.length-a) (c-a))=w3 at *;have z3:=j.size;have p1:=bH.ar.below h1 j aR;have p2:=bW.ar.below h2 j aR;have p3:=jJ.ar.below h3 j aR;have P:=ah hl j;have aF:(s.lg.drop a).length=s.lg.length-a:=qr;refine(afH 47 _ (λno=>(s.lg.drop a).any λh=>h.s ==no) s.sn _ w3 o hi p2 (by omega) ayi (aAB (s.lg.drop a) (.slice AD (s.lg.length-a) (c-a)) R _ λw' q=>⟨aQ Q q λhs=>dC Q (by decide) hs.2.2,o,hi,by have:=q.size;omega,aa w' (jJ.ar.go (λb b1 b2 d=>q.block b (by omega) λm=>gM d (by decide) m.2.2) (am _) (am _) p3)⟩)).mono ?_;rintro e L ⟨v4,rfl,o4,W⟩;obtain⟨B4,b4,rfl⟩:=aP.form o4;have z4:=W.size;have k:=aQ F W λm=>dC F (by decide) m.2.2;have U:=aQ P W λm=>dC P (by decide) m.2.2;have q1:=bH.ar.go (w':=L) (fg:=o) (hi':=hi) (λb b1 b2 d=>W.block b (by omega) λm=>gM d (by decide) m.2.2) (am _) (am _) p1;have q3:=jJ.ar.go (w':=L) (fg:=o) (hi':=hi) (λb b1 b2 d=>W.block b (by omega) λm=>gM d (by decide) m.2.2) (am _) (am _) p3;have b0:L.cell? ⟨gs,1,none⟩=some (.slice B s.sn.length b):=k.cell 1;have b5:=k.frozen 1;obtain⟨vv,K⟩:∃vv,vv=Value.slice B4 (s.sn.filter λx=>!((s.lg.drop a).any λh=>h.s ==x.no)).length b4:=⟨_,rfl⟩;rw[<-K] at o4;rw[<-K];have al:∃A n c,vv=.slice A n c:=⟨_,_,_,K⟩;clear K;obtain⟨O,M,Z,rfl⟩:=al;have E:=k.bj 1 (.slice O M Z);simp only[bv,ef,fd] at E;have an:gl≠gs:=by rintro rfl;exact absurd (cI U k) (by decide)
   have Y:=bZ U (p:=⟨gs,1,none⟩) (.slice O M Z) an;have r:∀(w':World) (i:Nat) (u:Value) {cs:Array Value} {T:List TypeId},aX w' gs 27 cs->∀(b:Nat),27∉T->Typed w' T b->(w'.setCell ⟨gs,i,none⟩ u).heap[b]?=w'.heap[b]?:=λw' i u cs T N b hT d=>iS _ _ _ _ (by rintro rfl;exact dC N hT d);have r1:=bH.ar.go (w':=L.setCell ⟨gs,1,none⟩ (.slice O M Z)) (fg:=o) (hi':=hi) (λb _ _ d=>r _ 1 _ k b (by decide) d) (am _) (am _) q1;have r2:=bW.ar.go (w':=L.setCell ⟨gs,1,none⟩ (.slice O M Z)) (fg:=o) (hi':=hi) (λb _ _ d=>r _ 1 _ k b (by decide) d) (am _) (am _) o4;have r3:=jJ.ar.go (w':=L.setCell ⟨gs,1,none⟩ (.slice O M Z)) (fg:=o) (hi':=hi) (λb _ _ d=>r _ 1 _ k b (by decide) d) (am _) (am _) q3;have G:bh (λb=>b=gs\/(o<=b/\b<hi/\Typed w [63] b)) w (L.setCell ⟨gs,1,none⟩ (.slice O M Z)):=
    ((bh.aM (S:=λb=>b=gs\/(o<=b/\b<hi/\Typed w [63] b)) j).trans W λb hb m=>.inr ⟨m.1,m.2.1,lJ (bh.aM (S:=λ_=>False) j) (T:=[63]) (λt d=>d) m.2.1 aR (λh=>h.elim) m.2.2⟩).setCell (p:=⟨gs,1,none⟩) (.inl (.inl rfl)) _
   replace G:=ab G;replace r1:=ab r1;replace r2:=ab r2;replace r3:=ab r3;replace E:=ab E;replace Y:=ab Y;clear q1 q3 o4 p1 p2 p3 k U F P ay W j aa Q;go_wp2;generalize L.setCell ⟨gs,1,none⟩ (.slice O M Z)=w5 at *;have ax:w5.cell? ⟨gs,2,none⟩=some (.slice C s.lg.length c):=E.out.cell 2;have af:w5.cell? ⟨gl,1,none⟩=some (.int .i64 ((a:Nat):Int)):=by rw[<-ao];exact Y.out.cell 1
   have g1:¬(((a:Nat):Int)<0):=by omega
   have I:=ae ax;have H:=ae af;refine aC 10 [0,1,2,3,4,5,6,7,8,9] [] (h:= ?_);simp only[pick,List.map,gt,gE];repeat(go_big_quiet_step (fail))
   refine io ?_;clear I H;apply Exists.intro;refine aS ?_;intro wy hy J z f;dsimp only[dP] at f;try rw[z] at f
   clear z J;simp only[List.drop];clear f;have zy:=hy.size;have z5:=G.out.size;have D:=ah E.out hy;have aH:wy.cell? ⟨gs,2,none⟩=some (.slice C s.lg.length c):=D.cell 2;have aU:=D.frozen 2;have V:=D.bj 2 (.slice C a a);simp only[bv,ef,fd] at V;have a3:=bH.ar.go (w':=wy.setCell ⟨gs,2,none⟩ (.slice C a a)) (fg:=o) (hi':=hi) (λb _ _ d=>r _ 2 _ D b (by decide) d) (am _) (am _) (bH.ar.below r1.out hy (by omega));have a2:=bW.ar.go (w':=wy.setCell ⟨gs,2,none⟩ (.slice C a a)) (fg:=o) (hi':=hi) (λb _ _ d=>r _ 2 _ D b (by decide) d) (am _) (am _) (bW.ar.below r2.out hy (by omega));have a1:=jJ.ar.go (w':=wy.setCell ⟨gs,2,none⟩ (.slice C a a)) (fg:=o) (hi':=hi) (λb _ _ d=>r _ 2 _ D b (by decide) d) (am _) (am _) (jJ.adk (jJ.ar.below r3.out hy (by omega)) a8);have a7:=(G.out.trans (bh.aM (S:=λ_=>False) hy) λ_ _ h=>h.elim).setCell (p:=⟨gs,2,none⟩) (.inl (.inl rfl)) (.slice C a a);have HQ:=ab (And.intro a3 (And.intro a2 (And.intro a1 (And.intro a7 V))));clear a3 a2 a1 a7 V r;go_wp2
   go_end0
   exact⟨rfl,_,_,_,HQ.out.2.2.2.2,⟨HQ.out.1,HQ.out.2.1,HQ.out.2.2.1⟩,HQ.out.2.2.2.1⟩
end
section
variable {β:Bool}
open Go.RowKit
def au6(l:iU)(w:World)(e:Ending)(w':World):Prop:=
 ∃F i,e=.returned (.func (.func F) #[] i)/\aa7 (β:=β) F/\Below w.heap.size w w'/\∀(s:dJ) (a:Nat) (g f d:Value) (j b:Nat),pS w' j b s g f d->b<=w'.heap.size->aX w' a 27 #[g,f,d]->
  Calls (ai β) F (#[.pointer (some ⟨a,0,none⟩)]++i) w' λe x=>∃T,ao5 s (dK s l) w' j b a T e x
def alK(l:iU)(w:World)(f:l.b.size<=maxLen):Calls (ai β) 16 #[.agg (nz l)] w (au6 (β:=β) l w):=by
 have i:=ab (av w (.cells (nz l) 29));have HK:=ab (aX.new w 29 (nz l));rcases(by omega:l.k=1\/l.k=2\/l.k=3\/l.k=4\/¬(l.k=1\/l.k=2\/l.k=3\/l.k=4)) with a|a|a|a|a
 case' inr.inr.inr.inr=>
  have p:(l.k ==1)=false:=dk.2 (by omega);have j:(l.k ==2)=false:=dk.2 (by omega);have o:(l.k ==3)=false:=dk.2 (by omega);have r:(l.k ==4)=false:=dk.2 (by omega);have g:=ab λs=>pR (s:=s) (l:=l) (by omega) (by omega) (by omega) (by omega)
 all_goals
  try
   obtain⟨k,n,m,b⟩:=l;dsimp only at a;subst a
  go_enter Ah,ntmps16;go_wp2;go_ret;refine⟨_,_,rfl, ?_,i.out,λs x q v u y t d e c=> ?_⟩
  .first|exact adI ye (by kernel_rfl) rfl|exact adI xd (by kernel_rfl) rfl|exact adI xZ (by kernel_rfl) rfl|exact adI xc (by kernel_rfl) rfl|exact adI xY (by kernel_rfl) rfl
  .first|exact(arP _ _ _ _ _ _ _ _ _ _ d e c HK.out rfl).mono λ_ _ h=>⟨_,h⟩|exact(arU _ _ _ _ _ _ _ _ _ _ d e c HK.out rfl).mono λ_ _ h=>⟨_,h⟩|exact(arQ _ _ _ _ _ _ _ _ _ _ d e c HK.out rfl f).mono λ_ _ h=>⟨_,h⟩|exact(arS _ _ _ _ _ _ _ _ _ _ d e c HK.out rfl).mono λ_ _ h=>⟨_,h⟩|exact(arR _ _ (g.out s) _ _ _ _ _ _ _ d c).mono λ_ _ h=>⟨_,h⟩
def ayk(w:World)(s:dJ)(e:Ending)(w':World):Prop:=∃c a b,e=.returned (.agg #[c,a,b])/\pS w' w.heap.size w'.heap.size s c a b/\Below w.heap.size w w'
def oG(s:dJ)(l:iU)(R X vc:Value)(w:World)(V hi:Nat)(h:fL w V hi s R X vc)(aR:hi<=w.heap.size)(hl:kD s<=1099511627)(K:l.b.size<=maxLen) :
  Calls (ai β) 5 #[.agg #[R,X,vc],.agg (nz l)] w (ayk w (dK s l)):=by
 obtain⟨A,a,rfl⟩:=bB.form h.pk;obtain⟨B,b,rfl⟩:=bB.form h.sn;obtain⟨C,c,rfl⟩:=bB.form h.lg;go_enter qF5,ntmps5;go_wp2;generalize u:((w.alloc (.cells #[.slice A s.pk.length a,.slice B s.sn.length b,.slice C s.lg.length c] 27)).alloc (.cells #[.int .i64 l.k,.int .i64 l.n,.int .i64 l.m,.string l.b] 29)).alloc (.cells #[.slice none 0 0,.slice none 0 0,.slice none 0 0] 27)=w0 at *;obtain⟨n,iz,k0,cQ,dW,f,U,Z,d,L,Q⟩:=adG u;refine(ae9 s _ _ _ w0 V hi (h.below n aR) (ap aR n.size) hl).mono ?_;rintro e o ⟨v1,v2,v3,rfl,r,q⟩;obtain⟨N,a1,rfl⟩:=aP.form r.pk;obtain⟨S,W,rfl⟩:=aP.form r.sn;obtain⟨C1,c1,rfl⟩:=aP.form r.lg;replace f:=ah f q;replace U:=f.cell;replace Z:=f.frozen;replace d:=ah d q;replace L:=d.cell;replace Q:=d.frozen;replace n:=ag n q;have z1:=q.size;have o2:=r.w;have oL:=av o (.cells #[.slice N s.pk.length a1,.slice S s.sn.length W,.slice C1 s.lg.length c1] 27);have a2:=(ah f oL).cell;go_wp2;generalize u:o.alloc (.cells #[.slice N s.pk.length a1,.slice S s.sn.length W,.slice C1 s.lg.length c1] 27)=w3 at *;obtain⟨D,a4,m0,mz,a6⟩:=mK u;replace d:=ah d D;replace L:=d.cell;replace Q:=d.frozen;have H:=ag n D;have o3:=o2.below D (am _);have t:=m0;have f:=d;have U:=f.cell;have Z:=f.frozen;have a0:=t.cell;have a3:=t.frozen;refine(alK l w3 K).mono ?_;rintro e w4 ⟨F,cs,rfl,hF,k,jb⟩;have p:=ag H k;have x:=ah t k;have y:=ah f k;have o4:=o3.below k (by omega);have eU:=hF (#[.pointer (some ⟨o.heap.size,0,none⟩)]++cs) w4;have HC:=ab (jb s o.heap.size _ _ _ w0.heap.size o.heap.size o4 (by have:=k.size;omega) x);have z4:=k.size;go_wp2;refine HC.out.mono ?_;rintro e I ⟨T,rfl,ua,ub,uc,k5,j,E⟩;have z5:=E.size;have G:Below w.heap.size w I:=p.trans (E.below p.size λi hi g=>by rcases g with g|g<;>omega);have m:=aQ y E λg=>by
  rcases g with g|g
  .omega
  .omega
 have a8:=k5.cell;have J:=m.cell;have a7:=m.frozen;obtain⟨A5,a5,rfl⟩:=aP.form j.pk;obtain⟨B5,b5,rfl⟩:=aP.form j.sn;obtain⟨C5,d5,rfl⟩:=jJ.form j.lg;replace j:=ab j;go_wp2;have z:∀(P Y O:Value) (b:Nat),w0.heap.size<=b->(((I.setCell ⟨w.heap.size+1+1,0,none⟩ P).setCell ⟨w.heap.size+1+1,1,none⟩ Y).setCell ⟨w.heap.size+1+1,2,none⟩ O).heap[b]?=I.heap[b]?:=λP Y O b M=>by
  rw[iS _ _ _ _ (by dsimp only;omega),iS _ _ _ _ (by dsimp only;omega),iS _ _ _ _ (by dsimp only;omega)]
 refine nf (v:=.agg #[.slice A5 (dK s l).pk.length a5,.slice B5 (dK s l).sn.length b5,.slice C5 (dK s l).lg.length d5]) (by simp[results,results5,go_sem,J]) rfl ⟨_,_,_,rfl, ?_, ?_⟩
 .refine j.out.go (λb M _=>z _ _ _ b M) (by omega) ?_;simp only[be];omega
 .exact((G.setCell (by dsimp only;omega) _).setCell (by dsimp only;omega) _).setCell (by dsimp only;omega) _
end
section
variable {β:Bool}
open Go.RowKit
def aP.obT{w:World}{xs:List Y}(h:aP e E Z w U hi xs [v])(a:v.ownBlock=some b):∃g,aX w b e g:=by
 obtain⟨i,cells,f,h,_⟩:=h;cases f;rcases h.2 with⟨rfl,_⟩|⟨j,cap,c,rfl,_,d,_⟩
 .cases a
 .cases a;exact⟨_,d⟩
def eE.aat{w:World}(h:eE U e v w)(f:w.heap.size<=hi):aP e E Z w U hi [] [v]:=by
 obtain⟨g,rfl,d,c⟩:=h;have:=c.lt;exact⟨_,[],rfl,eE.own ⟨g,rfl,d,c⟩ Z,λb a=>by cases a;dsimp only;omega,Els.nil (by omega)⟩
def dG{w : World}{xs:List Y}(h:aP e E Z w U hi xs [v])(f:bh (λb=>v.ownBlock=some b) w w'){t:TypeId}{cs:Array Value}(a:aX w g t cs)(c:t≠e):aX w' g t cs:=
 aQ a f λd=>by
  obtain⟨i,hd⟩:=h.obT d;exact c (cI a hd)
def jF{β : Type}{D:fW β}{w : World}{xs:List Y}{y:β}(h:aP e E Z w U hi xs [v])(l:bh (λb=>v.ownBlock=some b) w w')(j:dM D T)(c:D w R B y cs)(d:e∉T):D w' R B y cs:=
 j.fe c l λb _ _ f g=>by
  obtain⟨m,hd⟩:=h.obT g;obtain⟨t,k,i,a⟩:=f;exact d (cI a hd▸k)
def cT{β:Type}{D:fW β}{w:World}{t:TypeId}{a:Array Value}{y:β}(f:dM D T)(c:D w Z hi y cs)(j:aX w g t a)(d:t∉T)(i:Nat)(u:Value):D (w.setCell ⟨g,i,none⟩ u) Z hi y cs:=
 f.go (λb _ _ e=>iS _ _ _ _ (by rintro rfl;exact dC j d e)) (am _) (am _) c
def ahI{β:Type}{D:fW β}{w:World}{u:Value}{y:β}(c:dM D T)(a:D w Z hi y cs)(e:hi<=g):D (w.setCell ⟨g,i,none⟩ u) Z hi y cs:=
 c.go (λb _ d _=>iS _ _ _ _ (by dsimp only;omega)) (am _) (am _) a
structure afI (w wr:World) (L:Nat) (A B C:Option Addr) (a b c:Nat) (s:dJ) (gm:Nat) (vp vs vl:Value) (pk:List Pk) (sn:List Sn) (H:Nat):Prop where
 k0:aX wr w.heap.size 27 #[.slice A s.pk.length a,.slice B s.sn.length b,.slice C s.lg.length c]
 k1:aX wr (w.heap.size+1) 27 #[.slice none 0 0,.slice none 0 0,.slice none 0 0]
 m:aX wr gm 27 #[vp,vs,vl]
 op:bH wr L H pk [vp]
 os:bW wr L H sn [vs]
 ol:dF wr L H s.lg [vl]
 bl:Below w.heap.size w wr
 gm1:w.heap.size+1<gm
 gm2:gm<wr.heap.size
 hL:w.heap.size<=L
 hH:H<=wr.heap.size
 gmr:gm<H
def afI.below{w wr : World}{B C : Option Addr}{a : Nat}{f:List Pk}{e:List Sn}(h:afI w wr Z A B C a b c s U X W V f e R)(d:Below wr.heap.size wr w'):afI w w' Z A B C a b c s U X W V f e R:=
 ⟨ah h.k0 d,ah h.k1 d,ah h.m d,bH.ar.below h.op d h.hH,bW.ar.below h.os d h.hH,dF.ar.below h.ol d h.hH,ag h.bl d,h.gm1,bd h.gm2 d.size,h.hL,ap h.hH d.size,h.gmr⟩
def fq(s:dJ)(va vb vc:Value)(w:World)(lo hi:Nat)(h:fL w lo hi s va vb vc)(aR:hi<=w.heap.size)(hl:kD s<=1099511627) :
  Calls (ai β) 20 #[.agg #[va,vb,vc]] w (arL w s):=by
 obtain⟨h1,h2,h3⟩:=h;obtain⟨A,a,rfl⟩:=bB.form h1;obtain⟨B,b,rfl⟩:=bB.form h2;obtain⟨C,c,rfl⟩:=bB.form h3;obtain⟨_,cA,ct⟩:=h1.len_;obtain⟨_,e4,bL⟩:=h2.len_;obtain⟨_,bX,ce⟩:=h3.len_;unfold maxLen at ct bL ce;unfold kD at hl;have cS:=dU (f:=bPk) (l:=s.pk);have dx:=dU (f:=bSn) (l:=s.sn);have bw:=bB.good (F:=oQ) h3;go_enter Ac,ntmps20;go_wp2_with(at_builtin;refine gK ?_);refine⟨?_,trivial⟩;have aH:Below w.heap.size w (((((w.alloc (.cells #[.slice A s.pk.length a,.slice B s.sn.length b,.slice C s.lg.length c] 27)).alloc (.cells #[.slice none 0 0,.slice none 0 0,.slice none 0 0] 27)).alloc (.cells #[] 59)).alloc (.cells #[] 63)).alloc (.cells #[] 42)):=cY (cY (cY (cY (av _ _) _) _) _) _;have k0:aX (((((w.alloc (.cells #[.slice A s.pk.length a,.slice B s.sn.length b,.slice C s.lg.length c] 27)).alloc (.cells #[.slice none 0 0,.slice none 0 0,.slice none 0 0] 27)).alloc (.cells #[] 59)).alloc (.cells #[] 63)).alloc (.cells #[] 42)) (w.heap.size) 27 #[.slice A s.pk.length a,.slice B s.sn.length b,.slice C s.lg.length c]:=by
  have I:=bE (bE (bE (bE (aX.new w 27 #[.slice A s.pk.length a,.slice B s.sn.length b,.slice C s.lg.length c]) (.cells #[.slice none 0 0,.slice none 0 0,.slice none 0 0] 27)) (.cells #[] 59)) (.cells #[] 63)) (.cells #[] 42);exact I
 have k1:aX (((((w.alloc (.cells #[.slice A s.pk.length a,.slice B s.sn.length b,.slice C s.lg.length c] 27)).alloc (.cells #[.slice none 0 0,.slice none 0 0,.slice none 0 0] 27)).alloc (.cells #[] 59)).alloc (.cells #[] 63)).alloc (.cells #[] 42)) (w.heap.size+1) 27 #[.slice none 0 0,.slice none 0 0,.slice none 0 0]:=by
  have I:=bE (bE (bE (aX.new (w.alloc (.cells #[.slice A s.pk.length a,.slice B s.sn.length b,.slice C s.lg.length c] 27)) 27 #[.slice none 0 0,.slice none 0 0,.slice none 0 0]) (.cells #[] 59)) (.cells #[] 63)) (.cells #[] 42);simp only[mx] at I;exact I
 have k2:aX (((((w.alloc (.cells #[.slice A s.pk.length a,.slice B s.sn.length b,.slice C s.lg.length c] 27)).alloc (.cells #[.slice none 0 0,.slice none 0 0,.slice none 0 0] 27)).alloc (.cells #[] 59)).alloc (.cells #[] 63)).alloc (.cells #[] 42)) (w.heap.size+1+1) 59 #[]:=by
  have I:=bE (bE (aX.new ((w.alloc (.cells #[.slice A s.pk.length a,.slice B s.sn.length b,.slice C s.lg.length c] 27)).alloc (.cells #[.slice none 0 0,.slice none 0 0,.slice none 0 0] 27)) 59 #[]) (.cells #[] 63)) (.cells #[] 42);simp only[mx] at I;exact I
 have k3:aX (((((w.alloc (.cells #[.slice A s.pk.length a,.slice B s.sn.length b,.slice C s.lg.length c] 27)).alloc (.cells #[.slice none 0 0,.slice none 0 0,.slice none 0 0] 27)).alloc (.cells #[] 59)).alloc (.cells #[] 63)).alloc (.cells #[] 42)) (w.heap.size+1+1+1) 63 #[]:=by
  have I:=bE (aX.new (((w.alloc (.cells #[.slice A s.pk.length a,.slice B s.sn.length b,.slice C s.lg.length c] 27)).alloc (.cells #[.slice none 0 0,.slice none 0 0,.slice none 0 0] 27)).alloc (.cells #[] 59)) 63 #[]) (.cells #[] 42);simp only[mx] at I;exact I
 have k4:aX (((((w.alloc (.cells #[.slice A s.pk.length a,.slice B s.sn.length b,.slice C s.lg.length c] 27)).alloc (.cells #[.slice none 0 0,.slice none 0 0,.slice none 0 0] 27)).alloc (.cells #[] 59)).alloc (.cells #[] 63)).alloc (.cells #[] 42)) (w.heap.size+1+1+1+1) 42 #[]:=by
  have I:=aX.new ((((w.alloc (.cells #[.slice A s.pk.length a,.slice B s.sn.length b,.slice C s.lg.length c] 27)).alloc (.cells #[.slice none 0 0,.slice none 0 0,.slice none 0 0] 27)).alloc (.cells #[] 59)).alloc (.cells #[] 63)) 42 #[];simp only[mx] at I;exact I
 have iz:w.heap.size+5<=(((((w.alloc (.cells #[.slice A s.pk.length a,.slice B s.sn.length b,.slice C s.lg.length c] 27)).alloc (.cells #[.slice none 0 0,.slice none 0 0,.slice none 0 0] 27)).alloc (.cells #[] 59)).alloc (.cells #[] 63)).alloc (.cells #[] 42)).heap.size:=by simp only[mx];omega
 generalize (((((w.alloc (.cells #[.slice A s.pk.length a,.slice B s.sn.length b,.slice C s.lg.length c] 27)).alloc (.cells #[.slice none 0 0,.slice none 0 0,.slice none 0 0] 27)).alloc (.cells #[] 59)).alloc (.cells #[] 63)).alloc (.cells #[] 42))=w0 at *;have cQ:=k0.cell;have dW:=k0.frozen;have cJ:=k1.cell;have dz:=k1.frozen;have fA:=k2.cell;have iN:=k2.frozen;have aa:=k3.cell;have ao:=k3.frozen;have bI:=k4.cell;have cz:=k4.frozen;have R:=lG (F:=oQ) h3 aR;have bk:eE w.heap.size 42 (.slice (some ⟨w.heap.size+1+1+1+1,0,none⟩) 0 0) w0:=⟨_,rfl,by omega,k4⟩;refine np (F:=oQ) (xs:=s.lg) aH rfl (.tmp 11) (.tmp 13) 25 rfl ahB (am _) rfl rfl bk R (by omega) ?_;intro vl x1 O u;replace k0:=ah k0 O;replace cQ:=k0.cell;replace dW:=k0.frozen;replace k1:=ah k1 O;replace cJ:=k1.cell;replace dz:=k1.frozen;replace k2:=ah k2 O;replace fA:=k2.cell;replace iN:=k2.frozen;replace k3:=ah k3 O;replace aa:=k3.cell;replace ao:=k3.frozen;replace aH:=ag aH O;obtain⟨Cl,cl,rfl⟩:=u.form;have z1:=O.size;clear k4 bI cz bk R;go_wp2;generalize hG:x1.alloc (.cells #[.slice (some ⟨w.heap.size+1+1,0,none⟩) 0 0,.slice (some ⟨w.heap.size+1+1+1,0,none⟩) 0 0,.slice Cl s.lg.length cl] 27)=w1 at *;obtain⟨Q,cN,m0,mz,bA⟩:=mK hG;clear hG;replace k0:=ah k0 Q;replace cQ:=k0.cell;replace dW:=k0.frozen;replace k1:=ah k1 Q;replace cJ:=k1.cell;replace dz:=k1.frozen;replace k2:=ah k2 Q;replace fA:=k2.cell;replace iN:=k2.frozen;replace k3:=ah k3 Q;replace aa:=k3.cell;replace ao:=k3.frozen;have aZ:=u.below Q;have q:afI w w1 w.heap.size A B C a b c s x1.heap.size (.slice (some ⟨w.heap.size+1+1,0,none⟩) 0 0) (.slice (some ⟨w.heap.size+1+1+1,0,none⟩) 0 0) (.slice Cl s.lg.length cl) [] [] w1.heap.size:=
  ⟨k0,k1,m0,eE.aat ⟨_,rfl,by omega,k2⟩ (am _),eE.aat ⟨_,rfl,by omega,k3⟩ (am _),aZ.aat bw (by omega) (λg hg=>(aZ.at_ hg).2),ag aH Q,by omega,by omega,am _,am _,by omega⟩
 have n:=ab q;obtain⟨J,b9⟩:∃J,J=x1.heap.size:=⟨_,rfl⟩;rw[<-b9] at n ⊢;obtain⟨vs,bf⟩:∃vs,vs=Value.slice (some ⟨w.heap.size+1+1+1,0,none⟩) 0 0:=⟨_,rfl⟩;rw[<-bf] at n;clear b9 bf q k0 k1 k2 k3 m0 cQ cJ fA aa mz dW dz iN ao bA u aZ aH Q O;go_loopw [4] (λii wr=>∃(k:Nat) (vo:Value),k<=s.pk.length/\ii=.int .i64 k/\afI w wr w.heap.size A B C a b c s J vo vs (.slice Cl s.lg.length cl) (s.pk.take k) [] wr.heap.size) (λii _=>s.pk.length-(intOf ii).toNat)
 case atStart=>exact⟨0,_,ff _,rfl,n.out⟩
 case round=>
  clear n;obtain⟨k,vo,I,rfl,q⟩:=hrel;obtain⟨Ao,co,rfl⟩:=q.op.form;have K:(s.pk.take k).length=k:=by rw[fa,rr I]
  rw[K] at q;have cQ:wr.cell? ⟨w.heap.size,0,none⟩=some (.slice A s.pk.length a):=q.k0.cell 0;by_cases al:k<s.pk.length
  .obtain⟨y,cX⟩:=aq al;have jg:=jE (f:=bPk) (de cX);have cW:y.its.length<=bPk y:=dU;obtain⟨b',M,es,e0,_,c9,_,⟨v2,rfl,a9,hr⟩,G⟩:=(iL.loc.below h1 q.bl aR).at_ cX;subst e0;obtain⟨A2,c2,rfl⟩:=bB.form hr;have ay:wr.cell? ⟨b',M+k*2,none⟩=some (.int .i64 y.no):=by simpa using G 0 _ rfl
   have pN:wr.cell? ⟨b',M+k*2+1,none⟩=some (.slice A2 y.its.length c2):=by simpa using G 1 _ rfl
   have cm:wr.cell? ⟨J,0,none⟩=some (.slice Ao k co):=q.m.cell 0;have iJ:=li cX;have HN:=ab iJ;have V:=ab K;have R:=ab (lG (F:=mN) hr (by have:=q.bl.size;omega));have jd:=ab (bB.good (F:=mN) hr);have n:=ab q;have zr:=q.bl.size;clear G cX iJ K hr q;go_wp2;have aF:=ae cQ;have aJ:=ae ay;have bg:=ae pN;have dD:=ae cm;refine aC 18 [0,1,2,3,4,5,6,7,9,10,11,12,13,14] [8,15,16,17] (h:= ?_);simp only[pick,List.map,gt,gE];repeat(go_big_quiet_step (fail))
   refine io ?_;clear aF aJ bg dD;apply Exists.intro;apply bc (eE wr.heap.size 68)
   .rfl
   .exact λv x y h m=>h.keep m
   .intro x _ Qx r;have P:=ab r;clear r;go_wp2;exact P.out _ _ (av _ _) (eE.new _ _ x.ok.size)
   intro u8;apply bc (λv w'=>aL mN 68 w' wr.heap.size v y.its)
   .rfl
   .exact λv x y h m=>h.below m
   .intro x L Qx P;have hL:=L.1 (by kernel_rfl);exact aiU rfl (.tmp 31) (.tmp 37) 57 rfl nR (am _) rfl rfl hL R.out (by omega) λv' x' m X=>P v' x'.to m X
   intro d3;apply bc (λv w'=>∃A c,v=.agg #[.int .i64 y.no,.slice A y.its.length c]/\aL mN 68 w' wr.heap.size (.slice A y.its.length c) y.its)
   .rfl
   .exact λv x y ⟨A,c,e,h⟩ m=>⟨A,c,e,h.below m⟩
   .intro x L Qx r;have P:=ab r;clear r;have X:=L.1 (by kernel_rfl);obtain⟨A5,c5,rfl⟩:=X.form;go_wp2;exact P.out _ _ (du _ _) ⟨_,_,rfl,X⟩
   intro cL;apply bc (λv w'=>∃g A c,v=.slice (some ⟨g,0,none⟩) 1 1/\aX w' g 59 #[.int .i64 y.no,.slice A y.its.length c]/\aL mN 68 w' wr.heap.size (.slice A y.its.length c) y.its)
   .rfl
   .exact λv x y ⟨g,A,c,e,I,h⟩ m=>⟨g,A,c,e,ah I m,h.below m⟩
   .intro x L Qx r;have P:=ab r;clear r;obtain⟨A5,c5,rfl,X⟩:=L.1 (by kernel_rfl);go_wp2;have ba:=av x.to (.cells #[.int .i64 y.no,.slice A5 y.its.length c5] 59);exact P.out _ _ ba ⟨_,_,_,rfl,aX.new _ _ _,X.below ba⟩
   intro d4;refine aS ?_;intro w6 iC xx df L;dsimp only[dP] at L;try rw[df] at L
   clear df xx;obtain⟨⟨g8,A8,c8,rfl,U,o8⟩, -⟩:=L;simp only[List.drop];have a2:=n.out.below iC;have z6:=iC.size;have af:Hid (kL w6 wr.heap.size w6.heap.size y [.int .i64 y.no,.slice A8 y.its.length c8]):=ab ⟨_,rfl,a9,o8.aat jd.out (by omega) λg hg=>(o8.at_ hg).2⟩;replace U:=ab U;have o:=ab a2;clear n iC o8 a2 ay pN cm cQ R;go_wp2_with(at_builtin;refine gK ?_);refine⟨?_,trivial⟩;refine ie kL.ar (by decide) (v:=.slice Ao k co) rfl (.tmp 24) (.tmp 40) 23 rfl adZ y rfl o.out.op rfl U.out rfl (by simp[Value.oneCell']) z6 af.out (am _) (by have:=V.out;omega) (by omega) ?_;intro v9 W o9 E b6;obtain⟨S,N,rfl⟩:=o9.form;rw[aE,mw,V.out] at o9;rw[aE,mw,V.out];have d:=o.out.op;have t:=dG d E o.out.m (by decide);have a0:=dG d E o.out.k0 (by decide);have a7:=dG d E o.out.k1 (by decide);have bb:=jF d E bW.ar o.out.os (by decide);have a6:=jF d E dF.ar o.out.ol (by decide);have an:Below w.heap.size w W:=o.out.bl.trans (E.below o.out.bl.size λi hi hs=>by have:=d.ob hs;omega);have c6:W.cell? ⟨J,0,none⟩=some (.slice Ao k co):=t.cell 0;have bT:=t.frozen 0;have z9:=E.size;have Z:=o.out.gm1;have cq:=o.out.gm2;have lZ:=t.bj 0 (.slice S (k+1) N);simp only[bv,ef,fd] at lZ;have Y:afI w (W.setCell ⟨J,0,none⟩ (.slice S (k+1) N)) w.heap.size _ B C a b c s J (.slice S (k+1) N) vs (.slice Cl s.lg.length cl) (s.pk.take (k+1)) [] (W.setCell ⟨J,0,none⟩ (.slice S (k+1) N)).heap.size:=
    ⟨bZ a0 (p:=⟨J,0,none⟩) _ (by dsimp only;omega),bZ a7 (p:=⟨J,0,none⟩) _ (by dsimp only;omega),lZ,
     by rw[HN.out];simp only[be];exact cT bH.ar o9 t (by decide) 0 _,
     by simp only[be];exact bW.ar.wide (cT bW.ar bb t (by decide) 0 _) (am _) (ap z6 z9),
     by simp only[be];exact dF.ar.wide (cT dF.ar a6 t (by decide) 0 _) (am _) (ap z6 z9),
     an.setCell (by dsimp only;omega) _,Z,by simp only[be];omega,am _,am _,by simp only[be];omega⟩
   have b0:=ab Y;clear Y lZ bb a6 d a0 a7 t;go_wp2;go_roundw
   case rel=>exact⟨k+1,_,by omega,by go_num,b0.out⟩
   simp[intOf];omega
  .obtain rfl:k=s.pk.length:=by omega
   rw[ip] at q;obtain⟨Ap,ca⟩:∃A,A=Ao:=⟨_,rfl⟩;obtain⟨cp,cb⟩:∃c,c=co:=⟨_,rfl⟩;subst ca cb;have n:=ab q;clear q;go_wp2;clear cQ;go_loopw [5] (λii wr=>∃(k:Nat) (vo:Value),k<=s.sn.length/\ii=.int .i64 k/\afI w wr w.heap.size A B C a b c s J (.slice Ap s.pk.length cp) vo (.slice Cl s.lg.length cl) s.pk (s.sn.take k) wr.heap.size) (λii _=>s.sn.length-(intOf ii).toNat)
   case atStart=>exact⟨0,_,ff _,rfl,n.out⟩
   case round=>
    clear n;obtain⟨k,vo,I,rfl,q⟩:=hrel;obtain⟨Ao,co,rfl⟩:=q.os.form;have K:(s.sn.take k).length=k:=by rw[fa,rr I]
    rw[K] at q;have cQ:wr.cell? ⟨w.heap.size,1,none⟩=some (.slice B s.sn.length b):=q.k0.cell 1;by_cases al:k<s.sn.length
    .obtain⟨y,cX⟩:=aq al;have jg:=jE (f:=bSn) (de cX);have d1:et bLs y.all=bSn y:=rfl;have d7:y.all.length<=et bLs y.all:=dU;obtain⟨b',M,es,e0,e2,c9,_,⟨v2,rfl,a9,hr⟩,G⟩:=(gZ.loc.below h2 q.bl aR).at_ cX;subst e0;obtain⟨A2,c2,rfl⟩:=bB.form hr;obtain⟨_,cO,c1⟩:=hr.len_;unfold maxLen at c1;have ay:wr.cell? ⟨b',M+k*2,none⟩=some (.int .i64 y.no):=by simpa using G 0 _ rfl
     have pN:wr.cell? ⟨b',M+k*2+1,none⟩=some (.slice A2 y.all.length c2):=by simpa using G 1 _ rfl
     have iJ:=li cX;have HN:=ab iJ;have V:=ab K;have HY:=ab cX;have n:=ab q;have zr:=q.bl.size;go_wp2;obtain⟨H,ch⟩:∃H,H=wr:=⟨_,rfl⟩;subst ch;generalize hG:(H.alloc (.cells #[] 100)).alloc (.cells #[.int .i64 y.no,.slice (some ⟨H.heap.size,0,none⟩) 0 0] 63)=w2 at *;obtain⟨kE,dd,n0,d6,dB,n1,bn,d5⟩:=oP hG;have cy:=n.out.below kE;have bz:=ab cy;have a3:fK w2 H.heap.size w2.heap.size [] [.slice (some ⟨H.heap.size,0,none⟩) 0 0]:=eE.aat ⟨_,rfl,am _,n0⟩ (am _);have HST:=ab (And.intro a3 n1);go_loopw [7] (λii wr=>∃(j:Nat) (va:Value),j<=y.all.length/\ii=.int .i64 j/\fK wr H.heap.size wr.heap.size (y.all.take j) [va]/\aX wr (H.heap.size+1) 63 #[.int .i64 y.no,va]/\afI w wr w.heap.size A (some ⟨b',M,none⟩) C a b c s J (.slice Ap s.pk.length cp) (.slice Ao k co) (.slice Cl s.lg.length cl) s.pk (s.sn.take k) H.heap.size) (λii _=>y.all.length-(intOf ii).toNat)
     case atStart=>exact⟨0,_,ff _,rfl,HST.out.1,HST.out.2,bz.out⟩
     case round=>
      obtain⟨j,va,hj,rfl,u,a4,q⟩:=hrel;obtain⟨Av,cv,rfl⟩:=u.form;have K:(y.all.take j).length=j:=by rw[fa,rr hj]
      rw[K] at u a4;have cQ:wr.cell? ⟨w.heap.size,1,none⟩=some (.slice (some ⟨b',M,none⟩) s.sn.length b):=q.k0.cell 1;have zx:=q.hH;have zw:=q.bl.size;obtain⟨b2,iT,es,e0,_,_,_,⟨v2,rfl,cC,hr⟩,G⟩:=(gZ.loc.below h2 q.bl aR).at_ HY.out;simp only[mt,qC,qx] at e0;obtain⟨rfl,rfl⟩:=e0;obtain⟨A3,c3,rfl⟩:=bB.form hr;obtain⟨_,d2,bR⟩:=hr.len_;unfold maxLen at bR;have bX:wr.cell? ⟨b',M+k*2+1,none⟩=some (.slice A3 y.all.length c3):=by simpa using G 1 _ rfl
      by_cases bq:j<y.all.length
      .obtain⟨z,b1⟩:=aq bq;have d9:=jE (f:=bLs) (de b1);have dn:z.ns.length<=bLs z:=Nat.le_add_left _ _;obtain⟨b3,bi,es,e0,_,_,_,⟨v4,rfl,cr,a5⟩,G⟩:=hr.at_ b1;subst e0;obtain⟨A4,c4,rfl⟩:=bB.form a5;have dg:wr.cell? ⟨b3,bi+j*2,none⟩=some (.string z.p):=by simpa using G 0 _ rfl
       have e1:wr.cell? ⟨b3,bi+j*2+1,none⟩=some (.slice A4 z.ns.length c4):=by simpa using G 1 _ rfl
       have iJ:=li b1;have cf:=ab iJ;have b4:=ab K;have aU:=ab q;replace u:=ab u;replace a5:=ab a5;go_wp2;generalize hG:wr.alloc (.cells #[.string z.p,.slice A4 z.ns.length c4] 100)=wa at *;obtain⟨ig,dp,q0,b8,cB⟩:=mK hG;have c0:=aU.out.below ig;have ck:=fK.ar.below u.out ig (am _);have b7:=ah a4 ig;have bo:=nY.loc.below a5.out ig (by omega);have R:=ab (lG (F:=nk) bo (by have:=ig.size;omega));have kF:=ab bo.akM;have cd:=ab c0;have cw:=ab ck;have bn:wa.cell? ⟨H.heap.size+1,1,none⟩=some (.slice Av j cv):=b7.cell 1;have br:=b8 0;have bt:=b8 1;have bl:=ig.size;have aF:=ae bn;have aJ:=ae br;have bg:=ae bt;refine aC 10 [0,1,2,3,5,6] [4,7,8,9] (h:= ?_);simp only[pick,List.map,gt,gE];repeat(go_big_quiet_step (fail))
       refine io ?_;apply Exists.intro;apply bc (eE wa.heap.size 3)
       .rfl
       .exact λv x y h m=>h.keep m
       .intro x _ Qx r;have P:=ab r;go_wp2;exact P.out _ _ (av _ _) (eE.new _ _ x.ok.size)
       intro u4;apply bc (λv w'=>aL nk 3 w' wa.heap.size v z.ns)
       .rfl
       .exact λv x y h m=>h.below m
       .intro x L Qx P;have hL:=L.1 (by kernel_rfl);exact aiU rfl (.tmp 82) (.tmp 84) 98 rfl abW (am _) rfl rfl hL R.out (by omega) λv' x' m X=>P v' x'.to m X
       intro u7;apply bc (λv w'=>∃A c,v=.agg #[.string z.p,.slice A z.ns.length c]/\aL nk 3 w' wa.heap.size (.slice A z.ns.length c) z.ns)
       .rfl
       .exact λv x y ⟨A,c,e,h⟩ m=>⟨A,c,e,h.below m⟩
       .intro x L Qx r;have P:=ab r;have X:=L.1 (by kernel_rfl);obtain⟨A5,c5,rfl⟩:=X.form;go_wp2;exact P.out _ _ (du _ _) ⟨_,_,rfl,X⟩
       intro u8;apply bc (λv w'=>∃g A c,v=.slice (some ⟨g,0,none⟩) 1 1/\aX w' g 100 #[.string z.p,.slice A z.ns.length c]/\aL nk 3 w' wa.heap.size (.slice A z.ns.length c) z.ns)
       .rfl
       .exact λv x y ⟨g,A,c,e,I,h⟩ m=>⟨g,A,c,e,ah I m,h.below m⟩
       .intro x L Qx r;have P:=ab r;obtain⟨A5,c5,rfl,X⟩:=L.1 (by kernel_rfl);go_wp2;have ba:=av x.to (.cells #[.string z.p,.slice A5 z.ns.length c5] 100);exact P.out _ _ ba ⟨_,_,_,rfl,aX.new _ _ _,X.below ba⟩
       intro u9;refine aS ?_;intro w6 iC xx df L;dsimp only[dP] at L;try rw[df] at L
       obtain⟨⟨g8,A8,c8,rfl,U,o8⟩, -⟩:=L;simp only[List.drop];have a2:=cd.out.below iC;have a1:=fK.ar.below cw.out iC bl;have bN:=ah b7 iC;have z6:=iC.size;have af:Hid (OLs w6 wa.heap.size w6.heap.size z [.string z.p,.slice A8 z.ns.length c8]):=ab ⟨_,rfl,cr,o8.aat (λx hx=>kF.out x hx) (by omega) λg hg=>(o8.at_ hg).2⟩;replace U:=ab U;have o:=ab a2;replace a1:=ab a1;go_wp2_with(at_builtin;refine gK ?_);refine⟨?_,trivial⟩;refine ie OLs.ar (by decide) (v:=.slice Av j cv) rfl (.tmp 79) (.tmp 87) 61 rfl ahC z rfl a1.out rfl U.out rfl (by simp[Value.oneCell']) (show wr.heap.size<=w6.heap.size by omega) (OLs.ar.wide af.out bl (am _)) (am _) (by have:=b4.out;omega) (by omega) ?_;intro v9 W o9 E b6;obtain⟨S,N,rfl⟩:=o9.form;rw[aE,mw,b4.out] at o9;rw[aE,mw,b4.out];have d:=a1.out;have z9:=E.size;have a8:=dG d E bN (by decide);have ds:W.cell? ⟨H.heap.size+1,1,none⟩=some (.slice Av j cv):=a8.cell 1;have e3:=a8.frozen 1;have lZ:=a8.bj 1 (.slice S (j+1) N);simp only[bv,ef,fd] at lZ;have Z:=o.out.gm1;have bp:=o.out.gmr;have Y:afI w (W.setCell ⟨H.heap.size+1,1,none⟩ (.slice S (j+1) N)) w.heap.size _ _ C a b c s J (.slice Ap s.pk.length cp) (.slice Ao k co) (.slice Cl s.lg.length cl) s.pk (s.sn.take k) H.heap.size:=
        ⟨bZ (dG d E o.out.k0 (by decide)) (p:=⟨H.heap.size+1,1,none⟩) _ (by dsimp only;omega),bZ (dG d E o.out.k1 (by decide)) (p:=⟨H.heap.size+1,1,none⟩) _ (by dsimp only;omega),bZ (dG d E o.out.m (by decide)) (p:=⟨H.heap.size+1,1,none⟩) _ (by dsimp only;omega),
         ahI bH.ar (jF d E bH.ar o.out.op (by decide)) (by omega),ahI bW.ar (bW.ar.fe o.out.os E λb _ hb _ hs=>by have:=d.ob hs;omega) (by omega),ahI dF.ar (jF d E dF.ar o.out.ol (by decide)) (by omega),
         (o.out.bl.trans (E.below o.out.bl.size λi hi hs=>by have:=d.ob hs;omega)).setCell (by dsimp only;omega) _,Z,by simp only[be];have:=o.out.gm2;omega,am _,by simp only[be];have:=o.out.hH;omega,bp⟩
       have b5:fK (W.setCell ⟨H.heap.size+1,1,none⟩ (.slice S (j+1) N)) H.heap.size (W.setCell ⟨H.heap.size+1,1,none⟩ (.slice S (j+1) N)).heap.size (y.all.take (j+1)) [.slice S (j+1) N]:=by
        rw[cf.out];simp only[be];exact cT fK.ar o9 a8 (by decide) 1 _
       have cg:=ab Y;replace b5:=ab b5;have ci:=ab lZ;go_wp2;go_roundw
       case rel=>exact⟨j+1,_,by omega,by go_num,b5.out,ci.out,cg.out⟩
       simp[intOf];omega
      .obtain rfl:j=y.all.length:=by omega
       rw[ip] at u;have cZ:wr.cell? ⟨H.heap.size+1,0,none⟩=some (.int .i64 y.no):=a4.cell 0;have cD:wr.cell? ⟨H.heap.size+1,1,none⟩=some (.slice Av y.all.length cv):=a4.cell 1;have d0:wr.cell? ⟨J,1,none⟩=some (.slice Ao k co):=q.m.cell 1;have aU:=ab q;replace u:=ab u;go_wp2_with(at_builtin;refine gK ?_);refine⟨?_,trivial⟩;have bx:=av wr (.cells #[.int .i64 y.no,.slice Av y.all.length cv] 63);have bO:=aU.out.below bx;have c7:=aX.new wr 63 #[.int .i64 y.no,.slice Av y.all.length cv];have cn:=fK.ar.below u.out bx (am _);generalize wr.alloc (.cells #[.int .i64 y.no,.slice Av y.all.length cv] 63)=w6 at *;have z6:=bx.size;have o:=ab bO;have cc:Hid (ma w6 H.heap.size w6.heap.size y [.int .i64 y.no,.slice Av y.all.length cv]):=ab ⟨_,rfl,a9,fK.ar.wide cn (am _) z6⟩;refine ie ma.ar (by decide) (v:=.slice Ao k co) rfl (.tmp 91) (.tmp 93) 24 rfl ad2 y rfl o.out.os rfl c7 rfl (by simp[Value.oneCell']) (show H.heap.size<=w6.heap.size by omega) cc.out (am _) (by have:=V.out;omega) (by omega) ?_;intro v9 W o9 E b6;obtain⟨S,N,rfl⟩:=o9.form;rw[aE,mw,V.out] at o9;rw[aE,mw,V.out];have d:=o.out.os;have t:=dG d E o.out.m (by decide);have a0:=dG d E o.out.k0 (by decide);have a7:=dG d E o.out.k1 (by decide);have bS:=jF d E bH.ar o.out.op (by decide);have a6:=jF d E dF.ar o.out.ol (by decide);have an:Below w.heap.size w W:=o.out.bl.trans (E.below o.out.bl.size λi hi hs=>by have:=d.ob hs;omega);have c6:W.cell? ⟨J,1,none⟩=some (.slice Ao k co):=t.cell 1;have bT:=t.frozen 1;have z9:=E.size;have Z:=o.out.gm1;have cq:=o.out.gm2;have d8:=o.out.hH;have bp:=o.out.gmr;have lZ:=t.bj 1 (.slice S (k+1) N);simp only[bv,ef,fd] at lZ;have Y:afI w (W.setCell ⟨J,1,none⟩ (.slice S (k+1) N)) w.heap.size _ _ C a b c s J (.slice Ap s.pk.length cp) (.slice S (k+1) N) (.slice Cl s.lg.length cl) s.pk (s.sn.take (k+1)) (W.setCell ⟨J,1,none⟩ (.slice S (k+1) N)).heap.size:=
        ⟨bZ a0 (p:=⟨J,1,none⟩) _ (by dsimp only;omega),bZ a7 (p:=⟨J,1,none⟩) _ (by dsimp only;omega),lZ,
         by simp only[be];exact bH.ar.wide (cT bH.ar bS t (by decide) 1 _) (am _) (by omega),
         by rw[HN.out];simp only[be];exact cT bW.ar o9 t (by decide) 1 _,
         by simp only[be];exact dF.ar.wide (cT dF.ar a6 t (by decide) 1 _) (am _) (by omega),
         an.setCell (by dsimp only;omega) _,Z,by simp only[be];omega,am _,am _,by simp only[be];omega⟩
       have b0:=ab Y;go_wp2;go_roundw
       case rel=>exact⟨k+1,_,by omega,by go_num,b0.out⟩
       simp[intOf];omega
    .obtain rfl:k=s.sn.length:=by omega
     rw[ip] at q;have cJ:=q.k1.cell;have dz:=q.k1.frozen;have dH:=q.m.cell;have n:=ab q;have zr:=q.bl.size;go_wp2;have Z:=n.out.gm1;have ax:∀(u1 u2 u3:Value) {β:Type} {D:fW β} {T:List TypeId} {y:β} {cs:List Value},dM D T->27∉T->D wr w.heap.size wr.heap.size y cs->D (((wr.setCell ⟨w.heap.size+1,0,none⟩ u1).setCell ⟨w.heap.size+1,1,none⟩ u2).setCell ⟨w.heap.size+1,2,none⟩ u3) w.heap.size (((wr.setCell ⟨w.heap.size+1,0,none⟩ u1).setCell ⟨w.heap.size+1,1,none⟩ u2).setCell ⟨w.heap.size+1,2,none⟩ u3).heap.size y cs:=λu1 u2 u3 {_ _ _ _ _} hD hT hy=>by
      simp only[be];exact hD.go (λb _ _ hb=>by
       have ad:b≠w.heap.size+1:=by rintro rfl;exact dC n.out.k1 hT hb
       rw[iS _ _ _ _ ad,iS _ _ _ _ ad,iS _ _ _ _ ad]) (am _) (am _) hy
     refine nf (v:=.agg #[.slice Ap s.pk.length cp,.slice Ao s.sn.length co,.slice Cl s.lg.length cl]) (by simp[results,results20,go_sem,cJ]) rfl ⟨_,_,_,rfl,⟨ax _ _ _ bH.ar (by decide) n.out.op,ax _ _ _ bW.ar (by decide) n.out.os,ax _ _ _ dF.ar (by decide) n.out.ol⟩, ?_⟩;exact((n.out.bl.setCell (by dsimp only;omega) _).setCell (by dsimp only;omega) _).setCell (by dsimp only;omega) _
end
section
variable {β:Bool}
open Go.RowKit
def acm(key:Int)(f:Nd):Ls:=⟨f.p,(ku f.b).map λp=>dc key (bs p)⟩
def kN(no key:Int)(t:List Nd):Sn:=⟨no,t.map (acm key)⟩
def aAJ(w:World)(s:Sn)(e:Ending)(w':World):Prop:=∃v,e=.returned (.agg #[.int .i64 s.no,v])/\fK w' w.heap.size w'.heap.size s.all [v]/\Below w.heap.size w w'
def ao7(D key:Int)(hk:1<=key/\key<=99)(bO:cE D)(t:List Nd)(ht:∀x∈t,dR x.b=true)(hl:t.length<=1000)(vt:Value)(w:World)(lo hi:Nat)(aR:hi<=w.heap.size)(h1:eL w lo hi t [vt]) :
  Calls (ai β) 66 #[.int .i64 D,.int .i64 key,vt] w (aAJ w (kN D key t)):=by
 replace ht:=ab ht;have HK:=ab hk;obtain⟨A,c,rfl⟩:=h1.form;obtain⟨_,hc,C⟩:=h1.len_;unfold maxLen at C;go_enter zB,ntmps66;go_wp2;generalize hG:((w.alloc (.cells #[.int .i64 0,.slice none 0 0] 63)).alloc (.cells #[] 100)).alloc (.cells #[.int .i64 D,.slice (some ⟨w.heap.size+1,0,none⟩) 0 0] 63)=w0 at *;obtain⟨aH,iz,E,cQ,dW,k1,cJ,dz,V,fA,iN⟩:=adG hG;obtain⟨all,m⟩:∃all,all=(kN D key t).all:=⟨_,rfl⟩;have oL:all.length=t.length:=by rw[m];exact qi _
 replace m:=ab m;have a5:fK w0 w.heap.size w0.heap.size [] [.slice (some ⟨w.heap.size+1,0,none⟩) 0 0]:=eE.aat ⟨_,rfl,by omega,k1⟩ (am _);have H0:=ab (And.intro a5 (And.intro E (And.intro V aH)));go_loopw [8] (λii wr=>∃(k:Nat) (va:Value),k<=t.length/\ii=.int .i64 k/\fK wr w.heap.size wr.heap.size (all.take k) [va]/\aX wr w.heap.size 63 #[.int .i64 0,.slice none 0 0]/\aX wr (w.heap.size+1+1) 63 #[.int .i64 D,va]/\Below w.heap.size w wr) (λii _=>t.length-(intOf ii).toNat)
 case atStart=>exact⟨0,_,ff _,rfl,H0.out.1,H0.out.2.1,H0.out.2.2.1,H0.out.2.2.2⟩
 case round=>
  obtain⟨k,va,bX,rfl,a,E,V,Q⟩:=hrel;obtain⟨u,bf⟩:∃u,u=wr:=⟨_,rfl⟩;subst bf;obtain⟨Y,cv,rfl⟩:=a.form;have a2:(all.take k).length=k:=by rw[fa,rr (by omega)]
  rw[a2] at a V;by_cases a9:k<t.length
  .obtain⟨f,o⟩:=aq a9;have U:=kY (ht.out f (de o));have K:=eL.ar.below h1 Q aR;obtain⟨b1,bL,rfl,_,bS,a7,lX,bT⟩:=jV K o;have bi:all[k]?=some (acm key f):=by rw[m.out];show(t.map (acm key))[k]?=_;rw[qO,o];rfl
   have fj:=li bi;have lA:=ab fj;have M:=ab a2;have a8:=nU U.2;have jb:=ab6 f.b;have c1:=U.1;have HA:=ab a8;have HC:=ab (agj (β:=β) f.b (by omega));replace a:=ab a;have bq:=ab a7;replace o:=ab o;go_wp2;refine(HC.out u).mono ?_;rintro e s ⟨v1,rfl,op,og⟩;obtain⟨Ap,cp,rfl⟩:=op.form;have P:=(op.deep (λx C=>lM (HA.out x C)) u.heap.size).sl (am _);have zo:=Q.size;have z1:=og.size;obtain⟨q,z⟩:∃q,q=(ku f.b).map λp=>dc key (bs p):=⟨_,rfl⟩;have b6:acm key f=⟨f.p,q⟩:=by rw[z];rfl
   rw[b6] at lA;revert z;revert HA;revert jb;revert P;generalize ku f.b=ps;intro P jb HA z;have N:=ab z;go_wp2;have b2:=av s (.cells #[] 3);have a4:aL nk 3 (s.alloc (.cells #[] 3)) s.heap.size (.slice (some ⟨s.heap.size,0,none⟩) 0 0) []:=(eE.new s 3 (am _)).own 1;have bo:=dA.ar.below P b2 (am _);have b3:=ag og b2;have b8:=b2.size;have HO:=ab a4;have HR:=ab bo;have HB:=ab b3;generalize s.alloc (.cells #[] 3)=w2 at *;go_loopw [10,11] (λnn jj wr=>∃j:Nat,j<=ps.length/\jj=.int .i64 j/\aL nk 3 wr s.heap.size nn (q.take j)/\Below u.heap.size u wr/\dA wr u.heap.size s.heap.size ps [.slice Ap ps.length cp]/\s.heap.size<=wr.heap.size) (λ_ jj _=>ps.length-(intOf jj).toNat)
   case atStart=>exact⟨0,ff _,rfl,HO.out,HB.out,HR.out,b8⟩
   case round=>
    obtain⟨j,bw,rfl,H,d,hr,hz⟩:=hrel;have br:q.length=ps.length:=by rw[N.out,qi]
    have a1:(q.take j).length=j:=by rw[fa,rr (by omega)]
    obtain⟨Ao,co,rfl⟩:=H.form;rw[a1] at H ⊢;by_cases bl:j<ps.length
    .obtain⟨p,L⟩:=aq bl;have bp:=HA.out p (de L);obtain⟨b2,iT,rfl,bx,c0,bN,al⟩:=lH hr L;have bt:q[j]?=some (dc key (bs p)):=by rw[N.out,qO,L];rfl
     have fj:=li bt;have G:=ab fj;have a3:=ab a1;have J:=ab (aa4 (β:=β) key p HK.out bp wr);have HR:=ab hr;have r:=pE (key:=key) (l:=bs p);revert J G r;generalize dc key (bs p)=nv;intro G J r;go_wp2;refine J.out.mono ?_;rintro e w3 ⟨rfl,rfl⟩;go_wp2_with(at_builtin;refine cH (F:=nk) (v:=.slice Ao j co) rfl (.tmp 34) (.tmp 41) 98 rfl abW nv rfl H rfl rfl (by have:=a3.out;omega) hz ?_;intro va wa oa I bA;obtain⟨Aa,ca,rfl⟩:=oa.form;simp only[aE,gc,mp,me,a3.out] at oa);go_roundw
     case rel=>
      refine⟨j+1,by omega,by go_num,by rw[G.out];simpa using oa,d.trans (I.below d.size λi hi C=>by have:=(H.at_ C).1;omega),dA.ar.fe HR.out I λb _ Q _ hs=>by have:=(H.at_ hs).1;omega,ap hz I.size⟩
     case measure=>simp[intOf];omega
    .obtain rfl:j=ps.length:=by omega
     have b5:q.take ps.length=q:=by rw[<-br,ip]
     rw[b5] at H;have K:=eL.ar.below h1 (ag Q d) aR;have r:∀x∈q,nk.good x:=λx C=>by
      rw[N.out] at C;obtain⟨p,_,rfl⟩:=qu.1 C;have:=pE (key:=key) (l:=bs p);show cE _;unfold cE;omega
     have ad:=ah E d;have X:=ah V d;have a:=fK.ar.below a.out d (am _);obtain⟨b3,bz,e0,_,_,_,b4,_⟩:=jV K o.out;simp only[mt,qC,qx] at e0;obtain⟨rfl,rfl⟩:=e0;have ay:wr.cell? ⟨w.heap.size+1+1,1,none⟩=some (.slice Y k cv):=X.cell 1;have zr:=d.size;have ax:=ab a;have HO:=ab H;have ao:=ab r;have ba:=ab ad;have b7:=ab X;have HB:=ab (ag Q d);go_wp2;have aF:=ae ay;have aJ:=ae b4;refine aC 10 [0,1,2,3,4,5,6,7] [8,9] (h:= ?_);simp only[pick,List.map,gt,gE];repeat(go_big_quiet_step (fail))
     refine io ?_;apply Exists.intro;apply dL (.agg #[.string f.p,.slice Ao ps.length co])
     .intro y Z Qx n;replace n:=ab n;go_wp2;exact n.out _ (du _ _)
     apply bc (λv w'=>∃g,v=.slice (some ⟨g,0,none⟩) 1 1/\aX w' g 100 #[.string f.p,.slice Ao ps.length co])
     .rfl
     .exact λv x y ⟨g,e,hk⟩ hle=>⟨g,e,ah hk hle⟩
     .intro x Z Qx n;replace n:=ab n;go_wp2;exact n.out _ _ (av _ _) ⟨_,rfl,aX.new _ _ _⟩
     intro u9;refine aS ?_;intro w6 T xx df Z;dsimp only[dP] at Z;try rw[df] at Z
     obtain⟨⟨g8,rfl,bb⟩, -⟩:=Z;simp only[List.drop];have z6:=T.size;have aa:=fK.ar.below ax.out T zr;have o8:=(HO.out.below T).base z1;have a6:Hid (OLs w6 u.heap.size w6.heap.size ⟨f.p,q⟩ [.string f.p,.slice Ao ps.length co]):=ab ⟨_,rfl,bq.out.1,o8.aat ao.out (by omega) λg hg=>(o8.at_ hg).2⟩;have aZ:=ab bb;have a0:=ab aa;have bn:=ab (ah ba.out T);have b9:=ab (ah b7.out T);have W:=ab (ag HB.out T);go_wp2_with(at_builtin;refine gK ?_);refine⟨?_,trivial⟩;refine ie OLs.ar (by decide) (v:=.slice Y k cv) rfl (.tmp 44) (.tmp 52) 61 rfl ahC ⟨f.p,q⟩ rfl a0.out rfl aZ.out rfl (by simp[Value.oneCell']) (show u.heap.size<=w6.heap.size by omega) a6.out (am _) (by have:=M.out;omega) (by omega) ?_;intro v9 w9 o9 gu bI;obtain⟨S,R,rfl⟩:=o9.form;rw[aE,mw,M.out] at o9;rw[aE,mw,M.out];have O:=a0.out;have z9:=gu.size;have B:=dG O gu b9.out (by decide);have aU:=dG O gu bn.out (by decide);have bR:w9.cell? ⟨w.heap.size+1+1,1,none⟩=some (.slice Y k cv):=B.cell 1;have c2:=B.frozen 1;have lZ:=B.bj 1 (.slice S (k+1) R);simp only[bv,ef,fd] at lZ;have b0:fK (w9.setCell ⟨w.heap.size+1+1,1,none⟩ (.slice S (k+1) R)) w.heap.size (w9.setCell ⟨w.heap.size+1+1,1,none⟩ (.slice S (k+1) R)).heap.size (all.take (k+1)) [.slice S (k+1) R]:=by
      rw[lA.out];simp only[be];exact cT fK.ar o9 B (by decide) 1 _
     have af:Below w.heap.size w (w9.setCell ⟨w.heap.size+1+1,1,none⟩ (.slice S (k+1) R)):=(W.out.trans (gu.below W.out.size λi hi hs=>by have:=O.ob hs;omega)).setCell (by dsimp only;omega) _;have bg:=bZ aU (p:=⟨w.heap.size+1+1,1,none⟩) (.slice S (k+1) R) (by dsimp only;omega);have HF:=ab (And.intro b0 (And.intro bg (And.intro lZ af)));go_wp2;go_roundw
     case rel=>exact⟨k+1,_,by omega,by go_num,HF.out.1,HF.out.2.1,HF.out.2.2.1,HF.out.2.2.2⟩
     simp[intOf];omega
  .obtain rfl:k=t.length:=by omega
   have bk:all.take t.length=all:=by rw[<-oL,ip]
   rw[bk] at a;have fA:=V.cell;have dW:=E.frozen;have cQ:=E.cell;replace a:=ab a;go_wp2;have k4:=(E.bj 0 (.int .i64 D)).bj 1 (.slice Y t.length cv);simp only[bv,ef,fd] at k4;have an:=k4.cell;refine nf (v:=.agg #[.int .i64 D,.slice Y t.length cv]) (by simp[results,results66,go_sem,an]) rfl ⟨_,rfl, ?_,(Q.setCell (by simp) _).setCell (by simp) _⟩;rw[<-m.out];simp only[be];exact cT fK.ar (cT fK.ar a.out E (by decide) 0 _) (E.bj 0 _) (by decide) 1 _
end
end Go.Proofs.YtgjaikdifcbnkaaGreatDoor